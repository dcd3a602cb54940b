import Derived.Test.YtpdpomjgfmdjfaaKFnExactBestOrderG1p2
namespace Go.Proofs.Ytpdpomjgfmdjfaa.G1
open Go.RowKit Go.Proofs.Ytpdpomjgfmdjfaa.Frame Go.Proofs.YtpdpomjgfmdjfaaW.PrintWords Go.Proofs.YtpdpomjgfmdjfaaW.PrintLast
set_option linter.unusedVariables false
/-! ### loop.example/g01098/impl.orderable: function 108 -/
def impl_orderable.f (k : Nat) (a0_0 : Int) (l0_1 : List SStep) (l0_2 : List Int) : Option Bool := (impl_IsPlan.f k a0_0 l0_1 l0_2).bind fun b4 => if b4 = true then (some (decide ((l0_1.length : Int) ≤ 8))) else (some false)
set_option maxHeartbeats 600000 in
set_option maxRecDepth 100000 in
theorem impl_orderable.calls (k : Nat) {w0 ws : World} {P0 : Nat → Prop} (a0_0 : Int) (A0_1 : Option Addr) (c0_1 : Nat) (n0_1 : Nat) (l0_1 : List SStep) (A0_2 : Option Addr) (c0_2 : Nat) (n0_2 : Nat) (l0_2 : List Int) (Z : Below w0.heap.size w0 ws) (hF : Fr w0 ws P0 [] ws) (R0_1 : Stable ws P0 (fun w => Kd.C kStep w A0_1 n0_1 l0_1)) (hc0_1 : n0_1 ≤ c0_1) (R0_2 : Stable ws P0 (fun w => Kd.C (Kd.int .i64) w A0_2 n0_2 l0_2)) (hc0_2 : n0_2 ≤ c0_2) (r_1 : Bool) (h : impl_orderable.f k a0_0 l0_1 l0_2 = some r_1) :
    Calls Try.prog 108 #[.agg #[.int .i64 a0_0, .slice A0_1 n0_1 c0_1, .slice A0_2 n0_2 c0_2]] ws (Post1 w0 ws P0 (fun (_ : Unit) => .bool r_1) (fun (_ : Unit) => [])) := by
  unfold impl_orderable.f at h
  obtain rfl := (R0_1 ws (KeptB.refl _ _)).1
  obtain rfl := (R0_2 ws (KeptB.refl _ _)).1
  refine enter Try.func108 rfl Try.ntmps108 rfl hF ?_
  refine c_seq ?_
  refine za0 ?_
  refine o_e rfl (e_box rfl) (fun g1 => ?_)
  refine o_q rfl rfl (q_asg rfl) ?_
  refine o_end ?_
  refine za1 ?_
  refine c_seq ?_
  refine za0 ?_
  refine o_q rfl rfl (q_ldB G36 Z36 rfl (fun w h => h.zaa (i := 0) rfl) rfl) ?_
  refine za8 h (fun b4 hx3 h => ?_) rfl
  refine o_e rfl (za9 0 Z Try.func75 N75 rfl rfl rfl (fun w P1 hF hB hS hT => impl_IsPlan.calls k a0_0 A0_1 c0_1 l0_1.length l0_1 A0_2 c0_2 l0_2.length l0_2 hB hF (hS _ R0_1) hc0_1 (hS _ R0_2) hc0_2 _ hx3)) (fun _ => ?_)
  refine o_q rfl rfl (za2 rfl) ?_
  refine byB b4 (fun hb5 => ?_) (fun hb5 => ?_)
  · replace h := bb_t hb5 h
    refine o_w (za3 rfl rfl rfl (congrArg Value.bool hb5)) rfl (q_f F36_1 rfl) ?_
    refine o_w (za3 rfl rfl rfl (congrArg Value.bool hb5)) rfl (q_ldb Y34 rfl (fun w h => h.zaa (i := 0) rfl) rfl) ?_
    refine o_w (za3 rfl rfl rfl (congrArg Value.bool hb5)) rfl (q_len Try.underlying34 rfl) ?_
    refine o_w (za3 rfl rfl rfl (congrArg Value.bool hb5)) rfl (q_leq rfl rfl) ?_
    refine o_q rfl rfl (zam true (congrArg Value.bool hb5) rfl) ?_
    refine o_q rfl rfl (q_asg rfl) ?_
    refine o_end ?_
    refine za1 ?_
    refine c_ret ?_
    have e0_ := Option.some.inj h; clear h
    subst e0_
    exact x_r1 () Try.results108 (zab rfl) rfl (fun w h => za6 [] (by decide) rfl w h)
  · replace h := bb_f hb5 h
    refine @o_n _ _ _ _ _ _ _ _ _ _ _ 6 (za4 rfl rfl rfl (congrArg Value.bool hb5) rfl) (Eq.refl (some 6)) ?_
    refine @o_n _ _ _ _ _ _ _ _ _ _ _ 7 (za4 rfl rfl rfl (congrArg Value.bool hb5) rfl) (Eq.refl (some 7)) ?_
    refine @o_n _ _ _ _ _ _ _ _ _ _ _ 8 (za4 rfl rfl rfl (congrArg Value.bool hb5) rfl) (Eq.refl (some 8)) ?_
    refine @o_n _ _ _ _ _ _ _ _ _ _ _ 9 (za4 rfl rfl rfl (congrArg Value.bool hb5) rfl) (Eq.refl (some 9)) ?_
    refine o_q rfl rfl (zam false (congrArg Value.bool hb5) rfl) ?_
    refine o_q rfl rfl (q_asg rfl) ?_
    refine o_end ?_
    refine za1 ?_
    refine c_ret ?_
    have e0_ := Option.some.inj h; clear h
    subst e0_
    exact x_r1 () Try.results108 (zab rfl) rfl (fun w h => za6 [] (by decide) rfl w h)

/-! ### (*loop.example/g01098/impl.Plan).needed: function 120 -/
def impl_Plan_needed.l2 (a0_0 : Int) : (List Bool) → (List Bool) → Int → Option (List Bool)
  | [], l31, i32 => some l31
  | y33 :: ys34, l31, i32 => (gt l31 (w64 (a0_0 + i32))).bind fun y47 => if y47 = true then ((gt l31 (w64 (a0_0 + i32))).bind fun y50 => (st l31 (w64 (a0_0 + i32)) y33).bind fun l51 => impl_Plan_needed.l2 a0_0 ys34 l51 (i32 + 1)) else ((gt l31 (w64 (a0_0 + i32))).bind fun y54 => (st l31 (w64 (a0_0 + i32)) false).bind fun l55 => impl_Plan_needed.l2 a0_0 ys34 l55 (i32 + 1))
def impl_Plan_needed.l1 (l1 : List Bool) : (List SStep) → (List Bool) → Int → Option (List Bool)
  | [], l19, i20 => some l19
  | y21 :: ys22, l19, i20 => (gt l1 i20).bind fun y62 => if y62 = true then (impl_Plan_needed.l1 l1 ys22 l19 (i20 + 1)) else ((gt l19 y21.f0).bind fun y66 => (st l19 y21.f0 true).bind fun l67 => (gt l67 y21.f1).bind fun y71 => (st l67 y21.f1 true).bind fun l72 => impl_Plan_needed.l1 l1 ys22 l72 (i20 + 1))
def impl_Plan_needed.l0 : (List Int) → (List Bool) → Int → Option (List Bool)
  | [], l7, i8 => some l7
  | y9 :: ys10, l7, i8 => (gt l7 y9).bind fun y77 => (st l7 y9 true).bind fun l78 => impl_Plan_needed.l0 ys10 l78 (i8 + 1)
def impl_Plan_needed.f (a0_0 : Int) (l0_1 : List SStep) (l0_2 : List Int) (l1 : List Bool) : Option (List Bool) := (impl_Plan_many.f a0_0 l0_1 l0_2).bind fun _ => (mk0 (w64 (a0_0 + (l0_1.length : Int))) false).bind fun l2 => (impl_Plan_needed.l0 l0_2 l2 0).bind fun l7 => (impl_Plan_needed.l1 l1 l0_1 l7 0).bind fun l19 => (impl_Plan_needed.l2 a0_0 l1 l19 0).bind fun l31 => some l31
set_option maxHeartbeats 600000 in
set_option maxRecDepth 100000 in
theorem impl_Plan_needed.calls {w0 ws : World} {P0 : Nat → Prop} (g0 : Nat) (a0_0 : Int) (A0_1 : Option Addr) (c0_1 : Nat) (n0_1 : Nat) (l0_1 : List SStep) (A0_2 : Option Addr) (c0_2 : Nat) (n0_2 : Nat) (l0_2 : List Int) (A1 : Option Addr) (c1 : Nat) (n1 : Nat) (l1 : List Bool) (Z : Below w0.heap.size w0 ws) (hF : Fr w0 ws P0 [] ws) (R0_1 : Stable ws P0 (fun w => Kd.C kStep w A0_1 n0_1 l0_1)) (hc0_1 : n0_1 ≤ c0_1) (R0_2 : Stable ws P0 (fun w => Kd.C (Kd.int .i64) w A0_2 n0_2 l0_2)) (hc0_2 : n0_2 ≤ c0_2) (B0 : Stable ws P0 (fun w => w.heap[g0]? = some (.cells #[.int .i64 a0_0, .slice A0_1 n0_1 c0_1, .slice A0_2 n0_2 c0_2] 36 (0, 0)))) (R1 : Stable ws P0 (fun w => Kd.C Kd.bool w A1 n1 l1)) (hc1 : n1 ≤ c1) (r_1 : List Bool) (h : impl_Plan_needed.f a0_0 l0_1 l0_2 l1 = some r_1) :
    Calls Try.prog 120 #[.pointer (some ⟨g0, 0, none⟩), .slice A1 n1 c1] ws (Post1 w0 ws P0 (fun ((q_2, q_3) : (Option Addr) × Nat) => .slice q_2 r_1.length q_3) (fun ((q_2, q_3) : (Option Addr) × Nat) => [row Kd.bool 4 (.slice q_2 r_1.length q_3) r_1])) := by
  unfold impl_Plan_needed.f at h
  obtain rfl := (R0_1 ws (KeptB.refl _ _)).1
  obtain rfl := (R0_2 ws (KeptB.refl _ _)).1
  obtain rfl := (R1 ws (KeptB.refl _ _)).1
  refine enter Try.func120 rfl Try.ntmps120 rfl hF ?_
  refine c_seq ?_
  refine za0 ?_
  refine o_q rfl rfl (q_asg rfl) ?_
  refine o_end ?_
  refine za1 ?_
  refine c_seq ?_
  refine za0 ?_
  refine o_q rfl rfl (za2 rfl) ?_
  refine za8 h (fun _ hx1 h => ?_) rfl
  refine o_e rfl (za9 0 Z Try.func119 N119 rfl rfl rfl (fun w P1 hF hB hS hT => impl_Plan_many.calls g0 a0_0 A0_1 c0_1 l0_1.length l0_1 A0_2 c0_2 l0_2.length l0_2 hB hF (hS _ R0_1) hc0_1 (hS _ R0_2) hc0_2 (hS _ B0) hx1)) (fun _ => ?_)
  refine za8 h (fun l2 hm3 h => ?_) rfl
  refine o_e rfl (e_make Kd.bool false Try.underlying122 I4 rfl (by decide) (by decide) (fun _ _ => rfl) rfl rfl hm3) (cur2 (fun A4 c5 => ?_))
  refine o_q rfl rfl (q_asg rfl) ?_
  refine o_end ?_
  refine za1 ?_
  refine c_seq ?_
  refine c_seq ?_
  refine za0 ?_
  refine o_q rfl rfl (za2 rfl) ?_
  refine o_q rfl rfl (q_nil rfl) ?_
  refine o_q rfl rfl (q_f F36_2 rfl) ?_
  refine o_q rfl rfl (q_ldb Y22 rfl (fun w h => B0.now Z h) rfl) ?_
  refine o_q rfl rfl (q_len Try.underlying22 rfl) ?_
  refine o_q rfl rfl (za2 rfl) ?_
  refine o_end ?_
  refine za1 ?_
  refine zan ?_
  refine za8 h (fun o16 hl15 hR14 => ?_) rfl
  clear h
  refine c_fact (p := l0_2.length ≤ 9223372036854775807) (fun w h => (R0_2.now Z h).2.1) (fun hm13 => ?_)
  refine zaw (σ := (List Int) × (List Bool) × Int) (fun k11 ((ys10, l7, i8) : (List Int) × (List Bool) × Int) => Rg l0_2 i8 ys10 ∧ ys10.length = k11 ∧ impl_Plan_needed.l0 ys10 l7 i8 = some o16) [7, 20, 21, 22, 23, 24, 25, 26, 27] (fun ((ys10, l7, i8) : (List Int) × (List Bool) × Int) => [(20, .int .i64 i8)]) (fun ((ys10, l7, i8) : (List Int) × (List Bool) × Int) => [row Kd.bool 4 (.slice A4 l2.length c5) l7]) l0_2.length (l0_2, l2, 0) ⟨Rg.start _, rfl, hl15⟩ ⟨rfl, trivial⟩ (fun w h => h) ?_
  refine fun k11 => cur3 (listC (fun l7 i8 U17 hJ_ => ?_) (fun y9 ys10 l7 i8 U17 hJ_ => ?_))
  · skip
    clear hl15
    have hr12 := hJ_.1; have hk18 := hJ_.2.1; have h := hJ_.2.2; clear hJ_
    replace h : impl_Plan_needed.l0 [] l7 i8 = some o16 := h
    rw [impl_Plan_needed.l0] at h
    refine c_seq ?_
    refine za0 ?_
    refine o_q rfl rfl (q_lss rfl rfl) ?_
    refine o_end ?_
    refine za1 ?_
    refine c_seq ?_
    refine c_false (congrArg Value.bool hr12.ge) ?_
    refine c_exit ?_
    refine za7 ?_
    refine za7 ?_
    have e_ := Option.some.inj h; replace h := hR14; rw [← e_] at h; clear e_
    refine x_hit ?_
    refine za1 ?_
    refine c_seq ?_
    refine c_seq ?_
    refine za0 ?_
    refine o_q rfl rfl (za2 rfl) ?_
    refine o_q rfl rfl (q_nil rfl) ?_
    refine o_q rfl rfl (q_f F36_1 rfl) ?_
    refine o_q rfl rfl (q_ldb Y34 rfl (fun w h => B0.now Z h) rfl) ?_
    refine o_q rfl rfl (q_len Try.underlying34 rfl) ?_
    refine o_q rfl rfl (za2 rfl) ?_
    refine o_end ?_
    refine za1 ?_
    refine zan ?_
    refine za8 h (fun o28 hl27 hR26 => ?_) rfl
    clear h
    refine c_fact (p := l0_1.length ≤ 9223372036854775807) (fun w h => (R0_1.now Z h).2.1) (fun hm25 => ?_)
    refine zaw (σ := (List SStep) × (List Bool) × Int) (fun k23 ((ys22, l19, i20) : (List SStep) × (List Bool) × Int) => Rg l0_1 i20 ys22 ∧ ys22.length = k23 ∧ impl_Plan_needed.l1 l1 ys22 l19 i20 = some o28) [8, 9, 33, 34, 35, 36, 37, 38, 39, 40, 41, 42, 43, 44, 45, 46, 47, 48, 49, 50, 51] (fun ((ys22, l19, i20) : (List SStep) × (List Bool) × Int) => [(33, .int .i64 i20)]) (fun ((ys22, l19, i20) : (List SStep) × (List Bool) × Int) => [row Kd.bool 4 (.slice A4 l2.length c5) l19]) l0_1.length (l0_1, l7, 0) ⟨Rg.start _, rfl, hl27⟩ ⟨rfl, trivial⟩ (fun w h => h) ?_
    refine fun k23 => cur3 (listC (fun l19 i20 U29 hJ_ => ?_) (fun y21 ys22 l19 i20 U29 hJ_ => ?_))
    · skip
      clear hl27
      have hr24 := hJ_.1; have hk30 := hJ_.2.1; have h := hJ_.2.2; clear hJ_
      replace h : impl_Plan_needed.l1 l1 [] l19 i20 = some o28 := h
      rw [impl_Plan_needed.l1] at h
      refine c_seq ?_
      refine za0 ?_
      refine o_q rfl rfl (q_lss rfl rfl) ?_
      refine o_end ?_
      refine za1 ?_
      refine c_seq ?_
      refine c_false (congrArg Value.bool hr24.ge) ?_
      refine c_exit ?_
      refine za7 ?_
      refine za7 ?_
      have e_ := Option.some.inj h; replace h := hR26; rw [← e_] at h; clear e_
      refine x_hit ?_
      refine za1 ?_
      refine c_seq ?_
      refine c_seq ?_
      refine za0 ?_
      refine o_q rfl rfl (za2 rfl) ?_
      refine o_q rfl rfl (q_len Try.underlying122 rfl) ?_
      refine o_q rfl rfl (za2 rfl) ?_
      refine o_end ?_
      refine za1 ?_
      refine zan ?_
      refine za8 h (fun o40 hl39 hR38 => ?_) rfl
      clear h
      refine c_fact (p := l1.length ≤ 9223372036854775807) (fun w h => (R1.now Z h).2.1) (fun hm37 => ?_)
      refine zaw (σ := (List Bool) × (List Bool) × Int) (fun k35 ((ys34, l31, i32) : (List Bool) × (List Bool) × Int) => Rg l1 i32 ys34 ∧ ys34.length = k35 ∧ impl_Plan_needed.l2 a0_0 ys34 l31 i32 = some o40) [10, 11, 54, 55, 56, 57, 58, 59, 60, 61, 62, 63, 64, 65, 66, 67, 68, 69, 70, 71, 72, 73, 74, 75, 76, 77, 78, 79] (fun ((ys34, l31, i32) : (List Bool) × (List Bool) × Int) => [(54, .int .i64 i32)]) (fun ((ys34, l31, i32) : (List Bool) × (List Bool) × Int) => [row Kd.bool 4 (.slice A4 l2.length c5) l31]) l1.length (l1, l19, 0) ⟨Rg.start _, rfl, hl39⟩ ⟨rfl, trivial⟩ (fun w h => h) ?_
      refine fun k35 => cur3 (listC (fun l31 i32 U41 hJ_ => ?_) (fun y33 ys34 l31 i32 U41 hJ_ => ?_))
      · skip
        clear hl39
        have hr36 := hJ_.1; have hk42 := hJ_.2.1; have h := hJ_.2.2; clear hJ_
        replace h : impl_Plan_needed.l2 a0_0 [] l31 i32 = some o40 := h
        rw [impl_Plan_needed.l2] at h
        refine c_seq ?_
        refine za0 ?_
        refine o_q rfl rfl (q_lss rfl rfl) ?_
        refine o_end ?_
        refine za1 ?_
        refine c_seq ?_
        refine c_false (congrArg Value.bool hr36.ge) ?_
        refine c_exit ?_
        refine za7 ?_
        refine za7 ?_
        have e_ := Option.some.inj h; replace h := hR38; rw [← e_] at h; clear e_
        refine x_hit ?_
        refine za1 ?_
        refine c_seq ?_
        refine za0 ?_
        refine o_q rfl rfl (za2 rfl) ?_
        refine o_q rfl rfl (q_asg rfl) ?_
        refine o_end ?_
        refine za1 ?_
        refine c_ret ?_
        refine x_fact (p := l2.length = l31.length) (fun w h => (h.row_C (i := 0) rfl).2.1) (fun hn43 => ?_)
        have e0_ := Option.some.inj h; clear h
        subst e0_
        exact x_r1 (A4, c5) Try.results120 (zab (v := .slice A4 l2.length c5) rfl) (by (try rw [hn43]); first | done | rfl) (f_pickE (L1 := [row Kd.bool 4 (.slice A4 l2.length c5) l31]) rfl [0] (by decide) rfl (by (try rw [hn43]); first | done | rfl))
      · skip
        clear hl39
        have hr36 := hJ_.1; have hk42 := hJ_.2.1; have h := hJ_.2.2; clear hJ_
        replace h : impl_Plan_needed.l2 a0_0 (y33 :: ys34) l31 i32 = some o40 := h
        rw [impl_Plan_needed.l2] at h
        refine c_seq ?_
        refine za0 ?_
        refine o_q rfl rfl (q_lss rfl rfl) ?_
        refine o_end ?_
        refine za1 ?_
        refine c_seq ?_
        refine c_true (congrArg Value.bool hr36.lt) ?_
        refine zaj ?_
        refine za1 ?_
        refine c_seq ?_
        refine zan ?_
        refine c_seq ?_
        refine za0 ?_
        refine o_q rfl rfl (za2 rfl) ?_
        refine zav (p := Sh A1 l1.length l1.length) (fun w h => f_sh (dk := Kd.bool) h (fun w h => R1.now Z h)) (fun hq44 => ?_)
        refine o_q rfl rfl (q_ix Try.underlying122 Z4 rfl rfl hq44 hr36.get) ?_
        refine o_q rfl rfl (q_lde (off := 0) Y4 rfl rfl (fun w h => R1.now Z h) hr36.get (fun _ _ h => h) rfl) ?_
        refine o_q rfl rfl (q_asg rfl) ?_
        refine o_q rfl rfl (q_asg rfl) ?_
        refine o_end ?_
        refine za1 ?_
        refine a_startS (ds := []) [none] MO rfl ?_
        refine zac 0 rfl rfl rfl (by kernel_rfl) (fun _ _ _ h => h) (za2 rfl) ?_
        refine zac 1 rfl rfl rfl (by kernel_rfl) (fun _ _ _ h => h) (za2 rfl) ?_
        refine zac 2 rfl rfl rfl (by kernel_rfl) (fun _ _ _ h => h) (q_nil rfl) ?_
        refine zac 3 rfl rfl rfl (by kernel_rfl) (fun _ _ _ h => h) (q_f F36_0 rfl) ?_
        refine a_take 4 rfl rfl rfl (by kernel_rfl) (fun _ _ _ h => h) (fun w h => zal [none] (by decide) w h rfl) (q_ldb Y3 rfl (fun w h => B0.now Z h) rfl) ?_
        refine zac 5 rfl rfl rfl (by kernel_rfl) (fun _ _ _ h => h) (za2 rfl) ?_
        refine zac 6 rfl rfl rfl (by kernel_rfl) (fun _ _ _ h => h) (q_add64 rfl rfl) ?_
        refine zac 7 rfl rfl rfl (by kernel_rfl) (fun _ _ _ h => h) (za2 rfl) ?_
        refine zac 8 rfl rfl rfl (by kernel_rfl) (fun _ _ _ h => h) (za2 rfl) ?_
        refine zac 9 rfl rfl rfl (by kernel_rfl) (fun _ _ _ h => h) (q_nil rfl) ?_
        refine zac 10 rfl rfl rfl (by kernel_rfl) (fun _ _ _ h => h) (q_f F36_0 rfl) ?_
        refine a_take 11 rfl rfl rfl (by kernel_rfl) (fun _ _ _ h => h) (fun w h => zal [none] (by decide) w h rfl) (q_ldb Y3 rfl (fun w h => B0.now Z h) rfl) ?_
        refine zac 12 rfl rfl rfl (by kernel_rfl) (fun _ _ _ h => h) (za2 rfl) ?_
        refine zac 13 rfl rfl rfl (by kernel_rfl) (fun _ _ _ h => h) (q_add64 rfl rfl) ?_
        refine a_fact (p := Sh A4 l2.length l31.length) (fun w h => f_sh (dk := Kd.bool) h (fun w h => h.zat (i := 0) rfl)) (fun hq45 => ?_)
        refine za8 h (fun y47 hg46 h => ?_) rfl
        refine zac 14 rfl rfl rfl (by kernel_rfl) (fun _ _ _ h => h) (q_ix Try.underlying122 Z4 rfl rfl hq45 hg46) ?_
        refine a_one 15 rfl rfl (by kernel_rfl) rfl (ev_q rfl (q_lde (off := 0) Y4 rfl rfl (fun w h => h.zat (i := 0) rfl) hg46 (fun _ _ h => h) rfl)) (fun s w h => zal [none] (by decide) w h rfl) (fun _ => ?_)
        refine zac 16 rfl rfl rfl (by kernel_rfl) (fun _ _ _ h => h) (za2 rfl) ?_
        refine byB y47 (fun hb48 => ?_) (fun hb48 => ?_)
        · replace h := bb_t hb48 h
          refine a_purew 17 rfl rfl (za3 rfl rfl rfl (congrArg Value.bool hb48)) (by kernel_rfl) (fun _ _ _ h => h) (za2 rfl) ?_
          refine zac 18 rfl rfl rfl (by kernel_rfl) (fun _ _ _ h => h) (zam true (congrArg Value.bool hb48) rfl) ?_
          refine za8 h (fun y50 hg49 h => ?_) rfl
          refine zac 19 rfl rfl rfl (by kernel_rfl) (fun _ _ _ h => h) (q_ix Try.underlying122 Z4 rfl rfl hq45 hg49) ?_
          refine za8 h (fun l51 hs52 h => ?_) rfl
          refine a_one 20 rfl rfl (by kernel_rfl) rfl (e_set (i := 0) rfl rfl rfl Z4 hs52) (fun s w h => zal [none] (by decide) w h rfl) (fun _ => ?_)
          refine a_done (by kernel_rfl) ?_
          refine zao ?_
          refine za1 ?_
          refine za0 ?_
          refine o_q rfl rfl (q_up rfl rfl (hr36.up hm37)) ?_
          refine o_q rfl rfl (za2 rfl) ?_
          refine o_end ?_
          refine zaf ys34.length (ys34, l51, i32 + 1) (by rw [← hk42]; exact Nat.lt_succ_self _) ⟨hr36.step, rfl, h⟩ ⟨rfl, trivial⟩ (fun w h => za6 [0] (by decide) rfl w h) ?_
          repeat (first | exact zad _ _ | refine zah rfl ?_ | refine zae rfl ?_ | refine zai rfl ?_)
        · replace h := bb_f hb48 h
          refine a_no 17 rfl rfl (za4 rfl rfl rfl (congrArg Value.bool hb48) rfl) (by kernel_rfl) (fun _ _ _ h => h) ?_
          refine zac 18 rfl rfl rfl (by kernel_rfl) (fun _ _ _ h => h) (zam false (congrArg Value.bool hb48) rfl) ?_
          refine za8 h (fun y54 hg53 h => ?_) rfl
          refine zac 19 rfl rfl rfl (by kernel_rfl) (fun _ _ _ h => h) (q_ix Try.underlying122 Z4 rfl rfl hq45 hg53) ?_
          refine za8 h (fun l55 hs56 h => ?_) rfl
          refine a_one 20 rfl rfl (by kernel_rfl) rfl (e_set (i := 0) rfl rfl rfl Z4 hs56) (fun s w h => zal [none] (by decide) w h rfl) (fun _ => ?_)
          refine a_done (by kernel_rfl) ?_
          refine zao ?_
          refine za1 ?_
          refine za0 ?_
          refine o_q rfl rfl (q_up rfl rfl (hr36.up hm37)) ?_
          refine o_q rfl rfl (za2 rfl) ?_
          refine o_end ?_
          refine zaf ys34.length (ys34, l55, i32 + 1) (by rw [← hk42]; exact Nat.lt_succ_self _) ⟨hr36.step, rfl, h⟩ ⟨rfl, trivial⟩ (fun w h => za6 [0] (by decide) rfl w h) ?_
          repeat (first | exact zad _ _ | refine zah rfl ?_ | refine zae rfl ?_ | refine zai rfl ?_)
    · skip
      clear hl27
      have hr24 := hJ_.1; have hk30 := hJ_.2.1; have h := hJ_.2.2; clear hJ_
      replace h : impl_Plan_needed.l1 l1 (y21 :: ys22) l19 i20 = some o28 := h
      rw [impl_Plan_needed.l1] at h
      refine c_seq ?_
      refine za0 ?_
      refine o_q rfl rfl (q_lss rfl rfl) ?_
      refine o_end ?_
      refine za1 ?_
      refine c_seq ?_
      refine c_true (congrArg Value.bool hr24.lt) ?_
      refine zaj ?_
      refine za1 ?_
      refine c_seq ?_
      refine zan ?_
      refine c_seq ?_
      refine za0 ?_
      refine o_q rfl rfl (za2 rfl) ?_
      refine zav (p := Sh A0_1 l0_1.length l0_1.length) (fun w h => f_sh (dk := kStep) h (fun w h => R0_1.now Z h)) (fun hq57 => ?_)
      refine o_q rfl rfl (q_ix Try.underlying34 Z117 rfl rfl hq57 hr24.get) ?_
      refine o_q rfl rfl (q_ldE G117 Z117 rfl rfl (fun w h => R0_1.now Z h) hr24.get (fun _ _ h => h) rfl) ?_
      refine o_e rfl (e_alloc V117 rfl) (fun g58 => ?_)
      refine o_q rfl rfl (q_asg rfl) ?_
      refine o_e rfl (e_storeA (i := 0) rfl rfl rfl Z117 rfl rfl) (fun _ => ?_)
      refine o_end ?_
      refine za1 ?_
      refine c_seq ?_
      refine za0 ?_
      refine o_q rfl rfl (za2 rfl) ?_
      refine o_q rfl rfl (za2 rfl) ?_
      refine zav (p := Sh A1 l1.length l1.length) (fun w h => f_sh (dk := Kd.bool) h (fun w h => R1.now Z h)) (fun hq60 => ?_)
      refine za8 h (fun y62 hg61 h => ?_) rfl
      refine o_q rfl rfl (q_ix Try.underlying122 Z4 rfl rfl hq60 hg61) ?_
      refine o_q rfl rfl (q_lde (off := 0) Y4 rfl rfl (fun w h => R1.now Z h) hg61 (fun _ _ h => h) rfl) ?_
      refine o_q rfl rfl (q_not rfl) ?_
      refine o_end ?_
      refine za1 ?_
      refine zar _ rfl (fun hb63 => ?_) (fun hb63 => ?_)
      · replace hb63 := nt_t hb63
        replace h := bb_f hb63 h
        refine a_startS (ds := []) [some 0, none] MO rfl ?_
        refine zac 0 rfl rfl rfl (by kernel_rfl) (fun _ _ _ h => h) (za2 rfl) ?_
        refine zac 1 rfl rfl rfl (by kernel_rfl) (fun _ _ _ h => h) (q_f F117_0 rfl) ?_
        refine a_take 2 rfl rfl rfl (by kernel_rfl) (fun _ _ _ h => h) (fun w h => zal [some 0, none] (by decide) w h rfl) (q_ldb Y3 rfl (fun w h => h.zaa (i := 0) rfl) rfl) ?_
        refine zac 3 rfl rfl rfl (by kernel_rfl) (fun _ _ _ h => h) (za2 rfl) ?_
        refine zac 4 rfl rfl rfl (by kernel_rfl) (fun _ _ _ h => h) (q_f F117_1 rfl) ?_
        refine a_take 5 rfl rfl rfl (by kernel_rfl) (fun _ _ _ h => h) (fun w h => zal [some 0, none] (by decide) w h rfl) (q_ldb Y3 rfl (fun w h => h.zaa (i := 0) rfl) rfl) ?_
        refine a_fact (p := Sh A4 l2.length l19.length) (fun w h => f_sh (dk := Kd.bool) h (fun w h => h.zat (i := 1) rfl)) (fun hq64 => ?_)
        refine za8 h (fun y66 hg65 h => ?_) rfl
        refine zac 6 rfl rfl rfl (by kernel_rfl) (fun _ _ _ h => h) (q_ix Try.underlying122 Z4 rfl rfl hq64 hg65) ?_
        refine za8 h (fun l67 hs68 h => ?_) rfl
        refine a_one 7 rfl rfl (by kernel_rfl) rfl (e_set (i := 1) rfl rfl rfl Z4 hs68) (fun s w h => zal [some 0, none] (by decide) w h rfl) (fun _ => ?_)
        refine a_fact (p := Sh A4 l2.length l67.length) (fun w h => f_sh (dk := Kd.bool) h (fun w h => h.zat (i := 1) rfl)) (fun hq69 => ?_)
        refine za8 h (fun y71 hg70 h => ?_) rfl
        refine zac 8 rfl rfl rfl (by kernel_rfl) (fun _ _ _ h => h) (q_ix Try.underlying122 Z4 rfl rfl hq69 hg70) ?_
        refine za8 h (fun l72 hs73 h => ?_) rfl
        refine a_one 9 rfl rfl (by kernel_rfl) rfl (e_set (i := 1) rfl rfl rfl Z4 hs73) (fun s w h => zal [some 0, none] (by decide) w h rfl) (fun _ => ?_)
        refine a_done (by kernel_rfl) ?_
        refine zao ?_
        refine za1 ?_
        refine za0 ?_
        refine o_q rfl rfl (q_up rfl rfl (hr24.up hm25)) ?_
        refine o_q rfl rfl (za2 rfl) ?_
        refine o_end ?_
        refine zaf ys22.length (ys22, l72, i20 + 1) (by rw [← hk30]; exact Nat.lt_succ_self _) ⟨hr24.step, rfl, h⟩ ⟨rfl, trivial⟩ (fun w h => za6 [1] (by decide) rfl w h) ?_
        repeat (first | exact zad _ _ | refine zah rfl ?_ | refine zae rfl ?_ | refine zai rfl ?_)
      · replace hb63 := nt_f hb63
        replace h := bb_t hb63 h
        refine zaj ?_
        refine zao ?_
        refine za1 ?_
        refine za0 ?_
        refine o_q rfl rfl (q_up rfl rfl (hr24.up hm25)) ?_
        refine o_q rfl rfl (za2 rfl) ?_
        refine o_end ?_
        refine zaf ys22.length (ys22, l19, i20 + 1) (by rw [← hk30]; exact Nat.lt_succ_self _) ⟨hr24.step, rfl, h⟩ ⟨rfl, trivial⟩ (fun w h => za6 [1] (by decide) rfl w h) ?_
        repeat (first | exact zad _ _ | refine zah rfl ?_ | refine zae rfl ?_ | refine zai rfl ?_)
  · skip
    clear hl15
    have hr12 := hJ_.1; have hk18 := hJ_.2.1; have h := hJ_.2.2; clear hJ_
    replace h : impl_Plan_needed.l0 (y9 :: ys10) l7 i8 = some o16 := h
    rw [impl_Plan_needed.l0] at h
    refine c_seq ?_
    refine za0 ?_
    refine o_q rfl rfl (q_lss rfl rfl) ?_
    refine o_end ?_
    refine za1 ?_
    refine c_seq ?_
    refine c_true (congrArg Value.bool hr12.lt) ?_
    refine zaj ?_
    refine za1 ?_
    refine c_seq ?_
    refine zan ?_
    refine c_seq ?_
    refine za0 ?_
    refine zav (p := Sh A0_2 l0_2.length l0_2.length) (fun w h => f_sh (dk := (Kd.int .i64)) h (fun w h => R0_2.now Z h)) (fun hq74 => ?_)
    refine o_q rfl rfl (q_ix Try.underlying22 Z3 rfl rfl hq74 hr12.get) ?_
    refine o_q rfl rfl (q_lde (off := 0) Y3 rfl rfl (fun w h => R0_2.now Z h) hr12.get (fun _ _ h => h) rfl) ?_
    refine o_q rfl rfl (q_asg rfl) ?_
    refine o_end ?_
    refine za1 ?_
    refine za0 ?_
    refine o_q rfl rfl (za2 rfl) ?_
    refine o_q rfl rfl (za2 rfl) ?_
    refine zav (p := Sh A4 l2.length l7.length) (fun w h => f_sh (dk := Kd.bool) h (fun w h => h.zat (i := 0) rfl)) (fun hq75 => ?_)
    refine za8 h (fun y77 hg76 h => ?_) rfl
    refine o_q rfl rfl (q_ix Try.underlying122 Z4 rfl rfl hq75 hg76) ?_
    refine za8 h (fun l78 hs79 h => ?_) rfl
    refine o_e rfl (e_set (i := 0) rfl rfl rfl Z4 hs79) (fun _ => ?_)
    refine o_end ?_
    refine zao ?_
    refine za1 ?_
    refine za0 ?_
    refine o_q rfl rfl (q_up rfl rfl (hr12.up hm13)) ?_
    refine o_q rfl rfl (za2 rfl) ?_
    refine o_end ?_
    refine zaf ys10.length (ys10, l78, i8 + 1) (by rw [← hk18]; exact Nat.lt_succ_self _) ⟨hr12.step, rfl, h⟩ ⟨rfl, trivial⟩ (fun w h => za6 [0] (by decide) rfl w h) ?_
    repeat (first | exact zad _ _ | refine zah rfl ?_ | refine zae rfl ?_ | refine zai rfl ?_)

/-! ### (*loop.example/g01098/impl.Plan).held: function 168 -/
def impl_Plan_held.l0 : (List Bool) → Int → Int → Option Int
  | [], i10, i11 => some i11
  | y12 :: ys13, i10, i11 => if y12 = true then (impl_Plan_held.l0 ys13 (i10 + 1) (w64 (i11 + 1))) else (impl_Plan_held.l0 ys13 (i10 + 1) i11)
def impl_Plan_held.f (a0_0 : Int) (l0_1 : List SStep) (l0_2 : List Int) (l1 : List Bool) (a2 : Int) : Option Int := (impl_Plan_needed.f a0_0 l0_1 l0_2 l1).bind fun l2 => (gt l2 (w64 (a0_0 + a2))).bind fun y7 => (st l2 (w64 (a0_0 + a2)) true).bind fun l8 => (impl_Plan_held.l0 l8 0 0).bind fun i11 => some i11
set_option maxHeartbeats 600000 in
set_option maxRecDepth 100000 in
theorem impl_Plan_held.calls {w0 ws : World} {P0 : Nat → Prop} (g0 : Nat) (a0_0 : Int) (A0_1 : Option Addr) (c0_1 : Nat) (n0_1 : Nat) (l0_1 : List SStep) (A0_2 : Option Addr) (c0_2 : Nat) (n0_2 : Nat) (l0_2 : List Int) (A1 : Option Addr) (c1 : Nat) (n1 : Nat) (l1 : List Bool) (a2 : Int) (Z : Below w0.heap.size w0 ws) (hF : Fr w0 ws P0 [] ws) (R0_1 : Stable ws P0 (fun w => Kd.C kStep w A0_1 n0_1 l0_1)) (hc0_1 : n0_1 ≤ c0_1) (R0_2 : Stable ws P0 (fun w => Kd.C (Kd.int .i64) w A0_2 n0_2 l0_2)) (hc0_2 : n0_2 ≤ c0_2) (B0 : Stable ws P0 (fun w => w.heap[g0]? = some (.cells #[.int .i64 a0_0, .slice A0_1 n0_1 c0_1, .slice A0_2 n0_2 c0_2] 36 (0, 0)))) (R1 : Stable ws P0 (fun w => Kd.C Kd.bool w A1 n1 l1)) (hc1 : n1 ≤ c1) (r_1 : Int) (h : impl_Plan_held.f a0_0 l0_1 l0_2 l1 a2 = some r_1) :
    Calls Try.prog 168 #[.pointer (some ⟨g0, 0, none⟩), .slice A1 n1 c1, .int .i64 a2] ws (Post1 w0 ws P0 (fun (_ : Unit) => .int .i64 r_1) (fun (_ : Unit) => [])) := by
  unfold impl_Plan_held.f at h
  obtain rfl := (R0_1 ws (KeptB.refl _ _)).1
  obtain rfl := (R0_2 ws (KeptB.refl _ _)).1
  obtain rfl := (R1 ws (KeptB.refl _ _)).1
  refine enter Try.func168 rfl Try.ntmps168 rfl hF ?_
  refine c_seq ?_
  refine za0 ?_
  refine o_q rfl rfl (q_asg rfl) ?_
  refine o_end ?_
  refine za1 ?_
  refine c_seq ?_
  refine za0 ?_
  refine o_q rfl rfl (za2 rfl) ?_
  refine o_q rfl rfl (za2 rfl) ?_
  refine za8 h (fun l2 hx1 h => ?_) rfl
  refine o_e rfl (za9 0 Z Try.func120 N120 rfl rfl rfl (fun w P1 hF hB hS hT => impl_Plan_needed.calls g0 a0_0 A0_1 c0_1 l0_1.length l0_1 A0_2 c0_2 l0_2.length l0_2 A1 c1 l1.length l1 hB hF (hS _ R0_1) hc0_1 (hS _ R0_2) hc0_2 (hS _ B0) (hS _ R1) hc1 _ hx1)) (cur2 (fun A3 c4 => ?_))
  refine o_q rfl rfl (q_asg rfl) ?_
  refine o_q rfl rfl (q_asg rfl) ?_
  refine o_end ?_
  refine za1 ?_
  refine c_seq ?_
  refine za0 ?_
  refine o_q rfl rfl (za2 rfl) ?_
  refine o_q rfl rfl (za2 rfl) ?_
  refine o_q rfl rfl (q_nil rfl) ?_
  refine o_q rfl rfl (q_f F36_0 rfl) ?_
  refine o_q rfl rfl (q_ldb Y3 rfl (fun w h => B0.now Z h) rfl) ?_
  refine o_q rfl rfl (za2 rfl) ?_
  refine o_q rfl rfl (q_add64 rfl rfl) ?_
  refine zav (p := Sh A3 l2.length l2.length) (fun w h => f_sh (dk := Kd.bool) h (fun w h => h.zat (i := 0) rfl)) (fun hq5 => ?_)
  refine za8 h (fun y7 hg6 h => ?_) rfl
  refine o_q rfl rfl (q_ix Try.underlying122 Z4 rfl rfl hq5 hg6) ?_
  refine za8 h (fun l8 hs9 h => ?_) rfl
  refine o_e rfl (e_set (i := 0) rfl rfl rfl Z4 hs9) (fun _ => ?_)
  refine o_end ?_
  refine za1 ?_
  refine c_seq ?_
  refine c_seq ?_
  refine za0 ?_
  refine o_q rfl rfl (za2 rfl) ?_
  refine o_q rfl rfl (q_len Try.underlying122 rfl) ?_
  refine o_q rfl rfl (za2 rfl) ?_
  refine o_end ?_
  refine za1 ?_
  refine zan ?_
  refine za8 h (fun o19 hl18 hR17 => ?_) rfl
  clear h
  refine c_fact (p := l2.length ≤ 9223372036854775807) (fun w h => (h.zat (i := 0) rfl).2.1) (fun hm16 => ?_)
  refine c_fact (p := l2.length = l8.length) (fun w h => (h.row_C (i := 0) rfl).2.1) (fun hn20 => ?_)
  refine zaw (σ := (List Bool) × Int × Int) (fun k14 ((ys13, i10, i11) : (List Bool) × Int × Int) => Rg l8 i10 ys13 ∧ ys13.length = k14 ∧ impl_Plan_held.l0 ys13 i10 i11 = some o19) [8, 10, 24, 25, 26, 27, 28, 29, 30, 31] (fun ((ys13, i10, i11) : (List Bool) × Int × Int) => [(8, .int .i64 i11), (24, .int .i64 i10)]) (fun ((ys13, i10, i11) : (List Bool) × Int × Int) => [row Kd.bool 4 (.slice A3 l2.length c4) l8]) l8.length (l8, 0, 0) ⟨Rg.start _, rfl, hl18⟩ ⟨rfl, rfl, trivial⟩ (fun w h => h) ?_
  refine fun k14 => cur3 (listC (fun i10 i11 U21 hJ_ => ?_) (fun y12 ys13 i10 i11 U21 hJ_ => ?_))
  · skip
    clear hl18
    have hr15 := hJ_.1; have hk22 := hJ_.2.1; have h := hJ_.2.2; clear hJ_
    replace h : impl_Plan_held.l0 [] i10 i11 = some o19 := h
    rw [impl_Plan_held.l0] at h
    refine c_seq ?_
    refine za0 ?_
    refine o_q rfl rfl (q_lss rfl rfl) ?_
    refine o_end ?_
    refine za1 ?_
    refine c_seq ?_
    refine c_false (congrArg Value.bool (hr15.gen hn20)) ?_
    refine c_exit ?_
    refine za7 ?_
    refine za7 ?_
    have e_ := Option.some.inj h; replace h := hR17; rw [← e_] at h; clear e_
    refine x_hit ?_
    refine za1 ?_
    refine c_seq ?_
    refine za0 ?_
    refine o_q rfl rfl (za2 rfl) ?_
    refine o_q rfl rfl (q_asg rfl) ?_
    refine o_end ?_
    refine za1 ?_
    refine c_ret ?_
    have e0_ := Option.some.inj h; clear h
    subst e0_
    exact x_r1 () Try.results168 (zab rfl) rfl (fun w h => za6 [] (by decide) rfl w h)
  · skip
    clear hl18
    have hr15 := hJ_.1; have hk22 := hJ_.2.1; have h := hJ_.2.2; clear hJ_
    replace h : impl_Plan_held.l0 (y12 :: ys13) i10 i11 = some o19 := h
    rw [impl_Plan_held.l0] at h
    refine c_seq ?_
    refine za0 ?_
    refine o_q rfl rfl (q_lss rfl rfl) ?_
    refine o_end ?_
    refine za1 ?_
    refine c_seq ?_
    refine c_true (congrArg Value.bool (hr15.ltn hn20)) ?_
    refine zaj ?_
    refine za1 ?_
    refine c_seq ?_
    refine zan ?_
    refine c_seq ?_
    refine za0 ?_
    refine zav (p := Sh A3 l2.length l8.length) (fun w h => f_sh (dk := Kd.bool) h (fun w h => h.zat (i := 0) rfl)) (fun hq23 => ?_)
    refine o_q rfl rfl (q_ix Try.underlying122 Z4 rfl rfl hq23 hr15.get) ?_
    refine o_q rfl rfl (q_lde (off := 0) Y4 rfl rfl (fun w h => h.zat (i := 0) rfl) hr15.get (fun _ _ h => h) rfl) ?_
    refine o_q rfl rfl (q_asg rfl) ?_
    refine o_end ?_
    refine za1 ?_
    refine c_seq ?_
    refine za0 ?_
    refine o_q rfl rfl (za2 rfl) ?_
    refine o_end ?_
    refine za1 ?_
    refine zar _ rfl (fun hb24 => ?_) (fun hb24 => ?_)
    · skip
      replace h := bb_t hb24 h
      refine za0 ?_
      refine o_q rfl rfl (za2 rfl) ?_
      refine o_q rfl rfl (q_add64 rfl rfl) ?_
      refine o_q rfl rfl (q_asg rfl) ?_
      refine o_end ?_
      refine zao ?_
      refine za1 ?_
      refine za0 ?_
      refine o_q rfl rfl (q_up rfl rfl (hr15.up (hn20 ▸ hm16))) ?_
      refine o_q rfl rfl (za2 rfl) ?_
      refine o_end ?_
      refine zaf ys13.length (ys13, i10 + 1, w64 (i11 + 1)) (by rw [← hk22]; exact Nat.lt_succ_self _) ⟨hr15.step, rfl, h⟩ ⟨rfl, rfl, trivial⟩ (fun w h => za6 [0] (by decide) rfl w h) ?_
      repeat (first | exact zad _ _ | refine zah rfl ?_ | refine zae rfl ?_ | refine zai rfl ?_)
    · skip
      replace h := bb_f hb24 h
      refine zaj ?_
      refine zao ?_
      refine za1 ?_
      refine za0 ?_
      refine o_q rfl rfl (q_up rfl rfl (hr15.up (hn20 ▸ hm16))) ?_
      refine o_q rfl rfl (za2 rfl) ?_
      refine o_end ?_
      refine zaf ys13.length (ys13, i10 + 1, i11) (by rw [← hk22]; exact Nat.lt_succ_self _) ⟨hr15.step, rfl, h⟩ ⟨rfl, rfl, trivial⟩ (fun w h => za6 [0] (by decide) rfl w h) ?_
      repeat (first | exact zad _ _ | refine zah rfl ?_ | refine zae rfl ?_ | refine zai rfl ?_)

/-! ### (*loop.example/g01098/impl.Plan).pressure: function 116 -/
def impl_Plan_pressure.l0 (a0_0 : Int) (l0_1 : List SStep) (l0_2 : List Int) : (List Int) → (List Bool) → Int → Int → Option ((List Bool) × Int)
  | [], l7, i8, i9 => some (l7, i9)
  | y10 :: ys11, l7, i8, i9 => (gt l7 y10).bind fun y23 => (st l7 y10 true).bind fun l24 => (impl_Plan_held.f a0_0 l0_1 l0_2 l24 y10).bind fun i27 => impl_Plan_pressure.l0 a0_0 l0_1 l0_2 ys11 l24 (i8 + 1) (mx i9 i27)
def impl_Plan_pressure.f (a0_0 : Int) (l0_1 : List SStep) (l0_2 : List Int) (l1 : List Int) : Option Int := (mk0 (l0_1.length : Int) false).bind fun l2 => (impl_Plan_pressure.l0 a0_0 l0_1 l0_2 l1 l2 0 a0_0).bind fun (l7, i9) => some i9
set_option maxHeartbeats 600000 in
set_option maxRecDepth 100000 in
theorem impl_Plan_pressure.calls {w0 ws : World} {P0 : Nat → Prop} (g0 : Nat) (a0_0 : Int) (A0_1 : Option Addr) (c0_1 : Nat) (n0_1 : Nat) (l0_1 : List SStep) (A0_2 : Option Addr) (c0_2 : Nat) (n0_2 : Nat) (l0_2 : List Int) (A1 : Option Addr) (c1 : Nat) (n1 : Nat) (l1 : List Int) (Z : Below w0.heap.size w0 ws) (hF : Fr w0 ws P0 [] ws) (R0_1 : Stable ws P0 (fun w => Kd.C kStep w A0_1 n0_1 l0_1)) (hc0_1 : n0_1 ≤ c0_1) (R0_2 : Stable ws P0 (fun w => Kd.C (Kd.int .i64) w A0_2 n0_2 l0_2)) (hc0_2 : n0_2 ≤ c0_2) (B0 : Stable ws P0 (fun w => w.heap[g0]? = some (.cells #[.int .i64 a0_0, .slice A0_1 n0_1 c0_1, .slice A0_2 n0_2 c0_2] 36 (0, 0)))) (R1 : Stable ws P0 (fun w => Kd.C (Kd.int .i64) w A1 n1 l1)) (hc1 : n1 ≤ c1) (r_1 : Int) (h : impl_Plan_pressure.f a0_0 l0_1 l0_2 l1 = some r_1) :
    Calls Try.prog 116 #[.pointer (some ⟨g0, 0, none⟩), .slice A1 n1 c1] ws (Post1 w0 ws P0 (fun (_ : Unit) => .int .i64 r_1) (fun (_ : Unit) => [])) := by
  unfold impl_Plan_pressure.f at h
  obtain rfl := (R0_1 ws (KeptB.refl _ _)).1
  obtain rfl := (R0_2 ws (KeptB.refl _ _)).1
  obtain rfl := (R1 ws (KeptB.refl _ _)).1
  refine enter Try.func116 rfl Try.ntmps116 rfl hF ?_
  refine c_seq ?_
  refine za0 ?_
  refine o_q rfl rfl (q_asg rfl) ?_
  refine o_end ?_
  refine za1 ?_
  refine c_seq ?_
  refine a_start (ds := []) MO rfl ?_
  refine zac 0 rfl rfl rfl (by kernel_rfl) (fun _ _ _ h => h) (za2 rfl) ?_
  refine zac 1 rfl rfl rfl (by kernel_rfl) (fun _ _ _ h => h) (q_nil rfl) ?_
  refine zac 2 rfl rfl rfl (by kernel_rfl) (fun _ _ _ h => h) (q_f F36_0 rfl) ?_
  refine a_take 3 rfl rfl rfl (by kernel_rfl) (fun _ _ _ h => h) (fun w h => h) (q_ldb Y3 rfl (fun w h => B0.now Z h) rfl) ?_
  refine zac 4 rfl rfl rfl (by kernel_rfl) (fun _ _ _ h => h) (za2 rfl) ?_
  refine zac 5 rfl rfl rfl (by kernel_rfl) (fun _ _ _ h => h) (q_nil rfl) ?_
  refine zac 6 rfl rfl rfl (by kernel_rfl) (fun _ _ _ h => h) (q_f F36_1 rfl) ?_
  refine a_take 7 rfl rfl rfl (by kernel_rfl) (fun _ _ _ h => h) (fun w h => h) (q_ldb Y34 rfl (fun w h => B0.now Z h) rfl) ?_
  refine zac 8 rfl rfl rfl (by kernel_rfl) (fun _ _ _ h => h) (q_len Try.underlying34 rfl) ?_
  refine zac 10 rfl rfl rfl (by kernel_rfl) (fun _ _ _ h => h) (q_asg rfl) ?_
  refine za8 h (fun l2 hm3 h => ?_) rfl
  refine a_one 9 rfl rfl (by kernel_rfl) rfl (e_make Kd.bool false Try.underlying122 I4 rfl (by decide) (by decide) (fun _ _ => rfl) rfl rfl hm3) (fun s w h => zal [] (by decide) w h rfl) (cur2 (fun A4 c5 => ?_))
  refine zac 11 rfl rfl rfl (by kernel_rfl) (fun _ _ _ h => h) (q_asg rfl) ?_
  refine a_done (by kernel_rfl) ?_
  refine za1 ?_
  refine c_seq ?_
  refine c_seq ?_
  refine za0 ?_
  refine o_q rfl rfl (za2 rfl) ?_
  refine o_q rfl rfl (q_len Try.underlying22 rfl) ?_
  refine o_q rfl rfl (za2 rfl) ?_
  refine o_end ?_
  refine za1 ?_
  refine zan ?_
  refine za8 h (fun o17 hl16 hR15 => ?_) rfl
  clear h
  refine c_fact (p := l1.length ≤ 9223372036854775807) (fun w h => (R1.now Z h).2.1) (fun hm14 => ?_)
  refine zaw (σ := (List Int) × (List Bool) × Int × Int) (fun k12 ((ys11, l7, i8, i9) : (List Int) × (List Bool) × Int × Int) => Rg l1 i8 ys11 ∧ ys11.length = k12 ∧ impl_Plan_pressure.l0 a0_0 l0_1 l0_2 ys11 l7 i8 i9 = some o17) [5, 8, 21, 22, 23, 24, 25, 26, 27, 28, 29, 30, 31, 32, 33, 34] (fun ((ys11, l7, i8, i9) : (List Int) × (List Bool) × Int × Int) => [(5, .int .i64 i9), (21, .int .i64 i8)]) (fun ((ys11, l7, i8, i9) : (List Int) × (List Bool) × Int × Int) => [row Kd.bool 4 (.slice A4 l2.length c5) l7]) l1.length (l1, l2, 0, a0_0) ⟨Rg.start _, rfl, hl16⟩ ⟨rfl, rfl, trivial⟩ (fun w h => h) ?_
  refine fun k12 => cur4 (listC (fun l7 i8 i9 U18 hJ_ => ?_) (fun y10 ys11 l7 i8 i9 U18 hJ_ => ?_))
  · skip
    clear hl16
    have hr13 := hJ_.1; have hk19 := hJ_.2.1; have h := hJ_.2.2; clear hJ_
    replace h : impl_Plan_pressure.l0 a0_0 l0_1 l0_2 [] l7 i8 i9 = some o17 := h
    rw [impl_Plan_pressure.l0] at h
    refine c_seq ?_
    refine za0 ?_
    refine o_q rfl rfl (q_lss rfl rfl) ?_
    refine o_end ?_
    refine za1 ?_
    refine c_seq ?_
    refine c_false (congrArg Value.bool hr13.ge) ?_
    refine c_exit ?_
    refine za7 ?_
    refine za7 ?_
    have e_ := Option.some.inj h; replace h := hR15; rw [← e_] at h; clear e_
    refine x_hit ?_
    refine za1 ?_
    refine c_seq ?_
    refine za0 ?_
    refine o_q rfl rfl (za2 rfl) ?_
    refine o_q rfl rfl (q_asg rfl) ?_
    refine o_end ?_
    refine za1 ?_
    refine c_ret ?_
    have e0_ := Option.some.inj h; clear h
    subst e0_
    exact x_r1 () Try.results116 (zab rfl) rfl (fun w h => za6 [] (by decide) rfl w h)
  · skip
    clear hl16
    have hr13 := hJ_.1; have hk19 := hJ_.2.1; have h := hJ_.2.2; clear hJ_
    replace h : impl_Plan_pressure.l0 a0_0 l0_1 l0_2 (y10 :: ys11) l7 i8 i9 = some o17 := h
    rw [impl_Plan_pressure.l0] at h
    refine c_seq ?_
    refine za0 ?_
    refine o_q rfl rfl (q_lss rfl rfl) ?_
    refine o_end ?_
    refine za1 ?_
    refine c_seq ?_
    refine c_true (congrArg Value.bool hr13.lt) ?_
    refine zaj ?_
    refine za1 ?_
    refine c_seq ?_
    refine zan ?_
    refine c_seq ?_
    refine za0 ?_
    refine zav (p := Sh A1 l1.length l1.length) (fun w h => f_sh (dk := (Kd.int .i64)) h (fun w h => R1.now Z h)) (fun hq20 => ?_)
    refine o_q rfl rfl (q_ix Try.underlying22 Z3 rfl rfl hq20 hr13.get) ?_
    refine o_q rfl rfl (q_lde (off := 0) Y3 rfl rfl (fun w h => R1.now Z h) hr13.get (fun _ _ h => h) rfl) ?_
    refine o_q rfl rfl (q_asg rfl) ?_
    refine o_end ?_
    refine za1 ?_
    refine c_seq ?_
    refine za0 ?_
    refine o_q rfl rfl (za2 rfl) ?_
    refine o_q rfl rfl (za2 rfl) ?_
    refine zav (p := Sh A4 l2.length l7.length) (fun w h => f_sh (dk := Kd.bool) h (fun w h => h.zat (i := 0) rfl)) (fun hq21 => ?_)
    refine za8 h (fun y23 hg22 h => ?_) rfl
    refine o_q rfl rfl (q_ix Try.underlying122 Z4 rfl rfl hq21 hg22) ?_
    refine za8 h (fun l24 hs25 h => ?_) rfl
    refine o_e rfl (e_set (i := 0) rfl rfl rfl Z4 hs25) (fun _ => ?_)
    refine o_end ?_
    refine za1 ?_
    refine za0 ?_
    refine o_q rfl rfl (za2 rfl) ?_
    refine o_q rfl rfl (za2 rfl) ?_
    refine o_q rfl rfl (za2 rfl) ?_
    refine o_q rfl rfl (za2 rfl) ?_
    refine za8 h (fun i27 hx26 h => ?_) rfl
    refine o_e rfl (za9 0 Z Try.func168 N168 rfl rfl rfl (fun w P1 hF hB hS hT => impl_Plan_held.calls g0 a0_0 A0_1 c0_1 l0_1.length l0_1 A0_2 c0_2 l0_2.length l0_2 A4 c5 l2.length l24 y10 hB hF (hS _ R0_1) hc0_1 (hS _ R0_2) hc0_2 (hS _ B0) (hT 0 _ rfl).row (hT 0 _ rfl).cap _ hx26)) (fun _ => ?_)
    refine o_q rfl rfl (q_max rfl rfl) ?_
    refine o_q rfl rfl (q_asg rfl) ?_
    refine o_end ?_
    refine zao ?_
    refine za1 ?_
    refine za0 ?_
    refine o_q rfl rfl (q_up rfl rfl (hr13.up hm14)) ?_
    refine o_q rfl rfl (za2 rfl) ?_
    refine o_end ?_
    refine zaf ys11.length (ys11, l24, i8 + 1, mx i9 i27) (by rw [← hk19]; exact Nat.lt_succ_self _) ⟨hr13.step, rfl, h⟩ ⟨rfl, rfl, trivial⟩ (fun w h => za6 [0] (by decide) rfl w h) ?_
    repeat (first | exact zad _ _ | refine zah rfl ?_ | refine zae rfl ?_ | refine zai rfl ?_)

/-! ### (*loop.example/g01098/impl.Plan).within$1: function 166 -/
def impl_Plan_within_1.f (l0 : List Int) (a1_0_0 : Int) (l1_0_1 : List SStep) (l1_0_2 : List Int) (a2_0 : Int) (a3_0 : Int) : Option Int := (impl_Plan_pressure.f a1_0_0 l1_0_1 l1_0_2 l0).bind fun i2 => if i2 ≤ a2_0 then (some (w64 (a3_0 + 1))) else (some a3_0)
set_option maxHeartbeats 600000 in
set_option maxRecDepth 100000 in
theorem impl_Plan_within_1.calls {w0 ws : World} {P0 : Nat → Prop} (A0 : Option Addr) (c0 : Nat) (n0 : Nat) (l0 : List Int) (g1 : Nat) (g1_0 : Nat) (a1_0_0 : Int) (A1_0_1 : Option Addr) (c1_0_1 : Nat) (n1_0_1 : Nat) (l1_0_1 : List SStep) (A1_0_2 : Option Addr) (c1_0_2 : Nat) (n1_0_2 : Nat) (l1_0_2 : List Int) (g2 : Nat) (a2_0 : Int) (g3 : Nat) (a3_0 : Int) (Z : Below w0.heap.size w0 ws) (hF : Fr w0 ws P0 [box g3 3 #[.int .i64 a3_0]] ws) (R0 : Stable ws P0 (fun w => Kd.C (Kd.int .i64) w A0 n0 l0)) (hc0 : n0 ≤ c0) (R1_0_1 : Stable ws P0 (fun w => Kd.C kStep w A1_0_1 n1_0_1 l1_0_1)) (hc1_0_1 : n1_0_1 ≤ c1_0_1) (R1_0_2 : Stable ws P0 (fun w => Kd.C (Kd.int .i64) w A1_0_2 n1_0_2 l1_0_2)) (hc1_0_2 : n1_0_2 ≤ c1_0_2) (B1_0 : Stable ws P0 (fun w => w.heap[g1_0]? = some (.cells #[.int .i64 a1_0_0, .slice A1_0_1 n1_0_1 c1_0_1, .slice A1_0_2 n1_0_2 c1_0_2] 36 (0, 0)))) (B1 : Stable ws P0 (fun w => w.heap[g1]? = some (.cells #[.pointer (some ⟨g1_0, 0, none⟩)] 88 (0, 0)))) (B2 : Stable ws P0 (fun w => w.heap[g2]? = some (.cells #[.int .i64 a2_0] 3 (0, 0)))) (r_1 : Int) (h : impl_Plan_within_1.f l0 a1_0_0 l1_0_1 l1_0_2 a2_0 a3_0 = some r_1) :
    Calls Try.prog 166 #[.slice A0 n0 c0, .pointer (some ⟨g1, 0, none⟩), .pointer (some ⟨g2, 0, none⟩), .pointer (some ⟨g3, 0, none⟩)] ws (Post1 w0 ws P0 (fun (_ : Unit) => .tuple #[]) (fun (_ : Unit) => [box g3 3 #[.int .i64 r_1]])) := by
  unfold impl_Plan_within_1.f at h
  obtain rfl := (R0 ws (KeptB.refl _ _)).1
  obtain rfl := (R1_0_1 ws (KeptB.refl _ _)).1
  obtain rfl := (R1_0_2 ws (KeptB.refl _ _)).1
  refine enter Try.func166 rfl Try.ntmps166 rfl hF ?_
  refine c_seq ?_
  refine a_start (ds := []) MO rfl ?_
  refine a_take 0 rfl rfl rfl (by kernel_rfl) (fun _ _ _ h => h) (fun w h => h) (q_ldb Y88 rfl (fun w h => B1.now Z h) rfl) ?_
  refine zac 1 rfl rfl rfl (by kernel_rfl) (fun _ _ _ h => h) (za2 rfl) ?_
  refine a_take 3 rfl rfl rfl (by kernel_rfl) (fun _ _ _ h => h) (fun w h => h) (q_ldb Y3 rfl (fun w h => B2.now Z h) rfl) ?_
  refine za8 h (fun i2 hx1 h => ?_) rfl
  refine a_one 2 rfl rfl (by kernel_rfl) rfl (za9 0 Z Try.func116 N116 rfl rfl rfl (fun w P1 hF hB hS hT => impl_Plan_pressure.calls g1_0 a1_0_0 A1_0_1 c1_0_1 l1_0_1.length l1_0_1 A1_0_2 c1_0_2 l1_0_2.length l1_0_2 A0 c0 l0.length l0 hB hF (hS _ R1_0_1) hc1_0_1 (hS _ R1_0_2) hc1_0_2 (hS _ B1_0) (hS _ R0) hc0 _ hx1)) (fun s w h => h) (fun _ => ?_)
  refine zac 4 rfl rfl rfl (by kernel_rfl) (fun _ _ _ h => h) (q_leq rfl rfl) ?_
  refine a_done (by kernel_rfl) ?_
  refine za1 ?_
  refine zar _ rfl (fun hb3 => ?_) (fun hb3 => ?_)
  · skip
    replace h := br_t hb3 h
    refine za0 ?_
    refine o_q rfl rfl (q_ldb Y3 rfl (fun w h => h.zaa (i := 0) rfl) rfl) ?_
    refine o_q rfl rfl (q_add64 rfl rfl) ?_
    refine o_e rfl (e_store (i := 0) rfl rfl rfl rfl Z3 rfl rfl) (fun _ => ?_)
    refine o_end ?_
    have e0_ := Option.some.inj h; clear h
    subst e0_
    exact x_r0 (.inr rfl) () Try.results166 rfl (fun w h => za6 [0] (by decide) rfl w h)
  · skip
    replace h := br_f hb3 h
    refine zaj ?_
    have e0_ := Option.some.inj h; clear h
    subst e0_
    exact x_r0 (.inr rfl) () Try.results166 rfl (fun w h => za6 [0] (by decide) rfl w h)

/-! ### slices.Index[[]int,int]: function 122 -/
def slices_Index_int_int.l0 (a1 : Int) : (List Int) → Int → Option ((Int) ⊕ (Unit))
  | [], i1 => some (.inr ())
  | y2 :: ys3, i1 => if a1 = y2 then (some (.inl i1)) else (slices_Index_int_int.l0 a1 ys3 (i1 + 1))
def slices_Index_int_int.f (l0 : List Int) (a1 : Int) : Option Int := (slices_Index_int_int.l0 a1 l0 0).bind fun o_ => match o_ with | .inl r_ => some r_ | .inr _ => some (-1)
set_option maxHeartbeats 600000 in
set_option maxRecDepth 100000 in
theorem slices_Index_int_int.calls {w0 ws : World} {P0 : Nat → Prop} (A0 : Option Addr) (c0 : Nat) (n0 : Nat) (l0 : List Int) (a1 : Int) (Z : Below w0.heap.size w0 ws) (hF : Fr w0 ws P0 [] ws) (R0 : Stable ws P0 (fun w => Kd.C (Kd.int .i64) w A0 n0 l0)) (hc0 : n0 ≤ c0) (r_1 : Int) (h : slices_Index_int_int.f l0 a1 = some r_1) :
    Calls Try.prog 122 #[.slice A0 n0 c0, .int .i64 a1] ws (Post1 w0 ws P0 (fun (_ : Unit) => .int .i64 r_1) (fun (_ : Unit) => [])) := by
  unfold slices_Index_int_int.f at h
  obtain rfl := (R0 ws (KeptB.refl _ _)).1
  refine enter Try.func122 rfl Try.ntmps122 rfl hF ?_
  refine c_seq ?_
  refine za0 ?_
  refine o_q rfl rfl (q_asg rfl) ?_
  refine o_end ?_
  refine za1 ?_
  refine c_seq ?_
  refine c_seq ?_
  refine za0 ?_
  refine o_q rfl rfl (za2 rfl) ?_
  refine o_q rfl rfl (q_len Try.underlying22 rfl) ?_
  refine o_q rfl rfl (za2 rfl) ?_
  refine o_end ?_
  refine za1 ?_
  refine zan ?_
  refine za8 h (fun o9 hl8 hR7 => ?_) rfl
  clear h
  refine c_fact (p := l0.length ≤ 9223372036854775807) (fun w h => (R0.now Z h).2.1) (fun hm6 => ?_)
  refine zaw (σ := (List Int) × Int) (fun k4 ((ys3, i1) : (List Int) × Int) => Rg l0 i1 ys3 ∧ ys3.length = k4 ∧ slices_Index_int_int.l0 a1 ys3 i1 = some o9) [4, 5, 8, 9, 10, 11, 12, 13, 14, 15, 16, 17, 18] (fun ((ys3, i1) : (List Int) × Int) => [(8, .int .i64 i1)]) (fun ((ys3, i1) : (List Int) × Int) => []) l0.length (l0, 0) ⟨Rg.start _, rfl, hl8⟩ ⟨rfl, trivial⟩ (fun w h => h) ?_
  refine fun k4 => cur2 (listC (fun i1 U10 hJ_ => ?_) (fun y2 ys3 i1 U10 hJ_ => ?_))
  · skip
    clear hl8
    have hr5 := hJ_.1; have hk11 := hJ_.2.1; have h := hJ_.2.2; clear hJ_
    replace h : slices_Index_int_int.l0 a1 [] i1 = some o9 := h
    rw [slices_Index_int_int.l0] at h
    refine c_seq ?_
    refine za0 ?_
    refine o_q rfl rfl (q_lss rfl rfl) ?_
    refine o_end ?_
    refine za1 ?_
    refine c_seq ?_
    refine c_false (congrArg Value.bool hr5.ge) ?_
    refine c_exit ?_
    refine za7 ?_
    refine za7 ?_
    have e_ := Option.some.inj h; replace h := hR7; rw [← e_] at h; clear e_
    refine x_hit ?_
    refine za1 ?_
    refine c_seq ?_
    refine za0 ?_
    refine o_q rfl rfl (q_asg rfl) ?_
    refine o_end ?_
    refine za1 ?_
    refine c_ret ?_
    have e0_ := Option.some.inj h; clear h
    subst e0_
    exact x_r1 () Try.results122 (zab rfl) rfl (fun w h => za6 [] (by decide) rfl w h)
  · skip
    clear hl8
    have hr5 := hJ_.1; have hk11 := hJ_.2.1; have h := hJ_.2.2; clear hJ_
    replace h : slices_Index_int_int.l0 a1 (y2 :: ys3) i1 = some o9 := h
    rw [slices_Index_int_int.l0] at h
    refine c_seq ?_
    refine za0 ?_
    refine o_q rfl rfl (q_lss rfl rfl) ?_
    refine o_end ?_
    refine za1 ?_
    refine c_seq ?_
    refine c_true (congrArg Value.bool hr5.lt) ?_
    refine zaj ?_
    refine za1 ?_
    refine c_seq ?_
    refine zan ?_
    refine c_seq ?_
    refine za0 ?_
    refine o_q rfl rfl (za2 rfl) ?_
    refine o_q rfl rfl (q_asg rfl) ?_
    refine o_end ?_
    refine za1 ?_
    refine c_seq ?_
    refine za0 ?_
    refine o_q rfl rfl (za2 rfl) ?_
    refine o_q rfl rfl (za2 rfl) ?_
    refine o_q rfl rfl (za2 rfl) ?_
    refine zav (p := Sh A0 l0.length l0.length) (fun w h => f_sh (dk := (Kd.int .i64)) h (fun w h => R0.now Z h)) (fun hq12 => ?_)
    refine o_q rfl rfl (q_ix Try.underlying22 Z3 rfl rfl hq12 hr5.get) ?_
    refine o_q rfl rfl (q_lde (off := 0) Y3 rfl rfl (fun w h => R0.now Z h) hr5.get (fun _ _ h => h) rfl) ?_
    refine o_q rfl rfl (q_eql rfl rfl) ?_
    refine o_end ?_
    refine za1 ?_
    refine zar _ rfl (fun hb13 => ?_) (fun hb13 => ?_)
    · skip
      replace h := br_t hb13 h
      refine c_seq ?_
      refine za0 ?_
      refine o_q rfl rfl (za2 rfl) ?_
      refine o_q rfl rfl (q_asg rfl) ?_
      refine o_end ?_
      refine za1 ?_
      refine c_ret ?_
      refine zaq ?_
      refine za5 ?_
      refine za5 ?_
      have e_ := Option.some.inj h; replace h := hR7; rw [← e_] at h; clear e_
      refine zaq ?_
      refine za5 ?_
      have e0_ := Option.some.inj h; clear h
      subst e0_
      exact x_r1 () Try.results122 (zab rfl) rfl (fun w h => za6 [] (by decide) rfl w h)
    · skip
      replace h := br_f hb13 h
      refine zaj ?_
      refine zao ?_
      refine za1 ?_
      refine za0 ?_
      refine o_q rfl rfl (q_up rfl rfl (hr5.up hm6)) ?_
      refine o_q rfl rfl (za2 rfl) ?_
      refine o_end ?_
      refine zaf ys3.length (ys3, i1 + 1) (by rw [← hk11]; exact Nat.lt_succ_self _) ⟨hr5.step, rfl, h⟩ ⟨rfl, trivial⟩ (fun w h => za6 [] (by decide) rfl w h) ?_
      repeat (first | exact zad _ _ | refine zah rfl ?_ | refine zae rfl ?_ | refine zai rfl ?_)

/-! ### slices.Contains[[]int,int]: function 155 -/
def slices_Contains_int_int.f (l0 : List Int) (a1 : Int) : Option Bool := (slices_Index_int_int.f l0 a1).bind fun i2 => some (decide (0 ≤ i2))
set_option maxHeartbeats 600000 in
set_option maxRecDepth 100000 in
theorem slices_Contains_int_int.calls {w0 ws : World} {P0 : Nat → Prop} (A0 : Option Addr) (c0 : Nat) (n0 : Nat) (l0 : List Int) (a1 : Int) (Z : Below w0.heap.size w0 ws) (hF : Fr w0 ws P0 [] ws) (R0 : Stable ws P0 (fun w => Kd.C (Kd.int .i64) w A0 n0 l0)) (hc0 : n0 ≤ c0) (r_1 : Bool) (h : slices_Contains_int_int.f l0 a1 = some r_1) :
    Calls Try.prog 155 #[.slice A0 n0 c0, .int .i64 a1] ws (Post1 w0 ws P0 (fun (_ : Unit) => .bool r_1) (fun (_ : Unit) => [])) := by
  unfold slices_Contains_int_int.f at h
  obtain rfl := (R0 ws (KeptB.refl _ _)).1
  refine enter Try.func155 rfl Try.ntmps155 rfl hF ?_
  refine c_seq ?_
  refine za0 ?_
  refine o_q rfl rfl (q_asg rfl) ?_
  refine o_end ?_
  refine za1 ?_
  refine c_seq ?_
  refine za0 ?_
  refine o_q rfl rfl (za2 rfl) ?_
  refine o_q rfl rfl (za2 rfl) ?_
  refine za8 h (fun i2 hx1 h => ?_) rfl
  refine o_e rfl (za9 0 Z Try.func122 N122 rfl rfl rfl (fun w P1 hF hB hS hT => slices_Index_int_int.calls A0 c0 l0.length l0 a1 hB hF (hS _ R0) hc0 _ hx1)) (fun _ => ?_)
  refine o_q rfl rfl (q_geq rfl rfl) ?_
  refine o_q rfl rfl (q_asg rfl) ?_
  refine o_end ?_
  refine za1 ?_
  refine c_ret ?_
  have e0_ := Option.some.inj h; clear h
  subst e0_
  exact x_r1 () Try.results155 (zab rfl) rfl (fun w h => za6 [] (by decide) rfl w h)

/-! ### (*loop.example/g01098/impl.Plan).orders$1: function 178 -/
def impl_Plan_orders_1.f (a0 : Int) (a1_0_0 : Int) (l1_0_1 : List SStep) (l1_0_2 : List Int) (l2_0 : List Int) : Option Bool := if a0 < a1_0_0 then (some true) else ((slices_Contains_int_int.f l2_0 (w64 (a0 - a1_0_0))).bind fun b3 => some b3)
set_option maxHeartbeats 600000 in
set_option maxRecDepth 100000 in
theorem impl_Plan_orders_1.calls {w0 ws : World} {P0 : Nat → Prop} (a0 : Int) (g1 : Nat) (g1_0 : Nat) (a1_0_0 : Int) (A1_0_1 : Option Addr) (c1_0_1 : Nat) (n1_0_1 : Nat) (l1_0_1 : List SStep) (A1_0_2 : Option Addr) (c1_0_2 : Nat) (n1_0_2 : Nat) (l1_0_2 : List Int) (g2 : Nat) (A2_0 : Option Addr) (c2_0 : Nat) (n2_0 : Nat) (l2_0 : List Int) (Z : Below w0.heap.size w0 ws) (hF : Fr w0 ws P0 [] ws) (R1_0_1 : Stable ws P0 (fun w => Kd.C kStep w A1_0_1 n1_0_1 l1_0_1)) (hc1_0_1 : n1_0_1 ≤ c1_0_1) (R1_0_2 : Stable ws P0 (fun w => Kd.C (Kd.int .i64) w A1_0_2 n1_0_2 l1_0_2)) (hc1_0_2 : n1_0_2 ≤ c1_0_2) (B1_0 : Stable ws P0 (fun w => w.heap[g1_0]? = some (.cells #[.int .i64 a1_0_0, .slice A1_0_1 n1_0_1 c1_0_1, .slice A1_0_2 n1_0_2 c1_0_2] 36 (0, 0)))) (B1 : Stable ws P0 (fun w => w.heap[g1]? = some (.cells #[.pointer (some ⟨g1_0, 0, none⟩)] 88 (0, 0)))) (R2_0 : Stable ws P0 (fun w => Kd.C (Kd.int .i64) w A2_0 n2_0 l2_0)) (hc2_0 : n2_0 ≤ c2_0) (B2 : Stable ws P0 (fun w => w.heap[g2]? = some (.cells #[.slice A2_0 n2_0 c2_0] 22 (0, 0)))) (r_1 : Bool) (h : impl_Plan_orders_1.f a0 a1_0_0 l1_0_1 l1_0_2 l2_0 = some r_1) :
    Calls Try.prog 178 #[.int .i64 a0, .pointer (some ⟨g1, 0, none⟩), .pointer (some ⟨g2, 0, none⟩)] ws (Post1 w0 ws P0 (fun (_ : Unit) => .bool r_1) (fun (_ : Unit) => [])) := by
  unfold impl_Plan_orders_1.f at h
  obtain rfl := (R1_0_1 ws (KeptB.refl _ _)).1
  obtain rfl := (R1_0_2 ws (KeptB.refl _ _)).1
  obtain rfl := (R2_0 ws (KeptB.refl _ _)).1
  refine enter Try.func178 rfl Try.ntmps178 rfl hF ?_
  refine c_seq ?_
  refine za0 ?_
  refine o_q rfl rfl (q_asg rfl) ?_
  refine o_end ?_
  refine za1 ?_
  refine c_seq ?_
  refine a_start (ds := []) MO rfl ?_
  refine zac 0 rfl rfl rfl (by kernel_rfl) (fun _ _ _ h => h) (za2 rfl) ?_
  refine a_take 1 rfl rfl rfl (by kernel_rfl) (fun _ _ _ h => h) (fun w h => h) (q_ldb Y88 rfl (fun w h => B1.now Z h) rfl) ?_
  refine zac 2 rfl rfl rfl (by kernel_rfl) (fun _ _ _ h => h) (q_nil rfl) ?_
  refine zac 3 rfl rfl rfl (by kernel_rfl) (fun _ _ _ h => h) (q_f F36_0 rfl) ?_
  refine a_take 4 rfl rfl rfl (by kernel_rfl) (fun _ _ _ h => h) (fun w h => h) (q_ldb Y3 rfl (fun w h => B1_0.now Z h) rfl) ?_
  refine zac 5 rfl rfl rfl (by kernel_rfl) (fun _ _ _ h => h) (q_lss rfl rfl) ?_
  refine zac 6 rfl rfl rfl (by kernel_rfl) (fun _ _ _ h => h) (za2 rfl) ?_
  refine byB (decide (a0 < a1_0_0)) (fun hb1 => ?_) (fun hb1 => ?_)
  · replace h := br_t hb1 h
    refine a_no 7 rfl rfl (za4 rfl rfl rfl (congrArg Value.bool hb1) rfl) (by kernel_rfl) (fun _ _ _ h => h) ?_
    refine a_no 8 rfl rfl (za4 rfl rfl rfl (congrArg Value.bool hb1) rfl) (by kernel_rfl) (fun _ _ _ h => h) ?_
    refine a_no 9 rfl rfl (za4 rfl rfl rfl (congrArg Value.bool hb1) rfl) (by kernel_rfl) (fun _ _ _ h => h) ?_
    refine a_no 10 rfl rfl (za4 rfl rfl rfl (congrArg Value.bool hb1) rfl) (by kernel_rfl) (fun _ _ _ h => h) ?_
    refine a_no 11 rfl rfl (za4 rfl rfl rfl (congrArg Value.bool hb1) rfl) (by kernel_rfl) (fun _ _ _ h => h) ?_
    refine a_no 12 rfl rfl (za4 rfl rfl rfl (congrArg Value.bool hb1) rfl) (by kernel_rfl) (fun _ _ _ h => h) ?_
    refine a_no 13 rfl rfl (za4 rfl rfl rfl (congrArg Value.bool hb1) rfl) (by kernel_rfl) (fun _ _ _ h => h) ?_
    refine a_no 14 rfl rfl (za4 rfl rfl rfl (congrArg Value.bool hb1) rfl) (by kernel_rfl) (fun _ _ _ h => h) ?_
    refine zac 15 rfl rfl rfl (by kernel_rfl) (fun _ _ _ h => h) (zam true (congrArg Value.bool hb1) rfl) ?_
    refine zac 16 rfl rfl rfl (by kernel_rfl) (fun _ _ _ h => h) (q_asg rfl) ?_
    refine a_done (by kernel_rfl) ?_
    refine za1 ?_
    refine c_ret ?_
    have e0_ := Option.some.inj h; clear h
    subst e0_
    exact x_r1 () Try.results178 (zab rfl) rfl (fun w h => za6 [] (by decide) rfl w h)
  · replace h := br_f hb1 h
    refine a_takew 7 rfl rfl (za3 rfl rfl rfl (congrArg Value.bool hb1)) (by kernel_rfl) (fun _ _ _ h => h) (fun w h => h) (q_ldb Y22 rfl (fun w h => B2.now Z h) rfl) ?_
    refine a_purew 8 rfl rfl (za3 rfl rfl rfl (congrArg Value.bool hb1)) (by kernel_rfl) (fun _ _ _ h => h) (za2 rfl) ?_
    refine a_takew 9 rfl rfl (za3 rfl rfl rfl (congrArg Value.bool hb1)) (by kernel_rfl) (fun _ _ _ h => h) (fun w h => h) (q_ldb Y88 rfl (fun w h => B1.now Z h) rfl) ?_
    refine a_purew 10 rfl rfl (za3 rfl rfl rfl (congrArg Value.bool hb1)) (by kernel_rfl) (fun _ _ _ h => h) (q_nil rfl) ?_
    refine a_purew 11 rfl rfl (za3 rfl rfl rfl (congrArg Value.bool hb1)) (by kernel_rfl) (fun _ _ _ h => h) (q_f F36_0 rfl) ?_
    refine a_takew 12 rfl rfl (za3 rfl rfl rfl (congrArg Value.bool hb1)) (by kernel_rfl) (fun _ _ _ h => h) (fun w h => h) (q_ldb Y3 rfl (fun w h => B1_0.now Z h) rfl) ?_
    refine a_purew 13 rfl rfl (za3 rfl rfl rfl (congrArg Value.bool hb1)) (by kernel_rfl) (fun _ _ _ h => h) (q_sub64 rfl rfl) ?_
    refine za8 h (fun b3 hx2 h => ?_) rfl
    refine a_onew 14 rfl (za3 rfl rfl rfl (congrArg Value.bool hb1)) (by kernel_rfl) rfl (za9 0 Z Try.func155 N155 rfl rfl rfl (fun w P1 hF hB hS hT => slices_Contains_int_int.calls A2_0 c2_0 l2_0.length l2_0 (w64 (a0 - a1_0_0)) hB hF (hS _ R2_0) hc2_0 _ hx2)) (fun s w h => h) (fun _ => ?_)
    refine zac 15 rfl rfl rfl (by kernel_rfl) (fun _ _ _ h => h) (zam false (congrArg Value.bool hb1) rfl) ?_
    refine zac 16 rfl rfl rfl (by kernel_rfl) (fun _ _ _ h => h) (q_asg rfl) ?_
    refine a_done (by kernel_rfl) ?_
    refine za1 ?_
    refine c_ret ?_
    have e0_ := Option.some.inj h; clear h
    subst e0_
    exact x_r1 () Try.results178 (zab rfl) rfl (fun w h => za6 [] (by decide) rfl w h)

/-! ### slices.Clip[[]int,int]: function 179 -/
def slices_Clip_int_int.f (l0 : List Int) : Option Unit := some ()
set_option maxHeartbeats 600000 in
set_option maxRecDepth 100000 in
theorem slices_Clip_int_int.calls {w0 ws : World} {P0 : Nat → Prop} (A0 : Option Addr) (c0 : Nat) (n0 : Nat) (l0 : List Int) (Z : Below w0.heap.size w0 ws) (hF : Fr w0 ws P0 [] ws) (R0 : Stable ws P0 (fun w => Kd.C (Kd.int .i64) w A0 n0 l0)) (hc0 : n0 ≤ c0)  (h : slices_Clip_int_int.f l0 = some ()) :
    Calls Try.prog 179 #[.slice A0 n0 c0] ws (Post1 w0 ws P0 (fun (_ : Unit) => .slice A0 n0 n0) (fun (_ : Unit) => [])) := by
  unfold slices_Clip_int_int.f at h
  obtain rfl := (R0 ws (KeptB.refl _ _)).1
  refine enter Try.func179 rfl Try.ntmps179 rfl hF ?_
  refine c_seq ?_
  refine za0 ?_
  refine o_q rfl rfl (q_asg rfl) ?_
  refine o_end ?_
  refine za1 ?_
  refine c_seq ?_
  refine za0 ?_
  refine o_q rfl rfl (za2 rfl) ?_
  refine o_q rfl rfl (za2 rfl) ?_
  refine o_q rfl rfl (q_len Try.underlying22 rfl) ?_
  refine o_q rfl rfl (za2 rfl) ?_
  refine o_q rfl rfl (q_len Try.underlying22 rfl) ?_
  refine o_q rfl rfl (q_clip Try.underlying22 Z3 rfl ⟨_, rfl⟩ ⟨_, rfl⟩ hc0) ?_
  refine o_q rfl rfl (q_asg rfl) ?_
  refine o_end ?_
  refine za1 ?_
  refine c_ret ?_
  exact x_r1 () Try.results179 (zab rfl) rfl (fun w h => za6 [] (by decide) rfl w h)

/-! ### (*loop.example/g01098/impl.Plan).orders: function 165 -/
def impl_Plan_orders.l0 (self_ : Int → (List SStep) → (List Int) → (List Int) → Int → (List SStep) → (List Int) → Int → Int → Option (Int)) (a0_0 : Int) (l0_1 : List SStep) (l0_2 : List Int) (l1 : List Int) (a2_c0_0_0 : Int) (l2_c0_0_1 : List SStep) (l2_c0_0_2 : List Int) (a2_c1_0 : Int) : (List SStep) → Int → Int → Option Int
  | [], i8, i9 => some i8
  | y10 :: ys11, i8, i9 => ((slices_Contains_int_int.f l1 i9).bind fun b38 => if b38 = true then (some false) else ((impl_Plan_orders_1.f y10.f0 a0_0 l0_1 l0_2 l1).bind fun b41 => if b41 = true then ((impl_Plan_orders_1.f y10.f1 a0_0 l0_1 l0_2 l1).bind fun b44 => some b44) else (some false))).bind fun b31 => if b31 = true then ((slices_Clip_int_int.f l1).bind fun _ => (ap l1 ([i9] : List Int)).bind fun l347 => (self_ a0_0 l0_1 l0_2 l347 a2_c0_0_0 l2_c0_0_1 l2_c0_0_2 a2_c1_0 i8).bind fun i468 => impl_Plan_orders.l0 self_ a0_0 l0_1 l0_2 l1 a2_c0_0_0 l2_c0_0_1 l2_c0_0_2 a2_c1_0 ys11 i468 (i9 + 1)) else (impl_Plan_orders.l0 self_ a0_0 l0_1 l0_2 l1 a2_c0_0_0 l2_c0_0_1 l2_c0_0_2 a2_c1_0 ys11 i8 (i9 + 1))
def impl_Plan_orders.f : Nat → Int → (List SStep) → (List Int) → (List Int) → Int → (List SStep) → (List Int) → Int → Int → Option Int
  | 0, _, _, _, _, _, _, _, _, _ => none
  | k + 1, a0_0, l0_1, l0_2, l1, a2_c0_0_0, l2_c0_0_1, l2_c0_0_2, a2_c1_0, a2_c2_0 => if (l1.length : Int) = (l0_1.length : Int) then ((impl_Plan_within_1.f l1 a2_c0_0_0 l2_c0_0_1 l2_c0_0_2 a2_c1_0 a2_c2_0).bind fun i7 => some i7) else ((impl_Plan_orders.l0 (impl_Plan_orders.f k) a0_0 l0_1 l0_2 l1 a2_c0_0_0 l2_c0_0_1 l2_c0_0_2 a2_c1_0 l0_1 a2_c2_0 0).bind fun i8 => some i8)
set_option maxHeartbeats 600000 in
set_option maxRecDepth 100000 in
theorem impl_Plan_orders.calls : ∀ (k : Nat) {w0 ws : World} {P0 : Nat → Prop} (g0 : Nat) (a0_0 : Int) (A0_1 : Option Addr) (c0_1 : Nat) (n0_1 : Nat) (l0_1 : List SStep) (A0_2 : Option Addr) (c0_2 : Nat) (n0_2 : Nat) (l0_2 : List Int) (A1 : Option Addr) (c1 : Nat) (n1 : Nat) (l1 : List Int) (g2_c0 : Nat) (g2_c0_0 : Nat) (a2_c0_0_0 : Int) (A2_c0_0_1 : Option Addr) (c2_c0_0_1 : Nat) (n2_c0_0_1 : Nat) (l2_c0_0_1 : List SStep) (A2_c0_0_2 : Option Addr) (c2_c0_0_2 : Nat) (n2_c0_0_2 : Nat) (l2_c0_0_2 : List Int) (g2_c1 : Nat) (a2_c1_0 : Int) (g2_c2 : Nat) (a2_c2_0 : Int) (Z : Below w0.heap.size w0 ws) (hF : Fr w0 ws P0 [box g2_c2 3 #[.int .i64 a2_c2_0]] ws) (R0_1 : Stable ws P0 (fun w => Kd.C kStep w A0_1 n0_1 l0_1)) (hc0_1 : n0_1 ≤ c0_1) (R0_2 : Stable ws P0 (fun w => Kd.C (Kd.int .i64) w A0_2 n0_2 l0_2)) (hc0_2 : n0_2 ≤ c0_2) (B0 : Stable ws P0 (fun w => w.heap[g0]? = some (.cells #[.int .i64 a0_0, .slice A0_1 n0_1 c0_1, .slice A0_2 n0_2 c0_2] 36 (0, 0)))) (R1 : Stable ws P0 (fun w => Kd.C (Kd.int .i64) w A1 n1 l1)) (hc1 : n1 ≤ c1) (R2_c0_0_1 : Stable ws P0 (fun w => Kd.C kStep w A2_c0_0_1 n2_c0_0_1 l2_c0_0_1)) (hc2_c0_0_1 : n2_c0_0_1 ≤ c2_c0_0_1) (R2_c0_0_2 : Stable ws P0 (fun w => Kd.C (Kd.int .i64) w A2_c0_0_2 n2_c0_0_2 l2_c0_0_2)) (hc2_c0_0_2 : n2_c0_0_2 ≤ c2_c0_0_2) (B2_c0_0 : Stable ws P0 (fun w => w.heap[g2_c0_0]? = some (.cells #[.int .i64 a2_c0_0_0, .slice A2_c0_0_1 n2_c0_0_1 c2_c0_0_1, .slice A2_c0_0_2 n2_c0_0_2 c2_c0_0_2] 36 (0, 0)))) (B2_c0 : Stable ws P0 (fun w => w.heap[g2_c0]? = some (.cells #[.pointer (some ⟨g2_c0_0, 0, none⟩)] 88 (0, 0)))) (B2_c1 : Stable ws P0 (fun w => w.heap[g2_c1]? = some (.cells #[.int .i64 a2_c1_0] 3 (0, 0)))) (r_1 : Int) (h : impl_Plan_orders.f k a0_0 l0_1 l0_2 l1 a2_c0_0_0 l2_c0_0_1 l2_c0_0_2 a2_c1_0 a2_c2_0 = some r_1),
    Calls Try.prog 165 #[.pointer (some ⟨g0, 0, none⟩), .slice A1 n1 c1, .func (.func 166) #[] #[.pointer (some ⟨g2_c0, 0, none⟩), .pointer (some ⟨g2_c1, 0, none⟩), .pointer (some ⟨g2_c2, 0, none⟩)]] ws (Post1 w0 ws P0 (fun (_ : Unit) => .tuple #[]) (fun (_ : Unit) => [box g2_c2 3 #[.int .i64 r_1]])) := by
  intro k
  induction k with
  | zero =>
    intros
    rename_i h
    cases h
  | succ k ih =>
    intro w0 ws P0 g0 a0_0 A0_1 c0_1 n0_1 l0_1 A0_2 c0_2 n0_2 l0_2 A1 c1 n1 l1 g2_c0 g2_c0_0 a2_c0_0_0 A2_c0_0_1 c2_c0_0_1 n2_c0_0_1 l2_c0_0_1 A2_c0_0_2 c2_c0_0_2 n2_c0_0_2 l2_c0_0_2 g2_c1 a2_c1_0 g2_c2 a2_c2_0 Z hF R0_1 hc0_1 R0_2 hc0_2 B0 R1 hc1 R2_c0_0_1 hc2_c0_0_1 R2_c0_0_2 hc2_c0_0_2 B2_c0_0 B2_c0 B2_c1 r_1 h
    rw [impl_Plan_orders.f] at h
    obtain rfl := (R0_1 ws (KeptB.refl _ _)).1
    obtain rfl := (R0_2 ws (KeptB.refl _ _)).1
    obtain rfl := (R1 ws (KeptB.refl _ _)).1
    obtain rfl := (R2_c0_0_1 ws (KeptB.refl _ _)).1
    obtain rfl := (R2_c0_0_2 ws (KeptB.refl _ _)).1
    refine enter Try.func165 rfl Try.ntmps165 rfl hF ?_
    refine c_seq ?_
    refine za0 ?_
    refine o_e rfl (e_box rfl) (fun g1 => ?_)
    refine o_e rfl (e_box rfl) (fun g3 => ?_)
    refine o_end ?_
    refine za1 ?_
    refine c_seq ?_
    refine c_seq ?_
    refine a_start (ds := []) MO rfl ?_
    refine a_take 0 rfl rfl rfl (by kernel_rfl) (fun _ _ _ h => h) (fun w h => h) (q_ldb Y22 rfl (fun w h => h.zaa (i := 0) rfl) rfl) ?_
    refine zac 1 rfl rfl rfl (by kernel_rfl) (fun _ _ _ h => h) (q_len Try.underlying22 rfl) ?_
    refine a_take 2 rfl rfl rfl (by kernel_rfl) (fun _ _ _ h => h) (fun w h => h) (q_ldb Y88 rfl (fun w h => h.zaa (i := 1) rfl) rfl) ?_
    refine zac 3 rfl rfl rfl (by kernel_rfl) (fun _ _ _ h => h) (q_nil rfl) ?_
    refine zac 4 rfl rfl rfl (by kernel_rfl) (fun _ _ _ h => h) (q_f F36_1 rfl) ?_
    refine a_take 5 rfl rfl rfl (by kernel_rfl) (fun _ _ _ h => h) (fun w h => h) (q_ldb Y34 rfl (fun w h => B0.now Z h) rfl) ?_
    refine zac 6 rfl rfl rfl (by kernel_rfl) (fun _ _ _ h => h) (q_len Try.underlying34 rfl) ?_
    refine zac 7 rfl rfl rfl (by kernel_rfl) (fun _ _ _ h => h) (q_eql rfl rfl) ?_
    refine a_done (by kernel_rfl) ?_
    refine za1 ?_
    refine zar _ rfl (fun hb5 => ?_) (fun hb5 => ?_)
    · skip
      replace h := br_t hb5 h
      refine c_seq ?_
      refine za0 ?_
      refine o_q rfl rfl (za2 rfl) ?_
      refine o_q rfl rfl (q_ldb Y22 rfl (fun w h => h.zaa (i := 0) rfl) rfl) ?_
      refine o_pick [2, 0, 1] (by decide) rfl ?_
      refine za8 h (fun i7 hx6 h => ?_) rfl
      refine o_e rfl (za9 1 Z Try.func166 N166 rfl rfl rfl (fun w P1 hF hB hS hT => impl_Plan_within_1.calls A1 c1 l1.length l1 g2_c0 g2_c0_0 a2_c0_0_0 A2_c0_0_1 c2_c0_0_1 l2_c0_0_1.length l2_c0_0_1 A2_c0_0_2 c2_c0_0_2 l2_c0_0_2.length l2_c0_0_2 g2_c1 a2_c1_0 g2_c2 a2_c2_0 hB hF (hS _ R1) hc1 (hS _ R2_c0_0_1) hc2_c0_0_1 (hS _ R2_c0_0_2) hc2_c0_0_2 (hS _ B2_c0_0) (hS _ B2_c0) (hS _ B2_c1) _ hx6)) (fun _ => ?_)
      refine o_end ?_
      refine za1 ?_
      refine c_ret ?_
      refine za5 ?_
      have e0_ := Option.some.inj h; clear h
      subst e0_
      exact x_r0 (.inl rfl) () Try.results165 rfl (fun w h => za6 [0] (by decide) rfl w h)
    · skip
      replace h := br_f hb5 h
      refine zaj ?_
      refine za1 ?_
      refine c_seq ?_
      refine za0 ?_
      refine o_q rfl rfl (q_func rfl rfl) ?_
      refine o_q rfl rfl (q_asg rfl) ?_
      refine o_end ?_
      refine za1 ?_
      refine c_seq ?_
      refine za0 ?_
      refine o_q rfl rfl (q_ldb Y88 rfl (fun w h => h.zaa (i := 1) rfl) rfl) ?_
      refine o_q rfl rfl (q_nil rfl) ?_
      refine o_q rfl rfl (q_f F36_1 rfl) ?_
      refine o_q rfl rfl (q_ldb Y34 rfl (fun w h => B0.now Z h) rfl) ?_
      refine o_q rfl rfl (q_len Try.underlying34 rfl) ?_
      refine o_q rfl rfl (za2 rfl) ?_
      refine o_end ?_
      refine za1 ?_
      refine zan ?_
      refine za8 h (fun o17 hl16 hR15 => ?_) rfl
      clear h
      refine c_fact (p := l0_1.length ≤ 9223372036854775807) (fun w h => (R0_1.now Z h).2.1) (fun hm14 => ?_)
      refine zaw (σ := (List SStep) × Int × Int) (fun k12 ((ys11, i8, i9) : (List SStep) × Int × Int) => Rg l0_1 i9 ys11 ∧ ys11.length = k12 ∧ impl_Plan_orders.l0 (impl_Plan_orders.f k) a0_0 l0_1 l0_2 l1 a2_c0_0_0 l2_c0_0_1 l2_c0_0_2 a2_c1_0 ys11 i8 i9 = some o17) [7, 8, 26, 27, 28, 29, 30, 31, 32, 33, 34, 35, 36, 37, 38, 39, 40, 41, 42, 43, 44, 45, 46, 47, 48, 49, 50, 51, 52, 53, 54, 55] (fun ((ys11, i8, i9) : (List SStep) × Int × Int) => [(26, .int .i64 i9)]) (fun ((ys11, i8, i9) : (List SStep) × Int × Int) => [box g3 22 #[.slice A1 l1.length c1], box g1 88 #[.pointer (some ⟨g0, 0, none⟩)], box g2_c2 3 #[.int .i64 i8]]) l0_1.length (l0_1, a2_c2_0, 0) ⟨Rg.start _, rfl, hl16⟩ ⟨rfl, trivial⟩ (fun w h => h) ?_
      refine fun k12 => cur3 (listC (fun i8 i9 U18 hJ_ => ?_) (fun y10 ys11 i8 i9 U18 hJ_ => ?_))
      · skip
        clear hl16
        have hr13 := hJ_.1; have hk19 := hJ_.2.1; have h := hJ_.2.2; clear hJ_
        replace h : impl_Plan_orders.l0 (impl_Plan_orders.f k) a0_0 l0_1 l0_2 l1 a2_c0_0_0 l2_c0_0_1 l2_c0_0_2 a2_c1_0 [] i8 i9 = some o17 := h
        rw [impl_Plan_orders.l0] at h
        refine c_seq ?_
        refine za0 ?_
        refine o_q rfl rfl (q_lss rfl rfl) ?_
        refine o_end ?_
        refine za1 ?_
        refine c_seq ?_
        refine c_false (congrArg Value.bool hr13.ge) ?_
        refine c_exit ?_
        refine za7 ?_
        refine za7 ?_
        have e_ := Option.some.inj h; replace h := hR15; rw [← e_] at h; clear e_
        refine x_hit ?_
        have e0_ := Option.some.inj h; clear h
        subst e0_
        exact x_r0 (.inr rfl) () Try.results165 rfl (fun w h => za6 [2] (by decide) rfl w h)
      · skip
        clear hl16
        have hr13 := hJ_.1; have hk19 := hJ_.2.1; have h := hJ_.2.2; clear hJ_
        replace h : impl_Plan_orders.l0 (impl_Plan_orders.f k) a0_0 l0_1 l0_2 l1 a2_c0_0_0 l2_c0_0_1 l2_c0_0_2 a2_c1_0 (y10 :: ys11) i8 i9 = some o17 := h
        rw [impl_Plan_orders.l0] at h
        refine c_seq ?_
        refine za0 ?_
        refine o_q rfl rfl (q_lss rfl rfl) ?_
        refine o_end ?_
        refine za1 ?_
        refine c_seq ?_
        refine c_true (congrArg Value.bool hr13.lt) ?_
        refine zaj ?_
        refine za1 ?_
        refine c_seq ?_
        refine zan ?_
        refine c_seq ?_
        refine za0 ?_
        refine o_q rfl rfl (za2 rfl) ?_
        refine zav (p := Sh A0_1 l0_1.length l0_1.length) (fun w h => f_sh (dk := kStep) h (fun w h => R0_1.now Z h)) (fun hq20 => ?_)
        refine o_q rfl rfl (q_ix Try.underlying34 Z117 rfl rfl hq20 hr13.get) ?_
        refine o_q rfl rfl (q_ldE G117 Z117 rfl rfl (fun w h => R0_1.now Z h) hr13.get (fun _ _ h => h) rfl) ?_
        refine o_e rfl (e_alloc V117 rfl) (fun g21 => ?_)
        refine o_q rfl rfl (q_asg rfl) ?_
        refine o_e rfl (e_storeA (i := 0) rfl rfl rfl Z117 rfl rfl) (fun _ => ?_)
        refine o_end ?_
        refine za1 ?_
        refine za8 h (fun o32 hl33 hR34 => ?_) rfl
        clear h
        refine c_cutJ (σ := Bool) (fun b31 => some b31 = some o32) [31, 32, 33, 34, 35, 36, 37, 38, 39, 40, 41, 42, 43, 44, 45, 46] (fun b31 => [(46, .bool b31)]) (fun b31 => [box g2_c2 3 #[.int .i64 i8], box g1 88 #[.pointer (some ⟨g0, 0, none⟩)], box g3 22 #[.slice A1 l1.length c1], box g21 117 #[.int .i64 y10.f0, .int .i64 y10.f1]]) ?_ ?_
        · skip
          have h := hl33; clear hl33
          clear hR34
          refine za0 ?_
          refine o_q rfl rfl (q_ldb Y22 rfl (fun w h => h.zaa (i := 1) rfl) rfl) ?_
          refine o_q rfl rfl (za2 rfl) ?_
          refine za8 h (fun b38 hx37 h => ?_) rfl
          refine o_e rfl (za9 0 Z Try.func155 N155 rfl rfl rfl (fun w P1 hF hB hS hT => slices_Contains_int_int.calls A1 c1 l1.length l1 i9 hB hF (hS _ R1) hc1 _ hx37)) (fun _ => ?_)
          refine o_q rfl rfl (q_not rfl) ?_
          refine o_q rfl rfl (za2 rfl) ?_
          refine byB b38 (fun hb39 => ?_) (fun hb39 => ?_)
          · replace h := bb_t hb39 h
            refine @o_n _ _ _ _ _ _ _ _ _ _ _ 36 (za4 rfl rfl rfl (congrArg (fun b => Value.bool (!(b))) hb39) rfl) (Eq.refl (some 36)) ?_
            refine @o_n _ _ _ _ _ _ _ _ _ _ _ 37 (za4 rfl rfl rfl (congrArg (fun b => Value.bool (!(b))) hb39) rfl) (Eq.refl (some 37)) ?_
            refine @o_n _ _ _ _ _ _ _ _ _ _ _ 38 (za4 rfl rfl rfl (congrArg (fun b => Value.bool (!(b))) hb39) rfl) (Eq.refl (some 38)) ?_
            refine @o_n _ _ _ _ _ _ _ _ _ _ _ 39 (za4 rfl rfl rfl (congrArg (fun b => Value.bool (!(b))) hb39) rfl) (Eq.refl (some 39)) ?_
            refine o_q rfl rfl (zam false (congrArg (fun b => Value.bool (!(b))) hb39) rfl) ?_
            refine o_q rfl rfl (za2 rfl) ?_
            refine @o_n _ _ _ _ _ _ _ _ _ _ _ 42 (za4 rfl rfl rfl rfl rfl) (Eq.refl (some 42)) ?_
            refine @o_n _ _ _ _ _ _ _ _ _ _ _ 43 (za4 rfl rfl rfl rfl rfl) (Eq.refl (some 43)) ?_
            refine @o_n _ _ _ _ _ _ _ _ _ _ _ 44 (za4 rfl rfl rfl rfl rfl) (Eq.refl (some 44)) ?_
            refine @o_n _ _ _ _ _ _ _ _ _ _ _ 45 (za4 rfl rfl rfl rfl rfl) (Eq.refl (some 45)) ?_
            refine o_q rfl rfl (zam false rfl rfl) ?_
            refine o_end ?_
            refine x_meetJ false h ⟨rfl, trivial⟩ (fun w h => za6 [3, 2, 1, 0] (by decide) rfl w h) ?_
            repeat (first | exact zad _ _ | refine zah rfl ?_ | refine zae rfl ?_ | refine zai rfl ?_)
          · replace h := bb_f hb39 h
            refine o_w (za3 rfl rfl rfl (congrArg (fun b => Value.bool (!(b))) hb39)) rfl (za2 rfl) ?_
            refine o_w (za3 rfl rfl rfl (congrArg (fun b => Value.bool (!(b))) hb39)) rfl (q_f F117_0 rfl) ?_
            refine o_w (za3 rfl rfl rfl (congrArg (fun b => Value.bool (!(b))) hb39)) rfl (q_ldb Y3 rfl (fun w h => h.zaa (i := 0) rfl) rfl) ?_
            refine za8 h (fun b41 hx40 h => ?_) rfl
            refine o_ew (za3 rfl rfl rfl (congrArg (fun b => Value.bool (!(b))) hb39)) (za9 0 Z Try.func178 N178 rfl rfl rfl (fun w P1 hF hB hS hT => impl_Plan_orders_1.calls y10.f0 g1 g0 a0_0 A0_1 c0_1 l0_1.length l0_1 A0_2 c0_2 l0_2.length l0_2 g3 A1 c1 l1.length l1 hB hF (hS _ R0_1) hc0_1 (hS _ R0_2) hc0_2 (hS _ B0) (hT 2 _ rfl).box (hS _ R1) hc1 (hT 1 _ rfl).box _ hx40)) (fun _ => ?_)
            refine o_q rfl rfl (zam true (congrArg (fun b => Value.bool (!(b))) hb39) rfl) ?_
            refine o_q rfl rfl (za2 rfl) ?_
            refine byB b41 (fun hb42 => ?_) (fun hb42 => ?_)
            · replace h := bb_t hb42 h
              refine o_w (za3 rfl rfl rfl (congrArg Value.bool hb42)) rfl (za2 rfl) ?_
              refine o_w (za3 rfl rfl rfl (congrArg Value.bool hb42)) rfl (q_f F117_1 rfl) ?_
              refine o_w (za3 rfl rfl rfl (congrArg Value.bool hb42)) rfl (q_ldb Y3 rfl (fun w h => h.zaa (i := 0) rfl) rfl) ?_
              refine za8 h (fun b44 hx43 h => ?_) rfl
              refine o_ew (za3 rfl rfl rfl (congrArg Value.bool hb42)) (za9 0 Z Try.func178 N178 rfl rfl rfl (fun w P1 hF hB hS hT => impl_Plan_orders_1.calls y10.f1 g1 g0 a0_0 A0_1 c0_1 l0_1.length l0_1 A0_2 c0_2 l0_2.length l0_2 g3 A1 c1 l1.length l1 hB hF (hS _ R0_1) hc0_1 (hS _ R0_2) hc0_2 (hS _ B0) (hT 2 _ rfl).box (hS _ R1) hc1 (hT 1 _ rfl).box _ hx43)) (fun _ => ?_)
              refine o_q rfl rfl (zam true (congrArg Value.bool hb42) rfl) ?_
              refine o_end ?_
              refine x_meetJ b44 h ⟨rfl, trivial⟩ (fun w h => za6 [3, 2, 1, 0] (by decide) rfl w h) ?_
              repeat (first | exact zad _ _ | refine zah rfl ?_ | refine zae rfl ?_ | refine zai rfl ?_)
            · replace h := bb_f hb42 h
              refine @o_n _ _ _ _ _ _ _ _ _ _ _ 42 (za4 rfl rfl rfl (congrArg Value.bool hb42) rfl) (Eq.refl (some 42)) ?_
              refine @o_n _ _ _ _ _ _ _ _ _ _ _ 43 (za4 rfl rfl rfl (congrArg Value.bool hb42) rfl) (Eq.refl (some 43)) ?_
              refine @o_n _ _ _ _ _ _ _ _ _ _ _ 44 (za4 rfl rfl rfl (congrArg Value.bool hb42) rfl) (Eq.refl (some 44)) ?_
              refine @o_n _ _ _ _ _ _ _ _ _ _ _ 45 (za4 rfl rfl rfl (congrArg Value.bool hb42) rfl) (Eq.refl (some 45)) ?_
              refine o_q rfl rfl (zam false (congrArg Value.bool hb42) rfl) ?_
              refine o_end ?_
              refine x_meetJ false h ⟨rfl, trivial⟩ (fun w h => za6 [3, 2, 1, 0] (by decide) rfl w h) ?_
              repeat (first | exact zad _ _ | refine zah rfl ?_ | refine zae rfl ?_ | refine zai rfl ?_)
        · skip
          refine (fun b31 => fun U35 hJ36 => ?_)
          have e_ := Option.some.inj hJ36; have h := hR34; rw [← e_] at h; clear e_ hJ36 hR34 hl33
          refine zar _ rfl (fun hb45 => ?_) (fun hb45 => ?_)
          · skip
            replace h := bb_t hb45 h
            refine za8 h (fun _ hx167 h => ?_) rfl
            refine za8 h (fun l347 ha348 h => ?_) rfl
            refine za8 h (fun i468 hx467 h => ?_) rfl
            refine a_startS (ds := []) [none, some 1, some 2, some 3] MO rfl ?_
            refine a_take 0 rfl rfl rfl (by kernel_rfl) (fun _ _ _ h => h) (fun w h => zal [none, some 1, some 2, some 3] (by decide) w h rfl) (q_ldb Y88 rfl (fun w h => h.zaa (i := 1) rfl) rfl) ?_
            refine a_take 1 rfl rfl rfl (by kernel_rfl) (fun _ _ _ h => h) (fun w h => zal [none, some 1, some 2, some 3] (by decide) w h rfl) (q_ldb Y22 rfl (fun w h => h.zaa (i := 2) rfl) rfl) ?_
            refine zac 3 rfl rfl rfl (by kernel_rfl) (fun _ _ _ h => h) (za2 rfl) ?_
            refine zac 6 rfl rfl rfl (by kernel_rfl) (fun _ _ _ h => h) (za2 rfl) ?_
            refine a_two 2 4 rfl rfl rfl rfl (by kernel_rfl) rfl rfl (za9 0 Z Try.func179 N179 rfl rfl rfl (fun w P1 hF hB hS hT => slices_Clip_int_int.calls A1 c1 l1.length l1 hB hF (hS _ R1) hc1 hx167)) (fun s w h => zal [none, some 1, some 2, some 3] (by decide) w h rfl) (e_lit (vs := [(0, .int .i64 i9)]) (cs := [.int .i64 i9]) (Kd.int .i64) ([i9] : List Int) Try.underlying22 I3 (by decide) rfl (by decide) rfl rfl (fun _ _ => Kd.zau _)) (fun s w h => zal [none, some 2, some 3, some 4] (by decide) w h rfl) (fun _ => ?_) (cur2 (fun A287 c288 => ?_))
            · skip
              refine a_one 4 rfl rfl (by kernel_rfl) rfl (e_lit (vs := [(0, .int .i64 i9)]) (cs := [.int .i64 i9]) (Kd.int .i64) ([i9] : List Int) Try.underlying22 I3 (by decide) rfl (by decide) rfl rfl (fun _ _ => Kd.zau _)) (fun s w h => zal [none, some 2, some 3, some 4] (by decide) w h rfl) (cur2 (fun A287 c288 => ?_))
              refine a_one 5 rfl rfl (by kernel_rfl) rfl (e_appF (j := 0) Try.underlying22 I3 rfl (by decide) (fun w h => R1.now Z h) rfl (Nat.succ_pos _) rfl rfl ha348) (fun s w h => zal [none, some 3, some 4, some 5] (by decide) w h rfl) (cur2 (fun A349 c350 => ?_))
              refine a_pick [2, 0, 3, 4, 5] (by decide) rfl ?_
              refine a_one 7 rfl rfl (by kernel_rfl) rfl (za9 1 Z Try.func165 N165 rfl rfl rfl (fun w P1 hF hB hS hT => ih g0 a0_0 A0_1 c0_1 l0_1.length l0_1 A0_2 c0_2 l0_2.length l0_2 A349 c350 l347.length l347 g2_c0 g2_c0_0 a2_c0_0_0 A2_c0_0_1 c2_c0_0_1 l2_c0_0_1.length l2_c0_0_1 A2_c0_0_2 c2_c0_0_2 l2_c0_0_2.length l2_c0_0_2 g2_c1 a2_c1_0 g2_c2 i8 hB hF (hS _ R0_1) hc0_1 (hS _ R0_2) hc0_2 (hS _ B0) (hT 0 _ rfl).row (hT 0 _ rfl).cap (hS _ R2_c0_0_1) hc2_c0_0_1 (hS _ R2_c0_0_2) hc2_c0_0_2 (hS _ B2_c0_0) (hS _ B2_c0) (hS _ B2_c1) _ hx467)) (fun s w h => zal [none, some 2, some 3, some 4] (by decide) w h rfl) (fun _ => ?_)
              refine a_done (by kernel_rfl) ?_
              refine zao ?_
              refine za1 ?_
              refine za0 ?_
              refine o_q rfl rfl (q_up rfl rfl (hr13.up hm14)) ?_
              refine o_q rfl rfl (za2 rfl) ?_
              refine o_end ?_
              refine zaf ys11.length (ys11, i468, i9 + 1) (by rw [← hk19]; exact Nat.lt_succ_self _) ⟨hr13.step, rfl, h⟩ ⟨rfl, trivial⟩ (fun w h => za6 [3, 2, 0] (by decide) rfl w h) ?_
              repeat (first | exact zad _ _ | refine zah rfl ?_ | refine zae rfl ?_ | refine zai rfl ?_)
            · skip
              refine a_one 2 rfl rfl (by kernel_rfl) rfl (za9 0 Z Try.func179 N179 rfl rfl rfl (fun w P1 hF hB hS hT => slices_Clip_int_int.calls A1 c1 l1.length l1 hB hF (hS _ R1) hc1 hx167)) (fun s w h => zal [none, some 2, some 3, some 4] (by decide) w h rfl) (fun _ => ?_)
              refine a_one 5 rfl rfl (by kernel_rfl) rfl (e_appF (j := 0) Try.underlying22 I3 rfl (by decide) (fun w h => R1.now Z h) rfl (Nat.succ_pos _) rfl rfl ha348) (fun s w h => zal [none, some 3, some 4, some 5] (by decide) w h rfl) (cur2 (fun A349 c350 => ?_))
              refine a_pick [2, 0, 3, 4, 5] (by decide) rfl ?_
              refine a_one 7 rfl rfl (by kernel_rfl) rfl (za9 1 Z Try.func165 N165 rfl rfl rfl (fun w P1 hF hB hS hT => ih g0 a0_0 A0_1 c0_1 l0_1.length l0_1 A0_2 c0_2 l0_2.length l0_2 A349 c350 l347.length l347 g2_c0 g2_c0_0 a2_c0_0_0 A2_c0_0_1 c2_c0_0_1 l2_c0_0_1.length l2_c0_0_1 A2_c0_0_2 c2_c0_0_2 l2_c0_0_2.length l2_c0_0_2 g2_c1 a2_c1_0 g2_c2 i8 hB hF (hS _ R0_1) hc0_1 (hS _ R0_2) hc0_2 (hS _ B0) (hT 0 _ rfl).row (hT 0 _ rfl).cap (hS _ R2_c0_0_1) hc2_c0_0_1 (hS _ R2_c0_0_2) hc2_c0_0_2 (hS _ B2_c0_0) (hS _ B2_c0) (hS _ B2_c1) _ hx467)) (fun s w h => zal [none, some 2, some 3, some 4] (by decide) w h rfl) (fun _ => ?_)
              refine a_done (by kernel_rfl) ?_
              refine zao ?_
              refine za1 ?_
              refine za0 ?_
              refine o_q rfl rfl (q_up rfl rfl (hr13.up hm14)) ?_
              refine o_q rfl rfl (za2 rfl) ?_
              refine o_end ?_
              refine zaf ys11.length (ys11, i468, i9 + 1) (by rw [← hk19]; exact Nat.lt_succ_self _) ⟨hr13.step, rfl, h⟩ ⟨rfl, trivial⟩ (fun w h => za6 [3, 2, 0] (by decide) rfl w h) ?_
              repeat (first | exact zad _ _ | refine zah rfl ?_ | refine zae rfl ?_ | refine zai rfl ?_)
          · skip
            replace h := bb_f hb45 h
            refine zaj ?_
            refine zao ?_
            refine za1 ?_
            refine za0 ?_
            refine o_q rfl rfl (q_up rfl rfl (hr13.up hm14)) ?_
            refine o_q rfl rfl (za2 rfl) ?_
            refine o_end ?_
            refine zaf ys11.length (ys11, i8, i9 + 1) (by rw [← hk19]; exact Nat.lt_succ_self _) ⟨hr13.step, rfl, h⟩ ⟨rfl, trivial⟩ (fun w h => za6 [2, 1, 0] (by decide) rfl w h) ?_
            repeat (first | exact zad _ _ | refine zah rfl ?_ | refine zae rfl ?_ | refine zai rfl ?_)

/-! ### (*loop.example/g01098/impl.Plan).within: function 109 -/
def impl_Plan_within.f (k : Nat) (a0_0 : Int) (l0_1 : List SStep) (l0_2 : List Int) (a1 : Int) : Option Int := (impl_Plan_orders.f k a0_0 l0_1 l0_2 [] a0_0 l0_1 l0_2 a1 0).bind fun i8 => some i8
set_option maxHeartbeats 600000 in
set_option maxRecDepth 100000 in
theorem impl_Plan_within.calls (k : Nat) {w0 ws : World} {P0 : Nat → Prop} (g0 : Nat) (a0_0 : Int) (A0_1 : Option Addr) (c0_1 : Nat) (n0_1 : Nat) (l0_1 : List SStep) (A0_2 : Option Addr) (c0_2 : Nat) (n0_2 : Nat) (l0_2 : List Int) (a1 : Int) (Z : Below w0.heap.size w0 ws) (hF : Fr w0 ws P0 [] ws) (R0_1 : Stable ws P0 (fun w => Kd.C kStep w A0_1 n0_1 l0_1)) (hc0_1 : n0_1 ≤ c0_1) (R0_2 : Stable ws P0 (fun w => Kd.C (Kd.int .i64) w A0_2 n0_2 l0_2)) (hc0_2 : n0_2 ≤ c0_2) (B0 : Stable ws P0 (fun w => w.heap[g0]? = some (.cells #[.int .i64 a0_0, .slice A0_1 n0_1 c0_1, .slice A0_2 n0_2 c0_2] 36 (0, 0)))) (r_1 : Int) (h : impl_Plan_within.f k a0_0 l0_1 l0_2 a1 = some r_1) :
    Calls Try.prog 109 #[.pointer (some ⟨g0, 0, none⟩), .int .i64 a1] ws (Post1 w0 ws P0 (fun (_ : Unit) => .int .i64 r_1) (fun (_ : Unit) => [])) := by
  unfold impl_Plan_within.f at h
  obtain rfl := (R0_1 ws (KeptB.refl _ _)).1
  obtain rfl := (R0_2 ws (KeptB.refl _ _)).1
  refine enter Try.func109 rfl Try.ntmps109 rfl hF ?_
  refine c_seq ?_
  refine za0 ?_
  refine o_e rfl (e_box rfl) (fun g1 => ?_)
  refine o_e rfl (e_box rfl) (fun g3 => ?_)
  refine o_q rfl rfl (q_asg rfl) ?_
  refine o_end ?_
  refine za1 ?_
  refine c_seq ?_
  refine za0 ?_
  refine o_e rfl (e_alloc V3 rfl) (fun g5 => ?_)
  refine o_e rfl (e_store (i := 0) rfl rfl rfl rfl Z3 rfl rfl) (fun _ => ?_)
  refine o_end ?_
  refine za1 ?_
  refine c_seq ?_
  refine za0 ?_
  refine o_q rfl rfl (q_ldb Y88 rfl (fun w h => h.zaa (i := 2) rfl) rfl) ?_
  refine o_q rfl rfl (q_func rfl rfl) ?_
  refine za8 h (fun i8 hx7 h => ?_) rfl
  refine o_e rfl (za9 1 Z Try.func165 N165 rfl rfl rfl (fun w P1 hF hB hS hT => impl_Plan_orders.calls k g0 a0_0 A0_1 c0_1 l0_1.length l0_1 A0_2 c0_2 l0_2.length l0_2 none 0 0 [] g1 g0 a0_0 A0_1 c0_1 l0_1.length l0_1 A0_2 c0_2 l0_2.length l0_2 g3 a1 g5 0 hB hF (hS _ R0_1) hc0_1 (hS _ R0_2) hc0_2 (hS _ B0) (stab_nil _) (Nat.le_refl 0) (hS _ R0_1) hc0_1 (hS _ R0_2) hc0_2 (hS _ B0) (hT 1 _ rfl).box (hT 0 _ rfl).box _ hx7)) (fun _ => ?_)
  refine o_end ?_
  refine za1 ?_
  refine c_seq ?_
  refine za0 ?_
  refine o_q rfl rfl (q_ldb Y3 rfl (fun w h => h.zaa (i := 0) rfl) rfl) ?_
  refine o_q rfl rfl (q_asg rfl) ?_
  refine o_end ?_
  refine za1 ?_
  refine c_ret ?_
  have e0_ := Option.some.inj h; clear h
  subst e0_
  exact x_r1 () Try.results109 (zab rfl) rfl (fun w h => za6 [] (by decide) rfl w h)

/-! ### loop.example/g01098/impl.OrdersWithin: function 48 -/
def impl_OrdersWithin.f (k : Nat) (a0_0 : Int) (l0_1 : List SStep) (l0_2 : List Int) (a1 : Int) : Option (Int × Bool) := (impl_orderable.f k a0_0 l0_1 l0_2).bind fun b4 => if b4 = true then ((impl_in.f a1 0 46).bind fun b7 => if b7 = true then ((impl_Plan_within.f k a0_0 l0_1 l0_2 a1).bind fun i10 => some (i10, true)) else (some (0, false))) else (some (0, false))
set_option maxHeartbeats 600000 in
set_option maxRecDepth 100000 in
theorem impl_OrdersWithin.calls (k : Nat) {w0 ws : World} {P0 : Nat → Prop} (a0_0 : Int) (A0_1 : Option Addr) (c0_1 : Nat) (n0_1 : Nat) (l0_1 : List SStep) (A0_2 : Option Addr) (c0_2 : Nat) (n0_2 : Nat) (l0_2 : List Int) (a1 : Int) (Z : Below w0.heap.size w0 ws) (hF : Fr w0 ws P0 [] ws) (R0_1 : Stable ws P0 (fun w => Kd.C kStep w A0_1 n0_1 l0_1)) (hc0_1 : n0_1 ≤ c0_1) (R0_2 : Stable ws P0 (fun w => Kd.C (Kd.int .i64) w A0_2 n0_2 l0_2)) (hc0_2 : n0_2 ≤ c0_2) (r_1 : Int) (r_2 : Bool) (h : impl_OrdersWithin.f k a0_0 l0_1 l0_2 a1 = some (r_1, r_2)) :
    Calls Try.prog 48 #[.agg #[.int .i64 a0_0, .slice A0_1 n0_1 c0_1, .slice A0_2 n0_2 c0_2], .int .i64 a1] ws (Post1 w0 ws P0 (fun (_ : Unit) => .tuple #[.int .i64 r_1, .bool r_2]) (fun (_ : Unit) => [])) := by
  unfold impl_OrdersWithin.f at h
  obtain rfl := (R0_1 ws (KeptB.refl _ _)).1
  obtain rfl := (R0_2 ws (KeptB.refl _ _)).1
  refine enter Try.func48 rfl Try.ntmps48 rfl hF ?_
  refine c_seq ?_
  refine za0 ?_
  refine o_e rfl (e_box rfl) (fun g1 => ?_)
  refine o_q rfl rfl (q_asg rfl) ?_
  refine o_q rfl rfl (q_asg rfl) ?_
  refine o_end ?_
  refine za1 ?_
  refine c_seq ?_
  refine c_seq ?_
  refine za0 ?_
  refine o_q rfl rfl (q_ldB G36 Z36 rfl (fun w h => h.zaa (i := 0) rfl) rfl) ?_
  refine za8 h (fun b4 hx3 h => ?_) rfl
  refine o_e rfl (za9 0 Z Try.func108 N108 rfl rfl rfl (fun w P1 hF hB hS hT => impl_orderable.calls k a0_0 A0_1 c0_1 l0_1.length l0_1 A0_2 c0_2 l0_2.length l0_2 hB hF (hS _ R0_1) hc0_1 (hS _ R0_2) hc0_2 _ hx3)) (fun _ => ?_)
  refine o_q rfl rfl (q_not rfl) ?_
  refine o_q rfl rfl (za2 rfl) ?_
  refine byB b4 (fun hb5 => ?_) (fun hb5 => ?_)
  · replace h := bb_t hb5 h
    refine o_w (za3 rfl rfl rfl (congrArg (fun b => Value.bool (!(b))) hb5)) rfl (za2 rfl) ?_
    refine za8 h (fun b7 hx6 h => ?_) rfl
    refine o_ew (za3 rfl rfl rfl (congrArg (fun b => Value.bool (!(b))) hb5)) (za9 0 Z Try.func83 N83 rfl rfl rfl (fun w P1 hF hB hS hT => impl_in.calls a1 0 46 hB hF _ hx6)) (fun _ => ?_)
    refine o_w (za3 rfl rfl rfl (congrArg (fun b => Value.bool (!(b))) hb5)) rfl (q_not rfl) ?_
    refine o_q rfl rfl (zam false (congrArg (fun b => Value.bool (!(b))) hb5) rfl) ?_
    refine o_end ?_
    refine za1 ?_
    refine zar _ rfl (fun hb8 => ?_) (fun hb8 => ?_)
    · replace hb8 := nt_t hb8
      replace h := bb_f hb8 h
      refine c_seq ?_
      refine za0 ?_
      refine o_q rfl rfl (q_asg rfl) ?_
      refine o_q rfl rfl (q_asg rfl) ?_
      refine o_end ?_
      refine za1 ?_
      refine c_ret ?_
      refine za5 ?_
      have e0_ := Option.some.inj h; clear h
      have d0_ := (Prod.mk.inj e0_).1; have e1_ := (Prod.mk.inj e0_).2; clear e0_; subst d0_
      subst e1_
      exact x_r2 () Try.results48 (zab rfl) (zab rfl) rfl (fun w h => za6 [] (by decide) rfl w h)
    · replace hb8 := nt_f hb8
      replace h := bb_t hb8 h
      refine zaj ?_
      refine za1 ?_
      refine c_seq ?_
      refine za0 ?_
      refine o_q rfl rfl (za2 rfl) ?_
      refine za8 h (fun i10 hx9 h => ?_) rfl
      refine o_e rfl (za9 0 Z Try.func109 N109 rfl rfl rfl (fun w P1 hF hB hS hT => impl_Plan_within.calls k g1 a0_0 A0_1 c0_1 l0_1.length l0_1 A0_2 c0_2 l0_2.length l0_2 a1 hB hF (hS _ R0_1) hc0_1 (hS _ R0_2) hc0_2 (hT 0 _ rfl).box _ hx9)) (fun _ => ?_)
      refine o_q rfl rfl (q_asg rfl) ?_
      refine o_q rfl rfl (q_asg rfl) ?_
      refine o_end ?_
      refine za1 ?_
      refine c_ret ?_
      have e0_ := Option.some.inj h; clear h
      have d0_ := (Prod.mk.inj e0_).1; have e1_ := (Prod.mk.inj e0_).2; clear e0_; subst d0_
      subst e1_
      exact x_r2 () Try.results48 (zab rfl) (zab rfl) rfl (fun w h => za6 [] (by decide) rfl w h)
  · replace h := bb_f hb5 h
    refine @o_n _ _ _ _ _ _ _ _ _ _ _ 10 (za4 rfl rfl rfl (congrArg (fun b => Value.bool (!(b))) hb5) rfl) (Eq.refl (some 10)) ?_
    refine @o_n _ _ _ _ _ _ _ _ _ _ _ 11 (za4 rfl rfl rfl (congrArg (fun b => Value.bool (!(b))) hb5) rfl) (Eq.refl (some 11)) ?_
    refine @o_n _ _ _ _ _ _ _ _ _ _ _ 12 (za4 rfl rfl rfl (congrArg (fun b => Value.bool (!(b))) hb5) rfl) (Eq.refl (some 12)) ?_
    refine o_q rfl rfl (zam true (congrArg (fun b => Value.bool (!(b))) hb5) rfl) ?_
    refine o_end ?_
    refine za1 ?_
    refine c_true rfl ?_
    refine c_seq ?_
    refine za0 ?_
    refine o_q rfl rfl (q_asg rfl) ?_
    refine o_q rfl rfl (q_asg rfl) ?_
    refine o_end ?_
    refine za1 ?_
    refine c_ret ?_
    refine za5 ?_
    have e0_ := Option.some.inj h; clear h
    have d0_ := (Prod.mk.inj e0_).1; have e1_ := (Prod.mk.inj e0_).2; clear e0_; subst d0_
    subst e1_
    exact x_r2 () Try.results48 (zab rfl) (zab rfl) rfl (fun w h => za6 [] (by decide) rfl w h)

/-! ### loop.example/g01098/laws.eqStep: function 130 -/
def laws_eqStep.f (a0 : SStep) (a1 : SStep) : Option Bool := if a0.f0 ≠ a1.f0 then (some false) else (if a0.f1 ≠ a1.f1 then (some false) else (some true))
set_option maxHeartbeats 600000 in
set_option maxRecDepth 100000 in
theorem laws_eqStep.calls {w0 ws : World} {P0 : Nat → Prop} (a0 : SStep) (a1 : SStep) (Z : Below w0.heap.size w0 ws) (hF : Fr w0 ws P0 [] ws)  (r_1 : Bool) (h : laws_eqStep.f a0 a1 = some r_1) :
    Calls Try.prog 130 #[.agg #[.int .i64 a0.f0, .int .i64 a0.f1], .agg #[.int .i64 a1.f0, .int .i64 a1.f1]] ws (Post1 w0 ws P0 (fun (_ : Unit) => .bool r_1) (fun (_ : Unit) => [])) := by
  unfold laws_eqStep.f at h
  refine enter Try.func130 rfl Try.ntmps130 rfl hF ?_
  refine c_seq ?_
  refine za0 ?_
  refine o_e rfl (e_box rfl) (fun g1 => ?_)
  refine o_e rfl (e_box rfl) (fun g3 => ?_)
  refine o_q rfl rfl (q_asg rfl) ?_
  refine o_end ?_
  refine za1 ?_
  refine c_seq ?_
  refine c_seq ?_
  refine za0 ?_
  refine o_q rfl rfl (q_f F117_0 rfl) ?_
  refine o_q rfl rfl (q_ldb Y3 rfl (fun w h => h.zaa (i := 1) rfl) rfl) ?_
  refine o_q rfl rfl (q_f F117_0 rfl) ?_
  refine o_q rfl rfl (q_ldb Y3 rfl (fun w h => h.zaa (i := 0) rfl) rfl) ?_
  refine o_q rfl rfl (q_neq rfl rfl) ?_
  refine o_end ?_
  refine za1 ?_
  refine zar _ rfl (fun hb5 => ?_) (fun hb5 => ?_)
  · skip
    replace h := br_t hb5 h
    refine c_seq ?_
    refine za0 ?_
    refine o_q rfl rfl (q_asg rfl) ?_
    refine o_end ?_
    refine za1 ?_
    refine c_ret ?_
    refine za5 ?_
    have e0_ := Option.some.inj h; clear h
    subst e0_
    exact x_r1 () Try.results130 (zab rfl) rfl (fun w h => za6 [] (by decide) rfl w h)
  · skip
    replace h := br_f hb5 h
    refine zaj ?_
    refine za1 ?_
    refine c_seq ?_
    refine c_seq ?_
    refine za0 ?_
    refine o_q rfl rfl (q_f F117_1 rfl) ?_
    refine o_q rfl rfl (q_ldb Y3 rfl (fun w h => h.zaa (i := 1) rfl) rfl) ?_
    refine o_q rfl rfl (q_f F117_1 rfl) ?_
    refine o_q rfl rfl (q_ldb Y3 rfl (fun w h => h.zaa (i := 0) rfl) rfl) ?_
    refine o_q rfl rfl (q_neq rfl rfl) ?_
    refine o_end ?_
    refine za1 ?_
    refine zar _ rfl (fun hb6 => ?_) (fun hb6 => ?_)
    · skip
      replace h := br_t hb6 h
      refine c_seq ?_
      refine za0 ?_
      refine o_q rfl rfl (q_asg rfl) ?_
      refine o_end ?_
      refine za1 ?_
      refine c_ret ?_
      refine za5 ?_
      have e0_ := Option.some.inj h; clear h
      subst e0_
      exact x_r1 () Try.results130 (zab rfl) rfl (fun w h => za6 [] (by decide) rfl w h)
    · skip
      replace h := br_f hb6 h
      refine zaj ?_
      refine za1 ?_
      refine c_seq ?_
      refine za0 ?_
      refine o_q rfl rfl (q_asg rfl) ?_
      refine o_end ?_
      refine za1 ?_
      refine c_ret ?_
      have e0_ := Option.some.inj h; clear h
      subst e0_
      exact x_r1 () Try.results130 (zab rfl) rfl (fun w h => za6 [] (by decide) rfl w h)

/-! ### loop.example/g01098/laws.eqStepS: function 63 -/
def laws_eqStepS.l0 (l0 : List SStep) (l1 : List SStep) : Nat → Int → Option ((Bool) ⊕ (Unit))
  | 0, _ => none
  | k5 + 1, i2 => if i2 < (l0.length : Int) then ((gt l0 i2).bind fun y16 => (gt l1 i2).bind fun y19 => (laws_eqStep.f y16 y19).bind fun b21 => if b21 = true then (laws_eqStepS.l0 l0 l1 k5 (w64 (i2 + 1))) else (some (.inl false))) else (some (.inr ()))
def laws_eqStepS.f (k : Nat) (l0 : List SStep) (l1 : List SStep) : Option Bool := if (l0.length : Int) ≠ (l1.length : Int) then (some false) else ((laws_eqStepS.l0 l0 l1 k 0).bind fun o_ => match o_ with | .inl r_ => some r_ | .inr _ => some true)
set_option maxHeartbeats 600000 in
set_option maxRecDepth 100000 in
theorem laws_eqStepS.calls (k : Nat) {w0 ws : World} {P0 : Nat → Prop} (A0 : Option Addr) (c0 : Nat) (n0 : Nat) (l0 : List SStep) (A1 : Option Addr) (c1 : Nat) (n1 : Nat) (l1 : List SStep) (Z : Below w0.heap.size w0 ws) (hF : Fr w0 ws P0 [] ws) (R0 : Stable ws P0 (fun w => Kd.C kStep w A0 n0 l0)) (hc0 : n0 ≤ c0) (R1 : Stable ws P0 (fun w => Kd.C kStep w A1 n1 l1)) (hc1 : n1 ≤ c1) (r_1 : Bool) (h : laws_eqStepS.f k l0 l1 = some r_1) :
    Calls Try.prog 63 #[.slice A0 n0 c0, .slice A1 n1 c1] ws (Post1 w0 ws P0 (fun (_ : Unit) => .bool r_1) (fun (_ : Unit) => [])) := by
  unfold laws_eqStepS.f at h
  obtain rfl := (R0 ws (KeptB.refl _ _)).1
  obtain rfl := (R1 ws (KeptB.refl _ _)).1
  refine enter Try.func63 rfl Try.ntmps63 rfl hF ?_
  refine c_seq ?_
  refine za0 ?_
  refine o_q rfl rfl (q_asg rfl) ?_
  refine o_end ?_
  refine za1 ?_
  refine c_seq ?_
  refine c_seq ?_
  refine za0 ?_
  refine o_q rfl rfl (za2 rfl) ?_
  refine o_q rfl rfl (q_len Try.underlying34 rfl) ?_
  refine o_q rfl rfl (za2 rfl) ?_
  refine o_q rfl rfl (q_len Try.underlying34 rfl) ?_
  refine o_q rfl rfl (q_neq rfl rfl) ?_
  refine o_end ?_
  refine za1 ?_
  refine zar _ rfl (fun hb1 => ?_) (fun hb1 => ?_)
  · skip
    replace h := br_t hb1 h
    refine c_seq ?_
    refine za0 ?_
    refine o_q rfl rfl (q_asg rfl) ?_
    refine o_end ?_
    refine za1 ?_
    refine c_ret ?_
    refine za5 ?_
    have e0_ := Option.some.inj h; clear h
    subst e0_
    exact x_r1 () Try.results63 (zab rfl) rfl (fun w h => za6 [] (by decide) rfl w h)
  · skip
    replace h := br_f hb1 h
    refine zaj ?_
    refine za1 ?_
    refine c_seq ?_
    refine c_seq ?_
    refine za0 ?_
    refine o_q rfl rfl (q_asg rfl) ?_
    refine o_end ?_
    refine za1 ?_
    refine zan ?_
    refine za8 h (fun o10 hl9 hR8 => ?_) rfl
    clear h
    refine zaw (σ := Int) (fun k5 (i2 : Int) => laws_eqStepS.l0 l0 l1 k5 i2 = some o10) [4, 5, 11, 12, 13, 14, 15, 16, 17, 18, 19, 20, 21, 22, 23, 24, 25, 26] (fun (i2 : Int) => [(5, .int .i64 i2)]) (fun (i2 : Int) => []) k 0 hl9 ⟨rfl, trivial⟩ (fun w h => h) ?_
    refine natC (fun i2 => fun U11 hJ_ => ?_) (fun k5 => (fun i2 => fun U11 hJ_ => ?_))
    · skip
      replace hJ_ : laws_eqStepS.l0 l0 l1 0 i2 = some o10 := hJ_
      rw [laws_eqStepS.l0] at hJ_
      exact noneE hJ_
    · skip
      clear hl9
      have h := hJ_; clear hJ_
      replace h : laws_eqStepS.l0 l0 l1 (k5 + 1) i2 = some o10 := h
      rw [laws_eqStepS.l0] at h
      refine c_seq ?_
      refine c_seq ?_
      refine za0 ?_
      refine o_q rfl rfl (za2 rfl) ?_
      refine o_q rfl rfl (za2 rfl) ?_
      refine o_q rfl rfl (q_len Try.underlying34 rfl) ?_
      refine o_q rfl rfl (q_lss rfl rfl) ?_
      refine o_end ?_
      refine za1 ?_
      refine zar _ rfl (fun hb13 => ?_) (fun hb13 => ?_)
      · skip
        replace h := br_t hb13 h
        refine zaj ?_
        refine za1 ?_
        refine c_seq ?_
        refine zan ?_
        refine c_seq ?_
        refine a_start (ds := []) MO rfl ?_
        refine zac 0 rfl rfl rfl (by kernel_rfl) (fun _ _ _ h => h) (za2 rfl) ?_
        refine zac 1 rfl rfl rfl (by kernel_rfl) (fun _ _ _ h => h) (za2 rfl) ?_
        refine a_fact (p := Sh A0 l0.length l0.length) (fun w h => f_sh (dk := kStep) h (fun w h => R0.now Z h)) (fun hq14 => ?_)
        refine za8 h (fun y16 hg15 h => ?_) rfl
        refine zac 2 rfl rfl rfl (by kernel_rfl) (fun _ _ _ h => h) (q_ix Try.underlying34 Z117 rfl rfl hq14 hg15) ?_
        refine a_take 3 rfl rfl rfl (by kernel_rfl) (fun _ _ _ h => h) (fun w h => h) (q_ldE G117 Z117 rfl rfl (fun w h => R0.now Z h) hg15 (fun _ _ h => h) rfl) ?_
        refine zac 4 rfl rfl rfl (by kernel_rfl) (fun _ _ _ h => h) (za2 rfl) ?_
        refine zac 5 rfl rfl rfl (by kernel_rfl) (fun _ _ _ h => h) (za2 rfl) ?_
        refine a_fact (p := Sh A1 l1.length l1.length) (fun w h => f_sh (dk := kStep) h (fun w h => R1.now Z h)) (fun hq17 => ?_)
        refine za8 h (fun y19 hg18 h => ?_) rfl
        refine zac 6 rfl rfl rfl (by kernel_rfl) (fun _ _ _ h => h) (q_ix Try.underlying34 Z117 rfl rfl hq17 hg18) ?_
        refine a_take 7 rfl rfl rfl (by kernel_rfl) (fun _ _ _ h => h) (fun w h => h) (q_ldE G117 Z117 rfl rfl (fun w h => R1.now Z h) hg18 (fun _ _ h => h) rfl) ?_
        refine za8 h (fun b21 hx20 h => ?_) rfl
        refine a_one 8 rfl rfl (by kernel_rfl) rfl (za9 0 Z Try.func130 N130 rfl rfl rfl (fun w P1 hF hB hS hT => laws_eqStep.calls y16 y19 hB hF _ hx20)) (fun s w h => h) (fun _ => ?_)
        refine zac 9 rfl rfl rfl (by kernel_rfl) (fun _ _ _ h => h) (q_not rfl) ?_
        refine a_done (by kernel_rfl) ?_
        refine za1 ?_
        refine zar _ rfl (fun hb22 => ?_) (fun hb22 => ?_)
        · replace hb22 := nt_t hb22
          replace h := bb_f hb22 h
          refine c_seq ?_
          refine za0 ?_
          refine o_q rfl rfl (q_asg rfl) ?_
          refine o_end ?_
          refine za1 ?_
          refine c_ret ?_
          refine zaq ?_
          refine za5 ?_
          refine za5 ?_
          have e_ := Option.some.inj h; replace h := hR8; rw [← e_] at h; clear e_
          refine zaq ?_
          refine za5 ?_
          have e0_ := Option.some.inj h; clear h
          subst e0_
          exact x_r1 () Try.results63 (zab rfl) rfl (fun w h => za6 [] (by decide) rfl w h)
        · replace hb22 := nt_f hb22
          replace h := bb_t hb22 h
          refine zaj ?_
          refine zao ?_
          refine za1 ?_
          refine za0 ?_
          refine o_q rfl rfl (za2 rfl) ?_
          refine o_q rfl rfl (q_add64 rfl rfl) ?_
          refine o_q rfl rfl (q_asg rfl) ?_
          refine o_end ?_
          refine zaf k5 (w64 (i2 + 1)) (Nat.lt_succ_self _) h ⟨rfl, trivial⟩ (fun w h => za6 [] (by decide) rfl w h) ?_
          repeat (first | exact zad _ _ | refine zah rfl ?_ | refine zae rfl ?_ | refine zai rfl ?_)
      · skip
        replace h := br_f hb13 h
        refine c_exit ?_
        refine za7 ?_
        refine za7 ?_
        have e_ := Option.some.inj h; replace h := hR8; rw [← e_] at h; clear e_
        refine x_hit ?_
        refine za1 ?_
        refine c_seq ?_
        refine za0 ?_
        refine o_q rfl rfl (q_asg rfl) ?_
        refine o_end ?_
        refine za1 ?_
        refine c_ret ?_
        have e0_ := Option.some.inj h; clear h
        subst e0_
        exact x_r1 () Try.results63 (zab rfl) rfl (fun w h => za6 [] (by decide) rfl w h)

/-! ### loop.example/g01098/laws.eqIntS: function 30 -/
def laws_eqIntS.l0 (l0 : List Int) (l1 : List Int) : Nat → Int → Option ((Bool) ⊕ (Unit))
  | 0, _ => none
  | k5 + 1, i2 => if i2 < (l0.length : Int) then ((gt l0 i2).bind fun y16 => (gt l1 i2).bind fun y19 => if y16 ≠ y19 then (some (.inl false)) else (laws_eqIntS.l0 l0 l1 k5 (w64 (i2 + 1)))) else (some (.inr ()))
def laws_eqIntS.f (k : Nat) (l0 : List Int) (l1 : List Int) : Option Bool := if (l0.length : Int) ≠ (l1.length : Int) then (some false) else ((laws_eqIntS.l0 l0 l1 k 0).bind fun o_ => match o_ with | .inl r_ => some r_ | .inr _ => some true)
set_option maxHeartbeats 600000 in
set_option maxRecDepth 100000 in
theorem laws_eqIntS.calls (k : Nat) {w0 ws : World} {P0 : Nat → Prop} (A0 : Option Addr) (c0 : Nat) (n0 : Nat) (l0 : List Int) (A1 : Option Addr) (c1 : Nat) (n1 : Nat) (l1 : List Int) (Z : Below w0.heap.size w0 ws) (hF : Fr w0 ws P0 [] ws) (R0 : Stable ws P0 (fun w => Kd.C (Kd.int .i64) w A0 n0 l0)) (hc0 : n0 ≤ c0) (R1 : Stable ws P0 (fun w => Kd.C (Kd.int .i64) w A1 n1 l1)) (hc1 : n1 ≤ c1) (r_1 : Bool) (h : laws_eqIntS.f k l0 l1 = some r_1) :
    Calls Try.prog 30 #[.slice A0 n0 c0, .slice A1 n1 c1] ws (Post1 w0 ws P0 (fun (_ : Unit) => .bool r_1) (fun (_ : Unit) => [])) := by
  unfold laws_eqIntS.f at h
  obtain rfl := (R0 ws (KeptB.refl _ _)).1
  obtain rfl := (R1 ws (KeptB.refl _ _)).1
  refine enter Try.func30 rfl Try.ntmps30 rfl hF ?_
  refine c_seq ?_
  refine za0 ?_
  refine o_q rfl rfl (q_asg rfl) ?_
  refine o_end ?_
  refine za1 ?_
  refine c_seq ?_
  refine c_seq ?_
  refine za0 ?_
  refine o_q rfl rfl (za2 rfl) ?_
  refine o_q rfl rfl (q_len Try.underlying22 rfl) ?_
  refine o_q rfl rfl (za2 rfl) ?_
  refine o_q rfl rfl (q_len Try.underlying22 rfl) ?_
  refine o_q rfl rfl (q_neq rfl rfl) ?_
  refine o_end ?_
  refine za1 ?_
  refine zar _ rfl (fun hb1 => ?_) (fun hb1 => ?_)
  · skip
    replace h := br_t hb1 h
    refine c_seq ?_
    refine za0 ?_
    refine o_q rfl rfl (q_asg rfl) ?_
    refine o_end ?_
    refine za1 ?_
    refine c_ret ?_
    refine za5 ?_
    have e0_ := Option.some.inj h; clear h
    subst e0_
    exact x_r1 () Try.results30 (zab rfl) rfl (fun w h => za6 [] (by decide) rfl w h)
  · skip
    replace h := br_f hb1 h
    refine zaj ?_
    refine za1 ?_
    refine c_seq ?_
    refine c_seq ?_
    refine za0 ?_
    refine o_q rfl rfl (q_asg rfl) ?_
    refine o_end ?_
    refine za1 ?_
    refine zan ?_
    refine za8 h (fun o10 hl9 hR8 => ?_) rfl
    clear h
    refine zaw (σ := Int) (fun k5 (i2 : Int) => laws_eqIntS.l0 l0 l1 k5 i2 = some o10) [4, 5, 11, 12, 13, 14, 15, 16, 17, 18, 19, 20, 21, 22, 23, 24, 25] (fun (i2 : Int) => [(5, .int .i64 i2)]) (fun (i2 : Int) => []) k 0 hl9 ⟨rfl, trivial⟩ (fun w h => h) ?_
    refine natC (fun i2 => fun U11 hJ_ => ?_) (fun k5 => (fun i2 => fun U11 hJ_ => ?_))
    · skip
      replace hJ_ : laws_eqIntS.l0 l0 l1 0 i2 = some o10 := hJ_
      rw [laws_eqIntS.l0] at hJ_
      exact noneE hJ_
    · skip
      clear hl9
      have h := hJ_; clear hJ_
      replace h : laws_eqIntS.l0 l0 l1 (k5 + 1) i2 = some o10 := h
      rw [laws_eqIntS.l0] at h
      refine c_seq ?_
      refine c_seq ?_
      refine za0 ?_
      refine o_q rfl rfl (za2 rfl) ?_
      refine o_q rfl rfl (za2 rfl) ?_
      refine o_q rfl rfl (q_len Try.underlying22 rfl) ?_
      refine o_q rfl rfl (q_lss rfl rfl) ?_
      refine o_end ?_
      refine za1 ?_
      refine zar _ rfl (fun hb13 => ?_) (fun hb13 => ?_)
      · skip
        replace h := br_t hb13 h
        refine zaj ?_
        refine za1 ?_
        refine c_seq ?_
        refine zan ?_
        refine c_seq ?_
        refine a_start (ds := []) MO rfl ?_
        refine zac 0 rfl rfl rfl (by kernel_rfl) (fun _ _ _ h => h) (za2 rfl) ?_
        refine zac 1 rfl rfl rfl (by kernel_rfl) (fun _ _ _ h => h) (za2 rfl) ?_
        refine a_fact (p := Sh A0 l0.length l0.length) (fun w h => f_sh (dk := (Kd.int .i64)) h (fun w h => R0.now Z h)) (fun hq14 => ?_)
        refine za8 h (fun y16 hg15 h => ?_) rfl
        refine zac 2 rfl rfl rfl (by kernel_rfl) (fun _ _ _ h => h) (q_ix Try.underlying22 Z3 rfl rfl hq14 hg15) ?_
        refine a_take 3 rfl rfl rfl (by kernel_rfl) (fun _ _ _ h => h) (fun w h => h) (q_lde (off := 0) Y3 rfl rfl (fun w h => R0.now Z h) hg15 (fun _ _ h => h) rfl) ?_
        refine zac 4 rfl rfl rfl (by kernel_rfl) (fun _ _ _ h => h) (za2 rfl) ?_
        refine zac 5 rfl rfl rfl (by kernel_rfl) (fun _ _ _ h => h) (za2 rfl) ?_
        refine a_fact (p := Sh A1 l1.length l1.length) (fun w h => f_sh (dk := (Kd.int .i64)) h (fun w h => R1.now Z h)) (fun hq17 => ?_)
        refine za8 h (fun y19 hg18 h => ?_) rfl
        refine zac 6 rfl rfl rfl (by kernel_rfl) (fun _ _ _ h => h) (q_ix Try.underlying22 Z3 rfl rfl hq17 hg18) ?_
        refine a_take 7 rfl rfl rfl (by kernel_rfl) (fun _ _ _ h => h) (fun w h => h) (q_lde (off := 0) Y3 rfl rfl (fun w h => R1.now Z h) hg18 (fun _ _ h => h) rfl) ?_
        refine zac 8 rfl rfl rfl (by kernel_rfl) (fun _ _ _ h => h) (q_neq rfl rfl) ?_
        refine a_done (by kernel_rfl) ?_
        refine za1 ?_
        refine zar _ rfl (fun hb20 => ?_) (fun hb20 => ?_)
        · skip
          replace h := br_t hb20 h
          refine c_seq ?_
          refine za0 ?_
          refine o_q rfl rfl (q_asg rfl) ?_
          refine o_end ?_
          refine za1 ?_
          refine c_ret ?_
          refine zaq ?_
          refine za5 ?_
          refine za5 ?_
          have e_ := Option.some.inj h; replace h := hR8; rw [← e_] at h; clear e_
          refine zaq ?_
          refine za5 ?_
          have e0_ := Option.some.inj h; clear h
          subst e0_
          exact x_r1 () Try.results30 (zab rfl) rfl (fun w h => za6 [] (by decide) rfl w h)
        · skip
          replace h := br_f hb20 h
          refine zaj ?_
          refine zao ?_
          refine za1 ?_
          refine za0 ?_
          refine o_q rfl rfl (za2 rfl) ?_
          refine o_q rfl rfl (q_add64 rfl rfl) ?_
          refine o_q rfl rfl (q_asg rfl) ?_
          refine o_end ?_
          refine zaf k5 (w64 (i2 + 1)) (Nat.lt_succ_self _) h ⟨rfl, trivial⟩ (fun w h => za6 [] (by decide) rfl w h) ?_
          repeat (first | exact zad _ _ | refine zah rfl ?_ | refine zae rfl ?_ | refine zai rfl ?_)
      · skip
        replace h := br_f hb13 h
        refine c_exit ?_
        refine za7 ?_
        refine za7 ?_
        have e_ := Option.some.inj h; replace h := hR8; rw [← e_] at h; clear e_
        refine x_hit ?_
        refine za1 ?_
        refine c_seq ?_
        refine za0 ?_
        refine o_q rfl rfl (q_asg rfl) ?_
        refine o_end ?_
        refine za1 ?_
        refine c_ret ?_
        have e0_ := Option.some.inj h; clear h
        subst e0_
        exact x_r1 () Try.results30 (zab rfl) rfl (fun w h => za6 [] (by decide) rfl w h)

/-! ### loop.example/g01098/laws.eqPlan: function 23 -/
def laws_eqPlan.f (k : Nat) (a0_0 : Int) (l0_1 : List SStep) (l0_2 : List Int) (a1_0 : Int) (l1_1 : List SStep) (l1_2 : List Int) : Option Bool := if a0_0 ≠ a1_0 then (some false) else ((laws_eqStepS.f k l0_1 l1_1).bind fun b7 => if b7 = true then ((laws_eqIntS.f k l0_2 l1_2).bind fun b10 => if b10 = true then (some true) else (some false)) else (some false))
set_option maxHeartbeats 600000 in
set_option maxRecDepth 100000 in
theorem laws_eqPlan.calls (k : Nat) {w0 ws : World} {P0 : Nat → Prop} (a0_0 : Int) (A0_1 : Option Addr) (c0_1 : Nat) (n0_1 : Nat) (l0_1 : List SStep) (A0_2 : Option Addr) (c0_2 : Nat) (n0_2 : Nat) (l0_2 : List Int) (a1_0 : Int) (A1_1 : Option Addr) (c1_1 : Nat) (n1_1 : Nat) (l1_1 : List SStep) (A1_2 : Option Addr) (c1_2 : Nat) (n1_2 : Nat) (l1_2 : List Int) (Z : Below w0.heap.size w0 ws) (hF : Fr w0 ws P0 [] ws) (R0_1 : Stable ws P0 (fun w => Kd.C kStep w A0_1 n0_1 l0_1)) (hc0_1 : n0_1 ≤ c0_1) (R0_2 : Stable ws P0 (fun w => Kd.C (Kd.int .i64) w A0_2 n0_2 l0_2)) (hc0_2 : n0_2 ≤ c0_2) (R1_1 : Stable ws P0 (fun w => Kd.C kStep w A1_1 n1_1 l1_1)) (hc1_1 : n1_1 ≤ c1_1) (R1_2 : Stable ws P0 (fun w => Kd.C (Kd.int .i64) w A1_2 n1_2 l1_2)) (hc1_2 : n1_2 ≤ c1_2) (r_1 : Bool) (h : laws_eqPlan.f k a0_0 l0_1 l0_2 a1_0 l1_1 l1_2 = some r_1) :
    Calls Try.prog 23 #[.agg #[.int .i64 a0_0, .slice A0_1 n0_1 c0_1, .slice A0_2 n0_2 c0_2], .agg #[.int .i64 a1_0, .slice A1_1 n1_1 c1_1, .slice A1_2 n1_2 c1_2]] ws (Post1 w0 ws P0 (fun (_ : Unit) => .bool r_1) (fun (_ : Unit) => [])) := by
  unfold laws_eqPlan.f at h
  obtain rfl := (R0_1 ws (KeptB.refl _ _)).1
  obtain rfl := (R0_2 ws (KeptB.refl _ _)).1
  obtain rfl := (R1_1 ws (KeptB.refl _ _)).1
  obtain rfl := (R1_2 ws (KeptB.refl _ _)).1
  refine enter Try.func23 rfl Try.ntmps23 rfl hF ?_
  refine c_seq ?_
  refine za0 ?_
  refine o_e rfl (e_box rfl) (fun g1 => ?_)
  refine o_e rfl (e_box rfl) (fun g3 => ?_)
  refine o_q rfl rfl (q_asg rfl) ?_
  refine o_end ?_
  refine za1 ?_
  refine c_seq ?_
  refine c_seq ?_
  refine za0 ?_
  refine o_q rfl rfl (q_f F36_0 rfl) ?_
  refine o_q rfl rfl (q_ldb Y3 rfl (fun w h => h.zaa (i := 1) rfl) rfl) ?_
  refine o_q rfl rfl (q_f F36_0 rfl) ?_
  refine o_q rfl rfl (q_ldb Y3 rfl (fun w h => h.zaa (i := 0) rfl) rfl) ?_
  refine o_q rfl rfl (q_neq rfl rfl) ?_
  refine o_end ?_
  refine za1 ?_
  refine zar _ rfl (fun hb5 => ?_) (fun hb5 => ?_)
  · skip
    replace h := br_t hb5 h
    refine c_seq ?_
    refine za0 ?_
    refine o_q rfl rfl (q_asg rfl) ?_
    refine o_end ?_
    refine za1 ?_
    refine c_ret ?_
    refine za5 ?_
    have e0_ := Option.some.inj h; clear h
    subst e0_
    exact x_r1 () Try.results23 (zab rfl) rfl (fun w h => za6 [] (by decide) rfl w h)
  · skip
    replace h := br_f hb5 h
    refine zaj ?_
    refine za1 ?_
    refine c_seq ?_
    refine c_seq ?_
    refine za0 ?_
    refine o_q rfl rfl (q_f F36_1 rfl) ?_
    refine o_q rfl rfl (q_ldb Y34 rfl (fun w h => h.zaa (i := 1) rfl) rfl) ?_
    refine o_q rfl rfl (q_f F36_1 rfl) ?_
    refine o_q rfl rfl (q_ldb Y34 rfl (fun w h => h.zaa (i := 0) rfl) rfl) ?_
    refine za8 h (fun b7 hx6 h => ?_) rfl
    refine o_e rfl (za9 0 Z Try.func63 N63 rfl rfl rfl (fun w P1 hF hB hS hT => laws_eqStepS.calls k A0_1 c0_1 l0_1.length l0_1 A1_1 c1_1 l1_1.length l1_1 hB hF (hS _ R0_1) hc0_1 (hS _ R1_1) hc1_1 _ hx6)) (fun _ => ?_)
    refine o_q rfl rfl (q_not rfl) ?_
    refine o_end ?_
    refine za1 ?_
    refine zar _ rfl (fun hb8 => ?_) (fun hb8 => ?_)
    · replace hb8 := nt_t hb8
      replace h := bb_f hb8 h
      refine c_seq ?_
      refine za0 ?_
      refine o_q rfl rfl (q_asg rfl) ?_
      refine o_end ?_
      refine za1 ?_
      refine c_ret ?_
      refine za5 ?_
      have e0_ := Option.some.inj h; clear h
      subst e0_
      exact x_r1 () Try.results23 (zab rfl) rfl (fun w h => za6 [] (by decide) rfl w h)
    · replace hb8 := nt_f hb8
      replace h := bb_t hb8 h
      refine zaj ?_
      refine za1 ?_
      refine c_seq ?_
      refine c_seq ?_
      refine za0 ?_
      refine o_q rfl rfl (q_f F36_2 rfl) ?_
      refine o_q rfl rfl (q_ldb Y22 rfl (fun w h => h.zaa (i := 1) rfl) rfl) ?_
      refine o_q rfl rfl (q_f F36_2 rfl) ?_
      refine o_q rfl rfl (q_ldb Y22 rfl (fun w h => h.zaa (i := 0) rfl) rfl) ?_
      refine za8 h (fun b10 hx9 h => ?_) rfl
      refine o_e rfl (za9 0 Z Try.func30 N30 rfl rfl rfl (fun w P1 hF hB hS hT => laws_eqIntS.calls k A0_2 c0_2 l0_2.length l0_2 A1_2 c1_2 l1_2.length l1_2 hB hF (hS _ R0_2) hc0_2 (hS _ R1_2) hc1_2 _ hx9)) (fun _ => ?_)
      refine o_q rfl rfl (q_not rfl) ?_
      refine o_end ?_
      refine za1 ?_
      refine zar _ rfl (fun hb11 => ?_) (fun hb11 => ?_)
      · replace hb11 := nt_t hb11
        replace h := bb_f hb11 h
        refine c_seq ?_
        refine za0 ?_
        refine o_q rfl rfl (q_asg rfl) ?_
        refine o_end ?_
        refine za1 ?_
        refine c_ret ?_
        refine za5 ?_
        have e0_ := Option.some.inj h; clear h
        subst e0_
        exact x_r1 () Try.results23 (zab rfl) rfl (fun w h => za6 [] (by decide) rfl w h)
      · replace hb11 := nt_f hb11
        replace h := bb_t hb11 h
        refine zaj ?_
        refine za1 ?_
        refine c_seq ?_
        refine za0 ?_
        refine o_q rfl rfl (q_asg rfl) ?_
        refine o_end ?_
        refine za1 ?_
        refine c_ret ?_
        have e0_ := Option.some.inj h; clear h
        subst e0_
        exact x_r1 () Try.results23 (zab rfl) rfl (fun w h => za6 [] (by decide) rfl w h)

/-! ### loop.example/g01098/laws.FnExactOrdersWithin: function 12 -/
def laws_FnExactOrdersWithin.f (k : Nat) (a0_0 : Int) (l0_1 : List SStep) (l0_2 : List Int) (a1 : Int) : Option Bool := (laws_szPlan.f a0_0 l0_1 l0_2 1048576).bind fun i4 => if i4 < 0 then (some true) else ((laws_toPlan.f k a0_0 l0_1 l0_2).bind fun (l7, l8) => (spec_OrdersWithin.f k a0_0 l7 l8 a1).bind fun (i14, b15) => (laws_toPlan.f k a0_0 l0_1 l0_2).bind fun (l17, l18) => (impl_OrdersWithin.f k a0_0 l17 l18 a1).bind fun (i26, b27) => if i26 ≠ i14 then (some false) else (if (b27 != b15) = true then (some false) else ((laws_toPlan.f k a0_0 l0_1 l0_2).bind fun (l31, l32) => (laws_eqPlan.f k a0_0 l17 l18 a0_0 l31 l32).bind fun b38 => if b38 = true then (some true) else (some false))))
set_option maxHeartbeats 600000 in
set_option maxRecDepth 100000 in
theorem laws_FnExactOrdersWithin.calls (k : Nat) {w0 ws : World} {P0 : Nat → Prop} (a0_0 : Int) (A0_1 : Option Addr) (c0_1 : Nat) (n0_1 : Nat) (l0_1 : List SStep) (A0_2 : Option Addr) (c0_2 : Nat) (n0_2 : Nat) (l0_2 : List Int) (a1 : Int) (Z : Below w0.heap.size w0 ws) (hF : Fr w0 ws P0 [] ws) (R0_1 : Stable ws P0 (fun w => Kd.C kStep w A0_1 n0_1 l0_1)) (hc0_1 : n0_1 ≤ c0_1) (R0_2 : Stable ws P0 (fun w => Kd.C (Kd.int .i64) w A0_2 n0_2 l0_2)) (hc0_2 : n0_2 ≤ c0_2) (r_1 : Bool) (h : laws_FnExactOrdersWithin.f k a0_0 l0_1 l0_2 a1 = some r_1) :
    Calls Try.prog 12 #[.agg #[.int .i64 a0_0, .slice A0_1 n0_1 c0_1, .slice A0_2 n0_2 c0_2], .int .i64 a1] ws (Post1 w0 ws P0 (fun (_ : Unit) => .bool r_1) (fun (_ : Unit) => [])) := by
  unfold laws_FnExactOrdersWithin.f at h
  obtain rfl := (R0_1 ws (KeptB.refl _ _)).1
  obtain rfl := (R0_2 ws (KeptB.refl _ _)).1
  refine enter Try.func12 rfl Try.ntmps12 rfl hF ?_
  refine c_seq ?_
  refine za0 ?_
  refine o_e rfl (e_box rfl) (fun g1 => ?_)
  refine o_q rfl rfl (q_asg rfl) ?_
  refine o_end ?_
  refine za1 ?_
  refine c_seq ?_
  refine za0 ?_
  refine o_q rfl rfl (q_asg rfl) ?_
  refine o_end ?_
  refine za1 ?_
  refine c_seq ?_
  refine za0 ?_
  refine o_q rfl rfl (q_ldB G50 Z50 rfl (fun w h => h.zaa (i := 0) rfl) rfl) ?_
  refine o_q rfl rfl (za2 rfl) ?_
  refine za8 h (fun i4 hx3 h => ?_) rfl
  refine o_e rfl (za9 0 Z Try.func33 N33 rfl rfl rfl (fun w P1 hF hB hS hT => laws_szPlan.calls a0_0 A0_1 c0_1 l0_1.length l0_1 A0_2 c0_2 l0_2.length l0_2 1048576 hB hF (hS _ R0_1) hc0_1 (hS _ R0_2) hc0_2 _ hx3)) (fun _ => ?_)
  refine o_q rfl rfl (q_asg rfl) ?_
  refine o_end ?_
  refine za1 ?_
  refine c_seq ?_
  refine c_seq ?_
  refine za0 ?_
  refine o_q rfl rfl (za2 rfl) ?_
  refine o_q rfl rfl (q_lss rfl rfl) ?_
  refine o_end ?_
  refine za1 ?_
  refine zar _ rfl (fun hb5 => ?_) (fun hb5 => ?_)
  · skip
    replace h := br_t hb5 h
    refine c_seq ?_
    refine za0 ?_
    refine o_q rfl rfl (q_asg rfl) ?_
    refine o_end ?_
    refine za1 ?_
    refine c_ret ?_
    refine za5 ?_
    have e0_ := Option.some.inj h; clear h
    subst e0_
    exact x_r1 () Try.results12 (zab rfl) rfl (fun w h => za6 [] (by decide) rfl w h)
  · skip
    replace h := br_f hb5 h
    refine zaj ?_
    refine za1 ?_
    refine c_seq ?_
    refine za0 ?_
    refine o_q rfl rfl (q_ldB G50 Z50 rfl (fun w h => h.zaa (i := 0) rfl) rfl) ?_
    refine bindE2 h (fun l7 l8 hx6 h => ?_) rfl
    refine o_e rfl (za9 0 Z Try.func35 N35 rfl rfl rfl (fun w P1 hF hB hS hT => laws_toPlan.calls k a0_0 A0_1 c0_1 l0_1.length l0_1 A0_2 c0_2 l0_2.length l0_2 hB hF (hS _ R0_1) hc0_1 (hS _ R0_2) hc0_2 _ _ hx6)) (cur4 (fun A9 c10 A11 c12 => ?_))
    refine o_q rfl rfl (za2 rfl) ?_
    refine bindE2 h (fun i14 b15 hx13 h => ?_) rfl
    refine o_e rfl (za9 0 Z Try.func47 N47 rfl rfl rfl (fun w P1 hF hB hS hT => spec_OrdersWithin.calls k a0_0 A9 c10 l7.length l7 A11 c12 l8.length l8 a1 hB hF (hT 0 _ rfl).row (hT 0 _ rfl).cap (hT 1 _ rfl).row (hT 1 _ rfl).cap _ _ hx13)) (fun _ => ?_)
    refine o_q rfl rfl (za2 rfl) ?_
    refine o_q rfl rfl (q_ext rfl rfl) ?_
    refine o_q rfl rfl (q_ext rfl rfl) ?_
    refine o_q rfl rfl (q_asg rfl) ?_
    refine o_q rfl rfl (q_asg rfl) ?_
    refine o_end ?_
    refine za1 ?_
    refine c_seq ?_
    refine za0 ?_
    refine o_q rfl rfl (q_ldB G50 Z50 rfl (fun w h => h.zaa (i := 2) rfl) rfl) ?_
    refine bindE2 h (fun l17 l18 hx16 h => ?_) rfl
    refine o_e rfl (za9 0 Z Try.func35 N35 rfl rfl rfl (fun w P1 hF hB hS hT => laws_toPlan.calls k a0_0 A0_1 c0_1 l0_1.length l0_1 A0_2 c0_2 l0_2.length l0_2 hB hF (hS _ R0_1) hc0_1 (hS _ R0_2) hc0_2 _ _ hx16)) (cur4 (fun A19 c20 A21 c22 => ?_))
    refine o_e rfl (e_alloc V36 rfl) (fun g23 => ?_)
    refine o_e rfl (e_storeA (i := 0) rfl rfl rfl Z36 rfl rfl) (fun _ => ?_)
    refine o_end ?_
    refine za1 ?_
    refine c_seq ?_
    refine za0 ?_
    refine o_q rfl rfl (q_ldB G36 Z36 rfl (fun w h => h.zaa (i := 0) rfl) rfl) ?_
    refine o_q rfl rfl (za2 rfl) ?_
    refine bindE2 h (fun i26 b27 hx25 h => ?_) rfl
    refine o_e rfl (za9 0 Z Try.func48 N48 rfl rfl rfl (fun w P1 hF hB hS hT => impl_OrdersWithin.calls k a0_0 A19 c20 l17.length l17 A21 c22 l18.length l18 a1 hB hF (hT 1 _ rfl).row (hT 1 _ rfl).cap (hT 2 _ rfl).row (hT 2 _ rfl).cap _ _ hx25)) (fun _ => ?_)
    refine o_q rfl rfl (za2 rfl) ?_
    refine o_q rfl rfl (q_ext rfl rfl) ?_
    refine o_q rfl rfl (q_ext rfl rfl) ?_
    refine o_q rfl rfl (q_asg rfl) ?_
    refine o_q rfl rfl (q_asg rfl) ?_
    refine o_end ?_
    refine za1 ?_
    refine c_seq ?_
    refine c_seq ?_
    refine za0 ?_
    refine o_q rfl rfl (za2 rfl) ?_
    refine o_q rfl rfl (za2 rfl) ?_
    refine o_q rfl rfl (q_neq rfl rfl) ?_
    refine o_q rfl rfl (za2 rfl) ?_
    refine byB (decide (i26 ≠ i14)) (fun hb28 => ?_) (fun hb28 => ?_)
    · replace h := br_t hb28 h
      refine @o_n _ _ _ _ _ _ _ _ _ _ _ 35 (za4 rfl rfl rfl (congrArg Value.bool hb28) rfl) (Eq.refl (some 35)) ?_
      refine @o_n _ _ _ _ _ _ _ _ _ _ _ 36 (za4 rfl rfl rfl (congrArg Value.bool hb28) rfl) (Eq.refl (some 36)) ?_
      refine @o_n _ _ _ _ _ _ _ _ _ _ _ 37 (za4 rfl rfl rfl (congrArg Value.bool hb28) rfl) (Eq.refl (some 37)) ?_
      refine o_q rfl rfl (zam true (congrArg Value.bool hb28) rfl) ?_
      refine o_end ?_
      refine za1 ?_
      refine c_true rfl ?_
      refine c_seq ?_
      refine za0 ?_
      refine o_q rfl rfl (q_asg rfl) ?_
      refine o_end ?_
      refine za1 ?_
      refine c_ret ?_
      refine za5 ?_
      have e0_ := Option.some.inj h; clear h
      subst e0_
      exact x_r1 () Try.results12 (zab rfl) rfl (fun w h => za6 [] (by decide) rfl w h)
    · replace h := br_f hb28 h
      refine o_w (za3 rfl rfl rfl (congrArg Value.bool hb28)) rfl (za2 rfl) ?_
      refine o_w (za3 rfl rfl rfl (congrArg Value.bool hb28)) rfl (za2 rfl) ?_
      refine o_w (za3 rfl rfl rfl (congrArg Value.bool hb28)) rfl (q_bneq Try.underlying4 rfl rfl) ?_
      refine o_q rfl rfl (zam false (congrArg Value.bool hb28) rfl) ?_
      refine o_end ?_
      refine za1 ?_
      refine zar _ rfl (fun hb29 => ?_) (fun hb29 => ?_)
      · skip
        replace h := bb_t hb29 h
        refine c_seq ?_
        refine za0 ?_
        refine o_q rfl rfl (q_asg rfl) ?_
        refine o_end ?_
        refine za1 ?_
        refine c_ret ?_
        refine za5 ?_
        have e0_ := Option.some.inj h; clear h
        subst e0_
        exact x_r1 () Try.results12 (zab rfl) rfl (fun w h => za6 [] (by decide) rfl w h)
      · skip
        replace h := bb_f hb29 h
        refine zaj ?_
        refine za1 ?_
        refine c_seq ?_
        refine c_seq ?_
        refine a_start (ds := []) MO rfl ?_
        refine a_take 0 rfl rfl rfl (by kernel_rfl) (fun _ _ _ h => h) (fun w h => h) (q_ldB G36 Z36 rfl (fun w h => h.zaa (i := 0) rfl) rfl) ?_
        refine a_take 1 rfl rfl rfl (by kernel_rfl) (fun _ _ _ h => h) (fun w h => h) (q_ldB G50 Z50 rfl (fun w h => h.zaa (i := 5) rfl) rfl) ?_
        refine bindE2 h (fun l31 l32 hx30 h => ?_) rfl
        refine a_one 2 rfl rfl (by kernel_rfl) rfl (za9 0 Z Try.func35 N35 rfl rfl rfl (fun w P1 hF hB hS hT => laws_toPlan.calls k a0_0 A0_1 c0_1 l0_1.length l0_1 A0_2 c0_2 l0_2.length l0_2 hB hF (hS _ R0_1) hc0_1 (hS _ R0_2) hc0_2 _ _ hx30)) (fun s w h => zal [some 2, some 3, some 4, some 5, some 6, some 7] (by decide) w h rfl) (cur4 (fun A33 c34 A35 c36 => ?_))
        refine za8 h (fun b38 hx37 h => ?_) rfl
        refine a_one 3 rfl rfl (by kernel_rfl) rfl (za9 0 Z Try.func23 N23 rfl rfl rfl (fun w P1 hF hB hS hT => laws_eqPlan.calls k a0_0 A19 c20 l17.length l17 A21 c22 l18.length l18 a0_0 A33 c34 l31.length l31 A35 c36 l32.length l32 hB hF (hT 3 _ rfl).row (hT 3 _ rfl).cap (hT 4 _ rfl).row (hT 4 _ rfl).cap (hT 0 _ rfl).row (hT 0 _ rfl).cap (hT 1 _ rfl).row (hT 1 _ rfl).cap _ hx37)) (fun s w h => zal [some 2, some 3, some 4, some 5, some 6, some 7] (by decide) w h rfl) (fun _ => ?_)
        refine zac 4 rfl rfl rfl (by kernel_rfl) (fun _ _ _ h => h) (q_not rfl) ?_
        refine a_done (by kernel_rfl) ?_
        refine za1 ?_
        refine zar _ rfl (fun hb39 => ?_) (fun hb39 => ?_)
        · replace hb39 := nt_t hb39
          replace h := bb_f hb39 h
          refine c_seq ?_
          refine za0 ?_
          refine o_q rfl rfl (q_asg rfl) ?_
          refine o_end ?_
          refine za1 ?_
          refine c_ret ?_
          refine za5 ?_
          have e0_ := Option.some.inj h; clear h
          subst e0_
          exact x_r1 () Try.results12 (zab rfl) rfl (fun w h => za6 [] (by decide) rfl w h)
        · replace hb39 := nt_f hb39
          replace h := bb_t hb39 h
          refine zaj ?_
          refine za1 ?_
          refine c_seq ?_
          refine za0 ?_
          refine o_q rfl rfl (q_asg rfl) ?_
          refine o_end ?_
          refine za1 ?_
          refine c_ret ?_
          have e0_ := Option.some.inj h; clear h
          subst e0_
          exact x_r1 () Try.results12 (zab rfl) rfl (fun w h => za6 [] (by decide) rfl w h)

/-! ### loop.example/g01098/spec.reBest: function 110 -/
def spec_reBest.l0 (k : Nat) (a0_0 : Int) (l0_1 : List SStep) (l0_2 : List Int) : (List (List Int)) → (List Int) → Int → Int → Option ((List Int) × Int)
  | [], l8, i12, i13 => some (l8, i13)
  | y14 :: ys15, l8, i12, i13 => (spec_rePressure.f k a0_0 l0_1 l0_2 y14).bind fun i27 => if i27 < i13 then (spec_reBest.l0 k a0_0 l0_1 l0_2 ys15 y14 (i12 + 1) i27) else (spec_reBest.l0 k a0_0 l0_1 l0_2 ys15 l8 (i12 + 1) i13)
def spec_reBest.f (k : Nat) (a0_0 : Int) (l0_1 : List SStep) (l0_2 : List Int) : Option ((List Int) × Int) := (spec_reOrders.f k a0_0 l0_1 l0_2 []).bind fun l4 => (spec_reBest.l0 k a0_0 l0_1 l0_2 l4 [] 0 47).bind fun (l8, i13) => some (l8, i13)
set_option maxHeartbeats 600000 in
set_option maxRecDepth 100000 in
theorem spec_reBest.calls (k : Nat) {w0 ws : World} {P0 : Nat → Prop} (a0_0 : Int) (A0_1 : Option Addr) (c0_1 : Nat) (n0_1 : Nat) (l0_1 : List SStep) (A0_2 : Option Addr) (c0_2 : Nat) (n0_2 : Nat) (l0_2 : List Int) (Z : Below w0.heap.size w0 ws) (hF : Fr w0 ws P0 [] ws) (R0_1 : Stable ws P0 (fun w => Kd.C kStep w A0_1 n0_1 l0_1)) (hc0_1 : n0_1 ≤ c0_1) (R0_2 : Stable ws P0 (fun w => Kd.C (Kd.int .i64) w A0_2 n0_2 l0_2)) (hc0_2 : n0_2 ≤ c0_2) (r_1 : List Int) (r_4 : Int) (h : spec_reBest.f k a0_0 l0_1 l0_2 = some (r_1, r_4)) :
    Calls Try.prog 110 #[.agg #[.int .i64 a0_0, .slice A0_1 n0_1 c0_1, .slice A0_2 n0_2 c0_2]] ws (Post1 w0 ws P0 (fun ((q_2, q_3) : (Option Addr) × Nat) => .tuple #[.slice q_2 r_1.length q_3, .int .i64 r_4]) (fun ((q_2, q_3) : (Option Addr) × Nat) => [row (Kd.int .i64) 3 (.slice q_2 r_1.length q_3) r_1])) := by
  unfold spec_reBest.f at h
  obtain rfl := (R0_1 ws (KeptB.refl _ _)).1
  obtain rfl := (R0_2 ws (KeptB.refl _ _)).1
  refine enter Try.func110 rfl Try.ntmps110 rfl hF ?_
  refine c_seq ?_
  refine za0 ?_
  refine o_e rfl (e_box rfl) (fun g1 => ?_)
  refine o_q rfl rfl (q_asg rfl) ?_
  refine o_q rfl rfl (q_asg rfl) ?_
  refine o_end ?_
  refine za1 ?_
  refine c_seq ?_
  refine za0 ?_
  refine o_q rfl rfl (q_asg rfl) ?_
  refine o_end ?_
  refine za1 ?_
  refine c_seq ?_
  refine za0 ?_
  refine o_q rfl rfl (q_asg rfl) ?_
  refine o_end ?_
  refine za1 ?_
  refine c_seq ?_
  refine c_seq ?_
  refine za0 ?_
  refine o_q rfl rfl (q_ldB G36 Z36 rfl (fun w h => h.zaa (i := 0) rfl) rfl) ?_
  refine za8 h (fun l4 hx3 h => ?_) rfl
  refine o_e rfl (za9 0 Z Try.func106 N106 rfl rfl rfl (fun w P1 hF hB hS hT => spec_reOrders.calls k a0_0 A0_1 c0_1 l0_1.length l0_1 A0_2 c0_2 l0_2.length l0_2 none 0 0 [] hB hF (hS _ R0_1) hc0_1 (hS _ R0_2) hc0_2 (stab_nil _) (Nat.le_refl 0) _ hx3)) (cur3 (fun A5 c6 H7 => ?_))
  refine o_q rfl rfl (q_len Try.underlying109 rfl) ?_
  refine o_q rfl rfl (za2 rfl) ?_
  refine o_end ?_
  refine za1 ?_
  refine zan ?_
  refine za8 h (fun o21 hl20 hR19 => ?_) rfl
  clear h
  refine c_fact (p := l4.length ≤ 9223372036854775807) (fun w h => (h.zat (i := 0) rfl).2.1) (fun hm18 => ?_)
  refine zaw (σ := (List (List Int)) × (List Int) × Int × Int × (Option Addr) × Nat) (fun k16 ((ys15, l8, i12, i13, A9, c10) : (List (List Int)) × (List Int) × Int × Int × (Option Addr) × Nat) => Rg l4 i12 ys15 ∧ ys15.length = k16 ∧ spec_reBest.l0 k a0_0 l0_1 l0_2 ys15 l8 i12 i13 = some o21 ∧ Pk H7 l4 A9 c10 l8) [4, 5, 7, 8, 12, 13, 14, 15, 16, 17, 18, 19, 20, 21, 22, 23, 24] (fun ((ys15, l8, i12, i13, A9, c10) : (List (List Int)) × (List Int) × Int × Int × (Option Addr) × Nat) => [(4, .slice A9 l8.length c10), (5, .int .i64 i13), (12, .int .i64 i12)]) (fun ((ys15, l8, i12, i13, A9, c10) : (List (List Int)) × (List Int) × Int × Int × (Option Addr) × Nat) => [row (gk 3 (Kd.int .i64)) 22 (.slice A5 l4.length c6) (zp H7 l4), box g1 36 #[.int .i64 a0_0, .slice A0_1 l0_1.length c0_1, .slice A0_2 l0_2.length c0_2]]) l4.length (l4, [], 0, 47, none, 0) ⟨Rg.start _, rfl, hl20, Pk.nil⟩ ⟨rfl, rfl, rfl, trivial⟩ (fun w h => h) ?_
  refine fun k16 => cur6 (listC (fun l8 i12 i13 A9 c10 U22 hJ_ => ?_) (fun y14 ys15 l8 i12 i13 A9 c10 U22 hJ_ => ?_))
  · skip
    clear hl20
    have hr17 := hJ_.1; have hk23 := hJ_.2.1; have h := hJ_.2.2; clear hJ_
    have hpk_ := h.2; replace h := h.1
    have hp11 := hpk_; clear hpk_
    replace h : spec_reBest.l0 k a0_0 l0_1 l0_2 [] l8 i12 i13 = some o21 := h
    rw [spec_reBest.l0] at h
    refine c_seq ?_
    refine za0 ?_
    refine o_q rfl rfl (q_lss rfl rfl) ?_
    refine o_end ?_
    refine za1 ?_
    refine c_seq ?_
    refine c_false (congrArg Value.bool hr17.ge) ?_
    refine c_exit ?_
    refine za7 ?_
    refine za7 ?_
    have e_ := Option.some.inj h; replace h := hR19; rw [← e_] at h; clear e_
    refine x_hit ?_
    refine za1 ?_
    refine c_seq ?_
    refine za0 ?_
    refine o_q rfl rfl (za2 rfl) ?_
    refine o_q rfl rfl (za2 rfl) ?_
    refine o_q rfl rfl (q_asg rfl) ?_
    refine o_q rfl rfl (q_asg rfl) ?_
    refine o_end ?_
    refine za1 ?_
    refine c_ret ?_
    refine x_takeP (i := 0) rfl hp11 ?_
    have e0_ := Option.some.inj h; clear h
    have d0_ := (Prod.mk.inj e0_).1; have e1_ := (Prod.mk.inj e0_).2; clear e0_; subst d0_
    subst e1_
    exact x_r2 (A9, c10) Try.results110 (zab rfl) (zab rfl) rfl (fun w h => za6 [0] (by decide) rfl w h)
  · skip
    clear hl20
    have hr17 := hJ_.1; have hk23 := hJ_.2.1; have h := hJ_.2.2; clear hJ_
    have hpk_ := h.2; replace h := h.1
    have hp11 := hpk_; clear hpk_
    replace h : spec_reBest.l0 k a0_0 l0_1 l0_2 (y14 :: ys15) l8 i12 i13 = some o21 := h
    rw [spec_reBest.l0] at h
    refine c_seq ?_
    refine za0 ?_
    refine o_q rfl rfl (q_lss rfl rfl) ?_
    refine o_end ?_
    refine za1 ?_
    refine c_seq ?_
    refine c_true (congrArg Value.bool hr17.lt) ?_
    refine zaj ?_
    refine za1 ?_
    refine c_seq ?_
    refine zan ?_
    refine c_seq ?_
    refine za0 ?_
    refine zav (p := Sh A5 l4.length (zp H7 l4).length) (fun w h => f_sh (dk := (gk 3 (Kd.int .i64))) h (fun w h => h.zat (i := 0) rfl)) (fun hq24 => ?_)
    refine o_q rfl rfl (q_ix Try.underlying109 Z22 rfl rfl hq24 (gt_zp hr17.get)) ?_
    refine zav (p := y14.length ≤ hC H7 i12) (fun w h => (K_in (h.zat (i := 0) rfl) hr17.get).1) (fun hc25 => ?_)
    refine o_q rfl rfl (q_lde (off := 0) Y22 rfl rfl (fun w h => h.zat (i := 0) rfl) (gt_zp hr17.get) (fun _ _ h => h.1) rfl) ?_
    refine o_q rfl rfl (q_asg rfl) ?_
    refine o_end ?_
    refine za1 ?_
    refine c_seq ?_
    refine za0 ?_
    refine o_q rfl rfl (q_ldB G36 Z36 rfl (fun w h => h.zaa (i := 1) rfl) rfl) ?_
    refine o_q rfl rfl (za2 rfl) ?_
    refine za8 h (fun i27 hx26 h => ?_) rfl
    refine o_e rfl (za9 0 Z Try.func107 N107 rfl rfl rfl (fun w P1 hF hB hS hT => spec_rePressure.calls k a0_0 A0_1 c0_1 l0_1.length l0_1 A0_2 c0_2 l0_2.length l0_2 (hA H7 i12) (hC H7 i12) y14.length y14 hB hF (hS _ R0_1) hc0_1 (hS _ R0_2) hc0_2 (stab_in (hT 0 _ rfl).row hr17.get) hc25 _ hx26)) (fun _ => ?_)
    refine o_q rfl rfl (q_asg rfl) ?_
    refine o_end ?_
    refine za1 ?_
    refine c_seq ?_
    refine za0 ?_
    refine o_q rfl rfl (za2 rfl) ?_
    refine o_q rfl rfl (za2 rfl) ?_
    refine o_q rfl rfl (q_lss rfl rfl) ?_
    refine o_end ?_
    refine za1 ?_
    refine zar _ rfl (fun hb28 => ?_) (fun hb28 => ?_)
    · skip
      replace h := br_t hb28 h
      refine c_seq ?_
      refine za0 ?_
      refine o_q rfl rfl (za2 rfl) ?_
      refine o_q rfl rfl (q_asg rfl) ?_
      refine o_end ?_
      refine za1 ?_
      refine za0 ?_
      refine o_q rfl rfl (za2 rfl) ?_
      refine o_q rfl rfl (q_asg rfl) ?_
      refine o_end ?_
      refine zao ?_
      refine za1 ?_
      refine za0 ?_
      refine o_q rfl rfl (q_up rfl rfl (hr17.up hm18)) ?_
      refine o_q rfl rfl (za2 rfl) ?_
      refine o_end ?_
      refine zaf ys15.length (ys15, y14, i12 + 1, i27, hA H7 i12, hC H7 i12) (by rw [← hk23]; exact Nat.lt_succ_self _) ⟨hr17.step, rfl, h, (Pk.inn hr17.get)⟩ ⟨rfl, rfl, rfl, trivial⟩ (fun w h => za6 [0, 1] (by decide) rfl w h) ?_
      repeat (first | exact zad _ _ | refine zah rfl ?_ | refine zae rfl ?_ | refine zai rfl ?_)
    · skip
      replace h := br_f hb28 h
      refine zaj ?_
      refine zao ?_
      refine za1 ?_
      refine za0 ?_
      refine o_q rfl rfl (q_up rfl rfl (hr17.up hm18)) ?_
      refine o_q rfl rfl (za2 rfl) ?_
      refine o_end ?_
      refine zaf ys15.length (ys15, l8, i12 + 1, i13, A9, c10) (by rw [← hk23]; exact Nat.lt_succ_self _) ⟨hr17.step, rfl, h, hp11⟩ ⟨rfl, rfl, rfl, trivial⟩ (fun w h => za6 [0, 1] (by decide) rfl w h) ?_
      repeat (first | exact zad _ _ | refine zah rfl ?_ | refine zae rfl ?_ | refine zai rfl ?_)

/-! ### loop.example/g01098/spec.FewestRegisters: function 49 -/
def spec_FewestRegisters.f (k : Nat) (a0_0 : Int) (l0_1 : List SStep) (l0_2 : List Int) : Option (Int × Bool) := (spec_reFew.f k a0_0 l0_1 l0_2).bind fun b4 => if b4 = true then ((spec_reBest.f k a0_0 l0_1 l0_2).bind fun (l7, i8) => some (i8, true)) else (some (0, false))
set_option maxHeartbeats 600000 in
set_option maxRecDepth 100000 in
theorem spec_FewestRegisters.calls (k : Nat) {w0 ws : World} {P0 : Nat → Prop} (a0_0 : Int) (A0_1 : Option Addr) (c0_1 : Nat) (n0_1 : Nat) (l0_1 : List SStep) (A0_2 : Option Addr) (c0_2 : Nat) (n0_2 : Nat) (l0_2 : List Int) (Z : Below w0.heap.size w0 ws) (hF : Fr w0 ws P0 [] ws) (R0_1 : Stable ws P0 (fun w => Kd.C kStep w A0_1 n0_1 l0_1)) (hc0_1 : n0_1 ≤ c0_1) (R0_2 : Stable ws P0 (fun w => Kd.C (Kd.int .i64) w A0_2 n0_2 l0_2)) (hc0_2 : n0_2 ≤ c0_2) (r_1 : Int) (r_2 : Bool) (h : spec_FewestRegisters.f k a0_0 l0_1 l0_2 = some (r_1, r_2)) :
    Calls Try.prog 49 #[.agg #[.int .i64 a0_0, .slice A0_1 n0_1 c0_1, .slice A0_2 n0_2 c0_2]] ws (Post1 w0 ws P0 (fun (_ : Unit) => .tuple #[.int .i64 r_1, .bool r_2]) (fun (_ : Unit) => [])) := by
  unfold spec_FewestRegisters.f at h
  obtain rfl := (R0_1 ws (KeptB.refl _ _)).1
  obtain rfl := (R0_2 ws (KeptB.refl _ _)).1
  refine enter Try.func49 rfl Try.ntmps49 rfl hF ?_
  refine c_seq ?_
  refine za0 ?_
  refine o_e rfl (e_box rfl) (fun g1 => ?_)
  refine o_q rfl rfl (q_asg rfl) ?_
  refine o_q rfl rfl (q_asg rfl) ?_
  refine o_end ?_
  refine za1 ?_
  refine c_seq ?_
  refine c_seq ?_
  refine za0 ?_
  refine o_q rfl rfl (q_ldB G36 Z36 rfl (fun w h => h.zaa (i := 0) rfl) rfl) ?_
  refine za8 h (fun b4 hx3 h => ?_) rfl
  refine o_e rfl (za9 0 Z Try.func105 N105 rfl rfl rfl (fun w P1 hF hB hS hT => spec_reFew.calls k a0_0 A0_1 c0_1 l0_1.length l0_1 A0_2 c0_2 l0_2.length l0_2 hB hF (hS _ R0_1) hc0_1 (hS _ R0_2) hc0_2 _ hx3)) (fun _ => ?_)
  refine o_q rfl rfl (q_not rfl) ?_
  refine o_end ?_
  refine za1 ?_
  refine zar _ rfl (fun hb5 => ?_) (fun hb5 => ?_)
  · replace hb5 := nt_t hb5
    replace h := bb_f hb5 h
    refine c_seq ?_
    refine za0 ?_
    refine o_q rfl rfl (q_asg rfl) ?_
    refine o_q rfl rfl (q_asg rfl) ?_
    refine o_end ?_
    refine za1 ?_
    refine c_ret ?_
    refine za5 ?_
    have e0_ := Option.some.inj h; clear h
    have d0_ := (Prod.mk.inj e0_).1; have e1_ := (Prod.mk.inj e0_).2; clear e0_; subst d0_
    subst e1_
    exact x_r2 () Try.results49 (zab rfl) (zab rfl) rfl (fun w h => za6 [] (by decide) rfl w h)
  · replace hb5 := nt_f hb5
    replace h := bb_t hb5 h
    refine zaj ?_
    refine za1 ?_
    refine c_seq ?_
    refine za0 ?_
    refine o_q rfl rfl (q_ldB G36 Z36 rfl (fun w h => h.zaa (i := 0) rfl) rfl) ?_
    refine bindE2 h (fun l7 i8 hx6 h => ?_) rfl
    refine o_e rfl (za9 0 Z Try.func110 N110 rfl rfl rfl (fun w P1 hF hB hS hT => spec_reBest.calls k a0_0 A0_1 c0_1 l0_1.length l0_1 A0_2 c0_2 l0_2.length l0_2 hB hF (hS _ R0_1) hc0_1 (hS _ R0_2) hc0_2 _ _ hx6)) (cur2 (fun A9 c10 => ?_))
    refine o_q rfl rfl (za2 rfl) ?_
    refine o_q rfl rfl (q_ext rfl rfl) ?_
    refine o_q rfl rfl (q_ext rfl rfl) ?_
    refine o_q rfl rfl (q_asg rfl) ?_
    refine o_q rfl rfl (q_asg rfl) ?_
    refine o_end ?_
    refine za1 ?_
    refine c_seq ?_
    refine za0 ?_
    refine o_q rfl rfl (za2 rfl) ?_
    refine o_q rfl rfl (q_asg rfl) ?_
    refine o_q rfl rfl (q_asg rfl) ?_
    refine o_end ?_
    refine za1 ?_
    refine c_ret ?_
    have e0_ := Option.some.inj h; clear h
    have d0_ := (Prod.mk.inj e0_).1; have e1_ := (Prod.mk.inj e0_).2; clear e0_; subst d0_
    subst e1_
    exact x_r2 () Try.results49 (zab rfl) (zab rfl) rfl (fun w h => za6 [] (by decide) rfl w h)

/-! ### slices.Clone[[]int,int]: function 163 -/
def slices_Clone_int_int.f (l0 : List Int) : Option (List Int) := (ap ([] : List Int) l0).bind fun l5 => some l5
set_option maxHeartbeats 600000 in
set_option maxRecDepth 100000 in
theorem slices_Clone_int_int.calls {w0 ws : World} {P0 : Nat → Prop} (A0 : Option Addr) (c0 : Nat) (n0 : Nat) (l0 : List Int) (Z : Below w0.heap.size w0 ws) (hF : Fr w0 ws P0 [] ws) (R0 : Stable ws P0 (fun w => Kd.C (Kd.int .i64) w A0 n0 l0)) (hc0 : n0 ≤ c0) (r_1 : List Int) (h : slices_Clone_int_int.f l0 = some r_1) :
    Calls Try.prog 163 #[.slice A0 n0 c0] ws (Post1 w0 ws P0 (fun ((q_2, q_3) : (Option Addr) × Nat) => .slice q_2 r_1.length q_3) (fun ((q_2, q_3) : (Option Addr) × Nat) => [row (Kd.int .i64) 3 (.slice q_2 r_1.length q_3) r_1])) := by
  unfold slices_Clone_int_int.f at h
  obtain rfl := (R0 ws (KeptB.refl _ _)).1
  refine enter Try.func163 rfl Try.ntmps163 rfl hF ?_
  refine c_seq ?_
  refine za0 ?_
  refine o_q rfl rfl (q_asg rfl) ?_
  refine o_end ?_
  refine za1 ?_
  refine c_seq ?_
  refine c_seq ?_
  refine za0 ?_
  refine o_q rfl rfl (za2 rfl) ?_
  refine o_q rfl rfl (q_snil Try.underlying22 rfl rfl) ?_
  refine o_end ?_
  refine za1 ?_
  refine zar _ rfl (fun hb1 => ?_) (fun hb1 => ?_)
  · skip
    have hl_ := nil_of hb1 (R0 ws (KeptB.refl _ _)); subst hl_
    replace h : some ([] : List Int) = some r_1 := h
    refine c_seq ?_
    refine za0 ?_
    refine o_q rfl rfl (q_asg rfl) ?_
    refine o_end ?_
    refine za1 ?_
    refine c_ret ?_
    refine za5 ?_
    refine x_nil (Kd.int .i64) 3 ?_
    have e0_ := Option.some.inj h; clear h
    subst e0_
    exact x_r1 (none, 0) Try.results163 (zab rfl) rfl (fun w h => za6 [0] (by decide) rfl w h)
  · skip
    refine zaj ?_
    refine za1 ?_
    refine c_seq ?_
    refine za0 ?_
    refine o_e rfl (e_lit0 (Kd.int .i64) Try.underlying22 I3) (cur2 (fun A2 c3 => ?_))
    refine o_q rfl rfl (za2 rfl) ?_
    refine za8 h (fun l5 ha6 h => ?_) rfl
    refine o_e rfl (e_appr (i := 0) Try.underlying22 I3 rfl (by decide) (by decide) (fun _ _ _ _ h => h) rfl (fun w h => R0.now Z h) rfl rfl ha6) (cur2 (fun A7 c8 => ?_))
    refine o_q rfl rfl (q_asg rfl) ?_
    refine o_end ?_
    refine za1 ?_
    refine c_ret ?_
    have e0_ := Option.some.inj h; clear h
    subst e0_
    exact x_r1 (A7, c8) Try.results163 (zab rfl) rfl (fun w h => za6 [0] (by decide) rfl w h)

/-! ### (*loop.example/g01098/impl.Plan).best$1: function 167 -/
def impl_Plan_best_1.f (l0 : List Int) (a1_0_0 : Int) (l1_0_1 : List SStep) (l1_0_2 : List Int) (a2_0 : Int) (l3_0 : List Int) : Option (Int × (List Int)) := (impl_Plan_pressure.f a1_0_0 l1_0_1 l1_0_2 l0).bind fun i2 => (if a2_0 < 0 then (some true) else (some (decide (i2 < a2_0)))).bind fun b4 => if b4 = true then ((slices_Clone_int_int.f l0).bind fun l13 => some (i2, l13)) else (some (a2_0, l3_0))
set_option maxHeartbeats 600000 in
set_option maxRecDepth 100000 in
theorem impl_Plan_best_1.calls {w0 ws : World} {P0 : Nat → Prop} (A0 : Option Addr) (c0 : Nat) (n0 : Nat) (l0 : List Int) (g1 : Nat) (g1_0 : Nat) (a1_0_0 : Int) (A1_0_1 : Option Addr) (c1_0_1 : Nat) (n1_0_1 : Nat) (l1_0_1 : List SStep) (A1_0_2 : Option Addr) (c1_0_2 : Nat) (n1_0_2 : Nat) (l1_0_2 : List Int) (g2 : Nat) (a2_0 : Int) (g3 : Nat) (A3_0 : Option Addr) (c3_0 : Nat) (n3_0 : Nat) (l3_0 : List Int) (Z : Below w0.heap.size w0 ws) (hF : Fr w0 ws P0 [box g2 3 #[.int .i64 a2_0], box g3 22 #[.slice A3_0 n3_0 c3_0], row (Kd.int .i64) 3 (.slice A3_0 n3_0 c3_0) l3_0] ws) (R0 : Stable ws P0 (fun w => Kd.C (Kd.int .i64) w A0 n0 l0)) (hc0 : n0 ≤ c0) (R1_0_1 : Stable ws P0 (fun w => Kd.C kStep w A1_0_1 n1_0_1 l1_0_1)) (hc1_0_1 : n1_0_1 ≤ c1_0_1) (R1_0_2 : Stable ws P0 (fun w => Kd.C (Kd.int .i64) w A1_0_2 n1_0_2 l1_0_2)) (hc1_0_2 : n1_0_2 ≤ c1_0_2) (B1_0 : Stable ws P0 (fun w => w.heap[g1_0]? = some (.cells #[.int .i64 a1_0_0, .slice A1_0_1 n1_0_1 c1_0_1, .slice A1_0_2 n1_0_2 c1_0_2] 36 (0, 0)))) (B1 : Stable ws P0 (fun w => w.heap[g1]? = some (.cells #[.pointer (some ⟨g1_0, 0, none⟩)] 88 (0, 0)))) (r_1 : Int) (r_2 : List Int) (h : impl_Plan_best_1.f l0 a1_0_0 l1_0_1 l1_0_2 a2_0 l3_0 = some (r_1, r_2)) :
    Calls Try.prog 167 #[.slice A0 n0 c0, .pointer (some ⟨g1, 0, none⟩), .pointer (some ⟨g2, 0, none⟩), .pointer (some ⟨g3, 0, none⟩)] ws (Post1 w0 ws P0 (fun ((q_3, q_4) : (Option Addr) × Nat) => .tuple #[]) (fun ((q_3, q_4) : (Option Addr) × Nat) => [box g2 3 #[.int .i64 r_1], box g3 22 #[.slice q_3 r_2.length q_4], row (Kd.int .i64) 3 (.slice q_3 r_2.length q_4) r_2])) := by
  unfold impl_Plan_best_1.f at h
  obtain rfl := (hF.row_C (i := 2) rfl).2.1
  obtain rfl := (R0 ws (KeptB.refl _ _)).1
  obtain rfl := (R1_0_1 ws (KeptB.refl _ _)).1
  obtain rfl := (R1_0_2 ws (KeptB.refl _ _)).1
  refine enter Try.func167 rfl Try.ntmps167 rfl hF ?_
  refine c_seq ?_
  refine za0 ?_
  refine o_q rfl rfl (q_ldb Y88 rfl (fun w h => B1.now Z h) rfl) ?_
  refine o_q rfl rfl (za2 rfl) ?_
  refine za8 h (fun i2 hx1 h => ?_) rfl
  refine o_e rfl (za9 0 Z Try.func116 N116 rfl rfl rfl (fun w P1 hF hB hS hT => impl_Plan_pressure.calls g1_0 a1_0_0 A1_0_1 c1_0_1 l1_0_1.length l1_0_1 A1_0_2 c1_0_2 l1_0_2.length l1_0_2 A0 c0 l0.length l0 hB hF (hS _ R1_0_1) hc1_0_1 (hS _ R1_0_2) hc1_0_2 (hS _ B1_0) (hS _ R0) hc0 _ hx1)) (fun _ => ?_)
  refine o_q rfl rfl (q_asg rfl) ?_
  refine o_end ?_
  refine za1 ?_
  refine za8 h (fun o5 hl6 hR7 => ?_) rfl
  clear h
  refine c_cutJ (σ := Bool) (fun b4 => some b4 = some o5) [9, 10, 11, 12, 13, 14, 15] (fun b4 => [(15, .bool b4)]) (fun b4 => [box g2 3 #[.int .i64 a2_0], box g3 22 #[.slice A3_0 l3_0.length c3_0], row (Kd.int .i64) 3 (.slice A3_0 l3_0.length c3_0) l3_0]) ?_ ?_
  · skip
    have h := hl6; clear hl6
    clear hR7
    refine za0 ?_
    refine o_q rfl rfl (q_ldb Y3 rfl (fun w h => h.zaa (i := 0) rfl) rfl) ?_
    refine o_q rfl rfl (q_lss rfl rfl) ?_
    refine o_q rfl rfl (za2 rfl) ?_
    refine byB (decide (a2_0 < 0)) (fun hb10 => ?_) (fun hb10 => ?_)
    · replace h := br_t hb10 h
      refine @o_n _ _ _ _ _ _ _ _ _ _ _ 12 (za4 rfl rfl rfl (congrArg Value.bool hb10) rfl) (Eq.refl (some 12)) ?_
      refine @o_n _ _ _ _ _ _ _ _ _ _ _ 13 (za4 rfl rfl rfl (congrArg Value.bool hb10) rfl) (Eq.refl (some 13)) ?_
      refine @o_n _ _ _ _ _ _ _ _ _ _ _ 14 (za4 rfl rfl rfl (congrArg Value.bool hb10) rfl) (Eq.refl (some 14)) ?_
      refine o_q rfl rfl (zam true (congrArg Value.bool hb10) rfl) ?_
      refine o_end ?_
      refine x_meetJ true h ⟨rfl, trivial⟩ (fun w h => za6 [0, 1, 2] (by decide) rfl w h) ?_
      repeat (first | exact zad _ _ | refine zah rfl ?_ | refine zae rfl ?_ | refine zai rfl ?_)
    · replace h := br_f hb10 h
      refine o_w (za3 rfl rfl rfl (congrArg Value.bool hb10)) rfl (za2 rfl) ?_
      refine o_w (za3 rfl rfl rfl (congrArg Value.bool hb10)) rfl (q_ldb Y3 rfl (fun w h => h.zaa (i := 0) rfl) rfl) ?_
      refine o_w (za3 rfl rfl rfl (congrArg Value.bool hb10)) rfl (q_lss rfl rfl) ?_
      refine o_q rfl rfl (zam false (congrArg Value.bool hb10) rfl) ?_
      refine o_end ?_
      refine x_meetJ (decide (i2 < a2_0)) h ⟨rfl, trivial⟩ (fun w h => za6 [0, 1, 2] (by decide) rfl w h) ?_
      repeat (first | exact zad _ _ | refine zah rfl ?_ | refine zae rfl ?_ | refine zai rfl ?_)
  · skip
    refine (fun b4 => fun U8 hJ9 => ?_)
    have e_ := Option.some.inj hJ9; have h := hR7; rw [← e_] at h; clear e_ hJ9 hR7 hl6
    refine zar _ rfl (fun hb11 => ?_) (fun hb11 => ?_)
    · skip
      replace h := bb_t hb11 h
      refine za0 ?_
      refine o_q rfl rfl (za2 rfl) ?_
      refine za8 h (fun l13 hx12 h => ?_) rfl
      refine o_e rfl (za9 0 Z Try.func163 N163 rfl rfl rfl (fun w P1 hF hB hS hT => slices_Clone_int_int.calls A0 c0 l0.length l0 hB hF (hS _ R0) hc0 _ hx12)) (cur2 (fun A14 c15 => ?_))
      refine o_q rfl rfl (za2 rfl) ?_
      refine o_e rfl (e_store (i := 2) rfl rfl rfl rfl Z22 rfl rfl) (fun _ => ?_)
      refine o_e rfl (e_store (i := 1) rfl rfl rfl rfl Z3 rfl rfl) (fun _ => ?_)
      refine o_end ?_
      have e0_ := Option.some.inj h; clear h
      have d0_ := (Prod.mk.inj e0_).1; have e1_ := (Prod.mk.inj e0_).2; clear e0_; subst d0_
      subst e1_
      exact x_r0 (.inr rfl) (A14, c15) Try.results167 rfl (fun w h => za6 [1, 2, 0] (by decide) rfl w h)
    · skip
      replace h := bb_f hb11 h
      refine zaj ?_
      have e0_ := Option.some.inj h; clear h
      have d0_ := (Prod.mk.inj e0_).1; have e1_ := (Prod.mk.inj e0_).2; clear e0_; subst d0_
      subst e1_
      exact x_r0 (.inr rfl) (A3_0, c3_0) Try.results167 rfl (fun w h => za6 [0, 1, 2] (by decide) rfl w h)

/-! ### (*loop.example/g01098/impl.Plan).orders: function 165 -/
def impl_Plan_orders_2.l0 (self_ : Int → (List SStep) → (List Int) → (List Int) → Int → (List SStep) → (List Int) → Int → (List Int) → Option (Int × (List Int))) (a0_0 : Int) (l0_1 : List SStep) (l0_2 : List Int) (l1 : List Int) (a2_c0_0_0 : Int) (l2_c0_0_1 : List SStep) (l2_c0_0_2 : List Int) : (List SStep) → (List Int) → Int → Int → Option ((List Int) × Int)
  | [], l11, i14, i15 => some (l11, i14)
  | y16 :: ys17, l11, i14, i15 => ((slices_Contains_int_int.f l1 i15).bind fun b44 => if b44 = true then (some false) else ((impl_Plan_orders_1.f y16.f0 a0_0 l0_1 l0_2 l1).bind fun b47 => if b47 = true then ((impl_Plan_orders_1.f y16.f1 a0_0 l0_1 l0_2 l1).bind fun b50 => some b50) else (some false))).bind fun b37 => if b37 = true then ((slices_Clip_int_int.f l1).bind fun _ => (ap l1 ([i15] : List Int)).bind fun l353 => (self_ a0_0 l0_1 l0_2 l353 a2_c0_0_0 l2_c0_0_1 l2_c0_0_2 i14 l11).bind fun (i474, l475) => impl_Plan_orders_2.l0 self_ a0_0 l0_1 l0_2 l1 a2_c0_0_0 l2_c0_0_1 l2_c0_0_2 ys17 l475 i474 (i15 + 1)) else (impl_Plan_orders_2.l0 self_ a0_0 l0_1 l0_2 l1 a2_c0_0_0 l2_c0_0_1 l2_c0_0_2 ys17 l11 i14 (i15 + 1))
def impl_Plan_orders_2.f : Nat → Int → (List SStep) → (List Int) → (List Int) → Int → (List SStep) → (List Int) → Int → (List Int) → Option (Int × (List Int))
  | 0, _, _, _, _, _, _, _, _, _ => none
  | k + 1, a0_0, l0_1, l0_2, l1, a2_c0_0_0, l2_c0_0_1, l2_c0_0_2, a2_c1_0, l2_c2_0 => if (l1.length : Int) = (l0_1.length : Int) then ((impl_Plan_best_1.f l1 a2_c0_0_0 l2_c0_0_1 l2_c0_0_2 a2_c1_0 l2_c2_0).bind fun (i7, l8) => some (i7, l8)) else ((impl_Plan_orders_2.l0 (impl_Plan_orders_2.f k) a0_0 l0_1 l0_2 l1 a2_c0_0_0 l2_c0_0_1 l2_c0_0_2 l0_1 l2_c2_0 a2_c1_0 0).bind fun (l11, i14) => some (i14, l11))
set_option maxHeartbeats 600000 in
set_option maxRecDepth 100000 in
theorem impl_Plan_orders_2.calls : ∀ (k : Nat) {w0 ws : World} {P0 : Nat → Prop} (g0 : Nat) (a0_0 : Int) (A0_1 : Option Addr) (c0_1 : Nat) (n0_1 : Nat) (l0_1 : List SStep) (A0_2 : Option Addr) (c0_2 : Nat) (n0_2 : Nat) (l0_2 : List Int) (A1 : Option Addr) (c1 : Nat) (n1 : Nat) (l1 : List Int) (g2_c0 : Nat) (g2_c0_0 : Nat) (a2_c0_0_0 : Int) (A2_c0_0_1 : Option Addr) (c2_c0_0_1 : Nat) (n2_c0_0_1 : Nat) (l2_c0_0_1 : List SStep) (A2_c0_0_2 : Option Addr) (c2_c0_0_2 : Nat) (n2_c0_0_2 : Nat) (l2_c0_0_2 : List Int) (g2_c1 : Nat) (a2_c1_0 : Int) (g2_c2 : Nat) (A2_c2_0 : Option Addr) (c2_c2_0 : Nat) (n2_c2_0 : Nat) (l2_c2_0 : List Int) (Z : Below w0.heap.size w0 ws) (hF : Fr w0 ws P0 [box g2_c1 3 #[.int .i64 a2_c1_0], box g2_c2 22 #[.slice A2_c2_0 n2_c2_0 c2_c2_0], row (Kd.int .i64) 3 (.slice A2_c2_0 n2_c2_0 c2_c2_0) l2_c2_0] ws) (R0_1 : Stable ws P0 (fun w => Kd.C kStep w A0_1 n0_1 l0_1)) (hc0_1 : n0_1 ≤ c0_1) (R0_2 : Stable ws P0 (fun w => Kd.C (Kd.int .i64) w A0_2 n0_2 l0_2)) (hc0_2 : n0_2 ≤ c0_2) (B0 : Stable ws P0 (fun w => w.heap[g0]? = some (.cells #[.int .i64 a0_0, .slice A0_1 n0_1 c0_1, .slice A0_2 n0_2 c0_2] 36 (0, 0)))) (R1 : Stable ws P0 (fun w => Kd.C (Kd.int .i64) w A1 n1 l1)) (hc1 : n1 ≤ c1) (R2_c0_0_1 : Stable ws P0 (fun w => Kd.C kStep w A2_c0_0_1 n2_c0_0_1 l2_c0_0_1)) (hc2_c0_0_1 : n2_c0_0_1 ≤ c2_c0_0_1) (R2_c0_0_2 : Stable ws P0 (fun w => Kd.C (Kd.int .i64) w A2_c0_0_2 n2_c0_0_2 l2_c0_0_2)) (hc2_c0_0_2 : n2_c0_0_2 ≤ c2_c0_0_2) (B2_c0_0 : Stable ws P0 (fun w => w.heap[g2_c0_0]? = some (.cells #[.int .i64 a2_c0_0_0, .slice A2_c0_0_1 n2_c0_0_1 c2_c0_0_1, .slice A2_c0_0_2 n2_c0_0_2 c2_c0_0_2] 36 (0, 0)))) (B2_c0 : Stable ws P0 (fun w => w.heap[g2_c0]? = some (.cells #[.pointer (some ⟨g2_c0_0, 0, none⟩)] 88 (0, 0)))) (r_1 : Int) (r_2 : List Int) (h : impl_Plan_orders_2.f k a0_0 l0_1 l0_2 l1 a2_c0_0_0 l2_c0_0_1 l2_c0_0_2 a2_c1_0 l2_c2_0 = some (r_1, r_2)),
    Calls Try.prog 165 #[.pointer (some ⟨g0, 0, none⟩), .slice A1 n1 c1, .func (.func 167) #[] #[.pointer (some ⟨g2_c0, 0, none⟩), .pointer (some ⟨g2_c1, 0, none⟩), .pointer (some ⟨g2_c2, 0, none⟩)]] ws (Post1 w0 ws P0 (fun ((q_3, q_4) : (Option Addr) × Nat) => .tuple #[]) (fun ((q_3, q_4) : (Option Addr) × Nat) => [box g2_c1 3 #[.int .i64 r_1], box g2_c2 22 #[.slice q_3 r_2.length q_4], row (Kd.int .i64) 3 (.slice q_3 r_2.length q_4) r_2])) := by
  intro k
  induction k with
  | zero =>
    intros
    rename_i h
    cases h
  | succ k ih =>
    intro w0 ws P0 g0 a0_0 A0_1 c0_1 n0_1 l0_1 A0_2 c0_2 n0_2 l0_2 A1 c1 n1 l1 g2_c0 g2_c0_0 a2_c0_0_0 A2_c0_0_1 c2_c0_0_1 n2_c0_0_1 l2_c0_0_1 A2_c0_0_2 c2_c0_0_2 n2_c0_0_2 l2_c0_0_2 g2_c1 a2_c1_0 g2_c2 A2_c2_0 c2_c2_0 n2_c2_0 l2_c2_0 Z hF R0_1 hc0_1 R0_2 hc0_2 B0 R1 hc1 R2_c0_0_1 hc2_c0_0_1 R2_c0_0_2 hc2_c0_0_2 B2_c0_0 B2_c0 r_1 r_2 h
    rw [impl_Plan_orders_2.f] at h
    obtain rfl := (hF.row_C (i := 2) rfl).2.1
    obtain rfl := (R0_1 ws (KeptB.refl _ _)).1
    obtain rfl := (R0_2 ws (KeptB.refl _ _)).1
    obtain rfl := (R1 ws (KeptB.refl _ _)).1
    obtain rfl := (R2_c0_0_1 ws (KeptB.refl _ _)).1
    obtain rfl := (R2_c0_0_2 ws (KeptB.refl _ _)).1
    refine enter Try.func165 rfl Try.ntmps165 rfl hF ?_
    refine c_seq ?_
    refine za0 ?_
    refine o_e rfl (e_box rfl) (fun g1 => ?_)
    refine o_e rfl (e_box rfl) (fun g3 => ?_)
    refine o_end ?_
    refine za1 ?_
    refine c_seq ?_
    refine c_seq ?_
    refine a_start (ds := []) MO rfl ?_
    refine a_take 0 rfl rfl rfl (by kernel_rfl) (fun _ _ _ h => h) (fun w h => h) (q_ldb Y22 rfl (fun w h => h.zaa (i := 0) rfl) rfl) ?_
    refine zac 1 rfl rfl rfl (by kernel_rfl) (fun _ _ _ h => h) (q_len Try.underlying22 rfl) ?_
    refine a_take 2 rfl rfl rfl (by kernel_rfl) (fun _ _ _ h => h) (fun w h => h) (q_ldb Y88 rfl (fun w h => h.zaa (i := 1) rfl) rfl) ?_
    refine zac 3 rfl rfl rfl (by kernel_rfl) (fun _ _ _ h => h) (q_nil rfl) ?_
    refine zac 4 rfl rfl rfl (by kernel_rfl) (fun _ _ _ h => h) (q_f F36_1 rfl) ?_
    refine a_take 5 rfl rfl rfl (by kernel_rfl) (fun _ _ _ h => h) (fun w h => h) (q_ldb Y34 rfl (fun w h => B0.now Z h) rfl) ?_
    refine zac 6 rfl rfl rfl (by kernel_rfl) (fun _ _ _ h => h) (q_len Try.underlying34 rfl) ?_
    refine zac 7 rfl rfl rfl (by kernel_rfl) (fun _ _ _ h => h) (q_eql rfl rfl) ?_
    refine a_done (by kernel_rfl) ?_
    refine za1 ?_
    refine zar _ rfl (fun hb5 => ?_) (fun hb5 => ?_)
    · skip
      replace h := br_t hb5 h
      refine c_seq ?_
      refine za0 ?_
      refine o_q rfl rfl (za2 rfl) ?_
      refine o_q rfl rfl (q_ldb Y22 rfl (fun w h => h.zaa (i := 0) rfl) rfl) ?_
      refine o_pick [2, 3, 4, 0, 1] (by decide) rfl ?_
      refine bindE2 h (fun i7 l8 hx6 h => ?_) rfl
      refine o_e rfl (za9 3 Z Try.func167 N167 rfl rfl rfl (fun w P1 hF hB hS hT => impl_Plan_best_1.calls A1 c1 l1.length l1 g2_c0 g2_c0_0 a2_c0_0_0 A2_c0_0_1 c2_c0_0_1 l2_c0_0_1.length l2_c0_0_1 A2_c0_0_2 c2_c0_0_2 l2_c0_0_2.length l2_c0_0_2 g2_c1 a2_c1_0 g2_c2 A2_c2_0 c2_c2_0 l2_c2_0.length l2_c2_0 hB hF (hS _ R1) hc1 (hS _ R2_c0_0_1) hc2_c0_0_1 (hS _ R2_c0_0_2) hc2_c0_0_2 (hS _ B2_c0_0) (hS _ B2_c0) _ _ hx6)) (cur2 (fun A9 c10 => ?_))
      refine o_end ?_
      refine za1 ?_
      refine c_ret ?_
      refine za5 ?_
      have e0_ := Option.some.inj h; clear h
      have d0_ := (Prod.mk.inj e0_).1; have e1_ := (Prod.mk.inj e0_).2; clear e0_; subst d0_
      subst e1_
      exact x_r0 (.inl rfl) (A9, c10) Try.results165 rfl (fun w h => za6 [0, 1, 2] (by decide) rfl w h)
    · skip
      replace h := br_f hb5 h
      refine zaj ?_
      refine za1 ?_
      refine c_seq ?_
      refine za0 ?_
      refine o_q rfl rfl (q_func rfl rfl) ?_
      refine o_q rfl rfl (q_asg rfl) ?_
      refine o_end ?_
      refine za1 ?_
      refine c_seq ?_
      refine za0 ?_
      refine o_q rfl rfl (q_ldb Y88 rfl (fun w h => h.zaa (i := 1) rfl) rfl) ?_
      refine o_q rfl rfl (q_nil rfl) ?_
      refine o_q rfl rfl (q_f F36_1 rfl) ?_
      refine o_q rfl rfl (q_ldb Y34 rfl (fun w h => B0.now Z h) rfl) ?_
      refine o_q rfl rfl (q_len Try.underlying34 rfl) ?_
      refine o_q rfl rfl (za2 rfl) ?_
      refine o_end ?_
      refine za1 ?_
      refine zan ?_
      refine za8 h (fun o23 hl22 hR21 => ?_) rfl
      clear h
      refine c_fact (p := l0_1.length ≤ 9223372036854775807) (fun w h => (R0_1.now Z h).2.1) (fun hm20 => ?_)
      refine zaw (σ := (List SStep) × (List Int) × Int × Int × (Option Addr) × Nat) (fun k18 ((ys17, l11, i14, i15, A12, c13) : (List SStep) × (List Int) × Int × Int × (Option Addr) × Nat) => Rg l0_1 i15 ys17 ∧ ys17.length = k18 ∧ impl_Plan_orders_2.l0 (impl_Plan_orders_2.f k) a0_0 l0_1 l0_2 l1 a2_c0_0_0 l2_c0_0_1 l2_c0_0_2 ys17 l11 i14 i15 = some o23) [7, 8, 26, 27, 28, 29, 30, 31, 32, 33, 34, 35, 36, 37, 38, 39, 40, 41, 42, 43, 44, 45, 46, 47, 48, 49, 50, 51, 52, 53, 54, 55] (fun ((ys17, l11, i14, i15, A12, c13) : (List SStep) × (List Int) × Int × Int × (Option Addr) × Nat) => [(26, .int .i64 i15)]) (fun ((ys17, l11, i14, i15, A12, c13) : (List SStep) × (List Int) × Int × Int × (Option Addr) × Nat) => [box g3 22 #[.slice A1 l1.length c1], box g1 88 #[.pointer (some ⟨g0, 0, none⟩)], box g2_c1 3 #[.int .i64 i14], box g2_c2 22 #[.slice A12 l11.length c13], row (Kd.int .i64) 3 (.slice A12 l11.length c13) l11]) l0_1.length (l0_1, l2_c2_0, a2_c1_0, 0, A2_c2_0, c2_c2_0) ⟨Rg.start _, rfl, hl22⟩ ⟨rfl, trivial⟩ (fun w h => h) ?_
      refine fun k18 => cur6 (listC (fun l11 i14 i15 A12 c13 U24 hJ_ => ?_) (fun y16 ys17 l11 i14 i15 A12 c13 U24 hJ_ => ?_))
      · skip
        clear hl22
        have hr19 := hJ_.1; have hk25 := hJ_.2.1; have h := hJ_.2.2; clear hJ_
        replace h : impl_Plan_orders_2.l0 (impl_Plan_orders_2.f k) a0_0 l0_1 l0_2 l1 a2_c0_0_0 l2_c0_0_1 l2_c0_0_2 [] l11 i14 i15 = some o23 := h
        rw [impl_Plan_orders_2.l0] at h
        refine c_seq ?_
        refine za0 ?_
        refine o_q rfl rfl (q_lss rfl rfl) ?_
        refine o_end ?_
        refine za1 ?_
        refine c_seq ?_
        refine c_false (congrArg Value.bool hr19.ge) ?_
        refine c_exit ?_
        refine za7 ?_
        refine za7 ?_
        have e_ := Option.some.inj h; replace h := hR21; rw [← e_] at h; clear e_
        refine x_hit ?_
        have e0_ := Option.some.inj h; clear h
        have d0_ := (Prod.mk.inj e0_).1; have e1_ := (Prod.mk.inj e0_).2; clear e0_; subst d0_
        subst e1_
        exact x_r0 (.inr rfl) (A12, c13) Try.results165 rfl (fun w h => za6 [2, 3, 4] (by decide) rfl w h)
      · skip
        clear hl22
        have hr19 := hJ_.1; have hk25 := hJ_.2.1; have h := hJ_.2.2; clear hJ_
        replace h : impl_Plan_orders_2.l0 (impl_Plan_orders_2.f k) a0_0 l0_1 l0_2 l1 a2_c0_0_0 l2_c0_0_1 l2_c0_0_2 (y16 :: ys17) l11 i14 i15 = some o23 := h
        rw [impl_Plan_orders_2.l0] at h
        refine c_seq ?_
        refine za0 ?_
        refine o_q rfl rfl (q_lss rfl rfl) ?_
        refine o_end ?_
        refine za1 ?_
        refine c_seq ?_
        refine c_true (congrArg Value.bool hr19.lt) ?_
        refine zaj ?_
        refine za1 ?_
        refine c_seq ?_
        refine zan ?_
        refine c_seq ?_
        refine za0 ?_
        refine o_q rfl rfl (za2 rfl) ?_
        refine zav (p := Sh A0_1 l0_1.length l0_1.length) (fun w h => f_sh (dk := kStep) h (fun w h => R0_1.now Z h)) (fun hq26 => ?_)
        refine o_q rfl rfl (q_ix Try.underlying34 Z117 rfl rfl hq26 hr19.get) ?_
        refine o_q rfl rfl (q_ldE G117 Z117 rfl rfl (fun w h => R0_1.now Z h) hr19.get (fun _ _ h => h) rfl) ?_
        refine o_e rfl (e_alloc V117 rfl) (fun g27 => ?_)
        refine o_q rfl rfl (q_asg rfl) ?_
        refine o_e rfl (e_storeA (i := 0) rfl rfl rfl Z117 rfl rfl) (fun _ => ?_)
        refine o_end ?_
        refine za1 ?_
        refine za8 h (fun o38 hl39 hR40 => ?_) rfl
        clear h
        refine c_cutJ (σ := Bool) (fun b37 => some b37 = some o38) [31, 32, 33, 34, 35, 36, 37, 38, 39, 40, 41, 42, 43, 44, 45, 46] (fun b37 => [(46, .bool b37)]) (fun b37 => [box g2_c1 3 #[.int .i64 i14], box g2_c2 22 #[.slice A12 l11.length c13], row (Kd.int .i64) 3 (.slice A12 l11.length c13) l11, box g1 88 #[.pointer (some ⟨g0, 0, none⟩)], box g3 22 #[.slice A1 l1.length c1], box g27 117 #[.int .i64 y16.f0, .int .i64 y16.f1]]) ?_ ?_
        · skip
          have h := hl39; clear hl39
          clear hR40
          refine za0 ?_
          refine o_q rfl rfl (q_ldb Y22 rfl (fun w h => h.zaa (i := 1) rfl) rfl) ?_
          refine o_q rfl rfl (za2 rfl) ?_
          refine za8 h (fun b44 hx43 h => ?_) rfl
          refine o_e rfl (za9 0 Z Try.func155 N155 rfl rfl rfl (fun w P1 hF hB hS hT => slices_Contains_int_int.calls A1 c1 l1.length l1 i15 hB hF (hS _ R1) hc1 _ hx43)) (fun _ => ?_)
          refine o_q rfl rfl (q_not rfl) ?_
          refine o_q rfl rfl (za2 rfl) ?_
          refine byB b44 (fun hb45 => ?_) (fun hb45 => ?_)
          · replace h := bb_t hb45 h
            refine @o_n _ _ _ _ _ _ _ _ _ _ _ 36 (za4 rfl rfl rfl (congrArg (fun b => Value.bool (!(b))) hb45) rfl) (Eq.refl (some 36)) ?_
            refine @o_n _ _ _ _ _ _ _ _ _ _ _ 37 (za4 rfl rfl rfl (congrArg (fun b => Value.bool (!(b))) hb45) rfl) (Eq.refl (some 37)) ?_
            refine @o_n _ _ _ _ _ _ _ _ _ _ _ 38 (za4 rfl rfl rfl (congrArg (fun b => Value.bool (!(b))) hb45) rfl) (Eq.refl (some 38)) ?_
            refine @o_n _ _ _ _ _ _ _ _ _ _ _ 39 (za4 rfl rfl rfl (congrArg (fun b => Value.bool (!(b))) hb45) rfl) (Eq.refl (some 39)) ?_
            refine o_q rfl rfl (zam false (congrArg (fun b => Value.bool (!(b))) hb45) rfl) ?_
            refine o_q rfl rfl (za2 rfl) ?_
            refine @o_n _ _ _ _ _ _ _ _ _ _ _ 42 (za4 rfl rfl rfl rfl rfl) (Eq.refl (some 42)) ?_
            refine @o_n _ _ _ _ _ _ _ _ _ _ _ 43 (za4 rfl rfl rfl rfl rfl) (Eq.refl (some 43)) ?_
            refine @o_n _ _ _ _ _ _ _ _ _ _ _ 44 (za4 rfl rfl rfl rfl rfl) (Eq.refl (some 44)) ?_
            refine @o_n _ _ _ _ _ _ _ _ _ _ _ 45 (za4 rfl rfl rfl rfl rfl) (Eq.refl (some 45)) ?_
            refine o_q rfl rfl (zam false rfl rfl) ?_
            refine o_end ?_
            refine x_meetJ false h ⟨rfl, trivial⟩ (fun w h => za6 [3, 4, 5, 2, 1, 0] (by decide) rfl w h) ?_
            repeat (first | exact zad _ _ | refine zah rfl ?_ | refine zae rfl ?_ | refine zai rfl ?_)
          · replace h := bb_f hb45 h
            refine o_w (za3 rfl rfl rfl (congrArg (fun b => Value.bool (!(b))) hb45)) rfl (za2 rfl) ?_
            refine o_w (za3 rfl rfl rfl (congrArg (fun b => Value.bool (!(b))) hb45)) rfl (q_f F117_0 rfl) ?_
            refine o_w (za3 rfl rfl rfl (congrArg (fun b => Value.bool (!(b))) hb45)) rfl (q_ldb Y3 rfl (fun w h => h.zaa (i := 0) rfl) rfl) ?_
            refine za8 h (fun b47 hx46 h => ?_) rfl
            refine o_ew (za3 rfl rfl rfl (congrArg (fun b => Value.bool (!(b))) hb45)) (za9 0 Z Try.func178 N178 rfl rfl rfl (fun w P1 hF hB hS hT => impl_Plan_orders_1.calls y16.f0 g1 g0 a0_0 A0_1 c0_1 l0_1.length l0_1 A0_2 c0_2 l0_2.length l0_2 g3 A1 c1 l1.length l1 hB hF (hS _ R0_1) hc0_1 (hS _ R0_2) hc0_2 (hS _ B0) (hT 2 _ rfl).box (hS _ R1) hc1 (hT 1 _ rfl).box _ hx46)) (fun _ => ?_)
            refine o_q rfl rfl (zam true (congrArg (fun b => Value.bool (!(b))) hb45) rfl) ?_
            refine o_q rfl rfl (za2 rfl) ?_
            refine byB b47 (fun hb48 => ?_) (fun hb48 => ?_)
            · replace h := bb_t hb48 h
              refine o_w (za3 rfl rfl rfl (congrArg Value.bool hb48)) rfl (za2 rfl) ?_
              refine o_w (za3 rfl rfl rfl (congrArg Value.bool hb48)) rfl (q_f F117_1 rfl) ?_
              refine o_w (za3 rfl rfl rfl (congrArg Value.bool hb48)) rfl (q_ldb Y3 rfl (fun w h => h.zaa (i := 0) rfl) rfl) ?_
              refine za8 h (fun b50 hx49 h => ?_) rfl
              refine o_ew (za3 rfl rfl rfl (congrArg Value.bool hb48)) (za9 0 Z Try.func178 N178 rfl rfl rfl (fun w P1 hF hB hS hT => impl_Plan_orders_1.calls y16.f1 g1 g0 a0_0 A0_1 c0_1 l0_1.length l0_1 A0_2 c0_2 l0_2.length l0_2 g3 A1 c1 l1.length l1 hB hF (hS _ R0_1) hc0_1 (hS _ R0_2) hc0_2 (hS _ B0) (hT 2 _ rfl).box (hS _ R1) hc1 (hT 1 _ rfl).box _ hx49)) (fun _ => ?_)
              refine o_q rfl rfl (zam true (congrArg Value.bool hb48) rfl) ?_
              refine o_end ?_
              refine x_meetJ b50 h ⟨rfl, trivial⟩ (fun w h => za6 [3, 4, 5, 2, 1, 0] (by decide) rfl w h) ?_
              repeat (first | exact zad _ _ | refine zah rfl ?_ | refine zae rfl ?_ | refine zai rfl ?_)
            · replace h := bb_f hb48 h
              refine @o_n _ _ _ _ _ _ _ _ _ _ _ 42 (za4 rfl rfl rfl (congrArg Value.bool hb48) rfl) (Eq.refl (some 42)) ?_
              refine @o_n _ _ _ _ _ _ _ _ _ _ _ 43 (za4 rfl rfl rfl (congrArg Value.bool hb48) rfl) (Eq.refl (some 43)) ?_
              refine @o_n _ _ _ _ _ _ _ _ _ _ _ 44 (za4 rfl rfl rfl (congrArg Value.bool hb48) rfl) (Eq.refl (some 44)) ?_
              refine @o_n _ _ _ _ _ _ _ _ _ _ _ 45 (za4 rfl rfl rfl (congrArg Value.bool hb48) rfl) (Eq.refl (some 45)) ?_
              refine o_q rfl rfl (zam false (congrArg Value.bool hb48) rfl) ?_
              refine o_end ?_
              refine x_meetJ false h ⟨rfl, trivial⟩ (fun w h => za6 [3, 4, 5, 2, 1, 0] (by decide) rfl w h) ?_
              repeat (first | exact zad _ _ | refine zah rfl ?_ | refine zae rfl ?_ | refine zai rfl ?_)
        · skip
          refine (fun b37 => fun U41 hJ42 => ?_)
          have e_ := Option.some.inj hJ42; have h := hR40; rw [← e_] at h; clear e_ hJ42 hR40 hl39
          refine zar _ rfl (fun hb51 => ?_) (fun hb51 => ?_)
          · skip
            replace h := bb_t hb51 h
            refine za8 h (fun _ hx173 h => ?_) rfl
            refine za8 h (fun l353 ha354 h => ?_) rfl
            refine bindE2 h (fun i474 l475 hx473 h => ?_) rfl
            refine a_startS (ds := []) [none, none, none, some 3, some 4, some 5] MO rfl ?_
            refine a_take 0 rfl rfl rfl (by kernel_rfl) (fun _ _ _ h => h) (fun w h => zal [none, none, none, some 3, some 4, some 5] (by decide) w h rfl) (q_ldb Y88 rfl (fun w h => h.zaa (i := 3) rfl) rfl) ?_
            refine a_take 1 rfl rfl rfl (by kernel_rfl) (fun _ _ _ h => h) (fun w h => zal [none, none, none, some 3, some 4, some 5] (by decide) w h rfl) (q_ldb Y22 rfl (fun w h => h.zaa (i := 4) rfl) rfl) ?_
            refine zac 3 rfl rfl rfl (by kernel_rfl) (fun _ _ _ h => h) (za2 rfl) ?_
            refine zac 6 rfl rfl rfl (by kernel_rfl) (fun _ _ _ h => h) (za2 rfl) ?_
            refine a_two 2 4 rfl rfl rfl rfl (by kernel_rfl) rfl rfl (za9 0 Z Try.func179 N179 rfl rfl rfl (fun w P1 hF hB hS hT => slices_Clip_int_int.calls A1 c1 l1.length l1 hB hF (hS _ R1) hc1 hx173)) (fun s w h => zal [none, none, none, some 3, some 4, some 5] (by decide) w h rfl) (e_lit (vs := [(0, .int .i64 i15)]) (cs := [.int .i64 i15]) (Kd.int .i64) ([i15] : List Int) Try.underlying22 I3 (by decide) rfl (by decide) rfl rfl (fun _ _ => Kd.zau _)) (fun s w h => zal [none, none, none, some 4, some 5, some 6] (by decide) w h rfl) (fun _ => ?_) (cur2 (fun A293 c294 => ?_))
            · skip
              refine a_one 4 rfl rfl (by kernel_rfl) rfl (e_lit (vs := [(0, .int .i64 i15)]) (cs := [.int .i64 i15]) (Kd.int .i64) ([i15] : List Int) Try.underlying22 I3 (by decide) rfl (by decide) rfl rfl (fun _ _ => Kd.zau _)) (fun s w h => zal [none, none, none, some 4, some 5, some 6] (by decide) w h rfl) (cur2 (fun A293 c294 => ?_))
              refine a_one 5 rfl rfl (by kernel_rfl) rfl (e_appF (j := 0) Try.underlying22 I3 rfl (by decide) (fun w h => R1.now Z h) rfl (Nat.succ_pos _) rfl rfl ha354) (fun s w h => zal [none, none, none, some 5, some 6, some 7] (by decide) w h rfl) (cur2 (fun A355 c356 => ?_))
              refine a_pick [2, 3, 4, 0, 5, 6, 7] (by decide) rfl ?_
              refine a_one 7 rfl rfl (by kernel_rfl) rfl (za9 3 Z Try.func165 N165 rfl rfl rfl (fun w P1 hF hB hS hT => ih g0 a0_0 A0_1 c0_1 l0_1.length l0_1 A0_2 c0_2 l0_2.length l0_2 A355 c356 l353.length l353 g2_c0 g2_c0_0 a2_c0_0_0 A2_c0_0_1 c2_c0_0_1 l2_c0_0_1.length l2_c0_0_1 A2_c0_0_2 c2_c0_0_2 l2_c0_0_2.length l2_c0_0_2 g2_c1 i14 g2_c2 A12 c13 l11.length l11 hB hF (hS _ R0_1) hc0_1 (hS _ R0_2) hc0_2 (hS _ B0) (hT 0 _ rfl).row (hT 0 _ rfl).cap (hS _ R2_c0_0_1) hc2_c0_0_1 (hS _ R2_c0_0_2) hc2_c0_0_2 (hS _ B2_c0_0) (hS _ B2_c0) _ _ hx473)) (fun s w h => zal [none, none, none, some 4, some 5, some 6] (by decide) w h rfl) (cur2 (fun A476 c477 => ?_))
              refine a_done (by kernel_rfl) ?_
              refine zao ?_
              refine za1 ?_
              refine za0 ?_
              refine o_q rfl rfl (q_up rfl rfl (hr19.up hm20)) ?_
              refine o_q rfl rfl (za2 rfl) ?_
              refine o_end ?_
              refine zaf ys17.length (ys17, l475, i474, i15 + 1, A476, c477) (by rw [← hk25]; exact Nat.lt_succ_self _) ⟨hr19.step, rfl, h⟩ ⟨rfl, trivial⟩ (fun w h => za6 [5, 4, 0, 1, 2] (by decide) rfl w h) ?_
              repeat (first | exact zad _ _ | refine zah rfl ?_ | refine zae rfl ?_ | refine zai rfl ?_)
            · skip
              refine a_one 2 rfl rfl (by kernel_rfl) rfl (za9 0 Z Try.func179 N179 rfl rfl rfl (fun w P1 hF hB hS hT => slices_Clip_int_int.calls A1 c1 l1.length l1 hB hF (hS _ R1) hc1 hx173)) (fun s w h => zal [none, none, none, some 4, some 5, some 6] (by decide) w h rfl) (fun _ => ?_)
              refine a_one 5 rfl rfl (by kernel_rfl) rfl (e_appF (j := 0) Try.underlying22 I3 rfl (by decide) (fun w h => R1.now Z h) rfl (Nat.succ_pos _) rfl rfl ha354) (fun s w h => zal [none, none, none, some 5, some 6, some 7] (by decide) w h rfl) (cur2 (fun A355 c356 => ?_))
              refine a_pick [2, 3, 4, 0, 5, 6, 7] (by decide) rfl ?_
              refine a_one 7 rfl rfl (by kernel_rfl) rfl (za9 3 Z Try.func165 N165 rfl rfl rfl (fun w P1 hF hB hS hT => ih g0 a0_0 A0_1 c0_1 l0_1.length l0_1 A0_2 c0_2 l0_2.length l0_2 A355 c356 l353.length l353 g2_c0 g2_c0_0 a2_c0_0_0 A2_c0_0_1 c2_c0_0_1 l2_c0_0_1.length l2_c0_0_1 A2_c0_0_2 c2_c0_0_2 l2_c0_0_2.length l2_c0_0_2 g2_c1 i14 g2_c2 A12 c13 l11.length l11 hB hF (hS _ R0_1) hc0_1 (hS _ R0_2) hc0_2 (hS _ B0) (hT 0 _ rfl).row (hT 0 _ rfl).cap (hS _ R2_c0_0_1) hc2_c0_0_1 (hS _ R2_c0_0_2) hc2_c0_0_2 (hS _ B2_c0_0) (hS _ B2_c0) _ _ hx473)) (fun s w h => zal [none, none, none, some 4, some 5, some 6] (by decide) w h rfl) (cur2 (fun A476 c477 => ?_))
              refine a_done (by kernel_rfl) ?_
              refine zao ?_
              refine za1 ?_
              refine za0 ?_
              refine o_q rfl rfl (q_up rfl rfl (hr19.up hm20)) ?_
              refine o_q rfl rfl (za2 rfl) ?_
              refine o_end ?_
              refine zaf ys17.length (ys17, l475, i474, i15 + 1, A476, c477) (by rw [← hk25]; exact Nat.lt_succ_self _) ⟨hr19.step, rfl, h⟩ ⟨rfl, trivial⟩ (fun w h => za6 [5, 4, 0, 1, 2] (by decide) rfl w h) ?_
              repeat (first | exact zad _ _ | refine zah rfl ?_ | refine zae rfl ?_ | refine zai rfl ?_)
          · skip
            replace h := bb_f hb51 h
            refine zaj ?_
            refine zao ?_
            refine za1 ?_
            refine za0 ?_
            refine o_q rfl rfl (q_up rfl rfl (hr19.up hm20)) ?_
            refine o_q rfl rfl (za2 rfl) ?_
            refine o_end ?_
            refine zaf ys17.length (ys17, l11, i14, i15 + 1, A12, c13) (by rw [← hk25]; exact Nat.lt_succ_self _) ⟨hr19.step, rfl, h⟩ ⟨rfl, trivial⟩ (fun w h => za6 [4, 3, 0, 1, 2] (by decide) rfl w h) ?_
            repeat (first | exact zad _ _ | refine zah rfl ?_ | refine zae rfl ?_ | refine zai rfl ?_)

end Go.Proofs.Ytpdpomjgfmdjfaa.G1
