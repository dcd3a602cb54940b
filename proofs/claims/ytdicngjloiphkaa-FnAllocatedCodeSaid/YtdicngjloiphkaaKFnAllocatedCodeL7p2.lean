import Derived.Test.YtdicngjloiphkaaKFnAllocatedCodeL7p1
namespace Go.Proofs.Ytdicngjloiphkaa.L7
open Go.RowKit Go.Proofs.Ytdicngjloiphkaa.Frame Go.Proofs.YtdicngjloiphkaaW.PrintLast Go.Proofs.Ytdicngjloiphkaa.Hand
open Go.Proofs.YtdicngjloiphkaaW.PrintWords hiding mn mx
set_option linter.unusedVariables false
/-! ### (*loop.example/g01098/impl.Plan).exponents: function 132 -/
def impl_Plan_exponents.l2 (l20 : List (List Int)) (y25 : SStep) : (List Int) → (List Int) → Int → Option (List Int)
  | [], l45, i48 => some l45
  | y49 :: ys50, l45, i48 => (gt l20 y25.f1).bind fun y70 => (gt y70 i48).bind fun y74 => (ap l45 ([mn (w64 (y49 + y74)) 1000001] : List Int)).bind fun l78 => impl_Plan_exponents.l2 l20 y25 ys50 l78 (i48 + 1)
def impl_Plan_exponents.l1 : (List SStep) → (List (List Int)) → Int → Option (List (List Int))
  | [], l20, i24 => some l20
  | y25 :: ys26, l20, i24 => (gt l20 y25.f0).bind fun y43 => (impl_Plan_exponents.l2 l20 y25 y43 ([] : List Int) 0).bind fun l45 => (ap l20 ([l45] : List (List Int))).bind fun l63 => impl_Plan_exponents.l1 ys26 l63 (i24 + 1)
def impl_Plan_exponents.l0 (a0_0 : Int) : Nat → (List (List Int)) → Int → Option (List (List Int))
  | 0, l4, i8 => some l4
  | k11 + 1, l4, i8 => (mk0 a0_0 (0 : Int)).bind fun l82 => (gt l82 i8).bind fun y89 => (st l82 i8 1).bind fun l90 => (ap l4 ([l90] : List (List Int))).bind fun l96 => impl_Plan_exponents.l0 a0_0 k11 l96 (i8 + 1)
def impl_Plan_exponents.f (a0_0 : Int) (l0_1 : List SStep) (l0_2 : List Int) : Option (List (List Int)) := (bd a0_0).bind fun _ => (impl_Plan_exponents.l0 a0_0 ((a0_0).toNat) ([] : List (List Int)) 0).bind fun l4 => (impl_Plan_exponents.l1 l0_1 l4 0).bind fun l20 => some l20
set_option maxHeartbeats 600000 in
set_option maxRecDepth 100000 in
theorem impl_Plan_exponents.calls {w0 ws : World} {P0 : Nat → Prop} (g0 : Nat) (a0_0 : Int) (A0_1 : Option Addr) (c0_1 : Nat) (n0_1 : Nat) (l0_1 : List SStep) (A0_2 : Option Addr) (c0_2 : Nat) (n0_2 : Nat) (l0_2 : List Int) (Z : Below w0.heap.size w0 ws) (hF : Fr w0 ws P0 [] ws) (R0_1 : Stable ws P0 (fun w => Kd.C kStep w A0_1 n0_1 l0_1)) (hc0_1 : n0_1 ≤ c0_1) (R0_2 : Stable ws P0 (fun w => Kd.C (Kd.int .i64) w A0_2 n0_2 l0_2)) (hc0_2 : n0_2 ≤ c0_2) (B0 : Stable ws P0 (fun w => w.heap[g0]? = some (.cells #[.int .i64 a0_0, .slice A0_1 n0_1 c0_1, .slice A0_2 n0_2 c0_2] 27 (0, 0)))) (r_1 : List (List Int)) (h : impl_Plan_exponents.f a0_0 l0_1 l0_2 = some r_1) :
    Calls Try.prog 132 #[.pointer (some ⟨g0, 0, none⟩)] ws (Post1 w0 ws P0 (fun ((q_2, q_3, q_4) : (Option Addr) × Nat × Hd) => .slice q_2 r_1.length q_3) (fun ((q_2, q_3, q_4) : (Option Addr) × Nat × Hd) => [row (gk 3 (Kd.int .i64)) 25 (.slice q_2 r_1.length q_3) (zp q_4 r_1)])) := by
  unfold impl_Plan_exponents.f at h
  obtain rfl := (R0_1 ws (KeptB.refl _ _)).1
  obtain rfl := (R0_2 ws (KeptB.refl _ _)).1
  refine enter Try.func132 rfl Try.ntmps132 rfl hF ?_
  refine c_seq ?_
  refine za0 ?_
  refine o_q rfl rfl (q_asg rfl) ?_
  refine o_end ?_
  refine za1 ?_
  refine c_seq ?_
  refine za0 ?_
  refine o_e rfl (e_lit0 (gk 3 (Kd.int .i64)) Try.underlying73 I25) (cur2 (fun A1 c2 => ?_))
  refine o_q rfl rfl (q_asg rfl) ?_
  refine o_end ?_
  refine za1 ?_
  refine c_seq ?_
  refine c_seq ?_
  refine za0 ?_
  refine o_q rfl rfl (za3 rfl) ?_
  refine o_q rfl rfl (q_nil rfl) ?_
  refine o_q rfl rfl (q_f F27_0 rfl) ?_
  refine o_q rfl rfl (q_ldb Y3 rfl (fun w h => B0.now Z h) rfl) ?_
  refine o_q rfl rfl (za3 rfl) ?_
  refine o_end ?_
  refine za1 ?_
  refine zaj ?_
  refine za7 h (fun _ hbd17 h => ?_) rfl
  refine za7 h (fun o16 hl15 hR14 => ?_) rfl
  clear h
  have hm13 : a0_0 ≤ 9223372036854775807 := bd_le hbd17
  refine zax (σ := (List (List Int)) × Int × (Option Addr) × Nat × Hd) (fun k11 ((l4, i8, A5, c6, H7) : (List (List Int)) × Int × (Option Addr) × Nat × Hd) => Cn a0_0 i8 k11 ∧ impl_Plan_exponents.l0 a0_0 k11 l4 i8 = some o16) [3, 4, 5, 16, 17, 18, 19, 20, 21, 22, 23, 24, 25, 26, 27, 28, 29, 30, 31] (fun ((l4, i8, A5, c6, H7) : (List (List Int)) × Int × (Option Addr) × Nat × Hd) => [(3, .slice A5 l4.length c6), (16, .int .i64 i8)]) (fun ((l4, i8, A5, c6, H7) : (List (List Int)) × Int × (Option Addr) × Nat × Hd) => [row (gk 3 (Kd.int .i64)) 25 (.slice A5 l4.length c6) (zp H7 l4)]) (a0_0).toNat (([] : List (List Int)), 0, A1, c2, ([] : Hd)) ⟨Cn.start hm13, hl15⟩ ⟨rfl, rfl, trivial⟩ (fun w h => h) ?_
  refine natC (cur5 (fun l4 i8 A5 c6 H7 => fun U18 hJ_ => ?_)) (fun k11 => (cur5 (fun l4 i8 A5 c6 H7 => fun U18 hJ_ => ?_)))
  · skip
    clear hl15
    have hr12 := hJ_.1; have h := hJ_.2; clear hJ_
    replace h : impl_Plan_exponents.l0 a0_0 0 l4 i8 = some o16 := h
    rw [impl_Plan_exponents.l0] at h
    refine c_seq ?_
    refine za0 ?_
    refine o_q rfl rfl (q_lss rfl rfl) ?_
    refine o_end ?_
    refine za1 ?_
    refine c_seq ?_
    refine zb2 (congrArg Value.bool hr12.ge) ?_
    refine zb4 ?_
    refine za5 ?_
    refine za5 ?_
    have e_ := Option.some.inj h; replace h := hR14; rw [← e_] at h; clear e_
    refine x_hit ?_
    refine za1 ?_
    refine c_seq ?_
    refine c_seq ?_
    refine za0 ?_
    refine o_q rfl rfl (za3 rfl) ?_
    refine o_q rfl rfl (q_nil rfl) ?_
    refine o_q rfl rfl (q_f F27_1 rfl) ?_
    refine o_q rfl rfl (q_ldb Y24 rfl (fun w h => B0.now Z h) rfl) ?_
    refine o_q rfl rfl (q_len Try.underlying24 rfl) ?_
    refine o_q rfl rfl (za3 rfl) ?_
    refine o_end ?_
    refine za1 ?_
    refine zaj ?_
    refine za7 h (fun o32 hl31 hR30 => ?_) rfl
    clear h
    refine c_fact (p := l0_1.length ≤ 9223372036854775807) (fun w h => (R0_1.now Z h).2.1) (fun hm29 => ?_)
    refine zax (σ := (List SStep) × (List (List Int)) × Int × (Option Addr) × Nat × Hd) (fun k27 ((ys26, l20, i24, A21, c22, H23) : (List SStep) × (List (List Int)) × Int × (Option Addr) × Nat × Hd) => Rg l0_1 i24 ys26 ∧ ys26.length = k27 ∧ impl_Plan_exponents.l1 ys26 l20 i24 = some o32) [3, 7, 8, 9, 10, 37, 38, 39, 40, 41, 42, 43, 44, 45, 46, 47, 48, 49, 50, 51, 52, 53, 54, 55, 56, 57, 58, 59, 60, 61, 62, 63, 64, 65, 66, 67, 68, 69, 70, 71, 72] (fun ((ys26, l20, i24, A21, c22, H23) : (List SStep) × (List (List Int)) × Int × (Option Addr) × Nat × Hd) => [(3, .slice A21 l20.length c22), (37, .int .i64 i24)]) (fun ((ys26, l20, i24, A21, c22, H23) : (List SStep) × (List (List Int)) × Int × (Option Addr) × Nat × Hd) => [row (gk 3 (Kd.int .i64)) 25 (.slice A21 l20.length c22) (zp H23 l20)]) l0_1.length (l0_1, l4, 0, A5, c6, H7) ⟨Rg.start _, rfl, hl31⟩ ⟨rfl, rfl, trivial⟩ (fun w h => h) ?_
    refine fun k27 => cur6 (listC (fun l20 i24 A21 c22 H23 U33 hJ_ => ?_) (fun y25 ys26 l20 i24 A21 c22 H23 U33 hJ_ => ?_))
    · skip
      clear hl31
      have hr28 := hJ_.1; have hk34 := hJ_.2.1; have h := hJ_.2.2; clear hJ_
      replace h : impl_Plan_exponents.l1 [] l20 i24 = some o32 := h
      rw [impl_Plan_exponents.l1] at h
      refine c_seq ?_
      refine za0 ?_
      refine o_q rfl rfl (q_lss rfl rfl) ?_
      refine o_end ?_
      refine za1 ?_
      refine c_seq ?_
      refine zb2 (congrArg Value.bool hr28.ge) ?_
      refine zb4 ?_
      refine za5 ?_
      refine za5 ?_
      have e_ := Option.some.inj h; replace h := hR30; rw [← e_] at h; clear e_
      refine x_hit ?_
      refine za1 ?_
      refine c_seq ?_
      refine za0 ?_
      refine o_q rfl rfl (za3 rfl) ?_
      refine o_q rfl rfl (q_asg rfl) ?_
      refine o_end ?_
      refine za1 ?_
      refine c_ret ?_
      have e0_ := Option.some.inj h; clear h
      subst e0_
      exact x_r1 (A21, c22, H23) Try.results132 (zai rfl) rfl (fun w h => za6 [0] (by decide) rfl w h)
    · skip
      clear hl31
      have hr28 := hJ_.1; have hk34 := hJ_.2.1; have h := hJ_.2.2; clear hJ_
      replace h : impl_Plan_exponents.l1 (y25 :: ys26) l20 i24 = some o32 := h
      rw [impl_Plan_exponents.l1] at h
      refine c_seq ?_
      refine za0 ?_
      refine o_q rfl rfl (q_lss rfl rfl) ?_
      refine o_end ?_
      refine za1 ?_
      refine c_seq ?_
      refine zb1 (congrArg Value.bool hr28.lt) ?_
      refine zan ?_
      refine za1 ?_
      refine c_seq ?_
      refine zaj ?_
      refine c_seq ?_
      refine za0 ?_
      refine zaz (p := Sh A0_1 l0_1.length l0_1.length) (fun w h => f_sh (dk := kStep) h (fun w h => R0_1.now Z h)) (fun hq35 => ?_)
      refine o_q rfl rfl (q_ix Try.underlying24 Z88 rfl rfl hq35 hr28.get) ?_
      refine o_q rfl rfl (q_ldE G88 Z88 rfl rfl (fun w h => R0_1.now Z h) hr28.get (fun _ _ h => h) rfl) ?_
      refine o_e rfl (zas V88 rfl) (fun g36 => ?_)
      refine o_e rfl (zaq (i := 0) rfl rfl rfl Z88 rfl rfl) (fun _ => ?_)
      refine o_end ?_
      refine za1 ?_
      refine c_seq ?_
      refine za0 ?_
      refine o_e rfl (e_lit0 (Kd.int .i64) Try.underlying25 I3) (cur2 (fun A38 c39 => ?_))
      refine o_q rfl rfl (q_asg rfl) ?_
      refine o_end ?_
      refine za1 ?_
      refine c_seq ?_
      refine c_seq ?_
      refine za0 ?_
      refine o_q rfl rfl (za3 rfl) ?_
      refine o_q rfl rfl (q_f F88_0 rfl) ?_
      refine o_q rfl rfl (q_ldb Y3 rfl (fun w h => h.zae (i := 1) rfl) rfl) ?_
      refine zaz (p := Sh A21 l20.length (zp H23 l20).length) (fun w h => f_sh (dk := (gk 3 (Kd.int .i64))) h (fun w h => h.zau (i := 2) rfl)) (fun hq41 => ?_)
      refine za7 h (fun y43 hg42 h => ?_) rfl
      refine o_q rfl rfl (q_ix Try.underlying73 Z25 rfl rfl hq41 (gt_zp hg42)) ?_
      refine zaz (p := y43.length ≤ hC H23 y25.f0) (fun w h => (K_in (h.zau (i := 2) rfl) hg42).1) (fun hc44 => ?_)
      refine o_q rfl rfl (q_lde (off := 0) Y25 rfl rfl (fun w h => h.zau (i := 2) rfl) (gt_zp hg42) (fun _ _ h => h.1) rfl) ?_
      refine o_q rfl rfl (q_len Try.underlying25 rfl) ?_
      refine o_q rfl rfl (za3 rfl) ?_
      refine o_end ?_
      refine za1 ?_
      refine zaj ?_
      refine za7 h (fun o56 hl55 hR54 => ?_) rfl
      clear h
      refine c_fact (p := y43.length ≤ 9223372036854775807) (fun w h => (C_in (h.zau (i := 2) rfl) hg42).2.1) (fun hm53 => ?_)
      refine zax (σ := (List Int) × (List Int) × Int × (Option Addr) × Nat) (fun k51 ((ys50, l45, i48, A46, c47) : (List Int) × (List Int) × Int × (Option Addr) × Nat) => Rg y43 i48 ys50 ∧ ys50.length = k51 ∧ impl_Plan_exponents.l2 l20 y25 ys50 l45 i48 = some o56) [8, 9, 10, 48, 49, 50, 51, 52, 53, 54, 55, 56, 57, 58, 59, 60, 61, 62, 63, 64, 65, 66, 67] (fun ((ys50, l45, i48, A46, c47) : (List Int) × (List Int) × Int × (Option Addr) × Nat) => [(8, .slice A46 l45.length c47), (48, .int .i64 i48)]) (fun ((ys50, l45, i48, A46, c47) : (List Int) × (List Int) × Int × (Option Addr) × Nat) => [row (Kd.int .i64) 3 (.slice A46 l45.length c47) l45, box g36 88 #[.int .i64 y25.f0, .int .i64 y25.f1], row (gk 3 (Kd.int .i64)) 25 (.slice A21 l20.length c22) (zp H23 l20)]) y43.length (y43, ([] : List Int), 0, A38, c39) ⟨Rg.start _, rfl, hl55⟩ ⟨rfl, rfl, trivial⟩ (fun w h => h) ?_
      refine fun k51 => cur5 (listC (fun l45 i48 A46 c47 U57 hJ_ => ?_) (fun y49 ys50 l45 i48 A46 c47 U57 hJ_ => ?_))
      · skip
        clear hl55
        have hr52 := hJ_.1; have hk58 := hJ_.2.1; have h := hJ_.2.2; clear hJ_
        replace h : impl_Plan_exponents.l2 l20 y25 [] l45 i48 = some o56 := h
        rw [impl_Plan_exponents.l2] at h
        refine c_seq ?_
        refine za0 ?_
        refine o_q rfl rfl (q_lss rfl rfl) ?_
        refine o_end ?_
        refine za1 ?_
        refine c_seq ?_
        refine zb2 (congrArg Value.bool hr52.ge) ?_
        refine zb4 ?_
        refine za5 ?_
        refine za5 ?_
        have e_ := Option.some.inj h; replace h := hR54; rw [← e_] at h; clear e_
        refine x_hit ?_
        refine za1 ?_
        refine za0 ?_
        refine o_q rfl rfl (za3 rfl) ?_
        refine o_q rfl rfl (za3 rfl) ?_
        refine o_e rfl (e_litG (j := 0) (ue := 3) (dk := (Kd.int .i64)) (ys := l45) Try.underlying73 I25 rfl rfl rfl) (cur3 (fun A59 c60 H62 => ?_))
        refine za7 h (fun l63 ha64 h => ?_) rfl
        refine o_e rfl (e_appG (i := 3) (j := 0) Try.underlying73 I25 rfl (by decide) rfl rfl rfl rfl rfl ha64) (cur3 (fun A65 c66 H67 => ?_))
        refine o_q rfl rfl (q_asg rfl) ?_
        refine o_end ?_
        refine zam ?_
        refine za1 ?_
        refine za0 ?_
        refine o_q rfl rfl (q_up rfl rfl (hr28.up hm29)) ?_
        refine o_q rfl rfl (za3 rfl) ?_
        refine o_end ?_
        refine zak ys26.length (ys26, l63, i24 + 1, A65, c66, H67) (by rw [← hk34]; exact Nat.lt_succ_self _) ⟨hr28.step, rfl, h⟩ ⟨rfl, rfl, trivial⟩ (fun w h => za6 [3] (by decide) rfl w h) ?_
        repeat (first | exact zab _ _ | refine zaf rfl ?_ | refine zac rfl ?_ | refine zah rfl ?_)
      · skip
        clear hl55
        have hr52 := hJ_.1; have hk58 := hJ_.2.1; have h := hJ_.2.2; clear hJ_
        replace h : impl_Plan_exponents.l2 l20 y25 (y49 :: ys50) l45 i48 = some o56 := h
        rw [impl_Plan_exponents.l2] at h
        refine c_seq ?_
        refine za0 ?_
        refine o_q rfl rfl (q_lss rfl rfl) ?_
        refine o_end ?_
        refine za1 ?_
        refine c_seq ?_
        refine zb1 (congrArg Value.bool hr52.lt) ?_
        refine zan ?_
        refine za1 ?_
        refine c_seq ?_
        refine zaj ?_
        refine c_seq ?_
        refine za0 ?_
        refine o_q rfl rfl (za3 rfl) ?_
        refine zaz (p := Sh (hA H23 y25.f0) y43.length y43.length) (fun w h => f_sh (dk := (Kd.int .i64)) h (fun w h => C_in (h.zau (i := 2) rfl) hg42)) (fun hq68 => ?_)
        refine o_q rfl rfl (q_ix Try.underlying25 Z3 rfl rfl hq68 hr52.get) ?_
        refine o_q rfl rfl (q_lde (off := 0) Y3 rfl rfl (fun w h => C_in (h.zau (i := 2) rfl) hg42) hr52.get (fun _ _ h => h) rfl) ?_
        refine o_q rfl rfl (q_asg rfl) ?_
        refine o_q rfl rfl (q_asg rfl) ?_
        refine o_end ?_
        refine za1 ?_
        refine za0 ?_
        refine o_q rfl rfl (za3 rfl) ?_
        refine o_q rfl rfl (za3 rfl) ?_
        refine o_q rfl rfl (za3 rfl) ?_
        refine o_q rfl rfl (q_f F88_1 rfl) ?_
        refine o_q rfl rfl (q_ldb Y3 rfl (fun w h => h.zae (i := 1) rfl) rfl) ?_
        refine za7 h (fun y70 hg69 h => ?_) rfl
        refine o_q rfl rfl (q_ix Try.underlying73 Z25 rfl rfl hq41 (gt_zp hg69)) ?_
        refine zaz (p := y70.length ≤ hC H23 y25.f1) (fun w h => (K_in (h.zau (i := 2) rfl) hg69).1) (fun hc71 => ?_)
        refine o_q rfl rfl (q_lde (off := 0) Y25 rfl rfl (fun w h => h.zau (i := 2) rfl) (gt_zp hg69) (fun _ _ h => h.1) rfl) ?_
        refine o_q rfl rfl (za3 rfl) ?_
        refine zaz (p := Sh (hA H23 y25.f1) y70.length y70.length) (fun w h => f_sh (dk := (Kd.int .i64)) h (fun w h => C_in (h.zau (i := 2) rfl) hg69)) (fun hq72 => ?_)
        refine za7 h (fun y74 hg73 h => ?_) rfl
        refine o_q rfl rfl (q_ix Try.underlying25 Z3 rfl rfl hq72 hg73) ?_
        refine o_q rfl rfl (q_lde (off := 0) Y3 rfl rfl (fun w h => C_in (h.zau (i := 2) rfl) hg69) hg73 (fun _ _ h => h) rfl) ?_
        refine o_q rfl rfl (zb6 rfl rfl) ?_
        refine o_q rfl rfl (q_min rfl rfl) ?_
        refine o_e rfl (e_lit (vs := [(0, .int .i64 (mn (w64 (y49 + y74)) 1000001))]) (cs := [.int .i64 (mn (w64 (y49 + y74)) 1000001)]) (Kd.int .i64) ([mn (w64 (y49 + y74)) 1000001] : List Int) Try.underlying25 I3 (by decide) rfl (by decide) rfl rfl (fun _ _ => Kd.zar _)) (cur2 (fun A75 c76 => ?_))
        refine za7 h (fun l78 ha79 h => ?_) rfl
        refine o_e rfl (e_app (i := 1) (j := 0) Try.underlying25 I3 rfl (by decide) (by decide) rfl rfl rfl rfl rfl ha79) (cur2 (fun A80 c81 => ?_))
        refine o_q rfl rfl (q_asg rfl) ?_
        refine o_end ?_
        refine zam ?_
        refine za1 ?_
        refine za0 ?_
        refine o_q rfl rfl (q_up rfl rfl (hr52.up hm53)) ?_
        refine o_q rfl rfl (za3 rfl) ?_
        refine o_end ?_
        refine zak ys50.length (ys50, l78, i48 + 1, A80, c81) (by rw [← hk58]; exact Nat.lt_succ_self _) ⟨hr52.step, rfl, h⟩ ⟨rfl, rfl, trivial⟩ (fun w h => za6 [1, 2, 3] (by decide) rfl w h) ?_
        repeat (first | exact zab _ _ | refine zaf rfl ?_ | refine zac rfl ?_ | refine zah rfl ?_)
  · skip
    clear hl15
    have hr12 := hJ_.1; have h := hJ_.2; clear hJ_
    replace h : impl_Plan_exponents.l0 a0_0 (k11 + 1) l4 i8 = some o16 := h
    rw [impl_Plan_exponents.l0] at h
    refine c_seq ?_
    refine za0 ?_
    refine o_q rfl rfl (q_lss rfl rfl) ?_
    refine o_end ?_
    refine za1 ?_
    refine c_seq ?_
    refine zb1 (congrArg Value.bool hr12.lt) ?_
    refine zan ?_
    refine za1 ?_
    refine c_seq ?_
    refine zaj ?_
    refine c_seq ?_
    refine za0 ?_
    refine o_q rfl rfl (za3 rfl) ?_
    refine o_q rfl rfl (q_asg rfl) ?_
    refine o_end ?_
    refine za1 ?_
    refine c_seq ?_
    refine za0 ?_
    refine o_q rfl rfl (za3 rfl) ?_
    refine o_q rfl rfl (q_nil rfl) ?_
    refine o_q rfl rfl (q_f F27_0 rfl) ?_
    refine o_q rfl rfl (q_ldb Y3 rfl (fun w h => B0.now Z h) rfl) ?_
    refine za7 h (fun l82 hm83 h => ?_) rfl
    refine o_e rfl (e_make (Kd.int .i64) (0 : Int) Try.underlying25 I3 rfl (by decide) (by decide) (fun _ _ => rfl) rfl rfl hm83) (cur2 (fun A84 c85 => ?_))
    refine o_q rfl rfl (q_asg rfl) ?_
    refine o_end ?_
    refine za1 ?_
    refine c_seq ?_
    refine za0 ?_
    refine o_q rfl rfl (za3 rfl) ?_
    refine o_q rfl rfl (za3 rfl) ?_
    refine zaz (p := Sh A84 l82.length l82.length) (fun w h => f_sh (dk := (Kd.int .i64)) h (fun w h => h.zau (i := 0) rfl)) (fun hq87 => ?_)
    refine za7 h (fun y89 hg88 h => ?_) rfl
    refine o_q rfl rfl (q_ix Try.underlying25 Z3 rfl rfl hq87 hg88) ?_
    refine za7 h (fun l90 hs91 h => ?_) rfl
    refine o_e rfl (e_set (i := 0) rfl rfl rfl Z3 hs91) (fun _ => ?_)
    refine o_end ?_
    refine za1 ?_
    refine za0 ?_
    refine o_q rfl rfl (za3 rfl) ?_
    refine o_q rfl rfl (za3 rfl) ?_
    refine o_e rfl (e_litG (j := 0) (ue := 3) (dk := (Kd.int .i64)) (ys := l90) Try.underlying73 I25 rfl rfl rfl) (cur3 (fun A92 c93 H95 => ?_))
    refine za7 h (fun l96 ha97 h => ?_) rfl
    refine o_e rfl (e_appG (i := 2) (j := 0) Try.underlying73 I25 rfl (by decide) rfl rfl rfl rfl rfl ha97) (cur3 (fun A98 c99 H100 => ?_))
    refine o_q rfl rfl (q_asg rfl) ?_
    refine o_end ?_
    refine zam ?_
    refine za1 ?_
    refine za0 ?_
    refine o_q rfl rfl (q_up rfl rfl hr12.up) ?_
    refine o_q rfl rfl (za3 rfl) ?_
    refine o_end ?_
    refine zak k11 (l96, i8 + 1, A98, c99, H100) (Nat.lt_succ_self _) ⟨hr12.step, h⟩ ⟨rfl, rfl, trivial⟩ (fun w h => za6 [2] (by decide) rfl w h) ?_
    repeat (first | exact zab _ _ | refine zaf rfl ?_ | refine zac rfl ?_ | refine zah rfl ?_)

/-! ### slices.Max[[]int,int]: function 134 -/
def slices_Max_int_int.l0 (l0 : List Int) : Nat → Int → Int → Option Int
  | 0, _, _ => none
  | k9 + 1, i5, i6 => if i6 < (l0.length : Int) then ((gt l0 i6).bind fun y19 => slices_Max_int_int.l0 l0 k9 (mx i5 y19) (w64 (i6 + 1))) else (some i5)
def slices_Max_int_int.f (k : Nat) (l0 : List Int) : Option Int := if (l0.length : Int) < 1 then (none) else ((gt l0 0).bind fun y4 => (slices_Max_int_int.l0 l0 k y4 1).bind fun i5 => some i5)
set_option maxHeartbeats 600000 in
set_option maxRecDepth 100000 in
theorem slices_Max_int_int.calls (k : Nat) {w0 ws : World} {P0 : Nat → Prop} (A0 : Option Addr) (c0 : Nat) (n0 : Nat) (l0 : List Int) (Z : Below w0.heap.size w0 ws) (hF : Fr w0 ws P0 [] ws) (R0 : Stable ws P0 (fun w => Kd.C (Kd.int .i64) w A0 n0 l0)) (hc0 : n0 ≤ c0) (r_1 : Int) (h : slices_Max_int_int.f k l0 = some r_1) :
    Calls Try.prog 134 #[.slice A0 n0 c0] ws (Post1 w0 ws P0 (fun (_ : Unit) => .int .i64 r_1) (fun (_ : Unit) => [])) := by
  unfold slices_Max_int_int.f at h
  obtain rfl := (R0 ws (KeptB.refl _ _)).1
  refine enter Try.func134 rfl Try.ntmps134 rfl hF ?_
  refine c_seq ?_
  refine za0 ?_
  refine o_q rfl rfl (q_asg rfl) ?_
  refine o_end ?_
  refine za1 ?_
  refine c_seq ?_
  refine c_seq ?_
  refine za0 ?_
  refine o_q rfl rfl (za3 rfl) ?_
  refine o_q rfl rfl (q_len Try.underlying25 rfl) ?_
  refine o_q rfl rfl (q_lss rfl rfl) ?_
  refine o_end ?_
  refine za1 ?_
  refine zav _ rfl (fun hb1 => ?_) (fun hb1 => ?_)
  · skip
    replace h := br_t hb1 h
    refine za0 ?_
    exact noneE h
  · skip
    replace h := br_f hb1 h
    refine zan ?_
    refine za1 ?_
    refine c_seq ?_
    refine za0 ?_
    refine o_q rfl rfl (za3 rfl) ?_
    refine zaz (p := Sh A0 l0.length l0.length) (fun w h => f_sh (dk := (Kd.int .i64)) h (fun w h => R0.now Z h)) (fun hq2 => ?_)
    refine za7 h (fun y4 hg3 h => ?_) rfl
    refine o_q rfl rfl (q_ix Try.underlying25 Z3 rfl rfl hq2 hg3) ?_
    refine o_q rfl rfl (q_lde (off := 0) Y3 rfl rfl (fun w h => R0.now Z h) hg3 (fun _ _ h => h) rfl) ?_
    refine o_q rfl rfl (q_asg rfl) ?_
    refine o_end ?_
    refine za1 ?_
    refine c_seq ?_
    refine c_seq ?_
    refine za0 ?_
    refine o_q rfl rfl (q_asg rfl) ?_
    refine o_end ?_
    refine za1 ?_
    refine zaj ?_
    refine za7 h (fun o14 hl13 hR12 => ?_) rfl
    clear h
    refine zax (σ := Int × Int) (fun k9 ((i5, i6) : Int × Int) => slices_Max_int_int.l0 l0 k9 i5 i6 = some o14) [3, 4, 12, 13, 14, 15, 16, 17, 18, 19, 20, 21, 22, 23] (fun ((i5, i6) : Int × Int) => [(3, .int .i64 i5), (4, .int .i64 i6)]) (fun ((i5, i6) : Int × Int) => []) k (y4, 1) hl13 ⟨rfl, rfl, trivial⟩ (fun w h => h) ?_
    refine natC (cur2 (fun i5 i6 => fun U15 hJ_ => ?_)) (fun k9 => (cur2 (fun i5 i6 => fun U15 hJ_ => ?_)))
    · skip
      replace hJ_ : slices_Max_int_int.l0 l0 0 i5 i6 = some o14 := hJ_
      rw [slices_Max_int_int.l0] at hJ_
      exact noneE hJ_
    · skip
      clear hl13
      have h := hJ_; clear hJ_
      replace h : slices_Max_int_int.l0 l0 (k9 + 1) i5 i6 = some o14 := h
      rw [slices_Max_int_int.l0] at h
      refine c_seq ?_
      refine c_seq ?_
      refine za0 ?_
      refine o_q rfl rfl (za3 rfl) ?_
      refine o_q rfl rfl (za3 rfl) ?_
      refine o_q rfl rfl (q_len Try.underlying25 rfl) ?_
      refine o_q rfl rfl (q_lss rfl rfl) ?_
      refine o_end ?_
      refine za1 ?_
      refine zav _ rfl (fun hb17 => ?_) (fun hb17 => ?_)
      · skip
        replace h := br_t hb17 h
        refine zan ?_
        refine za1 ?_
        refine c_seq ?_
        refine zaj ?_
        refine za0 ?_
        refine o_q rfl rfl (za3 rfl) ?_
        refine o_q rfl rfl (za3 rfl) ?_
        refine o_q rfl rfl (za3 rfl) ?_
        refine za7 h (fun y19 hg18 h => ?_) rfl
        refine o_q rfl rfl (q_ix Try.underlying25 Z3 rfl rfl hq2 hg18) ?_
        refine o_q rfl rfl (q_lde (off := 0) Y3 rfl rfl (fun w h => R0.now Z h) hg18 (fun _ _ h => h) rfl) ?_
        refine o_q rfl rfl (q_max rfl rfl) ?_
        refine o_q rfl rfl (q_asg rfl) ?_
        refine o_end ?_
        refine zam ?_
        refine za1 ?_
        refine za0 ?_
        refine o_q rfl rfl (za3 rfl) ?_
        refine o_q rfl rfl (zb6 rfl rfl) ?_
        refine o_q rfl rfl (q_asg rfl) ?_
        refine o_end ?_
        refine zak k9 (mx i5 y19, w64 (i6 + 1)) (Nat.lt_succ_self _) h ⟨rfl, rfl, trivial⟩ (fun w h => za6 [] (by decide) rfl w h) ?_
        repeat (first | exact zab _ _ | refine zaf rfl ?_ | refine zac rfl ?_ | refine zah rfl ?_)
      · skip
        replace h := br_f hb17 h
        refine zb4 ?_
        refine za5 ?_
        refine za5 ?_
        have e_ := Option.some.inj h; replace h := hR12; rw [← e_] at h; clear e_
        refine x_hit ?_
        refine za1 ?_
        refine c_seq ?_
        refine za0 ?_
        refine o_q rfl rfl (za3 rfl) ?_
        refine o_q rfl rfl (q_asg rfl) ?_
        refine o_end ?_
        refine za1 ?_
        refine c_ret ?_
        have e0_ := Option.some.inj h; clear h
        subst e0_
        exact x_r1 () Try.results134 (zai rfl) rfl (fun w h => za6 [] (by decide) rfl w h)

/-! ### loop.example/g01098/impl.IsPlan$1: function 133 -/
def impl_IsPlan_1.f (k : Nat) (l0 : List Int) : Option Bool := (slices_Max_int_int.f k l0).bind fun i2 => some (decide (1000000 < i2))
set_option maxHeartbeats 600000 in
set_option maxRecDepth 100000 in
theorem impl_IsPlan_1.calls (k : Nat) {w0 ws : World} {P0 : Nat → Prop} (A0 : Option Addr) (c0 : Nat) (n0 : Nat) (l0 : List Int) (Z : Below w0.heap.size w0 ws) (hF : Fr w0 ws P0 [] ws) (R0 : Stable ws P0 (fun w => Kd.C (Kd.int .i64) w A0 n0 l0)) (hc0 : n0 ≤ c0) (r_1 : Bool) (h : impl_IsPlan_1.f k l0 = some r_1) :
    Calls Try.prog 133 #[.slice A0 n0 c0] ws (Post1 w0 ws P0 (fun (_ : Unit) => .bool r_1) (fun (_ : Unit) => [])) := by
  unfold impl_IsPlan_1.f at h
  obtain rfl := (R0 ws (KeptB.refl _ _)).1
  refine enter Try.func133 rfl Try.ntmps133 rfl hF ?_
  refine c_seq ?_
  refine za0 ?_
  refine o_q rfl rfl (q_asg rfl) ?_
  refine o_end ?_
  refine za1 ?_
  refine c_seq ?_
  refine za0 ?_
  refine o_q rfl rfl (za3 rfl) ?_
  refine za7 h (fun i2 hx1 h => ?_) rfl
  refine o_e rfl (zad 0 Z Try.func134 N134 rfl rfl rfl (fun w P1 hF hB hS hT => slices_Max_int_int.calls k A0 c0 l0.length l0 hB hF (hS _ R0) hc0 _ hx1)) (fun _ => ?_)
  refine o_q rfl rfl (q_gtr rfl rfl) ?_
  refine o_q rfl rfl (q_asg rfl) ?_
  refine o_end ?_
  refine za1 ?_
  refine c_ret ?_
  have e0_ := Option.some.inj h; clear h
  subst e0_
  exact x_r1 () Try.results133 (zai rfl) rfl (fun w h => za6 [] (by decide) rfl w h)

/-! ### slices.IndexFunc[[][]int,[]int]: function 174 -/
def slices_IndexFunc_int_int_2.l0 (k : Nat) : (List (List Int)) → Int → Option ((Int) ⊕ (Unit))
  | [], i1 => some (.inr ())
  | y2 :: ys3, i1 => (impl_IsPlan_1.f k y2).bind fun b15 => if b15 = true then (some (.inl i1)) else (slices_IndexFunc_int_int_2.l0 k ys3 (i1 + 1))
def slices_IndexFunc_int_int_2.f (k : Nat) (l0 : List (List Int)) : Option Int := (slices_IndexFunc_int_int_2.l0 k l0 0).bind fun o_ => match o_ with | .inl r_ => some r_ | .inr _ => some (-1)
set_option maxHeartbeats 600000 in
set_option maxRecDepth 100000 in
theorem slices_IndexFunc_int_int_2.calls (k : Nat) {w0 ws : World} {P0 : Nat → Prop} (A0 : Option Addr) (c0 : Nat) (n0 : Nat) (H0 : Hd) (l0 : List (List Int)) (Z : Below w0.heap.size w0 ws) (hF : Fr w0 ws P0 [] ws) (R0 : Stable ws P0 (fun w => Kd.C (gk 3 (Kd.int .i64)) w A0 n0 (zp H0 l0))) (hc0 : n0 ≤ c0) (r_1 : Int) (h : slices_IndexFunc_int_int_2.f k l0 = some r_1) :
    Calls Try.prog 174 #[.slice A0 n0 c0, .func (.func 133) #[] #[]] ws (Post1 w0 ws P0 (fun (_ : Unit) => .int .i64 r_1) (fun (_ : Unit) => [])) := by
  unfold slices_IndexFunc_int_int_2.f at h
  obtain rfl := (zp_len _ _).symm.trans (R0 ws (KeptB.refl _ _)).1
  refine enter Try.func174 rfl Try.ntmps174 rfl hF ?_
  refine c_seq ?_
  refine za0 ?_
  refine o_q rfl rfl (q_asg rfl) ?_
  refine o_end ?_
  refine za1 ?_
  refine c_seq ?_
  refine c_seq ?_
  refine za0 ?_
  refine o_q rfl rfl (za3 rfl) ?_
  refine o_q rfl rfl (q_len Try.underlying73 rfl) ?_
  refine o_q rfl rfl (za3 rfl) ?_
  refine o_end ?_
  refine za1 ?_
  refine zaj ?_
  refine za7 h (fun o9 hl8 hR7 => ?_) rfl
  clear h
  refine c_fact (p := l0.length ≤ 9223372036854775807) (fun w h => (R0.now Z h).2.1) (fun hm6 => ?_)
  refine zax (σ := (List (List Int)) × Int) (fun k4 ((ys3, i1) : (List (List Int)) × Int) => Rg l0 i1 ys3 ∧ ys3.length = k4 ∧ slices_IndexFunc_int_int_2.l0 k ys3 i1 = some o9) [4, 5, 8, 9, 10, 11, 12, 13, 14, 15, 16, 17, 18] (fun ((ys3, i1) : (List (List Int)) × Int) => [(8, .int .i64 i1)]) (fun ((ys3, i1) : (List (List Int)) × Int) => []) l0.length (l0, 0) ⟨Rg.start _, rfl, hl8⟩ ⟨rfl, trivial⟩ (fun w h => h) ?_
  refine fun k4 => cur2 (listC (fun i1 U10 hJ_ => ?_) (fun y2 ys3 i1 U10 hJ_ => ?_))
  · skip
    clear hl8
    have hr5 := hJ_.1; have hk11 := hJ_.2.1; have h := hJ_.2.2; clear hJ_
    replace h : slices_IndexFunc_int_int_2.l0 k [] i1 = some o9 := h
    rw [slices_IndexFunc_int_int_2.l0] at h
    refine c_seq ?_
    refine za0 ?_
    refine o_q rfl rfl (q_lss rfl rfl) ?_
    refine o_end ?_
    refine za1 ?_
    refine c_seq ?_
    refine zb2 (congrArg Value.bool hr5.ge) ?_
    refine zb4 ?_
    refine za5 ?_
    refine za5 ?_
    have e_ := Option.some.inj h; replace h := hR7; rw [← e_] at h; clear e_
    refine x_hit ?_
    refine za1 ?_
    refine c_seq ?_
    refine za0 ?_
    refine o_q rfl rfl (q_asg rfl) ?_
    refine o_end ?_
    refine za1 ?_
    refine c_ret ?_
    have e0_ := Option.some.inj h; clear h
    subst e0_
    exact x_r1 () Try.results174 (zai rfl) rfl (fun w h => za6 [] (by decide) rfl w h)
  · skip
    clear hl8
    have hr5 := hJ_.1; have hk11 := hJ_.2.1; have h := hJ_.2.2; clear hJ_
    replace h : slices_IndexFunc_int_int_2.l0 k (y2 :: ys3) i1 = some o9 := h
    rw [slices_IndexFunc_int_int_2.l0] at h
    refine c_seq ?_
    refine za0 ?_
    refine o_q rfl rfl (q_lss rfl rfl) ?_
    refine o_end ?_
    refine za1 ?_
    refine c_seq ?_
    refine zb1 (congrArg Value.bool hr5.lt) ?_
    refine zan ?_
    refine za1 ?_
    refine c_seq ?_
    refine zaj ?_
    refine c_seq ?_
    refine za0 ?_
    refine o_q rfl rfl (za3 rfl) ?_
    refine o_q rfl rfl (q_asg rfl) ?_
    refine o_end ?_
    refine za1 ?_
    refine c_seq ?_
    refine za0 ?_
    refine o_q rfl rfl (za3 rfl) ?_
    refine o_q rfl rfl (za3 rfl) ?_
    refine o_q rfl rfl (za3 rfl) ?_
    refine zaz (p := Sh A0 l0.length (zp H0 l0).length) (fun w h => f_sh (dk := (gk 3 (Kd.int .i64))) h (fun w h => R0.now Z h)) (fun hq12 => ?_)
    refine o_q rfl rfl (q_ix Try.underlying73 Z25 rfl rfl hq12 (gt_zp hr5.get)) ?_
    refine zaz (p := y2.length ≤ hC H0 i1) (fun w h => (K_in (R0.now Z h) hr5.get).1) (fun hc13 => ?_)
    refine o_q rfl rfl (q_lde (off := 0) Y25 rfl rfl (fun w h => R0.now Z h) (gt_zp hr5.get) (fun _ _ h => h.1) rfl) ?_
    refine za7 h (fun b15 hx14 h => ?_) rfl
    refine o_e rfl (zad 0 Z Try.func133 N133 rfl rfl rfl (fun w P1 hF hB hS hT => impl_IsPlan_1.calls k (hA H0 i1) (hC H0 i1) y2.length y2 hB hF (stab_in (hS _ R0) hr5.get) hc13 _ hx14)) (fun _ => ?_)
    refine o_end ?_
    refine za1 ?_
    refine zav _ rfl (fun hb16 => ?_) (fun hb16 => ?_)
    · skip
      replace h := bb_t hb16 h
      refine c_seq ?_
      refine za0 ?_
      refine o_q rfl rfl (za3 rfl) ?_
      refine o_q rfl rfl (q_asg rfl) ?_
      refine o_end ?_
      refine za1 ?_
      refine c_ret ?_
      refine zao ?_
      refine zaa ?_
      refine zaa ?_
      have e_ := Option.some.inj h; replace h := hR7; rw [← e_] at h; clear e_
      refine zao ?_
      refine zaa ?_
      have e0_ := Option.some.inj h; clear h
      subst e0_
      exact x_r1 () Try.results174 (zai rfl) rfl (fun w h => za6 [] (by decide) rfl w h)
    · skip
      replace h := bb_f hb16 h
      refine zan ?_
      refine zam ?_
      refine za1 ?_
      refine za0 ?_
      refine o_q rfl rfl (q_up rfl rfl (hr5.up hm6)) ?_
      refine o_q rfl rfl (za3 rfl) ?_
      refine o_end ?_
      refine zak ys3.length (ys3, i1 + 1) (by rw [← hk11]; exact Nat.lt_succ_self _) ⟨hr5.step, rfl, h⟩ ⟨rfl, trivial⟩ (fun w h => za6 [] (by decide) rfl w h) ?_
      repeat (first | exact zab _ _ | refine zaf rfl ?_ | refine zac rfl ?_ | refine zah rfl ?_)

/-! ### slices.ContainsFunc[[][]int,[]int]: function 131 -/
def slices_ContainsFunc_int_int_2.f (k : Nat) (l0 : List (List Int)) : Option Bool := (slices_IndexFunc_int_int_2.f k l0).bind fun i2 => some (decide (0 ≤ i2))
set_option maxHeartbeats 600000 in
set_option maxRecDepth 100000 in
theorem slices_ContainsFunc_int_int_2.calls (k : Nat) {w0 ws : World} {P0 : Nat → Prop} (A0 : Option Addr) (c0 : Nat) (n0 : Nat) (H0 : Hd) (l0 : List (List Int)) (Z : Below w0.heap.size w0 ws) (hF : Fr w0 ws P0 [] ws) (R0 : Stable ws P0 (fun w => Kd.C (gk 3 (Kd.int .i64)) w A0 n0 (zp H0 l0))) (hc0 : n0 ≤ c0) (r_1 : Bool) (h : slices_ContainsFunc_int_int_2.f k l0 = some r_1) :
    Calls Try.prog 131 #[.slice A0 n0 c0, .func (.func 133) #[] #[]] ws (Post1 w0 ws P0 (fun (_ : Unit) => .bool r_1) (fun (_ : Unit) => [])) := by
  unfold slices_ContainsFunc_int_int_2.f at h
  obtain rfl := (zp_len _ _).symm.trans (R0 ws (KeptB.refl _ _)).1
  refine enter Try.func131 rfl Try.ntmps131 rfl hF ?_
  refine c_seq ?_
  refine za0 ?_
  refine o_q rfl rfl (q_asg rfl) ?_
  refine o_end ?_
  refine za1 ?_
  refine c_seq ?_
  refine za0 ?_
  refine o_q rfl rfl (za3 rfl) ?_
  refine o_q rfl rfl (za3 rfl) ?_
  refine za7 h (fun i2 hx1 h => ?_) rfl
  refine o_e rfl (zad 0 Z Try.func174 N174 rfl rfl rfl (fun w P1 hF hB hS hT => slices_IndexFunc_int_int_2.calls k A0 c0 l0.length H0 l0 hB hF (hS _ R0) hc0 _ hx1)) (fun _ => ?_)
  refine o_q rfl rfl (q_geq rfl rfl) ?_
  refine o_q rfl rfl (q_asg rfl) ?_
  refine o_end ?_
  refine za1 ?_
  refine c_ret ?_
  have e0_ := Option.some.inj h; clear h
  subst e0_
  exact x_r1 () Try.results131 (zai rfl) rfl (fun w h => za6 [] (by decide) rfl w h)

/-! ### loop.example/g01098/impl.IsPlan: function 67 -/
def impl_IsPlan.f (k : Nat) (a0_0 : Int) (l0_1 : List SStep) (l0_2 : List Int) : Option Bool := (impl_Plan_formed.f a0_0 l0_1 l0_2).bind fun b4 => if b4 = true then ((impl_Plan_exponents.f a0_0 l0_1 l0_2).bind fun l7 => (slices_ContainsFunc_int_int_2.f k l7).bind fun b12 => some (!b12)) else (some false)
set_option maxHeartbeats 600000 in
set_option maxRecDepth 100000 in
theorem impl_IsPlan.calls (k : Nat) {w0 ws : World} {P0 : Nat → Prop} (a0_0 : Int) (A0_1 : Option Addr) (c0_1 : Nat) (n0_1 : Nat) (l0_1 : List SStep) (A0_2 : Option Addr) (c0_2 : Nat) (n0_2 : Nat) (l0_2 : List Int) (Z : Below w0.heap.size w0 ws) (hF : Fr w0 ws P0 [] ws) (R0_1 : Stable ws P0 (fun w => Kd.C kStep w A0_1 n0_1 l0_1)) (hc0_1 : n0_1 ≤ c0_1) (R0_2 : Stable ws P0 (fun w => Kd.C (Kd.int .i64) w A0_2 n0_2 l0_2)) (hc0_2 : n0_2 ≤ c0_2) (r_1 : Bool) (h : impl_IsPlan.f k a0_0 l0_1 l0_2 = some r_1) :
    Calls Try.prog 67 #[.agg #[.int .i64 a0_0, .slice A0_1 n0_1 c0_1, .slice A0_2 n0_2 c0_2]] ws (Post1 w0 ws P0 (fun (_ : Unit) => .bool r_1) (fun (_ : Unit) => [])) := by
  unfold impl_IsPlan.f at h
  obtain rfl := (R0_1 ws (KeptB.refl _ _)).1
  obtain rfl := (R0_2 ws (KeptB.refl _ _)).1
  refine enter Try.func67 rfl Try.ntmps67 rfl hF ?_
  refine c_seq ?_
  refine za0 ?_
  refine o_e rfl (e_box rfl) (fun g1 => ?_)
  refine o_q rfl rfl (q_asg rfl) ?_
  refine o_end ?_
  refine za1 ?_
  refine c_seq ?_
  refine za0 ?_
  refine za7 h (fun b4 hx3 h => ?_) rfl
  refine o_e rfl (zad 0 Z Try.func130 N130 rfl rfl rfl (fun w P1 hF hB hS hT => impl_Plan_formed.calls g1 a0_0 A0_1 c0_1 l0_1.length l0_1 A0_2 c0_2 l0_2.length l0_2 hB hF (hS _ R0_1) hc0_1 (hS _ R0_2) hc0_2 (hT 0 _ rfl).box _ hx3)) (fun _ => ?_)
  refine o_q rfl rfl (za3 rfl) ?_
  refine byB b4 (fun hb5 => ?_) (fun hb5 => ?_)
  · replace h := bb_t hb5 h
    refine za7 h (fun l7 hx6 h => ?_) rfl
    refine o_ew (za4 rfl rfl rfl (congrArg Value.bool hb5)) (zad 0 Z Try.func132 N132 rfl rfl rfl (fun w P1 hF hB hS hT => impl_Plan_exponents.calls g1 a0_0 A0_1 c0_1 l0_1.length l0_1 A0_2 c0_2 l0_2.length l0_2 hB hF (hS _ R0_1) hc0_1 (hS _ R0_2) hc0_2 (hT 0 _ rfl).box _ hx6)) (cur3 (fun A8 c9 H10 => ?_))
    refine za7 h (fun b12 hx11 h => ?_) rfl
    refine o_ew (za4 rfl rfl rfl (congrArg Value.bool hb5)) (zad 0 Z Try.func131 N131 rfl rfl rfl (fun w P1 hF hB hS hT => slices_ContainsFunc_int_int_2.calls k A8 c9 l7.length H10 l7 hB hF (hT 0 _ rfl).row (hT 0 _ rfl).cap _ hx11)) (fun _ => ?_)
    refine o_w (za4 rfl rfl rfl (congrArg Value.bool hb5)) rfl (q_not rfl) ?_
    refine o_q rfl rfl (zal true (congrArg Value.bool hb5) rfl) ?_
    refine o_q rfl rfl (q_asg rfl) ?_
    refine o_end ?_
    refine za1 ?_
    refine c_ret ?_
    have e0_ := Option.some.inj h; clear h
    subst e0_
    exact x_r1 () Try.results67 (zai rfl) rfl (fun w h => za6 [] (by decide) rfl w h)
  · replace h := bb_f hb5 h
    refine @o_n _ _ _ _ _ _ _ _ _ _ _ 5 (za2 rfl rfl rfl (congrArg Value.bool hb5) rfl) (Eq.refl (some 5)) ?_
    refine @o_n _ _ _ _ _ _ _ _ _ _ _ 6 (za2 rfl rfl rfl (congrArg Value.bool hb5) rfl) (Eq.refl (some 6)) ?_
    refine @o_n _ _ _ _ _ _ _ _ _ _ _ 7 (za2 rfl rfl rfl (congrArg Value.bool hb5) rfl) (Eq.refl (some 7)) ?_
    refine o_q rfl rfl (zal false (congrArg Value.bool hb5) rfl) ?_
    refine o_q rfl rfl (q_asg rfl) ?_
    refine o_end ?_
    refine za1 ?_
    refine c_ret ?_
    have e0_ := Option.some.inj h; clear h
    subst e0_
    exact x_r1 () Try.results67 (zai rfl) rfl (fun w h => za6 [] (by decide) rfl w h)

/-! ### loop.example/g01098/impl.firsts: function 77 -/
def impl_firsts.l0 : Nat → (List Int) → Int → Option (List Int)
  | 0, l4, i7 => some l4
  | k10 + 1, l4, i7 => (ap l4 ([i7] : List Int)).bind fun l22 => impl_firsts.l0 k10 l22 (i7 + 1)
def impl_firsts.f (a0 : Int) : Option (List Int) := (bd a0).bind fun _ => (impl_firsts.l0 ((a0).toNat) ([] : List Int) 0).bind fun l4 => some l4
set_option maxHeartbeats 600000 in
set_option maxRecDepth 100000 in
theorem impl_firsts.calls {w0 ws : World} {P0 : Nat → Prop} (a0 : Int) (Z : Below w0.heap.size w0 ws) (hF : Fr w0 ws P0 [] ws)  (r_1 : List Int) (h : impl_firsts.f a0 = some r_1) :
    Calls Try.prog 77 #[.int .i64 a0] ws (Post1 w0 ws P0 (fun ((q_2, q_3) : (Option Addr) × Nat) => .slice q_2 r_1.length q_3) (fun ((q_2, q_3) : (Option Addr) × Nat) => [row (Kd.int .i64) 3 (.slice q_2 r_1.length q_3) r_1])) := by
  unfold impl_firsts.f at h
  refine enter Try.func77 rfl Try.ntmps77 rfl hF ?_
  refine c_seq ?_
  refine za0 ?_
  refine o_q rfl rfl (q_asg rfl) ?_
  refine o_end ?_
  refine za1 ?_
  refine c_seq ?_
  refine za0 ?_
  refine o_e rfl (e_lit0 (Kd.int .i64) Try.underlying25 I3) (cur2 (fun A1 c2 => ?_))
  refine o_q rfl rfl (q_asg rfl) ?_
  refine o_end ?_
  refine za1 ?_
  refine c_seq ?_
  refine c_seq ?_
  refine za0 ?_
  refine o_q rfl rfl (za3 rfl) ?_
  refine o_q rfl rfl (za3 rfl) ?_
  refine o_end ?_
  refine za1 ?_
  refine zaj ?_
  refine za7 h (fun _ hbd16 h => ?_) rfl
  refine za7 h (fun o15 hl14 hR13 => ?_) rfl
  clear h
  have hm12 : a0 ≤ 9223372036854775807 := bd_le hbd16
  refine zax (σ := (List Int) × Int × (Option Addr) × Nat) (fun k10 ((l4, i7, A5, c6) : (List Int) × Int × (Option Addr) × Nat) => Cn a0 i7 k10 ∧ impl_firsts.l0 k10 l4 i7 = some o15) [3, 4, 7, 8, 9, 10, 11, 12, 13, 14] (fun ((l4, i7, A5, c6) : (List Int) × Int × (Option Addr) × Nat) => [(3, .slice A5 l4.length c6), (7, .int .i64 i7)]) (fun ((l4, i7, A5, c6) : (List Int) × Int × (Option Addr) × Nat) => [row (Kd.int .i64) 3 (.slice A5 l4.length c6) l4]) (a0).toNat (([] : List Int), 0, A1, c2) ⟨Cn.start hm12, hl14⟩ ⟨rfl, rfl, trivial⟩ (fun w h => h) ?_
  refine natC (cur4 (fun l4 i7 A5 c6 => fun U17 hJ_ => ?_)) (fun k10 => (cur4 (fun l4 i7 A5 c6 => fun U17 hJ_ => ?_)))
  · skip
    clear hl14
    have hr11 := hJ_.1; have h := hJ_.2; clear hJ_
    replace h : impl_firsts.l0 0 l4 i7 = some o15 := h
    rw [impl_firsts.l0] at h
    refine c_seq ?_
    refine za0 ?_
    refine o_q rfl rfl (q_lss rfl rfl) ?_
    refine o_end ?_
    refine za1 ?_
    refine c_seq ?_
    refine zb2 (congrArg Value.bool hr11.ge) ?_
    refine zb4 ?_
    refine za5 ?_
    refine za5 ?_
    have e_ := Option.some.inj h; replace h := hR13; rw [← e_] at h; clear e_
    refine x_hit ?_
    refine za1 ?_
    refine c_seq ?_
    refine za0 ?_
    refine o_q rfl rfl (za3 rfl) ?_
    refine o_q rfl rfl (q_asg rfl) ?_
    refine o_end ?_
    refine za1 ?_
    refine c_ret ?_
    have e0_ := Option.some.inj h; clear h
    subst e0_
    exact x_r1 (A5, c6) Try.results77 (zai rfl) rfl (fun w h => za6 [0] (by decide) rfl w h)
  · skip
    clear hl14
    have hr11 := hJ_.1; have h := hJ_.2; clear hJ_
    replace h : impl_firsts.l0 (k10 + 1) l4 i7 = some o15 := h
    rw [impl_firsts.l0] at h
    refine c_seq ?_
    refine za0 ?_
    refine o_q rfl rfl (q_lss rfl rfl) ?_
    refine o_end ?_
    refine za1 ?_
    refine c_seq ?_
    refine zb1 (congrArg Value.bool hr11.lt) ?_
    refine zan ?_
    refine za1 ?_
    refine c_seq ?_
    refine zaj ?_
    refine c_seq ?_
    refine za0 ?_
    refine o_q rfl rfl (za3 rfl) ?_
    refine o_q rfl rfl (q_asg rfl) ?_
    refine o_end ?_
    refine za1 ?_
    refine za0 ?_
    refine o_q rfl rfl (za3 rfl) ?_
    refine o_q rfl rfl (za3 rfl) ?_
    refine o_e rfl (e_lit (vs := [(0, .int .i64 i7)]) (cs := [.int .i64 i7]) (Kd.int .i64) ([i7] : List Int) Try.underlying25 I3 (by decide) rfl (by decide) rfl rfl (fun _ _ => Kd.zar _)) (cur2 (fun A19 c20 => ?_))
    refine za7 h (fun l22 ha23 h => ?_) rfl
    refine o_e rfl (e_app (i := 1) (j := 0) Try.underlying25 I3 rfl (by decide) (by decide) rfl rfl rfl rfl rfl ha23) (cur2 (fun A24 c25 => ?_))
    refine o_q rfl rfl (q_asg rfl) ?_
    refine o_end ?_
    refine zam ?_
    refine za1 ?_
    refine za0 ?_
    refine o_q rfl rfl (q_up rfl rfl hr11.up) ?_
    refine o_q rfl rfl (za3 rfl) ?_
    refine o_end ?_
    refine zak k10 (l22, i7 + 1, A24, c25) (Nat.lt_succ_self _) ⟨hr11.step, h⟩ ⟨rfl, rfl, trivial⟩ (fun w h => za6 [1] (by decide) rfl w h) ?_
    repeat (first | exact zab _ _ | refine zaf rfl ?_ | refine zac rfl ?_ | refine zah rfl ?_)

/-! ### (*loop.example/g01098/impl.Plan).needed: function 68 -/
def impl_Plan_needed.l2 (a0_0 : Int) : (List Bool) → (List Bool) → Int → Option (List Bool)
  | [], l31, i32 => some l31
  | y33 :: ys34, l31, i32 => (gt l31 (w64 (a0_0 + i32))).bind fun y47 => if y47 = true then ((gt l31 (w64 (a0_0 + i32))).bind fun y50 => (st l31 (w64 (a0_0 + i32)) y33).bind fun l51 => impl_Plan_needed.l2 a0_0 ys34 l51 (i32 + 1)) else ((gt l31 (w64 (a0_0 + i32))).bind fun y54 => (st l31 (w64 (a0_0 + i32)) false).bind fun l55 => impl_Plan_needed.l2 a0_0 ys34 l55 (i32 + 1))
def impl_Plan_needed.l1 (l1 : List Bool) : (List SStep) → (List Bool) → Int → Option (List Bool)
  | [], l19, i20 => some l19
  | y21 :: ys22, l19, i20 => (gt l1 i20).bind fun y62 => if y62 = true then (impl_Plan_needed.l1 l1 ys22 l19 (i20 + 1)) else ((gt l19 y21.f0).bind fun y66 => (st l19 y21.f0 true).bind fun l67 => (gt l67 y21.f1).bind fun y71 => (st l67 y21.f1 true).bind fun l72 => impl_Plan_needed.l1 l1 ys22 l72 (i20 + 1))
def impl_Plan_needed.l0 : (List Int) → (List Bool) → Int → Option (List Bool)
  | [], l7, i8 => some l7
  | y9 :: ys10, l7, i8 => (gt l7 y9).bind fun y77 => (st l7 y9 true).bind fun l78 => impl_Plan_needed.l0 ys10 l78 (i8 + 1)
def impl_Plan_needed.f (a0_0 : Int) (l0_1 : List SStep) (l0_2 : List Int) (l1 : List Bool) : Option (List Bool) := (impl_Plan_many.f a0_0 l0_1 l0_2).bind fun _ => (mk0 (w64 (a0_0 + (l0_1.length : Int))) false).bind fun l2 => (impl_Plan_needed.l0 l0_2 l2 0).bind fun l7 => (impl_Plan_needed.l1 l1 l0_1 l7 0).bind fun l19 => (impl_Plan_needed.l2 a0_0 l1 l19 0).bind fun l31 => some l31
set_option maxHeartbeats 600000 in
set_option maxRecDepth 100000 in
theorem impl_Plan_needed.calls {w0 ws : World} {P0 : Nat → Prop} (g0 : Nat) (a0_0 : Int) (A0_1 : Option Addr) (c0_1 : Nat) (n0_1 : Nat) (l0_1 : List SStep) (A0_2 : Option Addr) (c0_2 : Nat) (n0_2 : Nat) (l0_2 : List Int) (A1 : Option Addr) (c1 : Nat) (n1 : Nat) (l1 : List Bool) (Z : Below w0.heap.size w0 ws) (hF : Fr w0 ws P0 [] ws) (R0_1 : Stable ws P0 (fun w => Kd.C kStep w A0_1 n0_1 l0_1)) (hc0_1 : n0_1 ≤ c0_1) (R0_2 : Stable ws P0 (fun w => Kd.C (Kd.int .i64) w A0_2 n0_2 l0_2)) (hc0_2 : n0_2 ≤ c0_2) (B0 : Stable ws P0 (fun w => w.heap[g0]? = some (.cells #[.int .i64 a0_0, .slice A0_1 n0_1 c0_1, .slice A0_2 n0_2 c0_2] 27 (0, 0)))) (R1 : Stable ws P0 (fun w => Kd.C Kd.bool w A1 n1 l1)) (hc1 : n1 ≤ c1) (r_1 : List Bool) (h : impl_Plan_needed.f a0_0 l0_1 l0_2 l1 = some r_1) :
    Calls Try.prog 68 #[.pointer (some ⟨g0, 0, none⟩), .slice A1 n1 c1] ws (Post1 w0 ws P0 (fun ((q_2, q_3) : (Option Addr) × Nat) => .slice q_2 r_1.length q_3) (fun ((q_2, q_3) : (Option Addr) × Nat) => [row Kd.bool 4 (.slice q_2 r_1.length q_3) r_1])) := by
  unfold impl_Plan_needed.f at h
  obtain rfl := (R0_1 ws (KeptB.refl _ _)).1
  obtain rfl := (R0_2 ws (KeptB.refl _ _)).1
  obtain rfl := (R1 ws (KeptB.refl _ _)).1
  refine enter Try.func68 rfl Try.ntmps68 rfl hF ?_
  refine c_seq ?_
  refine za0 ?_
  refine o_q rfl rfl (q_asg rfl) ?_
  refine o_end ?_
  refine za1 ?_
  refine c_seq ?_
  refine za0 ?_
  refine o_q rfl rfl (za3 rfl) ?_
  refine za7 h (fun _ hx1 h => ?_) rfl
  refine o_e rfl (zad 0 Z Try.func84 N84 rfl rfl rfl (fun w P1 hF hB hS hT => impl_Plan_many.calls g0 a0_0 A0_1 c0_1 l0_1.length l0_1 A0_2 c0_2 l0_2.length l0_2 hB hF (hS _ R0_1) hc0_1 (hS _ R0_2) hc0_2 (hS _ B0) hx1)) (fun _ => ?_)
  refine za7 h (fun l2 hm3 h => ?_) rfl
  refine o_e rfl (e_make Kd.bool false Try.underlying78 I4 rfl (by decide) (by decide) (fun _ _ => rfl) rfl rfl hm3) (cur2 (fun A4 c5 => ?_))
  refine o_q rfl rfl (q_asg rfl) ?_
  refine o_end ?_
  refine za1 ?_
  refine c_seq ?_
  refine c_seq ?_
  refine za0 ?_
  refine o_q rfl rfl (za3 rfl) ?_
  refine o_q rfl rfl (q_nil rfl) ?_
  refine o_q rfl rfl (q_f F27_2 rfl) ?_
  refine o_q rfl rfl (q_ldb Y25 rfl (fun w h => B0.now Z h) rfl) ?_
  refine o_q rfl rfl (q_len Try.underlying25 rfl) ?_
  refine o_q rfl rfl (za3 rfl) ?_
  refine o_end ?_
  refine za1 ?_
  refine zaj ?_
  refine za7 h (fun o16 hl15 hR14 => ?_) rfl
  clear h
  refine c_fact (p := l0_2.length ≤ 9223372036854775807) (fun w h => (R0_2.now Z h).2.1) (fun hm13 => ?_)
  refine zax (σ := (List Int) × (List Bool) × Int) (fun k11 ((ys10, l7, i8) : (List Int) × (List Bool) × Int) => Rg l0_2 i8 ys10 ∧ ys10.length = k11 ∧ impl_Plan_needed.l0 ys10 l7 i8 = some o16) [7, 20, 21, 22, 23, 24, 25, 26, 27] (fun ((ys10, l7, i8) : (List Int) × (List Bool) × Int) => [(20, .int .i64 i8)]) (fun ((ys10, l7, i8) : (List Int) × (List Bool) × Int) => [row Kd.bool 4 (.slice A4 l2.length c5) l7]) l0_2.length (l0_2, l2, 0) ⟨Rg.start _, rfl, hl15⟩ ⟨rfl, trivial⟩ (fun w h => h) ?_
  refine fun k11 => cur3 (listC (fun l7 i8 U17 hJ_ => ?_) (fun y9 ys10 l7 i8 U17 hJ_ => ?_))
  · skip
    clear hl15
    have hr12 := hJ_.1; have hk18 := hJ_.2.1; have h := hJ_.2.2; clear hJ_
    replace h : impl_Plan_needed.l0 [] l7 i8 = some o16 := h
    rw [impl_Plan_needed.l0] at h
    refine c_seq ?_
    refine za0 ?_
    refine o_q rfl rfl (q_lss rfl rfl) ?_
    refine o_end ?_
    refine za1 ?_
    refine c_seq ?_
    refine zb2 (congrArg Value.bool hr12.ge) ?_
    refine zb4 ?_
    refine za5 ?_
    refine za5 ?_
    have e_ := Option.some.inj h; replace h := hR14; rw [← e_] at h; clear e_
    refine x_hit ?_
    refine za1 ?_
    refine c_seq ?_
    refine c_seq ?_
    refine za0 ?_
    refine o_q rfl rfl (za3 rfl) ?_
    refine o_q rfl rfl (q_nil rfl) ?_
    refine o_q rfl rfl (q_f F27_1 rfl) ?_
    refine o_q rfl rfl (q_ldb Y24 rfl (fun w h => B0.now Z h) rfl) ?_
    refine o_q rfl rfl (q_len Try.underlying24 rfl) ?_
    refine o_q rfl rfl (za3 rfl) ?_
    refine o_end ?_
    refine za1 ?_
    refine zaj ?_
    refine za7 h (fun o28 hl27 hR26 => ?_) rfl
    clear h
    refine c_fact (p := l0_1.length ≤ 9223372036854775807) (fun w h => (R0_1.now Z h).2.1) (fun hm25 => ?_)
    refine zax (σ := (List SStep) × (List Bool) × Int) (fun k23 ((ys22, l19, i20) : (List SStep) × (List Bool) × Int) => Rg l0_1 i20 ys22 ∧ ys22.length = k23 ∧ impl_Plan_needed.l1 l1 ys22 l19 i20 = some o28) [8, 9, 33, 34, 35, 36, 37, 38, 39, 40, 41, 42, 43, 44, 45, 46, 47, 48, 49, 50, 51] (fun ((ys22, l19, i20) : (List SStep) × (List Bool) × Int) => [(33, .int .i64 i20)]) (fun ((ys22, l19, i20) : (List SStep) × (List Bool) × Int) => [row Kd.bool 4 (.slice A4 l2.length c5) l19]) l0_1.length (l0_1, l7, 0) ⟨Rg.start _, rfl, hl27⟩ ⟨rfl, trivial⟩ (fun w h => h) ?_
    refine fun k23 => cur3 (listC (fun l19 i20 U29 hJ_ => ?_) (fun y21 ys22 l19 i20 U29 hJ_ => ?_))
    · skip
      clear hl27
      have hr24 := hJ_.1; have hk30 := hJ_.2.1; have h := hJ_.2.2; clear hJ_
      replace h : impl_Plan_needed.l1 l1 [] l19 i20 = some o28 := h
      rw [impl_Plan_needed.l1] at h
      refine c_seq ?_
      refine za0 ?_
      refine o_q rfl rfl (q_lss rfl rfl) ?_
      refine o_end ?_
      refine za1 ?_
      refine c_seq ?_
      refine zb2 (congrArg Value.bool hr24.ge) ?_
      refine zb4 ?_
      refine za5 ?_
      refine za5 ?_
      have e_ := Option.some.inj h; replace h := hR26; rw [← e_] at h; clear e_
      refine x_hit ?_
      refine za1 ?_
      refine c_seq ?_
      refine c_seq ?_
      refine za0 ?_
      refine o_q rfl rfl (za3 rfl) ?_
      refine o_q rfl rfl (q_len Try.underlying78 rfl) ?_
      refine o_q rfl rfl (za3 rfl) ?_
      refine o_end ?_
      refine za1 ?_
      refine zaj ?_
      refine za7 h (fun o40 hl39 hR38 => ?_) rfl
      clear h
      refine c_fact (p := l1.length ≤ 9223372036854775807) (fun w h => (R1.now Z h).2.1) (fun hm37 => ?_)
      refine zax (σ := (List Bool) × (List Bool) × Int) (fun k35 ((ys34, l31, i32) : (List Bool) × (List Bool) × Int) => Rg l1 i32 ys34 ∧ ys34.length = k35 ∧ impl_Plan_needed.l2 a0_0 ys34 l31 i32 = some o40) [10, 11, 54, 55, 56, 57, 58, 59, 60, 61, 62, 63, 64, 65, 66, 67, 68, 69, 70, 71, 72, 73, 74, 75, 76, 77, 78, 79] (fun ((ys34, l31, i32) : (List Bool) × (List Bool) × Int) => [(54, .int .i64 i32)]) (fun ((ys34, l31, i32) : (List Bool) × (List Bool) × Int) => [row Kd.bool 4 (.slice A4 l2.length c5) l31]) l1.length (l1, l19, 0) ⟨Rg.start _, rfl, hl39⟩ ⟨rfl, trivial⟩ (fun w h => h) ?_
      refine fun k35 => cur3 (listC (fun l31 i32 U41 hJ_ => ?_) (fun y33 ys34 l31 i32 U41 hJ_ => ?_))
      · skip
        clear hl39
        have hr36 := hJ_.1; have hk42 := hJ_.2.1; have h := hJ_.2.2; clear hJ_
        replace h : impl_Plan_needed.l2 a0_0 [] l31 i32 = some o40 := h
        rw [impl_Plan_needed.l2] at h
        refine c_seq ?_
        refine za0 ?_
        refine o_q rfl rfl (q_lss rfl rfl) ?_
        refine o_end ?_
        refine za1 ?_
        refine c_seq ?_
        refine zb2 (congrArg Value.bool hr36.ge) ?_
        refine zb4 ?_
        refine za5 ?_
        refine za5 ?_
        have e_ := Option.some.inj h; replace h := hR38; rw [← e_] at h; clear e_
        refine x_hit ?_
        refine za1 ?_
        refine c_seq ?_
        refine za0 ?_
        refine o_q rfl rfl (za3 rfl) ?_
        refine o_q rfl rfl (q_asg rfl) ?_
        refine o_end ?_
        refine za1 ?_
        refine c_ret ?_
        refine x_fact (p := l2.length = l31.length) (fun w h => (h.row_C (i := 0) rfl).2.1) (fun hn43 => ?_)
        have e0_ := Option.some.inj h; clear h
        subst e0_
        exact x_r1 (A4, c5) Try.results68 (zai (v := .slice A4 l2.length c5) rfl) (by (try rw [hn43]); first | done | rfl) (f_pickE (L1 := [row Kd.bool 4 (.slice A4 l2.length c5) l31]) rfl [0] (by decide) rfl (by (try rw [hn43]); first | done | rfl))
      · skip
        clear hl39
        have hr36 := hJ_.1; have hk42 := hJ_.2.1; have h := hJ_.2.2; clear hJ_
        replace h : impl_Plan_needed.l2 a0_0 (y33 :: ys34) l31 i32 = some o40 := h
        rw [impl_Plan_needed.l2] at h
        refine c_seq ?_
        refine za0 ?_
        refine o_q rfl rfl (q_lss rfl rfl) ?_
        refine o_end ?_
        refine za1 ?_
        refine c_seq ?_
        refine zb1 (congrArg Value.bool hr36.lt) ?_
        refine zan ?_
        refine za1 ?_
        refine c_seq ?_
        refine zaj ?_
        refine c_seq ?_
        refine za0 ?_
        refine o_q rfl rfl (za3 rfl) ?_
        refine zaz (p := Sh A1 l1.length l1.length) (fun w h => f_sh (dk := Kd.bool) h (fun w h => R1.now Z h)) (fun hq44 => ?_)
        refine o_q rfl rfl (q_ix Try.underlying78 Z4 rfl rfl hq44 hr36.get) ?_
        refine o_q rfl rfl (q_lde (off := 0) Y4 rfl rfl (fun w h => R1.now Z h) hr36.get (fun _ _ h => h) rfl) ?_
        refine o_q rfl rfl (q_asg rfl) ?_
        refine o_q rfl rfl (q_asg rfl) ?_
        refine o_end ?_
        refine za1 ?_
        refine a_startS (ds := []) [none] MO rfl ?_
        refine za9 0 rfl rfl rfl (by kernel_rfl) (fun _ _ _ h => h) (za3 rfl) ?_
        refine za9 1 rfl rfl rfl (by kernel_rfl) (fun _ _ _ h => h) (za3 rfl) ?_
        refine za9 2 rfl rfl rfl (by kernel_rfl) (fun _ _ _ h => h) (q_nil rfl) ?_
        refine za9 3 rfl rfl rfl (by kernel_rfl) (fun _ _ _ h => h) (q_f F27_0 rfl) ?_
        refine zb0 4 rfl rfl rfl (by kernel_rfl) (fun _ _ _ h => h) (fun w h => za8 [none] (by decide) w h rfl) (q_ldb Y3 rfl (fun w h => B0.now Z h) rfl) ?_
        refine za9 5 rfl rfl rfl (by kernel_rfl) (fun _ _ _ h => h) (za3 rfl) ?_
        refine za9 6 rfl rfl rfl (by kernel_rfl) (fun _ _ _ h => h) (zb6 rfl rfl) ?_
        refine za9 7 rfl rfl rfl (by kernel_rfl) (fun _ _ _ h => h) (za3 rfl) ?_
        refine za9 8 rfl rfl rfl (by kernel_rfl) (fun _ _ _ h => h) (za3 rfl) ?_
        refine za9 9 rfl rfl rfl (by kernel_rfl) (fun _ _ _ h => h) (q_nil rfl) ?_
        refine za9 10 rfl rfl rfl (by kernel_rfl) (fun _ _ _ h => h) (q_f F27_0 rfl) ?_
        refine zb0 11 rfl rfl rfl (by kernel_rfl) (fun _ _ _ h => h) (fun w h => za8 [none] (by decide) w h rfl) (q_ldb Y3 rfl (fun w h => B0.now Z h) rfl) ?_
        refine za9 12 rfl rfl rfl (by kernel_rfl) (fun _ _ _ h => h) (za3 rfl) ?_
        refine za9 13 rfl rfl rfl (by kernel_rfl) (fun _ _ _ h => h) (zb6 rfl rfl) ?_
        refine a_fact (p := Sh A4 l2.length l31.length) (fun w h => f_sh (dk := Kd.bool) h (fun w h => h.zau (i := 0) rfl)) (fun hq45 => ?_)
        refine za7 h (fun y47 hg46 h => ?_) rfl
        refine za9 14 rfl rfl rfl (by kernel_rfl) (fun _ _ _ h => h) (q_ix Try.underlying78 Z4 rfl rfl hq45 hg46) ?_
        refine a_one 15 rfl rfl (by kernel_rfl) rfl (ev_q rfl (q_lde (off := 0) Y4 rfl rfl (fun w h => h.zau (i := 0) rfl) hg46 (fun _ _ h => h) rfl)) (fun s w h => za8 [none] (by decide) w h rfl) (fun _ => ?_)
        refine za9 16 rfl rfl rfl (by kernel_rfl) (fun _ _ _ h => h) (za3 rfl) ?_
        refine byB y47 (fun hb48 => ?_) (fun hb48 => ?_)
        · replace h := bb_t hb48 h
          refine a_purew 17 rfl rfl (za4 rfl rfl rfl (congrArg Value.bool hb48)) (by kernel_rfl) (fun _ _ _ h => h) (za3 rfl) ?_
          refine za9 18 rfl rfl rfl (by kernel_rfl) (fun _ _ _ h => h) (zal true (congrArg Value.bool hb48) rfl) ?_
          refine za7 h (fun y50 hg49 h => ?_) rfl
          refine za9 19 rfl rfl rfl (by kernel_rfl) (fun _ _ _ h => h) (q_ix Try.underlying78 Z4 rfl rfl hq45 hg49) ?_
          refine za7 h (fun l51 hs52 h => ?_) rfl
          refine a_one 20 rfl rfl (by kernel_rfl) rfl (e_set (i := 0) rfl rfl rfl Z4 hs52) (fun s w h => za8 [none] (by decide) w h rfl) (fun _ => ?_)
          refine zay (by kernel_rfl) ?_
          refine zam ?_
          refine za1 ?_
          refine za0 ?_
          refine o_q rfl rfl (q_up rfl rfl (hr36.up hm37)) ?_
          refine o_q rfl rfl (za3 rfl) ?_
          refine o_end ?_
          refine zak ys34.length (ys34, l51, i32 + 1) (by rw [← hk42]; exact Nat.lt_succ_self _) ⟨hr36.step, rfl, h⟩ ⟨rfl, trivial⟩ (fun w h => za6 [0] (by decide) rfl w h) ?_
          repeat (first | exact zab _ _ | refine zaf rfl ?_ | refine zac rfl ?_ | refine zah rfl ?_)
        · replace h := bb_f hb48 h
          refine a_no 17 rfl rfl (za2 rfl rfl rfl (congrArg Value.bool hb48) rfl) (by kernel_rfl) (fun _ _ _ h => h) ?_
          refine za9 18 rfl rfl rfl (by kernel_rfl) (fun _ _ _ h => h) (zal false (congrArg Value.bool hb48) rfl) ?_
          refine za7 h (fun y54 hg53 h => ?_) rfl
          refine za9 19 rfl rfl rfl (by kernel_rfl) (fun _ _ _ h => h) (q_ix Try.underlying78 Z4 rfl rfl hq45 hg53) ?_
          refine za7 h (fun l55 hs56 h => ?_) rfl
          refine a_one 20 rfl rfl (by kernel_rfl) rfl (e_set (i := 0) rfl rfl rfl Z4 hs56) (fun s w h => za8 [none] (by decide) w h rfl) (fun _ => ?_)
          refine zay (by kernel_rfl) ?_
          refine zam ?_
          refine za1 ?_
          refine za0 ?_
          refine o_q rfl rfl (q_up rfl rfl (hr36.up hm37)) ?_
          refine o_q rfl rfl (za3 rfl) ?_
          refine o_end ?_
          refine zak ys34.length (ys34, l55, i32 + 1) (by rw [← hk42]; exact Nat.lt_succ_self _) ⟨hr36.step, rfl, h⟩ ⟨rfl, trivial⟩ (fun w h => za6 [0] (by decide) rfl w h) ?_
          repeat (first | exact zab _ _ | refine zaf rfl ?_ | refine zac rfl ?_ | refine zah rfl ?_)
    · skip
      clear hl27
      have hr24 := hJ_.1; have hk30 := hJ_.2.1; have h := hJ_.2.2; clear hJ_
      replace h : impl_Plan_needed.l1 l1 (y21 :: ys22) l19 i20 = some o28 := h
      rw [impl_Plan_needed.l1] at h
      refine c_seq ?_
      refine za0 ?_
      refine o_q rfl rfl (q_lss rfl rfl) ?_
      refine o_end ?_
      refine za1 ?_
      refine c_seq ?_
      refine zb1 (congrArg Value.bool hr24.lt) ?_
      refine zan ?_
      refine za1 ?_
      refine c_seq ?_
      refine zaj ?_
      refine c_seq ?_
      refine za0 ?_
      refine o_q rfl rfl (za3 rfl) ?_
      refine zaz (p := Sh A0_1 l0_1.length l0_1.length) (fun w h => f_sh (dk := kStep) h (fun w h => R0_1.now Z h)) (fun hq57 => ?_)
      refine o_q rfl rfl (q_ix Try.underlying24 Z88 rfl rfl hq57 hr24.get) ?_
      refine o_q rfl rfl (q_ldE G88 Z88 rfl rfl (fun w h => R0_1.now Z h) hr24.get (fun _ _ h => h) rfl) ?_
      refine o_e rfl (zas V88 rfl) (fun g58 => ?_)
      refine o_q rfl rfl (q_asg rfl) ?_
      refine o_e rfl (zaq (i := 0) rfl rfl rfl Z88 rfl rfl) (fun _ => ?_)
      refine o_end ?_
      refine za1 ?_
      refine c_seq ?_
      refine za0 ?_
      refine o_q rfl rfl (za3 rfl) ?_
      refine o_q rfl rfl (za3 rfl) ?_
      refine zaz (p := Sh A1 l1.length l1.length) (fun w h => f_sh (dk := Kd.bool) h (fun w h => R1.now Z h)) (fun hq60 => ?_)
      refine za7 h (fun y62 hg61 h => ?_) rfl
      refine o_q rfl rfl (q_ix Try.underlying78 Z4 rfl rfl hq60 hg61) ?_
      refine o_q rfl rfl (q_lde (off := 0) Y4 rfl rfl (fun w h => R1.now Z h) hg61 (fun _ _ h => h) rfl) ?_
      refine o_q rfl rfl (q_not rfl) ?_
      refine o_end ?_
      refine za1 ?_
      refine zav _ rfl (fun hb63 => ?_) (fun hb63 => ?_)
      · replace hb63 := nt_t hb63
        replace h := bb_f hb63 h
        refine a_startS (ds := []) [some 0, none] MO rfl ?_
        refine za9 0 rfl rfl rfl (by kernel_rfl) (fun _ _ _ h => h) (za3 rfl) ?_
        refine za9 1 rfl rfl rfl (by kernel_rfl) (fun _ _ _ h => h) (q_f F88_0 rfl) ?_
        refine zb0 2 rfl rfl rfl (by kernel_rfl) (fun _ _ _ h => h) (fun w h => za8 [some 0, none] (by decide) w h rfl) (q_ldb Y3 rfl (fun w h => h.zae (i := 0) rfl) rfl) ?_
        refine za9 3 rfl rfl rfl (by kernel_rfl) (fun _ _ _ h => h) (za3 rfl) ?_
        refine za9 4 rfl rfl rfl (by kernel_rfl) (fun _ _ _ h => h) (q_f F88_1 rfl) ?_
        refine zb0 5 rfl rfl rfl (by kernel_rfl) (fun _ _ _ h => h) (fun w h => za8 [some 0, none] (by decide) w h rfl) (q_ldb Y3 rfl (fun w h => h.zae (i := 0) rfl) rfl) ?_
        refine a_fact (p := Sh A4 l2.length l19.length) (fun w h => f_sh (dk := Kd.bool) h (fun w h => h.zau (i := 1) rfl)) (fun hq64 => ?_)
        refine za7 h (fun y66 hg65 h => ?_) rfl
        refine za9 6 rfl rfl rfl (by kernel_rfl) (fun _ _ _ h => h) (q_ix Try.underlying78 Z4 rfl rfl hq64 hg65) ?_
        refine za7 h (fun l67 hs68 h => ?_) rfl
        refine a_one 7 rfl rfl (by kernel_rfl) rfl (e_set (i := 1) rfl rfl rfl Z4 hs68) (fun s w h => za8 [some 0, none] (by decide) w h rfl) (fun _ => ?_)
        refine a_fact (p := Sh A4 l2.length l67.length) (fun w h => f_sh (dk := Kd.bool) h (fun w h => h.zau (i := 1) rfl)) (fun hq69 => ?_)
        refine za7 h (fun y71 hg70 h => ?_) rfl
        refine za9 8 rfl rfl rfl (by kernel_rfl) (fun _ _ _ h => h) (q_ix Try.underlying78 Z4 rfl rfl hq69 hg70) ?_
        refine za7 h (fun l72 hs73 h => ?_) rfl
        refine a_one 9 rfl rfl (by kernel_rfl) rfl (e_set (i := 1) rfl rfl rfl Z4 hs73) (fun s w h => za8 [some 0, none] (by decide) w h rfl) (fun _ => ?_)
        refine zay (by kernel_rfl) ?_
        refine zam ?_
        refine za1 ?_
        refine za0 ?_
        refine o_q rfl rfl (q_up rfl rfl (hr24.up hm25)) ?_
        refine o_q rfl rfl (za3 rfl) ?_
        refine o_end ?_
        refine zak ys22.length (ys22, l72, i20 + 1) (by rw [← hk30]; exact Nat.lt_succ_self _) ⟨hr24.step, rfl, h⟩ ⟨rfl, trivial⟩ (fun w h => za6 [1] (by decide) rfl w h) ?_
        repeat (first | exact zab _ _ | refine zaf rfl ?_ | refine zac rfl ?_ | refine zah rfl ?_)
      · replace hb63 := nt_f hb63
        replace h := bb_t hb63 h
        refine zan ?_
        refine zam ?_
        refine za1 ?_
        refine za0 ?_
        refine o_q rfl rfl (q_up rfl rfl (hr24.up hm25)) ?_
        refine o_q rfl rfl (za3 rfl) ?_
        refine o_end ?_
        refine zak ys22.length (ys22, l19, i20 + 1) (by rw [← hk30]; exact Nat.lt_succ_self _) ⟨hr24.step, rfl, h⟩ ⟨rfl, trivial⟩ (fun w h => za6 [1] (by decide) rfl w h) ?_
        repeat (first | exact zab _ _ | refine zaf rfl ?_ | refine zac rfl ?_ | refine zah rfl ?_)
  · skip
    clear hl15
    have hr12 := hJ_.1; have hk18 := hJ_.2.1; have h := hJ_.2.2; clear hJ_
    replace h : impl_Plan_needed.l0 (y9 :: ys10) l7 i8 = some o16 := h
    rw [impl_Plan_needed.l0] at h
    refine c_seq ?_
    refine za0 ?_
    refine o_q rfl rfl (q_lss rfl rfl) ?_
    refine o_end ?_
    refine za1 ?_
    refine c_seq ?_
    refine zb1 (congrArg Value.bool hr12.lt) ?_
    refine zan ?_
    refine za1 ?_
    refine c_seq ?_
    refine zaj ?_
    refine c_seq ?_
    refine za0 ?_
    refine zaz (p := Sh A0_2 l0_2.length l0_2.length) (fun w h => f_sh (dk := (Kd.int .i64)) h (fun w h => R0_2.now Z h)) (fun hq74 => ?_)
    refine o_q rfl rfl (q_ix Try.underlying25 Z3 rfl rfl hq74 hr12.get) ?_
    refine o_q rfl rfl (q_lde (off := 0) Y3 rfl rfl (fun w h => R0_2.now Z h) hr12.get (fun _ _ h => h) rfl) ?_
    refine o_q rfl rfl (q_asg rfl) ?_
    refine o_end ?_
    refine za1 ?_
    refine za0 ?_
    refine o_q rfl rfl (za3 rfl) ?_
    refine o_q rfl rfl (za3 rfl) ?_
    refine zaz (p := Sh A4 l2.length l7.length) (fun w h => f_sh (dk := Kd.bool) h (fun w h => h.zau (i := 0) rfl)) (fun hq75 => ?_)
    refine za7 h (fun y77 hg76 h => ?_) rfl
    refine o_q rfl rfl (q_ix Try.underlying78 Z4 rfl rfl hq75 hg76) ?_
    refine za7 h (fun l78 hs79 h => ?_) rfl
    refine o_e rfl (e_set (i := 0) rfl rfl rfl Z4 hs79) (fun _ => ?_)
    refine o_end ?_
    refine zam ?_
    refine za1 ?_
    refine za0 ?_
    refine o_q rfl rfl (q_up rfl rfl (hr12.up hm13)) ?_
    refine o_q rfl rfl (za3 rfl) ?_
    refine o_end ?_
    refine zak ys10.length (ys10, l78, i8 + 1) (by rw [← hk18]; exact Nat.lt_succ_self _) ⟨hr12.step, rfl, h⟩ ⟨rfl, trivial⟩ (fun w h => za6 [0] (by decide) rfl w h) ?_
    repeat (first | exact zab _ _ | refine zaf rfl ?_ | refine zac rfl ?_ | refine zah rfl ?_)

/-! ### (*loop.example/g01098/impl.Plan).held: function 141 -/
def impl_Plan_held.l0 : (List Bool) → Int → Int → Option Int
  | [], i10, i11 => some i11
  | y12 :: ys13, i10, i11 => if y12 = true then (impl_Plan_held.l0 ys13 (i10 + 1) (w64 (i11 + 1))) else (impl_Plan_held.l0 ys13 (i10 + 1) i11)
def impl_Plan_held.f (a0_0 : Int) (l0_1 : List SStep) (l0_2 : List Int) (l1 : List Bool) (a2 : Int) : Option Int := (impl_Plan_needed.f a0_0 l0_1 l0_2 l1).bind fun l2 => (gt l2 (w64 (a0_0 + a2))).bind fun y7 => (st l2 (w64 (a0_0 + a2)) true).bind fun l8 => (impl_Plan_held.l0 l8 0 0).bind fun i11 => some i11
set_option maxHeartbeats 600000 in
set_option maxRecDepth 100000 in
theorem impl_Plan_held.calls {w0 ws : World} {P0 : Nat → Prop} (g0 : Nat) (a0_0 : Int) (A0_1 : Option Addr) (c0_1 : Nat) (n0_1 : Nat) (l0_1 : List SStep) (A0_2 : Option Addr) (c0_2 : Nat) (n0_2 : Nat) (l0_2 : List Int) (A1 : Option Addr) (c1 : Nat) (n1 : Nat) (l1 : List Bool) (a2 : Int) (Z : Below w0.heap.size w0 ws) (hF : Fr w0 ws P0 [] ws) (R0_1 : Stable ws P0 (fun w => Kd.C kStep w A0_1 n0_1 l0_1)) (hc0_1 : n0_1 ≤ c0_1) (R0_2 : Stable ws P0 (fun w => Kd.C (Kd.int .i64) w A0_2 n0_2 l0_2)) (hc0_2 : n0_2 ≤ c0_2) (B0 : Stable ws P0 (fun w => w.heap[g0]? = some (.cells #[.int .i64 a0_0, .slice A0_1 n0_1 c0_1, .slice A0_2 n0_2 c0_2] 27 (0, 0)))) (R1 : Stable ws P0 (fun w => Kd.C Kd.bool w A1 n1 l1)) (hc1 : n1 ≤ c1) (r_1 : Int) (h : impl_Plan_held.f a0_0 l0_1 l0_2 l1 a2 = some r_1) :
    Calls Try.prog 141 #[.pointer (some ⟨g0, 0, none⟩), .slice A1 n1 c1, .int .i64 a2] ws (Post1 w0 ws P0 (fun (_ : Unit) => .int .i64 r_1) (fun (_ : Unit) => [])) := by
  unfold impl_Plan_held.f at h
  obtain rfl := (R0_1 ws (KeptB.refl _ _)).1
  obtain rfl := (R0_2 ws (KeptB.refl _ _)).1
  obtain rfl := (R1 ws (KeptB.refl _ _)).1
  refine enter Try.func141 rfl Try.ntmps141 rfl hF ?_
  refine c_seq ?_
  refine za0 ?_
  refine o_q rfl rfl (q_asg rfl) ?_
  refine o_end ?_
  refine za1 ?_
  refine c_seq ?_
  refine za0 ?_
  refine o_q rfl rfl (za3 rfl) ?_
  refine o_q rfl rfl (za3 rfl) ?_
  refine za7 h (fun l2 hx1 h => ?_) rfl
  refine o_e rfl (zad 0 Z Try.func68 N68 rfl rfl rfl (fun w P1 hF hB hS hT => impl_Plan_needed.calls g0 a0_0 A0_1 c0_1 l0_1.length l0_1 A0_2 c0_2 l0_2.length l0_2 A1 c1 l1.length l1 hB hF (hS _ R0_1) hc0_1 (hS _ R0_2) hc0_2 (hS _ B0) (hS _ R1) hc1 _ hx1)) (cur2 (fun A3 c4 => ?_))
  refine o_q rfl rfl (q_asg rfl) ?_
  refine o_q rfl rfl (q_asg rfl) ?_
  refine o_end ?_
  refine za1 ?_
  refine c_seq ?_
  refine za0 ?_
  refine o_q rfl rfl (za3 rfl) ?_
  refine o_q rfl rfl (za3 rfl) ?_
  refine o_q rfl rfl (q_nil rfl) ?_
  refine o_q rfl rfl (q_f F27_0 rfl) ?_
  refine o_q rfl rfl (q_ldb Y3 rfl (fun w h => B0.now Z h) rfl) ?_
  refine o_q rfl rfl (za3 rfl) ?_
  refine o_q rfl rfl (zb6 rfl rfl) ?_
  refine zaz (p := Sh A3 l2.length l2.length) (fun w h => f_sh (dk := Kd.bool) h (fun w h => h.zau (i := 0) rfl)) (fun hq5 => ?_)
  refine za7 h (fun y7 hg6 h => ?_) rfl
  refine o_q rfl rfl (q_ix Try.underlying78 Z4 rfl rfl hq5 hg6) ?_
  refine za7 h (fun l8 hs9 h => ?_) rfl
  refine o_e rfl (e_set (i := 0) rfl rfl rfl Z4 hs9) (fun _ => ?_)
  refine o_end ?_
  refine za1 ?_
  refine c_seq ?_
  refine c_seq ?_
  refine za0 ?_
  refine o_q rfl rfl (za3 rfl) ?_
  refine o_q rfl rfl (q_len Try.underlying78 rfl) ?_
  refine o_q rfl rfl (za3 rfl) ?_
  refine o_end ?_
  refine za1 ?_
  refine zaj ?_
  refine za7 h (fun o19 hl18 hR17 => ?_) rfl
  clear h
  refine c_fact (p := l2.length ≤ 9223372036854775807) (fun w h => (h.zau (i := 0) rfl).2.1) (fun hm16 => ?_)
  refine c_fact (p := l2.length = l8.length) (fun w h => (h.row_C (i := 0) rfl).2.1) (fun hn20 => ?_)
  refine zax (σ := (List Bool) × Int × Int) (fun k14 ((ys13, i10, i11) : (List Bool) × Int × Int) => Rg l8 i10 ys13 ∧ ys13.length = k14 ∧ impl_Plan_held.l0 ys13 i10 i11 = some o19) [8, 10, 24, 25, 26, 27, 28, 29, 30, 31] (fun ((ys13, i10, i11) : (List Bool) × Int × Int) => [(8, .int .i64 i11), (24, .int .i64 i10)]) (fun ((ys13, i10, i11) : (List Bool) × Int × Int) => [row Kd.bool 4 (.slice A3 l2.length c4) l8]) l8.length (l8, 0, 0) ⟨Rg.start _, rfl, hl18⟩ ⟨rfl, rfl, trivial⟩ (fun w h => h) ?_
  refine fun k14 => cur3 (listC (fun i10 i11 U21 hJ_ => ?_) (fun y12 ys13 i10 i11 U21 hJ_ => ?_))
  · skip
    clear hl18
    have hr15 := hJ_.1; have hk22 := hJ_.2.1; have h := hJ_.2.2; clear hJ_
    replace h : impl_Plan_held.l0 [] i10 i11 = some o19 := h
    rw [impl_Plan_held.l0] at h
    refine c_seq ?_
    refine za0 ?_
    refine o_q rfl rfl (q_lss rfl rfl) ?_
    refine o_end ?_
    refine za1 ?_
    refine c_seq ?_
    refine zb2 (congrArg Value.bool (hr15.gen hn20)) ?_
    refine zb4 ?_
    refine za5 ?_
    refine za5 ?_
    have e_ := Option.some.inj h; replace h := hR17; rw [← e_] at h; clear e_
    refine x_hit ?_
    refine za1 ?_
    refine c_seq ?_
    refine za0 ?_
    refine o_q rfl rfl (za3 rfl) ?_
    refine o_q rfl rfl (q_asg rfl) ?_
    refine o_end ?_
    refine za1 ?_
    refine c_ret ?_
    have e0_ := Option.some.inj h; clear h
    subst e0_
    exact x_r1 () Try.results141 (zai rfl) rfl (fun w h => za6 [] (by decide) rfl w h)
  · skip
    clear hl18
    have hr15 := hJ_.1; have hk22 := hJ_.2.1; have h := hJ_.2.2; clear hJ_
    replace h : impl_Plan_held.l0 (y12 :: ys13) i10 i11 = some o19 := h
    rw [impl_Plan_held.l0] at h
    refine c_seq ?_
    refine za0 ?_
    refine o_q rfl rfl (q_lss rfl rfl) ?_
    refine o_end ?_
    refine za1 ?_
    refine c_seq ?_
    refine zb1 (congrArg Value.bool (hr15.ltn hn20)) ?_
    refine zan ?_
    refine za1 ?_
    refine c_seq ?_
    refine zaj ?_
    refine c_seq ?_
    refine za0 ?_
    refine zaz (p := Sh A3 l2.length l8.length) (fun w h => f_sh (dk := Kd.bool) h (fun w h => h.zau (i := 0) rfl)) (fun hq23 => ?_)
    refine o_q rfl rfl (q_ix Try.underlying78 Z4 rfl rfl hq23 hr15.get) ?_
    refine o_q rfl rfl (q_lde (off := 0) Y4 rfl rfl (fun w h => h.zau (i := 0) rfl) hr15.get (fun _ _ h => h) rfl) ?_
    refine o_q rfl rfl (q_asg rfl) ?_
    refine o_end ?_
    refine za1 ?_
    refine c_seq ?_
    refine za0 ?_
    refine o_q rfl rfl (za3 rfl) ?_
    refine o_end ?_
    refine za1 ?_
    refine zav _ rfl (fun hb24 => ?_) (fun hb24 => ?_)
    · skip
      replace h := bb_t hb24 h
      refine za0 ?_
      refine o_q rfl rfl (za3 rfl) ?_
      refine o_q rfl rfl (zb6 rfl rfl) ?_
      refine o_q rfl rfl (q_asg rfl) ?_
      refine o_end ?_
      refine zam ?_
      refine za1 ?_
      refine za0 ?_
      refine o_q rfl rfl (q_up rfl rfl (hr15.up (hn20 ▸ hm16))) ?_
      refine o_q rfl rfl (za3 rfl) ?_
      refine o_end ?_
      refine zak ys13.length (ys13, i10 + 1, w64 (i11 + 1)) (by rw [← hk22]; exact Nat.lt_succ_self _) ⟨hr15.step, rfl, h⟩ ⟨rfl, rfl, trivial⟩ (fun w h => za6 [0] (by decide) rfl w h) ?_
      repeat (first | exact zab _ _ | refine zaf rfl ?_ | refine zac rfl ?_ | refine zah rfl ?_)
    · skip
      replace h := bb_f hb24 h
      refine zan ?_
      refine zam ?_
      refine za1 ?_
      refine za0 ?_
      refine o_q rfl rfl (q_up rfl rfl (hr15.up (hn20 ▸ hm16))) ?_
      refine o_q rfl rfl (za3 rfl) ?_
      refine o_end ?_
      refine zak ys13.length (ys13, i10 + 1, i11) (by rw [← hk22]; exact Nat.lt_succ_self _) ⟨hr15.step, rfl, h⟩ ⟨rfl, rfl, trivial⟩ (fun w h => za6 [0] (by decide) rfl w h) ?_
      repeat (first | exact zab _ _ | refine zaf rfl ?_ | refine zac rfl ?_ | refine zah rfl ?_)

/-! ### (*loop.example/g01098/impl.Plan).pressure: function 81 -/
def impl_Plan_pressure.l0 (a0_0 : Int) (l0_1 : List SStep) (l0_2 : List Int) : (List Int) → (List Bool) → Int → Int → Option ((List Bool) × Int)
  | [], l7, i8, i9 => some (l7, i9)
  | y10 :: ys11, l7, i8, i9 => (gt l7 y10).bind fun y23 => (st l7 y10 true).bind fun l24 => (impl_Plan_held.f a0_0 l0_1 l0_2 l24 y10).bind fun i27 => impl_Plan_pressure.l0 a0_0 l0_1 l0_2 ys11 l24 (i8 + 1) (mx i9 i27)
def impl_Plan_pressure.f (a0_0 : Int) (l0_1 : List SStep) (l0_2 : List Int) (l1 : List Int) : Option Int := (mk0 (l0_1.length : Int) false).bind fun l2 => (impl_Plan_pressure.l0 a0_0 l0_1 l0_2 l1 l2 0 a0_0).bind fun (l7, i9) => some i9
set_option maxHeartbeats 600000 in
set_option maxRecDepth 100000 in
theorem impl_Plan_pressure.calls {w0 ws : World} {P0 : Nat → Prop} (g0 : Nat) (a0_0 : Int) (A0_1 : Option Addr) (c0_1 : Nat) (n0_1 : Nat) (l0_1 : List SStep) (A0_2 : Option Addr) (c0_2 : Nat) (n0_2 : Nat) (l0_2 : List Int) (A1 : Option Addr) (c1 : Nat) (n1 : Nat) (l1 : List Int) (Z : Below w0.heap.size w0 ws) (hF : Fr w0 ws P0 [] ws) (R0_1 : Stable ws P0 (fun w => Kd.C kStep w A0_1 n0_1 l0_1)) (hc0_1 : n0_1 ≤ c0_1) (R0_2 : Stable ws P0 (fun w => Kd.C (Kd.int .i64) w A0_2 n0_2 l0_2)) (hc0_2 : n0_2 ≤ c0_2) (B0 : Stable ws P0 (fun w => w.heap[g0]? = some (.cells #[.int .i64 a0_0, .slice A0_1 n0_1 c0_1, .slice A0_2 n0_2 c0_2] 27 (0, 0)))) (R1 : Stable ws P0 (fun w => Kd.C (Kd.int .i64) w A1 n1 l1)) (hc1 : n1 ≤ c1) (r_1 : Int) (h : impl_Plan_pressure.f a0_0 l0_1 l0_2 l1 = some r_1) :
    Calls Try.prog 81 #[.pointer (some ⟨g0, 0, none⟩), .slice A1 n1 c1] ws (Post1 w0 ws P0 (fun (_ : Unit) => .int .i64 r_1) (fun (_ : Unit) => [])) := by
  unfold impl_Plan_pressure.f at h
  obtain rfl := (R0_1 ws (KeptB.refl _ _)).1
  obtain rfl := (R0_2 ws (KeptB.refl _ _)).1
  obtain rfl := (R1 ws (KeptB.refl _ _)).1
  refine enter Try.func81 rfl Try.ntmps81 rfl hF ?_
  refine c_seq ?_
  refine za0 ?_
  refine o_q rfl rfl (q_asg rfl) ?_
  refine o_end ?_
  refine za1 ?_
  refine c_seq ?_
  refine a_start (ds := []) MO rfl ?_
  refine za9 0 rfl rfl rfl (by kernel_rfl) (fun _ _ _ h => h) (za3 rfl) ?_
  refine za9 1 rfl rfl rfl (by kernel_rfl) (fun _ _ _ h => h) (q_nil rfl) ?_
  refine za9 2 rfl rfl rfl (by kernel_rfl) (fun _ _ _ h => h) (q_f F27_0 rfl) ?_
  refine zb0 3 rfl rfl rfl (by kernel_rfl) (fun _ _ _ h => h) (fun w h => h) (q_ldb Y3 rfl (fun w h => B0.now Z h) rfl) ?_
  refine za9 4 rfl rfl rfl (by kernel_rfl) (fun _ _ _ h => h) (za3 rfl) ?_
  refine za9 5 rfl rfl rfl (by kernel_rfl) (fun _ _ _ h => h) (q_nil rfl) ?_
  refine za9 6 rfl rfl rfl (by kernel_rfl) (fun _ _ _ h => h) (q_f F27_1 rfl) ?_
  refine zb0 7 rfl rfl rfl (by kernel_rfl) (fun _ _ _ h => h) (fun w h => h) (q_ldb Y24 rfl (fun w h => B0.now Z h) rfl) ?_
  refine za9 8 rfl rfl rfl (by kernel_rfl) (fun _ _ _ h => h) (q_len Try.underlying24 rfl) ?_
  refine za9 10 rfl rfl rfl (by kernel_rfl) (fun _ _ _ h => h) (q_asg rfl) ?_
  refine za7 h (fun l2 hm3 h => ?_) rfl
  refine a_one 9 rfl rfl (by kernel_rfl) rfl (e_make Kd.bool false Try.underlying78 I4 rfl (by decide) (by decide) (fun _ _ => rfl) rfl rfl hm3) (fun s w h => za8 [] (by decide) w h rfl) (cur2 (fun A4 c5 => ?_))
  refine za9 11 rfl rfl rfl (by kernel_rfl) (fun _ _ _ h => h) (q_asg rfl) ?_
  refine zay (by kernel_rfl) ?_
  refine za1 ?_
  refine c_seq ?_
  refine c_seq ?_
  refine za0 ?_
  refine o_q rfl rfl (za3 rfl) ?_
  refine o_q rfl rfl (q_len Try.underlying25 rfl) ?_
  refine o_q rfl rfl (za3 rfl) ?_
  refine o_end ?_
  refine za1 ?_
  refine zaj ?_
  refine za7 h (fun o17 hl16 hR15 => ?_) rfl
  clear h
  refine c_fact (p := l1.length ≤ 9223372036854775807) (fun w h => (R1.now Z h).2.1) (fun hm14 => ?_)
  refine zax (σ := (List Int) × (List Bool) × Int × Int) (fun k12 ((ys11, l7, i8, i9) : (List Int) × (List Bool) × Int × Int) => Rg l1 i8 ys11 ∧ ys11.length = k12 ∧ impl_Plan_pressure.l0 a0_0 l0_1 l0_2 ys11 l7 i8 i9 = some o17) [5, 8, 21, 22, 23, 24, 25, 26, 27, 28, 29, 30, 31, 32, 33, 34] (fun ((ys11, l7, i8, i9) : (List Int) × (List Bool) × Int × Int) => [(5, .int .i64 i9), (21, .int .i64 i8)]) (fun ((ys11, l7, i8, i9) : (List Int) × (List Bool) × Int × Int) => [row Kd.bool 4 (.slice A4 l2.length c5) l7]) l1.length (l1, l2, 0, a0_0) ⟨Rg.start _, rfl, hl16⟩ ⟨rfl, rfl, trivial⟩ (fun w h => h) ?_
  refine fun k12 => cur4 (listC (fun l7 i8 i9 U18 hJ_ => ?_) (fun y10 ys11 l7 i8 i9 U18 hJ_ => ?_))
  · skip
    clear hl16
    have hr13 := hJ_.1; have hk19 := hJ_.2.1; have h := hJ_.2.2; clear hJ_
    replace h : impl_Plan_pressure.l0 a0_0 l0_1 l0_2 [] l7 i8 i9 = some o17 := h
    rw [impl_Plan_pressure.l0] at h
    refine c_seq ?_
    refine za0 ?_
    refine o_q rfl rfl (q_lss rfl rfl) ?_
    refine o_end ?_
    refine za1 ?_
    refine c_seq ?_
    refine zb2 (congrArg Value.bool hr13.ge) ?_
    refine zb4 ?_
    refine za5 ?_
    refine za5 ?_
    have e_ := Option.some.inj h; replace h := hR15; rw [← e_] at h; clear e_
    refine x_hit ?_
    refine za1 ?_
    refine c_seq ?_
    refine za0 ?_
    refine o_q rfl rfl (za3 rfl) ?_
    refine o_q rfl rfl (q_asg rfl) ?_
    refine o_end ?_
    refine za1 ?_
    refine c_ret ?_
    have e0_ := Option.some.inj h; clear h
    subst e0_
    exact x_r1 () Try.results81 (zai rfl) rfl (fun w h => za6 [] (by decide) rfl w h)
  · skip
    clear hl16
    have hr13 := hJ_.1; have hk19 := hJ_.2.1; have h := hJ_.2.2; clear hJ_
    replace h : impl_Plan_pressure.l0 a0_0 l0_1 l0_2 (y10 :: ys11) l7 i8 i9 = some o17 := h
    rw [impl_Plan_pressure.l0] at h
    refine c_seq ?_
    refine za0 ?_
    refine o_q rfl rfl (q_lss rfl rfl) ?_
    refine o_end ?_
    refine za1 ?_
    refine c_seq ?_
    refine zb1 (congrArg Value.bool hr13.lt) ?_
    refine zan ?_
    refine za1 ?_
    refine c_seq ?_
    refine zaj ?_
    refine c_seq ?_
    refine za0 ?_
    refine zaz (p := Sh A1 l1.length l1.length) (fun w h => f_sh (dk := (Kd.int .i64)) h (fun w h => R1.now Z h)) (fun hq20 => ?_)
    refine o_q rfl rfl (q_ix Try.underlying25 Z3 rfl rfl hq20 hr13.get) ?_
    refine o_q rfl rfl (q_lde (off := 0) Y3 rfl rfl (fun w h => R1.now Z h) hr13.get (fun _ _ h => h) rfl) ?_
    refine o_q rfl rfl (q_asg rfl) ?_
    refine o_end ?_
    refine za1 ?_
    refine c_seq ?_
    refine za0 ?_
    refine o_q rfl rfl (za3 rfl) ?_
    refine o_q rfl rfl (za3 rfl) ?_
    refine zaz (p := Sh A4 l2.length l7.length) (fun w h => f_sh (dk := Kd.bool) h (fun w h => h.zau (i := 0) rfl)) (fun hq21 => ?_)
    refine za7 h (fun y23 hg22 h => ?_) rfl
    refine o_q rfl rfl (q_ix Try.underlying78 Z4 rfl rfl hq21 hg22) ?_
    refine za7 h (fun l24 hs25 h => ?_) rfl
    refine o_e rfl (e_set (i := 0) rfl rfl rfl Z4 hs25) (fun _ => ?_)
    refine o_end ?_
    refine za1 ?_
    refine za0 ?_
    refine o_q rfl rfl (za3 rfl) ?_
    refine o_q rfl rfl (za3 rfl) ?_
    refine o_q rfl rfl (za3 rfl) ?_
    refine o_q rfl rfl (za3 rfl) ?_
    refine za7 h (fun i27 hx26 h => ?_) rfl
    refine o_e rfl (zad 0 Z Try.func141 N141 rfl rfl rfl (fun w P1 hF hB hS hT => impl_Plan_held.calls g0 a0_0 A0_1 c0_1 l0_1.length l0_1 A0_2 c0_2 l0_2.length l0_2 A4 c5 l2.length l24 y10 hB hF (hS _ R0_1) hc0_1 (hS _ R0_2) hc0_2 (hS _ B0) (hT 0 _ rfl).row (hT 0 _ rfl).cap _ hx26)) (fun _ => ?_)
    refine o_q rfl rfl (q_max rfl rfl) ?_
    refine o_q rfl rfl (q_asg rfl) ?_
    refine o_end ?_
    refine zam ?_
    refine za1 ?_
    refine za0 ?_
    refine o_q rfl rfl (q_up rfl rfl (hr13.up hm14)) ?_
    refine o_q rfl rfl (za3 rfl) ?_
    refine o_end ?_
    refine zak ys11.length (ys11, l24, i8 + 1, mx i9 i27) (by rw [← hk19]; exact Nat.lt_succ_self _) ⟨hr13.step, rfl, h⟩ ⟨rfl, rfl, trivial⟩ (fun w h => za6 [0] (by decide) rfl w h) ?_
    repeat (first | exact zab _ _ | refine zaf rfl ?_ | refine zac rfl ?_ | refine zah rfl ?_)

/-! ### (*loop.example/g01098/impl.Plan).doneFirst: function 69 -/
def impl_Plan_doneFirst.l0 : Nat → (List Bool) → Int → Option (List Bool)
  | 0, l6, i7 => some l6
  | k10 + 1, l6, i7 => (gt l6 i7).bind fun y22 => (st l6 i7 true).bind fun l23 => impl_Plan_doneFirst.l0 k10 l23 (i7 + 1)
def impl_Plan_doneFirst.f (a0_0 : Int) (l0_1 : List SStep) (l0_2 : List Int) (a1 : Int) : Option (List Bool) := (mk0 (l0_1.length : Int) false).bind fun l1 => (bd a1).bind fun _ => (impl_Plan_doneFirst.l0 ((a1).toNat) l1 0).bind fun l6 => some l6
set_option maxHeartbeats 600000 in
set_option maxRecDepth 100000 in
theorem impl_Plan_doneFirst.calls {w0 ws : World} {P0 : Nat → Prop} (g0 : Nat) (a0_0 : Int) (A0_1 : Option Addr) (c0_1 : Nat) (n0_1 : Nat) (l0_1 : List SStep) (A0_2 : Option Addr) (c0_2 : Nat) (n0_2 : Nat) (l0_2 : List Int) (a1 : Int) (Z : Below w0.heap.size w0 ws) (hF : Fr w0 ws P0 [] ws) (R0_1 : Stable ws P0 (fun w => Kd.C kStep w A0_1 n0_1 l0_1)) (hc0_1 : n0_1 ≤ c0_1) (R0_2 : Stable ws P0 (fun w => Kd.C (Kd.int .i64) w A0_2 n0_2 l0_2)) (hc0_2 : n0_2 ≤ c0_2) (B0 : Stable ws P0 (fun w => w.heap[g0]? = some (.cells #[.int .i64 a0_0, .slice A0_1 n0_1 c0_1, .slice A0_2 n0_2 c0_2] 27 (0, 0)))) (r_1 : List Bool) (h : impl_Plan_doneFirst.f a0_0 l0_1 l0_2 a1 = some r_1) :
    Calls Try.prog 69 #[.pointer (some ⟨g0, 0, none⟩), .int .i64 a1] ws (Post1 w0 ws P0 (fun ((q_2, q_3) : (Option Addr) × Nat) => .slice q_2 r_1.length q_3) (fun ((q_2, q_3) : (Option Addr) × Nat) => [row Kd.bool 4 (.slice q_2 r_1.length q_3) r_1])) := by
  unfold impl_Plan_doneFirst.f at h
  obtain rfl := (R0_1 ws (KeptB.refl _ _)).1
  obtain rfl := (R0_2 ws (KeptB.refl _ _)).1
  refine enter Try.func69 rfl Try.ntmps69 rfl hF ?_
  refine c_seq ?_
  refine za0 ?_
  refine o_q rfl rfl (q_asg rfl) ?_
  refine o_end ?_
  refine za1 ?_
  refine c_seq ?_
  refine za0 ?_
  refine o_q rfl rfl (za3 rfl) ?_
  refine o_q rfl rfl (q_nil rfl) ?_
  refine o_q rfl rfl (q_f F27_1 rfl) ?_
  refine o_q rfl rfl (q_ldb Y24 rfl (fun w h => B0.now Z h) rfl) ?_
  refine o_q rfl rfl (q_len Try.underlying24 rfl) ?_
  refine za7 h (fun l1 hm2 h => ?_) rfl
  refine o_e rfl (e_make Kd.bool false Try.underlying78 I4 rfl (by decide) (by decide) (fun _ _ => rfl) rfl rfl hm2) (cur2 (fun A3 c4 => ?_))
  refine o_q rfl rfl (q_asg rfl) ?_
  refine o_end ?_
  refine za1 ?_
  refine c_seq ?_
  refine c_seq ?_
  refine za0 ?_
  refine o_q rfl rfl (za3 rfl) ?_
  refine o_q rfl rfl (za3 rfl) ?_
  refine o_end ?_
  refine za1 ?_
  refine zaj ?_
  refine za7 h (fun _ hbd16 h => ?_) rfl
  refine za7 h (fun o15 hl14 hR13 => ?_) rfl
  clear h
  have hm12 : a1 ≤ 9223372036854775807 := bd_le hbd16
  refine zax (σ := (List Bool) × Int) (fun k10 ((l6, i7) : (List Bool) × Int) => Cn a1 i7 k10 ∧ impl_Plan_doneFirst.l0 k10 l6 i7 = some o15) [6, 14, 15, 16, 17, 18, 19, 20] (fun ((l6, i7) : (List Bool) × Int) => [(14, .int .i64 i7)]) (fun ((l6, i7) : (List Bool) × Int) => [row Kd.bool 4 (.slice A3 l1.length c4) l6]) (a1).toNat (l1, 0) ⟨Cn.start hm12, hl14⟩ ⟨rfl, trivial⟩ (fun w h => h) ?_
  refine natC (cur2 (fun l6 i7 => fun U17 hJ_ => ?_)) (fun k10 => (cur2 (fun l6 i7 => fun U17 hJ_ => ?_)))
  · skip
    clear hl14
    have hr11 := hJ_.1; have h := hJ_.2; clear hJ_
    replace h : impl_Plan_doneFirst.l0 0 l6 i7 = some o15 := h
    rw [impl_Plan_doneFirst.l0] at h
    refine c_seq ?_
    refine za0 ?_
    refine o_q rfl rfl (q_lss rfl rfl) ?_
    refine o_end ?_
    refine za1 ?_
    refine c_seq ?_
    refine zb2 (congrArg Value.bool hr11.ge) ?_
    refine zb4 ?_
    refine za5 ?_
    refine za5 ?_
    have e_ := Option.some.inj h; replace h := hR13; rw [← e_] at h; clear e_
    refine x_hit ?_
    refine za1 ?_
    refine c_seq ?_
    refine za0 ?_
    refine o_q rfl rfl (za3 rfl) ?_
    refine o_q rfl rfl (q_asg rfl) ?_
    refine o_end ?_
    refine za1 ?_
    refine c_ret ?_
    refine x_fact (p := l1.length = l6.length) (fun w h => (h.row_C (i := 0) rfl).2.1) (fun hn19 => ?_)
    have e0_ := Option.some.inj h; clear h
    subst e0_
    exact x_r1 (A3, c4) Try.results69 (zai (v := .slice A3 l1.length c4) rfl) (by (try rw [hn19]); first | done | rfl) (f_pickE (L1 := [row Kd.bool 4 (.slice A3 l1.length c4) l6]) rfl [0] (by decide) rfl (by (try rw [hn19]); first | done | rfl))
  · skip
    clear hl14
    have hr11 := hJ_.1; have h := hJ_.2; clear hJ_
    replace h : impl_Plan_doneFirst.l0 (k10 + 1) l6 i7 = some o15 := h
    rw [impl_Plan_doneFirst.l0] at h
    refine c_seq ?_
    refine za0 ?_
    refine o_q rfl rfl (q_lss rfl rfl) ?_
    refine o_end ?_
    refine za1 ?_
    refine c_seq ?_
    refine zb1 (congrArg Value.bool hr11.lt) ?_
    refine zan ?_
    refine za1 ?_
    refine c_seq ?_
    refine zaj ?_
    refine c_seq ?_
    refine za0 ?_
    refine o_q rfl rfl (za3 rfl) ?_
    refine o_q rfl rfl (q_asg rfl) ?_
    refine o_end ?_
    refine za1 ?_
    refine za0 ?_
    refine o_q rfl rfl (za3 rfl) ?_
    refine o_q rfl rfl (za3 rfl) ?_
    refine zaz (p := Sh A3 l1.length l6.length) (fun w h => f_sh (dk := Kd.bool) h (fun w h => h.zau (i := 0) rfl)) (fun hq20 => ?_)
    refine za7 h (fun y22 hg21 h => ?_) rfl
    refine o_q rfl rfl (q_ix Try.underlying78 Z4 rfl rfl hq20 hg21) ?_
    refine za7 h (fun l23 hs24 h => ?_) rfl
    refine o_e rfl (e_set (i := 0) rfl rfl rfl Z4 hs24) (fun _ => ?_)
    refine o_end ?_
    refine zam ?_
    refine za1 ?_
    refine za0 ?_
    refine o_q rfl rfl (q_up rfl rfl hr11.up) ?_
    refine o_q rfl rfl (za3 rfl) ?_
    refine o_end ?_
    refine zak k10 (l23, i7 + 1) (Nat.lt_succ_self _) ⟨hr11.step, h⟩ ⟨rfl, trivial⟩ (fun w h => za6 [0] (by decide) rfl w h) ?_
    repeat (first | exact zab _ _ | refine zaf rfl ?_ | refine zac rfl ?_ | refine zah rfl ?_)

/-! ### slices.Index[[]int,int]: function 85 -/
def slices_Index_int_int.l0 (a1 : Int) : (List Int) → Int → Option ((Int) ⊕ (Unit))
  | [], i1 => some (.inr ())
  | y2 :: ys3, i1 => if a1 = y2 then (some (.inl i1)) else (slices_Index_int_int.l0 a1 ys3 (i1 + 1))
def slices_Index_int_int.f (l0 : List Int) (a1 : Int) : Option Int := (slices_Index_int_int.l0 a1 l0 0).bind fun o_ => match o_ with | .inl r_ => some r_ | .inr _ => some (-1)
set_option maxHeartbeats 600000 in
set_option maxRecDepth 100000 in
theorem slices_Index_int_int.calls {w0 ws : World} {P0 : Nat → Prop} (A0 : Option Addr) (c0 : Nat) (n0 : Nat) (l0 : List Int) (a1 : Int) (Z : Below w0.heap.size w0 ws) (hF : Fr w0 ws P0 [] ws) (R0 : Stable ws P0 (fun w => Kd.C (Kd.int .i64) w A0 n0 l0)) (hc0 : n0 ≤ c0) (r_1 : Int) (h : slices_Index_int_int.f l0 a1 = some r_1) :
    Calls Try.prog 85 #[.slice A0 n0 c0, .int .i64 a1] ws (Post1 w0 ws P0 (fun (_ : Unit) => .int .i64 r_1) (fun (_ : Unit) => [])) := by
  unfold slices_Index_int_int.f at h
  obtain rfl := (R0 ws (KeptB.refl _ _)).1
  refine enter Try.func85 rfl Try.ntmps85 rfl hF ?_
  refine c_seq ?_
  refine za0 ?_
  refine o_q rfl rfl (q_asg rfl) ?_
  refine o_end ?_
  refine za1 ?_
  refine c_seq ?_
  refine c_seq ?_
  refine za0 ?_
  refine o_q rfl rfl (za3 rfl) ?_
  refine o_q rfl rfl (q_len Try.underlying25 rfl) ?_
  refine o_q rfl rfl (za3 rfl) ?_
  refine o_end ?_
  refine za1 ?_
  refine zaj ?_
  refine za7 h (fun o9 hl8 hR7 => ?_) rfl
  clear h
  refine c_fact (p := l0.length ≤ 9223372036854775807) (fun w h => (R0.now Z h).2.1) (fun hm6 => ?_)
  refine zax (σ := (List Int) × Int) (fun k4 ((ys3, i1) : (List Int) × Int) => Rg l0 i1 ys3 ∧ ys3.length = k4 ∧ slices_Index_int_int.l0 a1 ys3 i1 = some o9) [4, 5, 8, 9, 10, 11, 12, 13, 14, 15, 16, 17, 18] (fun ((ys3, i1) : (List Int) × Int) => [(8, .int .i64 i1)]) (fun ((ys3, i1) : (List Int) × Int) => []) l0.length (l0, 0) ⟨Rg.start _, rfl, hl8⟩ ⟨rfl, trivial⟩ (fun w h => h) ?_
  refine fun k4 => cur2 (listC (fun i1 U10 hJ_ => ?_) (fun y2 ys3 i1 U10 hJ_ => ?_))
  · skip
    clear hl8
    have hr5 := hJ_.1; have hk11 := hJ_.2.1; have h := hJ_.2.2; clear hJ_
    replace h : slices_Index_int_int.l0 a1 [] i1 = some o9 := h
    rw [slices_Index_int_int.l0] at h
    refine c_seq ?_
    refine za0 ?_
    refine o_q rfl rfl (q_lss rfl rfl) ?_
    refine o_end ?_
    refine za1 ?_
    refine c_seq ?_
    refine zb2 (congrArg Value.bool hr5.ge) ?_
    refine zb4 ?_
    refine za5 ?_
    refine za5 ?_
    have e_ := Option.some.inj h; replace h := hR7; rw [← e_] at h; clear e_
    refine x_hit ?_
    refine za1 ?_
    refine c_seq ?_
    refine za0 ?_
    refine o_q rfl rfl (q_asg rfl) ?_
    refine o_end ?_
    refine za1 ?_
    refine c_ret ?_
    have e0_ := Option.some.inj h; clear h
    subst e0_
    exact x_r1 () Try.results85 (zai rfl) rfl (fun w h => za6 [] (by decide) rfl w h)
  · skip
    clear hl8
    have hr5 := hJ_.1; have hk11 := hJ_.2.1; have h := hJ_.2.2; clear hJ_
    replace h : slices_Index_int_int.l0 a1 (y2 :: ys3) i1 = some o9 := h
    rw [slices_Index_int_int.l0] at h
    refine c_seq ?_
    refine za0 ?_
    refine o_q rfl rfl (q_lss rfl rfl) ?_
    refine o_end ?_
    refine za1 ?_
    refine c_seq ?_
    refine zb1 (congrArg Value.bool hr5.lt) ?_
    refine zan ?_
    refine za1 ?_
    refine c_seq ?_
    refine zaj ?_
    refine c_seq ?_
    refine za0 ?_
    refine o_q rfl rfl (za3 rfl) ?_
    refine o_q rfl rfl (q_asg rfl) ?_
    refine o_end ?_
    refine za1 ?_
    refine c_seq ?_
    refine za0 ?_
    refine o_q rfl rfl (za3 rfl) ?_
    refine o_q rfl rfl (za3 rfl) ?_
    refine o_q rfl rfl (za3 rfl) ?_
    refine zaz (p := Sh A0 l0.length l0.length) (fun w h => f_sh (dk := (Kd.int .i64)) h (fun w h => R0.now Z h)) (fun hq12 => ?_)
    refine o_q rfl rfl (q_ix Try.underlying25 Z3 rfl rfl hq12 hr5.get) ?_
    refine o_q rfl rfl (q_lde (off := 0) Y3 rfl rfl (fun w h => R0.now Z h) hr5.get (fun _ _ h => h) rfl) ?_
    refine o_q rfl rfl (q_eql rfl rfl) ?_
    refine o_end ?_
    refine za1 ?_
    refine zav _ rfl (fun hb13 => ?_) (fun hb13 => ?_)
    · skip
      replace h := br_t hb13 h
      refine c_seq ?_
      refine za0 ?_
      refine o_q rfl rfl (za3 rfl) ?_
      refine o_q rfl rfl (q_asg rfl) ?_
      refine o_end ?_
      refine za1 ?_
      refine c_ret ?_
      refine zao ?_
      refine zaa ?_
      refine zaa ?_
      have e_ := Option.some.inj h; replace h := hR7; rw [← e_] at h; clear e_
      refine zao ?_
      refine zaa ?_
      have e0_ := Option.some.inj h; clear h
      subst e0_
      exact x_r1 () Try.results85 (zai rfl) rfl (fun w h => za6 [] (by decide) rfl w h)
    · skip
      replace h := br_f hb13 h
      refine zan ?_
      refine zam ?_
      refine za1 ?_
      refine za0 ?_
      refine o_q rfl rfl (q_up rfl rfl (hr5.up hm6)) ?_
      refine o_q rfl rfl (za3 rfl) ?_
      refine o_end ?_
      refine zak ys3.length (ys3, i1 + 1) (by rw [← hk11]; exact Nat.lt_succ_self _) ⟨hr5.step, rfl, h⟩ ⟨rfl, trivial⟩ (fun w h => za6 [] (by decide) rfl w h) ?_
      repeat (first | exact zab _ _ | refine zaf rfl ?_ | refine zac rfl ?_ | refine zah rfl ?_)

/-! ### loop.example/g01098/impl.renamed: function 78 -/
def impl_renamed.l0 (l1 : List Int) : (List Int) → (List Int) → Int → Option (List Int)
  | [], l5, i8 => some l5
  | y9 :: ys10, l5, i8 => (gt l1 y9).bind fun y22 => (ap l5 ([y22] : List Int)).bind fun l26 => impl_renamed.l0 l1 ys10 l26 (i8 + 1)
def impl_renamed.f (l0 : List Int) (l1 : List Int) : Option (List Int) := (impl_renamed.l0 l1 l0 ([] : List Int) 0).bind fun l5 => some l5
set_option maxHeartbeats 600000 in
set_option maxRecDepth 100000 in
theorem impl_renamed.calls {w0 ws : World} {P0 : Nat → Prop} (A0 : Option Addr) (c0 : Nat) (n0 : Nat) (l0 : List Int) (A1 : Option Addr) (c1 : Nat) (n1 : Nat) (l1 : List Int) (Z : Below w0.heap.size w0 ws) (hF : Fr w0 ws P0 [] ws) (R0 : Stable ws P0 (fun w => Kd.C (Kd.int .i64) w A0 n0 l0)) (hc0 : n0 ≤ c0) (R1 : Stable ws P0 (fun w => Kd.C (Kd.int .i64) w A1 n1 l1)) (hc1 : n1 ≤ c1) (r_1 : List Int) (h : impl_renamed.f l0 l1 = some r_1) :
    Calls Try.prog 78 #[.slice A0 n0 c0, .slice A1 n1 c1] ws (Post1 w0 ws P0 (fun ((q_2, q_3) : (Option Addr) × Nat) => .slice q_2 r_1.length q_3) (fun ((q_2, q_3) : (Option Addr) × Nat) => [row (Kd.int .i64) 3 (.slice q_2 r_1.length q_3) r_1])) := by
  unfold impl_renamed.f at h
  obtain rfl := (R0 ws (KeptB.refl _ _)).1
  obtain rfl := (R1 ws (KeptB.refl _ _)).1
  refine enter Try.func78 rfl Try.ntmps78 rfl hF ?_
  refine c_seq ?_
  refine za0 ?_
  refine o_q rfl rfl (q_asg rfl) ?_
  refine o_end ?_
  refine za1 ?_
  refine c_seq ?_
  refine za0 ?_
  refine o_e rfl (e_lit0 (Kd.int .i64) Try.underlying25 I3) (cur2 (fun A2 c3 => ?_))
  refine o_q rfl rfl (q_asg rfl) ?_
  refine o_end ?_
  refine za1 ?_
  refine c_seq ?_
  refine c_seq ?_
  refine za0 ?_
  refine o_q rfl rfl (za3 rfl) ?_
  refine o_q rfl rfl (q_len Try.underlying25 rfl) ?_
  refine o_q rfl rfl (za3 rfl) ?_
  refine o_end ?_
  refine za1 ?_
  refine zaj ?_
  refine za7 h (fun o16 hl15 hR14 => ?_) rfl
  clear h
  refine c_fact (p := l0.length ≤ 9223372036854775807) (fun w h => (R0.now Z h).2.1) (fun hm13 => ?_)
  refine zax (σ := (List Int) × (List Int) × Int × (Option Addr) × Nat) (fun k11 ((ys10, l5, i8, A6, c7) : (List Int) × (List Int) × Int × (Option Addr) × Nat) => Rg l0 i8 ys10 ∧ ys10.length = k11 ∧ impl_renamed.l0 l1 ys10 l5 i8 = some o16) [5, 7, 11, 12, 13, 14, 15, 16, 17, 18, 19, 20, 21, 22] (fun ((ys10, l5, i8, A6, c7) : (List Int) × (List Int) × Int × (Option Addr) × Nat) => [(5, .slice A6 l5.length c7), (11, .int .i64 i8)]) (fun ((ys10, l5, i8, A6, c7) : (List Int) × (List Int) × Int × (Option Addr) × Nat) => [row (Kd.int .i64) 3 (.slice A6 l5.length c7) l5]) l0.length (l0, ([] : List Int), 0, A2, c3) ⟨Rg.start _, rfl, hl15⟩ ⟨rfl, rfl, trivial⟩ (fun w h => h) ?_
  refine fun k11 => cur5 (listC (fun l5 i8 A6 c7 U17 hJ_ => ?_) (fun y9 ys10 l5 i8 A6 c7 U17 hJ_ => ?_))
  · skip
    clear hl15
    have hr12 := hJ_.1; have hk18 := hJ_.2.1; have h := hJ_.2.2; clear hJ_
    replace h : impl_renamed.l0 l1 [] l5 i8 = some o16 := h
    rw [impl_renamed.l0] at h
    refine c_seq ?_
    refine za0 ?_
    refine o_q rfl rfl (q_lss rfl rfl) ?_
    refine o_end ?_
    refine za1 ?_
    refine c_seq ?_
    refine zb2 (congrArg Value.bool hr12.ge) ?_
    refine zb4 ?_
    refine za5 ?_
    refine za5 ?_
    have e_ := Option.some.inj h; replace h := hR14; rw [← e_] at h; clear e_
    refine x_hit ?_
    refine za1 ?_
    refine c_seq ?_
    refine za0 ?_
    refine o_q rfl rfl (za3 rfl) ?_
    refine o_q rfl rfl (q_asg rfl) ?_
    refine o_end ?_
    refine za1 ?_
    refine c_ret ?_
    have e0_ := Option.some.inj h; clear h
    subst e0_
    exact x_r1 (A6, c7) Try.results78 (zai rfl) rfl (fun w h => za6 [0] (by decide) rfl w h)
  · skip
    clear hl15
    have hr12 := hJ_.1; have hk18 := hJ_.2.1; have h := hJ_.2.2; clear hJ_
    replace h : impl_renamed.l0 l1 (y9 :: ys10) l5 i8 = some o16 := h
    rw [impl_renamed.l0] at h
    refine c_seq ?_
    refine za0 ?_
    refine o_q rfl rfl (q_lss rfl rfl) ?_
    refine o_end ?_
    refine za1 ?_
    refine c_seq ?_
    refine zb1 (congrArg Value.bool hr12.lt) ?_
    refine zan ?_
    refine za1 ?_
    refine c_seq ?_
    refine zaj ?_
    refine c_seq ?_
    refine za0 ?_
    refine zaz (p := Sh A0 l0.length l0.length) (fun w h => f_sh (dk := (Kd.int .i64)) h (fun w h => R0.now Z h)) (fun hq19 => ?_)
    refine o_q rfl rfl (q_ix Try.underlying25 Z3 rfl rfl hq19 hr12.get) ?_
    refine o_q rfl rfl (q_lde (off := 0) Y3 rfl rfl (fun w h => R0.now Z h) hr12.get (fun _ _ h => h) rfl) ?_
    refine o_q rfl rfl (q_asg rfl) ?_
    refine o_end ?_
    refine za1 ?_
    refine za0 ?_
    refine o_q rfl rfl (za3 rfl) ?_
    refine o_q rfl rfl (za3 rfl) ?_
    refine o_q rfl rfl (za3 rfl) ?_
    refine zaz (p := Sh A1 l1.length l1.length) (fun w h => f_sh (dk := (Kd.int .i64)) h (fun w h => R1.now Z h)) (fun hq20 => ?_)
    refine za7 h (fun y22 hg21 h => ?_) rfl
    refine o_q rfl rfl (q_ix Try.underlying25 Z3 rfl rfl hq20 hg21) ?_
    refine o_q rfl rfl (q_lde (off := 0) Y3 rfl rfl (fun w h => R1.now Z h) hg21 (fun _ _ h => h) rfl) ?_
    refine o_e rfl (e_lit (vs := [(0, .int .i64 y22)]) (cs := [.int .i64 y22]) (Kd.int .i64) ([y22] : List Int) Try.underlying25 I3 (by decide) rfl (by decide) rfl rfl (fun _ _ => Kd.zar _)) (cur2 (fun A23 c24 => ?_))
    refine za7 h (fun l26 ha27 h => ?_) rfl
    refine o_e rfl (e_app (i := 1) (j := 0) Try.underlying25 I3 rfl (by decide) (by decide) rfl rfl rfl rfl rfl ha27) (cur2 (fun A28 c29 => ?_))
    refine o_q rfl rfl (q_asg rfl) ?_
    refine o_end ?_
    refine zam ?_
    refine za1 ?_
    refine za0 ?_
    refine o_q rfl rfl (q_up rfl rfl (hr12.up hm13)) ?_
    refine o_q rfl rfl (za3 rfl) ?_
    refine o_end ?_
    refine zak ys10.length (ys10, l26, i8 + 1, A28, c29) (by rw [← hk18]; exact Nat.lt_succ_self _) ⟨hr12.step, rfl, h⟩ ⟨rfl, rfl, trivial⟩ (fun w h => za6 [1] (by decide) rfl w h) ?_
    repeat (first | exact zab _ _ | refine zaf rfl ?_ | refine zac rfl ?_ | refine zah rfl ?_)

/-! ### loop.example/g01098/impl.AllocatePlan: function 25 -/
def impl_AllocatePlan.l2 (l1516 : List Bool) : Nat → (List Int) → Int → Option (List Int)
  | 0, l1519, i1520 => some l1519
  | k1523 + 1, l1519, i1520 => (gt l1519 i1520).bind fun y3835 => (if y3835 ≠ (-1) then ((gt l1516 y3835).bind fun y3849 => some (!y3849)) else (some false)).bind fun b3840 => if b3840 = true then ((gt l1519 i1520).bind fun y3852 => (st l1519 i1520 (-1)).bind fun l3853 => impl_AllocatePlan.l2 l1516 k1523 l3853 (i1520 + 1)) else (impl_AllocatePlan.l2 l1516 k1523 l1519 (i1520 + 1))
def impl_AllocatePlan.l1 (a0_0 : Int) (l0_1 : List SStep) (l0_2 : List Int) (l1464 : List Int) : (List SStep) → (List Int) → (List Int) → (List SRegOp) → Int → Option ((List Int) × (List Int) × (List SRegOp))
  | [], l1488, l1489, l1490, i1493 => some (l1488, l1489, l1490)
  | y1494 :: ys1495, l1488, l1489, l1490, i1493 => (impl_Plan_doneFirst.f a0_0 l0_1 l0_2 (i1493 + 1)).bind fun l1512 => (impl_Plan_needed.f a0_0 l0_1 l0_2 l1512).bind fun l1516 => (impl_AllocatePlan.l2 l1516 (((l1464.length : Int)).toNat) l1488 0).bind fun l1519 => (slices_Index_int_int.f l1519 (-1)).bind fun i1532 => ((gt l1489 y1494.f0).bind fun y3045 => (gt l1489 y1494.f1).bind fun y3344 => (ap l1490 ([(⟨i1532, y3045, y3344⟩ : SRegOp)] : List SRegOp)).bind fun l3583 => some l3583).bind fun l2674 => (gt l1519 i1532).bind fun y3825 => (st l1519 i1532 (w64 (a0_0 + i1493))).bind fun l3826 => (gt l1489 (w64 (a0_0 + i1493))).bind fun y3830 => (st l1489 (w64 (a0_0 + i1493)) i1532).bind fun l3831 => impl_AllocatePlan.l1 a0_0 l0_1 l0_2 l1464 ys1495 l3826 l3831 l2674 (i1493 + 1)
def impl_AllocatePlan.l0 : Nat → (List Int) → (List Int) → Int → Option ((List Int) × (List Int))
  | 0, l1473, l1474, i1475 => some (l1473, l1474)
  | k1478 + 1, l1473, l1474, i1475 => (gt l1473 i1475).bind fun y3857 => (st l1473 i1475 i1475).bind fun l3858 => (gt l1474 i1475).bind fun y3862 => (st l1474 i1475 i1475).bind fun l3863 => impl_AllocatePlan.l0 k1478 l3858 l3863 (i1475 + 1)
def impl_AllocatePlan.f (k : Nat) (a0_0 : Int) (l0_1 : List SStep) (l0_2 : List Int) : Option (Int × (List Int) × (List SRegOp) × (List Int) × Bool) := (impl_IsPlan.f k a0_0 l0_1 l0_2).bind fun b6 => if b6 = true then (((impl_firsts.f (l0_1.length : Int)).bind fun l921 => (impl_Plan_pressure.f a0_0 l0_1 l0_2 l921).bind fun i981 => (impl_firsts.f a0_0).bind fun l1161 => some (i981, l1161)).bind fun (i730, l731) => (slices_Repeat_int_int.f ([(-1)] : List Int) i730).bind fun l1464 => (impl_Plan_many.f a0_0 l0_1 l0_2).bind fun _ => (mk0 (w64 (a0_0 + (l0_1.length : Int))) (0 : Int)).bind fun l1468 => (bd a0_0).bind fun _ => (impl_AllocatePlan.l0 ((a0_0).toNat) l1464 l1468 0).bind fun (l1473, l1474) => (impl_AllocatePlan.l1 a0_0 l0_1 l0_2 l1464 l0_1 l1473 l1474 ([] : List SRegOp) 0).bind fun (l1488, l1489, l1490) => (impl_renamed.f l0_2 l1489).bind fun l1505 => some (i730, l731, l1490, l1505, true)) else (some (0, ([] : List Int), ([] : List SRegOp), ([] : List Int), false))
set_option maxHeartbeats 600000 in
set_option maxRecDepth 100000 in
theorem impl_AllocatePlan.calls (k : Nat) {w0 ws : World} {P0 : Nat → Prop} (a0_0 : Int) (A0_1 : Option Addr) (c0_1 : Nat) (n0_1 : Nat) (l0_1 : List SStep) (A0_2 : Option Addr) (c0_2 : Nat) (n0_2 : Nat) (l0_2 : List Int) (Z : Below w0.heap.size w0 ws) (hF : Fr w0 ws P0 [] ws) (R0_1 : Stable ws P0 (fun w => Kd.C kStep w A0_1 n0_1 l0_1)) (hc0_1 : n0_1 ≤ c0_1) (R0_2 : Stable ws P0 (fun w => Kd.C (Kd.int .i64) w A0_2 n0_2 l0_2)) (hc0_2 : n0_2 ≤ c0_2) (r_1 : Int) (r_2 : List Int) (r_5 : List SRegOp) (r_8 : List Int) (r_11 : Bool) (h : impl_AllocatePlan.f k a0_0 l0_1 l0_2 = some (r_1, r_2, r_5, r_8, r_11)) :
    Calls Try.prog 25 #[.agg #[.int .i64 a0_0, .slice A0_1 n0_1 c0_1, .slice A0_2 n0_2 c0_2]] ws (Post1 w0 ws P0 (fun ((q_3, q_4, q_6, q_7, q_9, q_10) : (Option Addr) × Nat × (Option Addr) × Nat × (Option Addr) × Nat) => .tuple #[.agg #[.int .i64 r_1, .slice q_3 r_2.length q_4, .slice q_6 r_5.length q_7, .slice q_9 r_8.length q_10], .bool r_11]) (fun ((q_3, q_4, q_6, q_7, q_9, q_10) : (Option Addr) × Nat × (Option Addr) × Nat × (Option Addr) × Nat) => [row (Kd.int .i64) 3 (.slice q_3 r_2.length q_4) r_2, row kRegOp 94 (.slice q_6 r_5.length q_7) r_5, row (Kd.int .i64) 3 (.slice q_9 r_8.length q_10) r_8])) := by
  unfold impl_AllocatePlan.f at h
  obtain rfl := (R0_1 ws (KeptB.refl _ _)).1
  obtain rfl := (R0_2 ws (KeptB.refl _ _)).1
  refine enter Try.func25 rfl Try.ntmps25 rfl hF ?_
  refine c_seq ?_
  refine za0 ?_
  refine o_e rfl (e_box rfl) (fun g1 => ?_)
  refine o_e rfl (zas V43 rfl) (fun g3 => ?_)
  refine o_q rfl rfl (q_asg rfl) ?_
  refine o_end ?_
  refine za1 ?_
  refine c_seq ?_
  refine c_seq ?_
  refine za0 ?_
  refine o_q rfl rfl (q_ldB G27 Z27 rfl (fun w h => h.zae (i := 1) rfl) rfl) ?_
  refine za7 h (fun b6 hx5 h => ?_) rfl
  refine o_e rfl (zad 0 Z Try.func67 N67 rfl rfl rfl (fun w P1 hF hB hS hT => impl_IsPlan.calls k a0_0 A0_1 c0_1 l0_1.length l0_1 A0_2 c0_2 l0_2.length l0_2 hB hF (hS _ R0_1) hc0_1 (hS _ R0_2) hc0_2 _ hx5)) (fun _ => ?_)
  refine o_q rfl rfl (q_not rfl) ?_
  refine o_end ?_
  refine za1 ?_
  refine zav _ rfl (fun hb7 => ?_) (fun hb7 => ?_)
  · replace hb7 := nt_t hb7
    replace h := bb_f hb7 h
    refine c_seq ?_
    refine za0 ?_
    refine o_q rfl rfl (q_build (vs := []) (cs := [.int .i64 0, .slice none 0 0, .slice none 0 0, .slice none 0 0]) rfl rfl) ?_
    refine o_e rfl (zaq (i := 0) rfl rfl rfl Z43 rfl rfl) (fun _ => ?_)
    refine o_q rfl rfl (q_asg rfl) ?_
    refine o_end ?_
    refine za1 ?_
    refine c_ret ?_
    refine zaa ?_
    refine x_nil (Kd.int .i64) 3 ?_
    refine x_nil kRegOp 94 ?_
    refine x_nil (Kd.int .i64) 3 ?_
    have e0_ := Option.some.inj h; clear h
    have d0_ := (Prod.mk.inj e0_).1; have e1_ := (Prod.mk.inj e0_).2; clear e0_; subst d0_
    have d1_ := (Prod.mk.inj e1_).1; have e2_ := (Prod.mk.inj e1_).2; clear e1_; subst d1_
    have d2_ := (Prod.mk.inj e2_).1; have e3_ := (Prod.mk.inj e2_).2; clear e2_; subst d2_
    have d3_ := (Prod.mk.inj e3_).1; have e4_ := (Prod.mk.inj e3_).2; clear e3_; subst d3_
    subst e4_
    exact x_r2 (none, 0, none, 0, none, 0) Try.results25 (rv_cell rfl G43 Z43 (fun w h => h.zae (i := 3) rfl) rfl) (zai rfl) rfl (fun w h => za6 [2, 1, 0] (by decide) rfl w h)
  · replace hb7 := nt_f hb7
    replace h := bb_t hb7 h
    refine zan ?_
    refine za1 ?_
    refine za7 h (fun o734 hl735 hR736 => ?_) rfl
    clear h
    refine c_cutJ (σ := Int × (List Int) × Nat × (Option Addr) × Nat) (fun (i730, l731, g729, A732, c733) => some (i730, l731) = some o734) [4, 18, 19, 20, 21, 22, 23, 24, 25, 26] (fun (i730, l731, g729, A732, c733) => [(4, .pointer (some ⟨g729, 0, none⟩))]) (fun (i730, l731, g729, A732, c733) => [box g1 27 #[.int .i64 a0_0, .slice A0_1 l0_1.length c0_1, .slice A0_2 l0_2.length c0_2], box g3 43 #[.int .i64 0, .slice none 0 0, .slice none 0 0, .slice none 0 0], box g729 43 #[.int .i64 i730, .slice A732 l731.length c733, .slice none 0 0, .slice none 0 0], row (Kd.int .i64) 3 (.slice A732 l731.length c733) l731]) ?_ ?_
    · skip
      have h := hl735; clear hl735
      clear hR736
      refine za7 h (fun l921 hx920 h => ?_) rfl
      refine za7 h (fun i981 hx980 h => ?_) rfl
      refine za7 h (fun l1161 hx1160 h => ?_) rfl
      refine a_start (ds := []) MO rfl ?_
      refine za9 0 rfl rfl rfl (by kernel_rfl) (fun _ _ _ h => h) (q_f F27_1 rfl) ?_
      refine zb0 1 rfl rfl rfl (by kernel_rfl) (fun _ _ _ h => h) (fun w h => h) (q_ldb Y24 rfl (fun w h => h.zae (i := 1) rfl) rfl) ?_
      refine za9 2 rfl rfl rfl (by kernel_rfl) (fun _ _ _ h => h) (q_len Try.underlying24 rfl) ?_
      refine za9 5 rfl rfl rfl (by kernel_rfl) (fun _ _ _ h => h) (q_f F27_0 rfl) ?_
      refine zb0 6 rfl rfl rfl (by kernel_rfl) (fun _ _ _ h => h) (fun w h => h) (q_ldb Y3 rfl (fun w h => h.zae (i := 1) rfl) rfl) ?_
      refine a_two 3 9 rfl rfl rfl rfl (by kernel_rfl) rfl rfl (zad 0 Z Try.func77 N77 rfl rfl rfl (fun w P1 hF hB hS hT => impl_firsts.calls (l0_1.length : Int) hB hF _ hx920)) (fun s w h => za8 [some 1, some 2] (by decide) w h rfl) (zas V43 rfl) (fun s w h => za8 [some 1, some 2] (by decide) w h rfl) (cur2 (fun A922 c923 => ?_)) (fun g1280 => ?_)
      · skip
        refine a_two 4 9 rfl rfl rfl rfl (by kernel_rfl) rfl rfl (zad 0 Z Try.func81 N81 rfl rfl rfl (fun w P1 hF hB hS hT => impl_Plan_pressure.calls g1 a0_0 A0_1 c0_1 l0_1.length l0_1 A0_2 c0_2 l0_2.length l0_2 A922 c923 l921.length l921 hB hF (hS _ R0_1) hc0_1 (hS _ R0_2) hc0_2 (hT 2 _ rfl).box (hT 0 _ rfl).row (hT 0 _ rfl).cap _ hx980)) (fun s w h => za8 [some 1, some 2] (by decide) w h rfl) (zas V43 rfl) (fun s w h => za8 [some 2, some 3] (by decide) w h rfl) (fun _ => ?_) (fun g1280 => ?_)
        · skip
          refine a_two 7 9 rfl rfl rfl rfl (by kernel_rfl) rfl rfl (zad 0 Z Try.func77 N77 rfl rfl rfl (fun w P1 hF hB hS hT => impl_firsts.calls a0_0 hB hF _ hx1160)) (fun s w h => za8 [some 2, some 3] (by decide) w h rfl) (zas V43 rfl) (fun s w h => za8 [some 2, some 3] (by decide) w h rfl) (cur2 (fun A1162 c1163 => ?_)) (fun g1280 => ?_)
          · skip
            refine za9 8 rfl rfl rfl (by kernel_rfl) (fun _ _ _ h => h) (q_build (vs := [(0, .int .i64 i981), (1, .slice A1162 l1161.length c1163)]) (cs := [.int .i64 i981, .slice A1162 l1161.length c1163, .slice none 0 0, .slice none 0 0]) rfl rfl) ?_
            refine a_one 9 rfl rfl (by kernel_rfl) rfl (zas V43 rfl) (fun s w h => za8 [some 3, some 4] (by decide) w h rfl) (fun g1280 => ?_)
            refine a_one 10 rfl rfl (by kernel_rfl) rfl (zaq (i := 0) rfl rfl rfl Z43 rfl rfl) (fun s w h => za8 [some 3, some 4] (by decide) w h rfl) (fun _ => ?_)
            refine zay (by kernel_rfl) ?_
            refine zat (i981, l1161, g1280, A1162, c1163) h ⟨rfl, trivial⟩ (fun w h => za6 [4, 3, 0, 1] (by decide) rfl w h) ?_
            repeat (first | exact zab _ _ | refine zaf rfl ?_ | refine zac rfl ?_ | refine zah rfl ?_)
          · skip
            refine a_one 7 rfl rfl (by kernel_rfl) rfl (zad 0 Z Try.func77 N77 rfl rfl rfl (fun w P1 hF hB hS hT => impl_firsts.calls a0_0 hB hF _ hx1160)) (fun s w h => za8 [some 3, some 4] (by decide) w h rfl) (cur2 (fun A1162 c1163 => ?_))
            refine za9 8 rfl rfl rfl (by kernel_rfl) (fun _ _ _ h => h) (q_build (vs := [(0, .int .i64 i981), (1, .slice A1162 l1161.length c1163)]) (cs := [.int .i64 i981, .slice A1162 l1161.length c1163, .slice none 0 0, .slice none 0 0]) rfl rfl) ?_
            refine a_one 10 rfl rfl (by kernel_rfl) rfl (zaq (i := 1) rfl rfl rfl Z43 rfl rfl) (fun s w h => za8 [some 3, some 4] (by decide) w h rfl) (fun _ => ?_)
            refine zay (by kernel_rfl) ?_
            refine zat (i981, l1161, g1280, A1162, c1163) h ⟨rfl, trivial⟩ (fun w h => za6 [4, 3, 1, 0] (by decide) rfl w h) ?_
            repeat (first | exact zab _ _ | refine zaf rfl ?_ | refine zac rfl ?_ | refine zah rfl ?_)
        · skip
          refine a_one 4 rfl rfl (by kernel_rfl) rfl (zad 0 Z Try.func81 N81 rfl rfl rfl (fun w P1 hF hB hS hT => impl_Plan_pressure.calls g1 a0_0 A0_1 c0_1 l0_1.length l0_1 A0_2 c0_2 l0_2.length l0_2 A922 c923 l921.length l921 hB hF (hS _ R0_1) hc0_1 (hS _ R0_2) hc0_2 (hT 3 _ rfl).box (hT 1 _ rfl).row (hT 1 _ rfl).cap _ hx980)) (fun s w h => za8 [some 2, some 3] (by decide) w h rfl) (fun _ => ?_)
          refine a_one 7 rfl rfl (by kernel_rfl) rfl (zad 0 Z Try.func77 N77 rfl rfl rfl (fun w P1 hF hB hS hT => impl_firsts.calls a0_0 hB hF _ hx1160)) (fun s w h => za8 [some 3, some 4] (by decide) w h rfl) (cur2 (fun A1162 c1163 => ?_))
          refine za9 8 rfl rfl rfl (by kernel_rfl) (fun _ _ _ h => h) (q_build (vs := [(0, .int .i64 i981), (1, .slice A1162 l1161.length c1163)]) (cs := [.int .i64 i981, .slice A1162 l1161.length c1163, .slice none 0 0, .slice none 0 0]) rfl rfl) ?_
          refine a_one 10 rfl rfl (by kernel_rfl) rfl (zaq (i := 1) rfl rfl rfl Z43 rfl rfl) (fun s w h => za8 [some 3, some 4] (by decide) w h rfl) (fun _ => ?_)
          refine zay (by kernel_rfl) ?_
          refine zat (i981, l1161, g1280, A1162, c1163) h ⟨rfl, trivial⟩ (fun w h => za6 [4, 3, 1, 0] (by decide) rfl w h) ?_
          repeat (first | exact zab _ _ | refine zaf rfl ?_ | refine zac rfl ?_ | refine zah rfl ?_)
      · skip
        refine a_one 3 rfl rfl (by kernel_rfl) rfl (zad 0 Z Try.func77 N77 rfl rfl rfl (fun w P1 hF hB hS hT => impl_firsts.calls (l0_1.length : Int) hB hF _ hx920)) (fun s w h => za8 [some 2, some 3] (by decide) w h rfl) (cur2 (fun A922 c923 => ?_))
        refine a_one 4 rfl rfl (by kernel_rfl) rfl (zad 0 Z Try.func81 N81 rfl rfl rfl (fun w P1 hF hB hS hT => impl_Plan_pressure.calls g1 a0_0 A0_1 c0_1 l0_1.length l0_1 A0_2 c0_2 l0_2.length l0_2 A922 c923 l921.length l921 hB hF (hS _ R0_1) hc0_1 (hS _ R0_2) hc0_2 (hT 3 _ rfl).box (hT 0 _ rfl).row (hT 0 _ rfl).cap _ hx980)) (fun s w h => za8 [some 2, some 3] (by decide) w h rfl) (fun _ => ?_)
        refine a_one 7 rfl rfl (by kernel_rfl) rfl (zad 0 Z Try.func77 N77 rfl rfl rfl (fun w P1 hF hB hS hT => impl_firsts.calls a0_0 hB hF _ hx1160)) (fun s w h => za8 [some 3, some 4] (by decide) w h rfl) (cur2 (fun A1162 c1163 => ?_))
        refine za9 8 rfl rfl rfl (by kernel_rfl) (fun _ _ _ h => h) (q_build (vs := [(0, .int .i64 i981), (1, .slice A1162 l1161.length c1163)]) (cs := [.int .i64 i981, .slice A1162 l1161.length c1163, .slice none 0 0, .slice none 0 0]) rfl rfl) ?_
        refine a_one 10 rfl rfl (by kernel_rfl) rfl (zaq (i := 2) rfl rfl rfl Z43 rfl rfl) (fun s w h => za8 [some 3, some 4] (by decide) w h rfl) (fun _ => ?_)
        refine zay (by kernel_rfl) ?_
        refine zat (i981, l1161, g1280, A1162, c1163) h ⟨rfl, trivial⟩ (fun w h => za6 [4, 3, 2, 0] (by decide) rfl w h) ?_
        repeat (first | exact zab _ _ | refine zaf rfl ?_ | refine zac rfl ?_ | refine zah rfl ?_)
    · skip
      refine (cur5 (fun i730 l731 g729 A732 c733 => fun U737 hJ738 => ?_))
      have e_ := Option.some.inj hJ738; have h := hR736; rw [← e_] at h; clear e_ hJ738 hR736 hl735
      refine c_seq ?_
      refine a_start (ds := []) MO rfl ?_
      refine za9 1 rfl rfl rfl (by kernel_rfl) (fun _ _ _ h => h) (q_f F43_0 rfl) ?_
      refine zb0 2 rfl rfl rfl (by kernel_rfl) (fun _ _ _ h => h) (fun w h => h) (q_ldb Y3 rfl (fun w h => h.zae (i := 2) rfl) rfl) ?_
      refine a_one 0 rfl rfl (by kernel_rfl) rfl (e_lit (vs := [(0, .int .i64 (-1))]) (cs := [.int .i64 (-1)]) (Kd.int .i64) ([(-1)] : List Int) Try.underlying25 I3 (by decide) rfl (by decide) rfl rfl (fun _ _ => Kd.zar _)) (fun s w h => za8 [some 1, some 2, some 3, some 4] (by decide) w h rfl) (cur2 (fun A1460 c1461 => ?_))
      refine za7 h (fun l1464 hx1463 h => ?_) rfl
      refine a_one 3 rfl rfl (by kernel_rfl) rfl (zad 0 Z Try.func83 N83 rfl rfl rfl (fun w P1 hF hB hS hT => slices_Repeat_int_int.calls A1460 c1461 (([(-1)] : List Int).length) ([(-1)] : List Int) i730 hB hF (hT 0 _ rfl).row (hT 0 _ rfl).cap _ hx1463)) (fun s w h => za8 [some 2, some 3, some 4, some 5] (by decide) w h rfl) (cur2 (fun A1465 c1466 => ?_))
      refine za7 h (fun _ hx1467 h => ?_) rfl
      refine a_one 4 rfl rfl (by kernel_rfl) rfl (zad 0 Z Try.func84 N84 rfl rfl rfl (fun w P1 hF hB hS hT => impl_Plan_many.calls g1 a0_0 A0_1 c0_1 l0_1.length l0_1 A0_2 c0_2 l0_2.length l0_2 hB hF (hS _ R0_1) hc0_1 (hS _ R0_2) hc0_2 (hT 2 _ rfl).box hx1467)) (fun s w h => za8 [some 2, some 3, some 4, some 5] (by decide) w h rfl) (fun _ => ?_)
      refine za9 6 rfl rfl rfl (by kernel_rfl) (fun _ _ _ h => h) (q_asg rfl) ?_
      refine za7 h (fun l1468 hm1469 h => ?_) rfl
      refine a_one 5 rfl rfl (by kernel_rfl) rfl (e_make (Kd.int .i64) (0 : Int) Try.underlying25 I3 rfl (by decide) (by decide) (fun _ _ => rfl) rfl rfl hm1469) (fun s w h => za8 [some 3, some 4, some 5, some 6] (by decide) w h rfl) (cur2 (fun A1470 c1471 => ?_))
      refine za9 7 rfl rfl rfl (by kernel_rfl) (fun _ _ _ h => h) (q_asg rfl) ?_
      refine zay (by kernel_rfl) ?_
      refine za1 ?_
      refine c_seq ?_
      refine c_seq ?_
      refine za0 ?_
      refine o_q rfl rfl (q_f F27_0 rfl) ?_
      refine o_q rfl rfl (q_ldb Y3 rfl (fun w h => h.zae (i := 3) rfl) rfl) ?_
      refine o_q rfl rfl (za3 rfl) ?_
      refine o_end ?_
      refine za1 ?_
      refine zaj ?_
      refine za7 h (fun _ hbd1484 h => ?_) rfl
      refine za7 h (fun o1483 hl1482 hR1481 => ?_) rfl
      clear h
      have hm1480 : a0_0 ≤ 9223372036854775807 := bd_le hbd1484
      refine zax (σ := (List Int) × (List Int) × Int) (fun k1478 ((l1473, l1474, i1475) : (List Int) × (List Int) × Int) => Cn a0_0 i1475 k1478 ∧ impl_AllocatePlan.l0 k1478 l1473 l1474 i1475 = some o1483) [7, 35, 36, 37, 38, 39, 40, 41, 42, 43, 44, 45, 46] (fun ((l1473, l1474, i1475) : (List Int) × (List Int) × Int) => [(35, .int .i64 i1475)]) (fun ((l1473, l1474, i1475) : (List Int) × (List Int) × Int) => [row (Kd.int .i64) 3 (.slice A1470 l1468.length c1471) l1474, row (Kd.int .i64) 3 (.slice A1465 l1464.length c1466) l1473, row (Kd.int .i64) 3 (.slice A1460 (([(-1)] : List Int).length) c1461) ([(-1)] : List Int), box g1 27 #[.int .i64 a0_0, .slice A0_1 l0_1.length c0_1, .slice A0_2 l0_2.length c0_2], box g3 43 #[.int .i64 0, .slice none 0 0, .slice none 0 0, .slice none 0 0], box g729 43 #[.int .i64 i730, .slice A732 l731.length c733, .slice none 0 0, .slice none 0 0], row (Kd.int .i64) 3 (.slice A732 l731.length c733) l731]) (a0_0).toNat (l1464, l1468, 0) ⟨Cn.start hm1480, hl1482⟩ ⟨rfl, trivial⟩ (fun w h => h) ?_
      refine natC (cur3 (fun l1473 l1474 i1475 => fun U1485 hJ_ => ?_)) (fun k1478 => (cur3 (fun l1473 l1474 i1475 => fun U1485 hJ_ => ?_)))
      · skip
        clear hl1482
        have hr1479 := hJ_.1; have h := hJ_.2; clear hJ_
        replace h : impl_AllocatePlan.l0 0 l1473 l1474 i1475 = some o1483 := h
        rw [impl_AllocatePlan.l0] at h
        refine c_seq ?_
        refine za0 ?_
        refine o_q rfl rfl (q_lss rfl rfl) ?_
        refine o_end ?_
        refine za1 ?_
        refine c_seq ?_
        refine zb2 (congrArg Value.bool hr1479.ge) ?_
        refine zb4 ?_
        refine za5 ?_
        refine za5 ?_
        have e_ := Option.some.inj h; replace h := hR1481; rw [← e_] at h; clear e_
        refine x_hit ?_
        refine za1 ?_
        refine c_seq ?_
        refine c_seq ?_
        refine za0 ?_
        refine o_q rfl rfl (q_f F27_1 rfl) ?_
        refine o_q rfl rfl (q_ldb Y24 rfl (fun w h => h.zae (i := 3) rfl) rfl) ?_
        refine o_q rfl rfl (q_len Try.underlying24 rfl) ?_
        refine o_q rfl rfl (za3 rfl) ?_
        refine o_end ?_
        refine za1 ?_
        refine zaj ?_
        refine c_nil kRegOp 94 ?_
        refine za7 h (fun o1501 hl1500 hR1499 => ?_) rfl
        clear h
        refine c_fact (p := l0_1.length ≤ 9223372036854775807) (fun w h => (R0_1.now Z h).2.1) (fun hm1498 => ?_)
        refine zax (σ := (List SStep) × (List Int) × (List Int) × (List SRegOp) × Int × (Option Addr) × Nat) (fun k1496 ((ys1495, l1488, l1489, l1490, i1493, A1491, c1492) : (List SStep) × (List Int) × (List Int) × (List SRegOp) × Int × (Option Addr) × Nat) => Rg l0_1 i1493 ys1495 ∧ ys1495.length = k1496 ∧ impl_AllocatePlan.l1 a0_0 l0_1 l0_2 l1464 ys1495 l1488 l1489 l1490 i1493 = some o1501) [8, 9, 10, 11, 12, 13, 50, 51, 52, 53, 54, 55, 56, 57, 58, 59, 60, 61, 62, 63, 64, 65, 66, 67, 68, 69, 70, 71, 72, 73, 74, 75, 76, 77, 78, 79, 80, 81, 82, 83, 84, 85, 86, 87, 88, 89, 90, 91, 92, 93, 94, 95, 96, 97, 98, 99, 100, 101, 102, 103, 104, 105, 106, 107, 108, 109, 110, 111, 112] (fun ((ys1495, l1488, l1489, l1490, i1493, A1491, c1492) : (List SStep) × (List Int) × (List Int) × (List SRegOp) × Int × (Option Addr) × Nat) => [(50, .int .i64 i1493)]) (fun ((ys1495, l1488, l1489, l1490, i1493, A1491, c1492) : (List SStep) × (List Int) × (List Int) × (List SRegOp) × Int × (Option Addr) × Nat) => [row kRegOp 94 (.slice A1491 l1490.length c1492) l1490, row (Kd.int .i64) 3 (.slice A1470 l1468.length c1471) l1489, row (Kd.int .i64) 3 (.slice A1465 l1464.length c1466) l1488, row (Kd.int .i64) 3 (.slice A1460 (([(-1)] : List Int).length) c1461) ([(-1)] : List Int), box g1 27 #[.int .i64 a0_0, .slice A0_1 l0_1.length c0_1, .slice A0_2 l0_2.length c0_2], box g3 43 #[.int .i64 0, .slice none 0 0, .slice none 0 0, .slice none 0 0], box g729 43 #[.int .i64 i730, .slice A732 l731.length c733, .slice A1491 l1490.length c1492, .slice none 0 0], row (Kd.int .i64) 3 (.slice A732 l731.length c733) l731]) l0_1.length (l0_1, l1473, l1474, ([] : List SRegOp), 0, none, 0) ⟨Rg.start _, rfl, hl1500⟩ ⟨rfl, trivial⟩ (fun w h => h) ?_
        refine fun k1496 => cur7 (listC (fun l1488 l1489 l1490 i1493 A1491 c1492 U1502 hJ_ => ?_) (fun y1494 ys1495 l1488 l1489 l1490 i1493 A1491 c1492 U1502 hJ_ => ?_))
        · skip
          clear hl1500
          have hr1497 := hJ_.1; have hk1503 := hJ_.2.1; have h := hJ_.2.2; clear hJ_
          replace h : impl_AllocatePlan.l1 a0_0 l0_1 l0_2 l1464 [] l1488 l1489 l1490 i1493 = some o1501 := h
          rw [impl_AllocatePlan.l1] at h
          refine c_seq ?_
          refine za0 ?_
          refine o_q rfl rfl (q_lss rfl rfl) ?_
          refine o_end ?_
          refine za1 ?_
          refine c_seq ?_
          refine zb2 (congrArg Value.bool hr1497.ge) ?_
          refine zb4 ?_
          refine za5 ?_
          refine za5 ?_
          have e_ := Option.some.inj h; replace h := hR1499; rw [← e_] at h; clear e_
          refine x_hit ?_
          refine za1 ?_
          refine c_seq ?_
          refine za0 ?_
          refine o_q rfl rfl (q_f F27_2 rfl) ?_
          refine o_q rfl rfl (q_ldb Y25 rfl (fun w h => h.zae (i := 4) rfl) rfl) ?_
          refine o_q rfl rfl (za3 rfl) ?_
          refine za7 h (fun l1505 hx1504 h => ?_) rfl
          refine o_e rfl (zad 0 Z Try.func78 N78 rfl rfl rfl (fun w P1 hF hB hS hT => impl_renamed.calls A0_2 c0_2 l0_2.length l0_2 A1470 c1471 l1468.length l1489 hB hF (hS _ R0_2) hc0_2 (hT 1 _ rfl).row (hT 1 _ rfl).cap _ hx1504)) (cur2 (fun A1506 c1507 => ?_))
          refine o_q rfl rfl (q_f F43_3 rfl) ?_
          refine o_e rfl (zb3 (i := 7) rfl rfl rfl rfl Z25 rfl rfl) (fun _ => ?_)
          refine o_end ?_
          refine za1 ?_
          refine c_seq ?_
          refine za0 ?_
          refine o_q rfl rfl (q_ldB G43 Z43 rfl (fun w h => h.zae (i := 7) rfl) rfl) ?_
          refine o_e rfl (zaq (i := 6) rfl rfl rfl Z43 rfl rfl) (fun _ => ?_)
          refine o_q rfl rfl (q_asg rfl) ?_
          refine o_end ?_
          refine za1 ?_
          refine c_ret ?_
          have e0_ := Option.some.inj h; clear h
          have d0_ := (Prod.mk.inj e0_).1; have e1_ := (Prod.mk.inj e0_).2; clear e0_; subst d0_
          have d1_ := (Prod.mk.inj e1_).1; have e2_ := (Prod.mk.inj e1_).2; clear e1_; subst d1_
          have d2_ := (Prod.mk.inj e2_).1; have e3_ := (Prod.mk.inj e2_).2; clear e2_; subst d2_
          have d3_ := (Prod.mk.inj e3_).1; have e4_ := (Prod.mk.inj e3_).2; clear e3_; subst d3_
          subst e4_
          exact x_r2 (A732, c733, A1491, c1492, A1506, c1507) Try.results25 (rv_cell rfl G43 Z43 (fun w h => h.zae (i := 6) rfl) rfl) (zai rfl) rfl (fun w h => za6 [8, 1, 0] (by decide) rfl w h)
        · skip
          clear hl1500
          have hr1497 := hJ_.1; have hk1503 := hJ_.2.1; have h := hJ_.2.2; clear hJ_
          replace h : impl_AllocatePlan.l1 a0_0 l0_1 l0_2 l1464 (y1494 :: ys1495) l1488 l1489 l1490 i1493 = some o1501 := h
          rw [impl_AllocatePlan.l1] at h
          refine c_seq ?_
          refine za0 ?_
          refine o_q rfl rfl (q_lss rfl rfl) ?_
          refine o_end ?_
          refine za1 ?_
          refine c_seq ?_
          refine zb1 (congrArg Value.bool hr1497.lt) ?_
          refine zan ?_
          refine za1 ?_
          refine c_seq ?_
          refine zaj ?_
          refine c_seq ?_
          refine za0 ?_
          refine o_q rfl rfl (za3 rfl) ?_
          refine zaz (p := Sh A0_1 l0_1.length l0_1.length) (fun w h => f_sh (dk := kStep) h (fun w h => R0_1.now Z h)) (fun hq1508 => ?_)
          refine o_q rfl rfl (q_ix Try.underlying24 Z88 rfl rfl hq1508 hr1497.get) ?_
          refine o_q rfl rfl (q_ldE G88 Z88 rfl rfl (fun w h => R0_1.now Z h) hr1497.get (fun _ _ h => h) rfl) ?_
          refine o_e rfl (zas V88 rfl) (fun g1509 => ?_)
          refine o_q rfl rfl (q_asg rfl) ?_
          refine o_e rfl (zaq (i := 0) rfl rfl rfl Z88 rfl rfl) (fun _ => ?_)
          refine o_end ?_
          refine za1 ?_
          refine c_seq ?_
          refine za0 ?_
          refine o_q rfl rfl (za3 rfl) ?_
          refine o_q rfl rfl (q_up rfl rfl (hr1497.up hm1498)) ?_
          refine za7 h (fun l1512 hx1511 h => ?_) rfl
          refine o_e rfl (zad 0 Z Try.func69 N69 rfl rfl rfl (fun w P1 hF hB hS hT => impl_Plan_doneFirst.calls g1 a0_0 A0_1 c0_1 l0_1.length l0_1 A0_2 c0_2 l0_2.length l0_2 (i1493 + 1) hB hF (hS _ R0_1) hc0_1 (hS _ R0_2) hc0_2 (hT 5 _ rfl).box _ hx1511)) (cur2 (fun A1513 c1514 => ?_))
          refine za7 h (fun l1516 hx1515 h => ?_) rfl
          refine o_e rfl (zad 0 Z Try.func68 N68 rfl rfl rfl (fun w P1 hF hB hS hT => impl_Plan_needed.calls g1 a0_0 A0_1 c0_1 l0_1.length l0_1 A0_2 c0_2 l0_2.length l0_2 A1513 c1514 l1512.length l1512 hB hF (hS _ R0_1) hc0_1 (hS _ R0_2) hc0_2 (hT 6 _ rfl).box (hT 0 _ rfl).row (hT 0 _ rfl).cap _ hx1515)) (cur2 (fun A1517 c1518 => ?_))
          refine o_q rfl rfl (q_asg rfl) ?_
          refine o_end ?_
          refine za1 ?_
          refine c_seq ?_
          refine c_seq ?_
          refine za0 ?_
          refine o_q rfl rfl (za3 rfl) ?_
          refine o_q rfl rfl (q_len Try.underlying25 rfl) ?_
          refine o_q rfl rfl (za3 rfl) ?_
          refine o_end ?_
          refine za1 ?_
          refine zaj ?_
          refine za7 h (fun o1528 hl1527 hR1526 => ?_) rfl
          clear h
          refine c_fact (p := (l1464.length : Int) ≤ 9223372036854775807) (fun w h => by have := (h.zau (i := 5) rfl).2.1; omega) (fun hm1525 => ?_)
          refine zax (σ := (List Int) × Int) (fun k1523 ((l1519, i1520) : (List Int) × Int) => Cn (l1464.length : Int) i1520 k1523 ∧ impl_AllocatePlan.l2 l1516 k1523 l1519 i1520 = some o1528) [11, 12, 61, 62, 63, 64, 65, 66, 67, 68, 69, 70, 71, 72, 73, 74, 75, 76, 77, 78] (fun ((l1519, i1520) : (List Int) × Int) => [(61, .int .i64 i1520)]) (fun ((l1519, i1520) : (List Int) × Int) => [row Kd.bool 4 (.slice A1517 l1516.length c1518) l1516, row Kd.bool 4 (.slice A1513 l1512.length c1514) l1512, box g1509 88 #[.int .i64 y1494.f0, .int .i64 y1494.f1], row kRegOp 94 (.slice A1491 l1490.length c1492) l1490, row (Kd.int .i64) 3 (.slice A1470 l1468.length c1471) l1489, row (Kd.int .i64) 3 (.slice A1465 l1464.length c1466) l1519, row (Kd.int .i64) 3 (.slice A1460 (([(-1)] : List Int).length) c1461) ([(-1)] : List Int), box g1 27 #[.int .i64 a0_0, .slice A0_1 l0_1.length c0_1, .slice A0_2 l0_2.length c0_2], box g3 43 #[.int .i64 0, .slice none 0 0, .slice none 0 0, .slice none 0 0], box g729 43 #[.int .i64 i730, .slice A732 l731.length c733, .slice A1491 l1490.length c1492, .slice none 0 0], row (Kd.int .i64) 3 (.slice A732 l731.length c733) l731]) ((l1464.length : Int)).toNat (l1488, 0) ⟨Cn.start hm1525, hl1527⟩ ⟨rfl, trivial⟩ (fun w h => h) ?_
          refine natC (cur2 (fun l1519 i1520 => fun U1529 hJ_ => ?_)) (fun k1523 => (cur2 (fun l1519 i1520 => fun U1529 hJ_ => ?_)))
          · skip
            clear hl1527
            have hr1524 := hJ_.1; have h := hJ_.2; clear hJ_
            replace h : impl_AllocatePlan.l2 l1516 0 l1519 i1520 = some o1528 := h
            rw [impl_AllocatePlan.l2] at h
            refine c_seq ?_
            refine za0 ?_
            refine o_q rfl rfl (q_lss rfl rfl) ?_
            refine o_end ?_
            refine za1 ?_
            refine c_seq ?_
            refine zb2 (congrArg Value.bool hr1524.ge) ?_
            refine zb4 ?_
            refine za5 ?_
            refine za5 ?_
            have e_ := Option.some.inj h; replace h := hR1526; rw [← e_] at h; clear e_
            refine x_hit ?_
            refine za1 ?_
            refine c_seq ?_
            refine za0 ?_
            refine o_q rfl rfl (za3 rfl) ?_
            refine za7 h (fun i1532 hx1531 h => ?_) rfl
            refine o_e rfl (zad 0 Z Try.func85 N85 rfl rfl rfl (fun w P1 hF hB hS hT => slices_Index_int_int.calls A1465 c1466 l1464.length l1519 (-1) hB hF (hT 5 _ rfl).row (hT 5 _ rfl).cap _ hx1531)) (fun _ => ?_)
            refine o_q rfl rfl (q_asg rfl) ?_
            refine o_end ?_
            refine za1 ?_
            refine za7 h (fun o2677 hl2678 hR2679 => ?_) rfl
            clear h
            refine c_cutJ (σ := (List SRegOp) × (Option Addr) × Nat) (fun (l2674, A2675, c2676) => some l2674 = some o2677) [81, 82, 83, 84, 85, 86, 87, 88, 89, 90, 91, 92, 93, 94, 95, 96, 97] (fun (l2674, A2675, c2676) => []) (fun (l2674, A2675, c2676) => [box g1 27 #[.int .i64 a0_0, .slice A0_1 l0_1.length c0_1, .slice A0_2 l0_2.length c0_2], box g3 43 #[.int .i64 0, .slice none 0 0, .slice none 0 0, .slice none 0 0], box g729 43 #[.int .i64 i730, .slice A732 l731.length c733, .slice A2675 l2674.length c2676, .slice none 0 0], row (Kd.int .i64) 3 (.slice A732 l731.length c733) l731, row kRegOp 94 (.slice A2675 l2674.length c2676) l2674, row (Kd.int .i64) 3 (.slice A1465 l1464.length c1466) l1519, row (Kd.int .i64) 3 (.slice A1470 l1468.length c1471) l1489, row Kd.bool 4 (.slice A1517 l1516.length c1518) l1516, row Kd.bool 4 (.slice A1513 l1512.length c1514) l1512, box g1509 88 #[.int .i64 y1494.f0, .int .i64 y1494.f1], row (Kd.int .i64) 3 (.slice A1460 (([(-1)] : List Int).length) c1461) ([(-1)] : List Int)]) ?_ ?_
            · skip
              have h := hl2678; clear hl2678
              clear hR2679
              refine za7 h (fun y3045 hg3044 h => ?_) rfl
              refine za7 h (fun y3344 hg3343 h => ?_) rfl
              refine za7 h (fun l3583 ha3584 h => ?_) rfl
              refine a_startS (ds := []) [some 0, some 1, some 2, none, some 4, some 5, some 6, some 7, some 8, none, some 10] MO rfl ?_
              refine za9 0 rfl rfl rfl (by kernel_rfl) (fun _ _ _ h => h) (q_f F43_2 rfl) ?_
              refine za9 2 rfl rfl rfl (by kernel_rfl) (fun _ _ _ h => h) (za3 rfl) ?_
              refine za9 3 rfl rfl rfl (by kernel_rfl) (fun _ _ _ h => h) (za3 rfl) ?_
              refine za9 4 rfl rfl rfl (by kernel_rfl) (fun _ _ _ h => h) (q_f F88_0 rfl) ?_
              refine zb0 5 rfl rfl rfl (by kernel_rfl) (fun _ _ _ h => h) (fun w h => za8 [some 0, some 1, some 2, none, some 4, some 5, some 6, some 7, some 8, none, some 10] (by decide) w h rfl) (q_ldb Y3 rfl (fun w h => h.zae (i := 2) rfl) rfl) ?_
              refine a_fact (p := Sh A1470 l1468.length l1489.length) (fun w h => f_sh (dk := (Kd.int .i64)) h (fun w h => h.zau (i := 4) rfl)) (fun hq3043 => ?_)
              refine za9 6 rfl rfl rfl (by kernel_rfl) (fun _ _ _ h => h) (q_ix Try.underlying25 Z3 rfl rfl hq3043 hg3044) ?_
              refine zb0 7 rfl rfl rfl (by kernel_rfl) (fun _ _ _ h => h) (fun w h => za8 [some 0, some 1, some 2, none, some 4, some 5, some 6, some 7, some 8, none, some 10] (by decide) w h rfl) (q_lde (off := 0) Y3 rfl rfl (fun w h => h.zau (i := 4) rfl) hg3044 (fun _ _ h => h) rfl) ?_
              refine za9 8 rfl rfl rfl (by kernel_rfl) (fun _ _ _ h => h) (za3 rfl) ?_
              refine za9 9 rfl rfl rfl (by kernel_rfl) (fun _ _ _ h => h) (q_f F88_1 rfl) ?_
              refine zb0 10 rfl rfl rfl (by kernel_rfl) (fun _ _ _ h => h) (fun w h => za8 [some 0, some 1, some 2, none, some 4, some 5, some 6, some 7, some 8, none, some 10] (by decide) w h rfl) (q_ldb Y3 rfl (fun w h => h.zae (i := 2) rfl) rfl) ?_
              refine za9 11 rfl rfl rfl (by kernel_rfl) (fun _ _ _ h => h) (q_ix Try.underlying25 Z3 rfl rfl hq3043 hg3343) ?_
              refine zb0 12 rfl rfl rfl (by kernel_rfl) (fun _ _ _ h => h) (fun w h => za8 [some 0, some 1, some 2, none, some 4, some 5, some 6, some 7, some 8, none, some 10] (by decide) w h rfl) (q_lde (off := 0) Y3 rfl rfl (fun w h => h.zau (i := 4) rfl) hg3343 (fun _ _ h => h) rfl) ?_
              refine za9 13 rfl rfl rfl (by kernel_rfl) (fun _ _ _ h => h) (q_build (vs := [(0, .int .i64 i1532), (1, .int .i64 y3045), (2, .int .i64 y3344)]) (cs := [.int .i64 i1532, .int .i64 y3045, .int .i64 y3344]) rfl rfl) ?_
              refine a_two 1 14 rfl rfl rfl rfl (by kernel_rfl) rfl rfl (ev_q rfl (q_ldb Y41 rfl (fun w h => h.zae (i := 9) rfl) rfl)) (fun s w h => za8 [some 0, some 1, some 2, none, some 4, some 5, some 6, some 7, some 8, none, some 10] (by decide) w h rfl) (e_lit (vs := [(0, .agg #[.int .i64 i1532, .int .i64 y3045, .int .i64 y3344])]) (cs := [.int .i64 i1532, .int .i64 y3045, .int .i64 y3344]) kRegOp ([(⟨i1532, y3045, y3344⟩ : SRegOp)] : List SRegOp) Try.underlying41 I94 (by decide) rfl (by decide) rfl rfl (fun _ _ => reps_flat _)) (fun s w h => za8 [some 1, some 2, some 3, none, some 5, some 6, some 7, some 8, some 9, none, some 11] (by decide) w h rfl) (fun _ => ?_) (cur2 (fun A3523 c3524 => ?_))
              · skip
                refine a_one 14 rfl rfl (by kernel_rfl) rfl (e_lit (vs := [(0, .agg #[.int .i64 i1532, .int .i64 y3045, .int .i64 y3344])]) (cs := [.int .i64 i1532, .int .i64 y3045, .int .i64 y3344]) kRegOp ([(⟨i1532, y3045, y3344⟩ : SRegOp)] : List SRegOp) Try.underlying41 I94 (by decide) rfl (by decide) rfl rfl (fun _ _ => reps_flat _)) (fun s w h => za8 [some 1, some 2, some 3, none, some 5, some 6, some 7, some 8, some 9, none, some 11] (by decide) w h rfl) (cur2 (fun A3523 c3524 => ?_))
                refine a_one 15 rfl rfl (by kernel_rfl) rfl (e_app (i := 4) (j := 0) Try.underlying41 I94 rfl (by decide) (by decide) rfl rfl rfl rfl rfl ha3584) (fun s w h => za8 [some 1, some 2, some 3, none, some 5, some 6, some 7, some 8, some 9, none, some 11] (by decide) w h rfl) (cur2 (fun A3585 c3586 => ?_))
                refine za9 16 rfl rfl rfl (by kernel_rfl) (fun _ _ _ h => h) (q_f F43_2 rfl) ?_
                refine a_one 17 rfl rfl (by kernel_rfl) rfl (zb3 (i := 10) rfl rfl rfl rfl Z41 rfl rfl) (fun s w h => za8 [some 1, some 2, some 3, none, some 5, some 6, some 7, some 8, some 9, none, some 11] (by decide) w h rfl) (fun _ => ?_)
                refine zay (by kernel_rfl) ?_
                refine zat (l3583, A3585, c3586) h trivial (fun w h => za6 [8, 9, 10, 11, 4, 6, 5, 1, 2, 3, 7] (by decide) rfl w h) ?_
                repeat (first | exact zab _ _ | refine zaf rfl ?_ | refine zac rfl ?_ | refine zah rfl ?_)
              · skip
                refine a_one 1 rfl rfl (by kernel_rfl) rfl (ev_q rfl (q_ldb Y41 rfl (fun w h => h.zae (i := 10) rfl) rfl)) (fun s w h => za8 [some 1, some 2, some 3, none, some 5, some 6, some 7, some 8, some 9, none, some 11] (by decide) w h rfl) (fun _ => ?_)
                refine a_one 15 rfl rfl (by kernel_rfl) rfl (e_app (i := 4) (j := 0) Try.underlying41 I94 rfl (by decide) (by decide) rfl rfl rfl rfl rfl ha3584) (fun s w h => za8 [some 1, some 2, some 3, none, some 5, some 6, some 7, some 8, some 9, none, some 11] (by decide) w h rfl) (cur2 (fun A3585 c3586 => ?_))
                refine za9 16 rfl rfl rfl (by kernel_rfl) (fun _ _ _ h => h) (q_f F43_2 rfl) ?_
                refine a_one 17 rfl rfl (by kernel_rfl) rfl (zb3 (i := 10) rfl rfl rfl rfl Z41 rfl rfl) (fun s w h => za8 [some 1, some 2, some 3, none, some 5, some 6, some 7, some 8, some 9, none, some 11] (by decide) w h rfl) (fun _ => ?_)
                refine zay (by kernel_rfl) ?_
                refine zat (l3583, A3585, c3586) h trivial (fun w h => za6 [8, 9, 10, 11, 4, 6, 5, 1, 2, 3, 7] (by decide) rfl w h) ?_
                repeat (first | exact zab _ _ | refine zaf rfl ?_ | refine zac rfl ?_ | refine zah rfl ?_)
            · skip
              refine (cur3 (fun l2674 A2675 c2676 => fun U2680 hJ2681 => ?_))
              have e_ := Option.some.inj hJ2681; have h := hR2679; rw [← e_] at h; clear e_ hJ2681 hR2679 hl2678
              refine za0 ?_
              refine o_q rfl rfl (za3 rfl) ?_
              refine o_q rfl rfl (za3 rfl) ?_
              refine o_q rfl rfl (za3 rfl) ?_
              refine o_q rfl rfl (q_f F27_0 rfl) ?_
              refine o_q rfl rfl (q_ldb Y3 rfl (fun w h => h.zae (i := 0) rfl) rfl) ?_
              refine o_q rfl rfl (za3 rfl) ?_
              refine o_q rfl rfl (zb6 rfl rfl) ?_
              refine o_q rfl rfl (q_f F27_0 rfl) ?_
              refine o_q rfl rfl (q_ldb Y3 rfl (fun w h => h.zae (i := 0) rfl) rfl) ?_
              refine o_q rfl rfl (za3 rfl) ?_
              refine o_q rfl rfl (zb6 rfl rfl) ?_
              refine o_q rfl rfl (za3 rfl) ?_
              refine zaz (p := Sh A1465 l1464.length l1519.length) (fun w h => f_sh (dk := (Kd.int .i64)) h (fun w h => h.zau (i := 5) rfl)) (fun hq3823 => ?_)
              refine za7 h (fun y3825 hg3824 h => ?_) rfl
              refine o_q rfl rfl (q_ix Try.underlying25 Z3 rfl rfl hq3823 hg3824) ?_
              refine za7 h (fun l3826 hs3827 h => ?_) rfl
              refine o_e rfl (e_set (i := 5) rfl rfl rfl Z3 hs3827) (fun _ => ?_)
              refine zaz (p := Sh A1470 l1468.length l1489.length) (fun w h => f_sh (dk := (Kd.int .i64)) h (fun w h => h.zau (i := 6) rfl)) (fun hq3828 => ?_)
              refine za7 h (fun y3830 hg3829 h => ?_) rfl
              refine o_q rfl rfl (q_ix Try.underlying25 Z3 rfl rfl hq3828 hg3829) ?_
              refine za7 h (fun l3831 hs3832 h => ?_) rfl
              refine o_e rfl (e_set (i := 6) rfl rfl rfl Z3 hs3832) (fun _ => ?_)
              refine o_end ?_
              refine zam ?_
              refine za1 ?_
              refine za0 ?_
              refine o_q rfl rfl (q_up rfl rfl (hr1497.up hm1498)) ?_
              refine o_q rfl rfl (za3 rfl) ?_
              refine o_end ?_
              refine zak ys1495.length (ys1495, l3826, l3831, l2674, i1493 + 1, A2675, c2676) (by rw [← hk1503]; exact Nat.lt_succ_self _) ⟨hr1497.step, rfl, h⟩ ⟨rfl, trivial⟩ (fun w h => za6 [4, 6, 5, 10, 0, 1, 2, 3] (by decide) rfl w h) ?_
              repeat (first | exact zab _ _ | refine zaf rfl ?_ | refine zac rfl ?_ | refine zah rfl ?_)
          · skip
            clear hl1527
            have hr1524 := hJ_.1; have h := hJ_.2; clear hJ_
            replace h : impl_AllocatePlan.l2 l1516 (k1523 + 1) l1519 i1520 = some o1528 := h
            rw [impl_AllocatePlan.l2] at h
            refine c_seq ?_
            refine za0 ?_
            refine o_q rfl rfl (q_lss rfl rfl) ?_
            refine o_end ?_
            refine za1 ?_
            refine c_seq ?_
            refine zb1 (congrArg Value.bool hr1524.lt) ?_
            refine zan ?_
            refine za1 ?_
            refine c_seq ?_
            refine zaj ?_
            refine c_seq ?_
            refine za0 ?_
            refine o_q rfl rfl (za3 rfl) ?_
            refine zaz (p := Sh A1465 l1464.length l1519.length) (fun w h => f_sh (dk := (Kd.int .i64)) h (fun w h => h.zau (i := 5) rfl)) (fun hq3833 => ?_)
            refine za7 h (fun y3835 hg3834 h => ?_) rfl
            refine o_q rfl rfl (q_ix Try.underlying25 Z3 rfl rfl hq3833 hg3834) ?_
            refine o_q rfl rfl (q_lde (off := 0) Y3 rfl rfl (fun w h => h.zau (i := 5) rfl) hg3834 (fun _ _ h => h) rfl) ?_
            refine o_q rfl rfl (q_asg rfl) ?_
            refine o_q rfl rfl (q_asg rfl) ?_
            refine o_end ?_
            refine za1 ?_
            refine za7 h (fun o3841 hl3842 hR3843 => ?_) rfl
            clear h
            refine c_cutJ (σ := Bool) (fun b3840 => some b3840 = some o3841) [66, 67, 68, 69, 70, 71, 72, 73, 74] (fun b3840 => [(74, .bool b3840)]) (fun b3840 => [box g1 27 #[.int .i64 a0_0, .slice A0_1 l0_1.length c0_1, .slice A0_2 l0_2.length c0_2], box g3 43 #[.int .i64 0, .slice none 0 0, .slice none 0 0, .slice none 0 0], box g729 43 #[.int .i64 i730, .slice A732 l731.length c733, .slice A1491 l1490.length c1492, .slice none 0 0], row (Kd.int .i64) 3 (.slice A732 l731.length c733) l731, row kRegOp 94 (.slice A1491 l1490.length c1492) l1490, row (Kd.int .i64) 3 (.slice A1465 l1464.length c1466) l1519, row (Kd.int .i64) 3 (.slice A1470 l1468.length c1471) l1489, box g1509 88 #[.int .i64 y1494.f0, .int .i64 y1494.f1], row Kd.bool 4 (.slice A1517 l1516.length c1518) l1516, row Kd.bool 4 (.slice A1513 l1512.length c1514) l1512, row (Kd.int .i64) 3 (.slice A1460 (([(-1)] : List Int).length) c1461) ([(-1)] : List Int)]) ?_ ?_
            · skip
              have h := hl3842; clear hl3842
              clear hR3843
              refine za0 ?_
              refine o_q rfl rfl (za3 rfl) ?_
              refine o_q rfl rfl (q_neq rfl rfl) ?_
              refine o_q rfl rfl (za3 rfl) ?_
              refine byB (decide (y3835 ≠ (-1))) (fun hb3846 => ?_) (fun hb3846 => ?_)
              · replace h := br_t hb3846 h
                refine o_w (za4 rfl rfl rfl (congrArg Value.bool hb3846)) rfl (za3 rfl) ?_
                refine o_w (za4 rfl rfl rfl (congrArg Value.bool hb3846)) rfl (za3 rfl) ?_
                refine zaz (p := Sh A1517 l1516.length l1516.length) (fun w h => f_sh (dk := Kd.bool) h (fun w h => h.zau (i := 0) rfl)) (fun hq3847 => ?_)
                refine za7 h (fun y3849 hg3848 h => ?_) rfl
                refine o_w (za4 rfl rfl rfl (congrArg Value.bool hb3846)) rfl (q_ix Try.underlying78 Z4 rfl rfl hq3847 hg3848) ?_
                refine o_w (za4 rfl rfl rfl (congrArg Value.bool hb3846)) rfl (q_lde (off := 0) Y4 rfl rfl (fun w h => h.zau (i := 0) rfl) hg3848 (fun _ _ h => h) rfl) ?_
                refine o_w (za4 rfl rfl rfl (congrArg Value.bool hb3846)) rfl (q_not rfl) ?_
                refine o_q rfl rfl (zal true (congrArg Value.bool hb3846) rfl) ?_
                refine o_end ?_
                refine zat (!y3849) h ⟨rfl, trivial⟩ (fun w h => za6 [7, 8, 9, 10, 3, 5, 4, 2, 0, 1, 6] (by decide) rfl w h) ?_
                repeat (first | exact zab _ _ | refine zaf rfl ?_ | refine zac rfl ?_ | refine zah rfl ?_)
              · replace h := br_f hb3846 h
                refine @o_n _ _ _ _ _ _ _ _ _ _ _ 69 (za2 rfl rfl rfl (congrArg Value.bool hb3846) rfl) (Eq.refl (some 69)) ?_
                refine @o_n _ _ _ _ _ _ _ _ _ _ _ 70 (za2 rfl rfl rfl (congrArg Value.bool hb3846) rfl) (Eq.refl (some 70)) ?_
                refine @o_n _ _ _ _ _ _ _ _ _ _ _ 71 (za2 rfl rfl rfl (congrArg Value.bool hb3846) rfl) (Eq.refl (some 71)) ?_
                refine @o_n _ _ _ _ _ _ _ _ _ _ _ 72 (za2 rfl rfl rfl (congrArg Value.bool hb3846) rfl) (Eq.refl (some 72)) ?_
                refine @o_n _ _ _ _ _ _ _ _ _ _ _ 73 (za2 rfl rfl rfl (congrArg Value.bool hb3846) rfl) (Eq.refl (some 73)) ?_
                refine o_q rfl rfl (zal false (congrArg Value.bool hb3846) rfl) ?_
                refine o_end ?_
                refine zat false h ⟨rfl, trivial⟩ (fun w h => za6 [7, 8, 9, 10, 3, 5, 4, 2, 0, 1, 6] (by decide) rfl w h) ?_
                repeat (first | exact zab _ _ | refine zaf rfl ?_ | refine zac rfl ?_ | refine zah rfl ?_)
            · skip
              refine (fun b3840 => fun U3844 hJ3845 => ?_)
              have e_ := Option.some.inj hJ3845; have h := hR3843; rw [← e_] at h; clear e_ hJ3845 hR3843 hl3842
              refine zav _ rfl (fun hb3850 => ?_) (fun hb3850 => ?_)
              · skip
                replace h := bb_t hb3850 h
                refine za0 ?_
                refine o_q rfl rfl (za3 rfl) ?_
                refine o_q rfl rfl (za3 rfl) ?_
                refine za7 h (fun y3852 hg3851 h => ?_) rfl
                refine o_q rfl rfl (q_ix Try.underlying25 Z3 rfl rfl hq3833 hg3851) ?_
                refine za7 h (fun l3853 hs3854 h => ?_) rfl
                refine o_e rfl (e_set (i := 5) rfl rfl rfl Z3 hs3854) (fun _ => ?_)
                refine o_end ?_
                refine zam ?_
                refine za1 ?_
                refine za0 ?_
                refine o_q rfl rfl (q_up rfl rfl hr1524.up) ?_
                refine o_q rfl rfl (za3 rfl) ?_
                refine o_end ?_
                refine zak k1523 (l3853, i1520 + 1) (Nat.lt_succ_self _) ⟨hr1524.step, h⟩ ⟨rfl, trivial⟩ (fun w h => za6 [8, 9, 7, 4, 6, 5, 10, 0, 1, 2, 3] (by decide) rfl w h) ?_
                repeat (first | exact zab _ _ | refine zaf rfl ?_ | refine zac rfl ?_ | refine zah rfl ?_)
              · skip
                replace h := bb_f hb3850 h
                refine zan ?_
                refine zam ?_
                refine za1 ?_
                refine za0 ?_
                refine o_q rfl rfl (q_up rfl rfl hr1524.up) ?_
                refine o_q rfl rfl (za3 rfl) ?_
                refine o_end ?_
                refine zak k1523 (l1519, i1520 + 1) (Nat.lt_succ_self _) ⟨hr1524.step, h⟩ ⟨rfl, trivial⟩ (fun w h => za6 [8, 9, 7, 4, 6, 5, 10, 0, 1, 2, 3] (by decide) rfl w h) ?_
                repeat (first | exact zab _ _ | refine zaf rfl ?_ | refine zac rfl ?_ | refine zah rfl ?_)
      · skip
        clear hl1482
        have hr1479 := hJ_.1; have h := hJ_.2; clear hJ_
        replace h : impl_AllocatePlan.l0 (k1478 + 1) l1473 l1474 i1475 = some o1483 := h
        rw [impl_AllocatePlan.l0] at h
        refine c_seq ?_
        refine za0 ?_
        refine o_q rfl rfl (q_lss rfl rfl) ?_
        refine o_end ?_
        refine za1 ?_
        refine c_seq ?_
        refine zb1 (congrArg Value.bool hr1479.lt) ?_
        refine zan ?_
        refine za1 ?_
        refine c_seq ?_
        refine zaj ?_
        refine c_seq ?_
        refine za0 ?_
        refine o_q rfl rfl (za3 rfl) ?_
        refine o_q rfl rfl (q_asg rfl) ?_
        refine o_end ?_
        refine za1 ?_
        refine za0 ?_
        refine o_q rfl rfl (za3 rfl) ?_
        refine o_q rfl rfl (za3 rfl) ?_
        refine o_q rfl rfl (za3 rfl) ?_
        refine o_q rfl rfl (za3 rfl) ?_
        refine o_q rfl rfl (za3 rfl) ?_
        refine o_q rfl rfl (za3 rfl) ?_
        refine zaz (p := Sh A1465 l1464.length l1473.length) (fun w h => f_sh (dk := (Kd.int .i64)) h (fun w h => h.zau (i := 1) rfl)) (fun hq3855 => ?_)
        refine za7 h (fun y3857 hg3856 h => ?_) rfl
        refine o_q rfl rfl (q_ix Try.underlying25 Z3 rfl rfl hq3855 hg3856) ?_
        refine za7 h (fun l3858 hs3859 h => ?_) rfl
        refine o_e rfl (e_set (i := 1) rfl rfl rfl Z3 hs3859) (fun _ => ?_)
        refine zaz (p := Sh A1470 l1468.length l1474.length) (fun w h => f_sh (dk := (Kd.int .i64)) h (fun w h => h.zau (i := 0) rfl)) (fun hq3860 => ?_)
        refine za7 h (fun y3862 hg3861 h => ?_) rfl
        refine o_q rfl rfl (q_ix Try.underlying25 Z3 rfl rfl hq3860 hg3861) ?_
        refine za7 h (fun l3863 hs3864 h => ?_) rfl
        refine o_e rfl (e_set (i := 0) rfl rfl rfl Z3 hs3864) (fun _ => ?_)
        refine o_end ?_
        refine zam ?_
        refine za1 ?_
        refine za0 ?_
        refine o_q rfl rfl (q_up rfl rfl hr1479.up) ?_
        refine o_q rfl rfl (za3 rfl) ?_
        refine o_end ?_
        refine zak k1478 (l3858, l3863, i1475 + 1) (Nat.lt_succ_self _) ⟨hr1479.step, h⟩ ⟨rfl, trivial⟩ (fun w h => za6 [0, 1, 2, 3, 4, 5, 6] (by decide) rfl w h) ?_
        repeat (first | exact zab _ _ | refine zaf rfl ?_ | refine zac rfl ?_ | refine zah rfl ?_)

/-! ### loop.example/g01098/spec.l1In: function 61 -/
def spec_l1In.f (a0 : Int) (a1 : Int) (a2 : Int) : Option Bool := if a1 ≤ a0 then (some (decide (a0 ≤ a2))) else (some false)
set_option maxHeartbeats 600000 in
set_option maxRecDepth 100000 in
theorem spec_l1In.calls {w0 ws : World} {P0 : Nat → Prop} (a0 : Int) (a1 : Int) (a2 : Int) (Z : Below w0.heap.size w0 ws) (hF : Fr w0 ws P0 [] ws)  (r_1 : Bool) (h : spec_l1In.f a0 a1 a2 = some r_1) :
    Calls Try.prog 61 #[.int .i64 a0, .int .i64 a1, .int .i64 a2] ws (Post1 w0 ws P0 (fun (_ : Unit) => .bool r_1) (fun (_ : Unit) => [])) := by
  unfold spec_l1In.f at h
  refine enter Try.func61 rfl Try.ntmps61 rfl hF ?_
  refine c_seq ?_
  refine za0 ?_
  refine o_q rfl rfl (q_asg rfl) ?_
  refine o_end ?_
  refine za1 ?_
  refine c_seq ?_
  refine za0 ?_
  refine o_q rfl rfl (za3 rfl) ?_
  refine o_q rfl rfl (za3 rfl) ?_
  refine o_q rfl rfl (q_geq rfl rfl) ?_
  refine o_q rfl rfl (za3 rfl) ?_
  refine byB (decide (a1 ≤ a0)) (fun hb1 => ?_) (fun hb1 => ?_)
  · replace h := br_t hb1 h
    refine o_w (za4 rfl rfl rfl (congrArg Value.bool hb1)) rfl (za3 rfl) ?_
    refine o_w (za4 rfl rfl rfl (congrArg Value.bool hb1)) rfl (za3 rfl) ?_
    refine o_w (za4 rfl rfl rfl (congrArg Value.bool hb1)) rfl (q_leq rfl rfl) ?_
    refine o_q rfl rfl (zal true (congrArg Value.bool hb1) rfl) ?_
    refine o_q rfl rfl (q_asg rfl) ?_
    refine o_end ?_
    refine za1 ?_
    refine c_ret ?_
    have e0_ := Option.some.inj h; clear h
    subst e0_
    exact x_r1 () Try.results61 (zai rfl) rfl (fun w h => za6 [] (by decide) rfl w h)
  · replace h := br_f hb1 h
    refine @o_n _ _ _ _ _ _ _ _ _ _ _ 11 (za2 rfl rfl rfl (congrArg Value.bool hb1) rfl) (Eq.refl (some 11)) ?_
    refine @o_n _ _ _ _ _ _ _ _ _ _ _ 12 (za2 rfl rfl rfl (congrArg Value.bool hb1) rfl) (Eq.refl (some 12)) ?_
    refine @o_n _ _ _ _ _ _ _ _ _ _ _ 13 (za2 rfl rfl rfl (congrArg Value.bool hb1) rfl) (Eq.refl (some 13)) ?_
    refine o_q rfl rfl (zal false (congrArg Value.bool hb1) rfl) ?_
    refine o_q rfl rfl (q_asg rfl) ?_
    refine o_end ?_
    refine za1 ?_
    refine c_ret ?_
    have e0_ := Option.some.inj h; clear h
    subst e0_
    exact x_r1 () Try.results61 (zai rfl) rfl (fun w h => za6 [] (by decide) rfl w h)

/-! ### loop.example/g01098/spec.plSum: function 175 -/
def spec_plSum.l0 (l1 : List Int) : (List Int) → (List Int) → Int → Option (List Int)
  | [], l3, i6 => some l3
  | y7 :: ys8, l3, i6 => (gt l1 i6).bind fun y20 => (spec_l1Least.f (w64 (y7 + y20)) 1000001).bind fun i22 => (ap l3 ([i22] : List Int)).bind fun l26 => spec_plSum.l0 l1 ys8 l26 (i6 + 1)
def spec_plSum.f (l0 : List Int) (l1 : List Int) : Option (List Int) := (spec_plSum.l0 l1 l0 ([] : List Int) 0).bind fun l3 => some l3
set_option maxHeartbeats 600000 in
set_option maxRecDepth 100000 in
theorem spec_plSum.calls {w0 ws : World} {P0 : Nat → Prop} (A0 : Option Addr) (c0 : Nat) (n0 : Nat) (l0 : List Int) (A1 : Option Addr) (c1 : Nat) (n1 : Nat) (l1 : List Int) (Z : Below w0.heap.size w0 ws) (hF : Fr w0 ws P0 [] ws) (R0 : Stable ws P0 (fun w => Kd.C (Kd.int .i64) w A0 n0 l0)) (hc0 : n0 ≤ c0) (R1 : Stable ws P0 (fun w => Kd.C (Kd.int .i64) w A1 n1 l1)) (hc1 : n1 ≤ c1) (r_1 : List Int) (h : spec_plSum.f l0 l1 = some r_1) :
    Calls Try.prog 175 #[.slice A0 n0 c0, .slice A1 n1 c1] ws (Post1 w0 ws P0 (fun ((q_2, q_3) : (Option Addr) × Nat) => .slice q_2 r_1.length q_3) (fun ((q_2, q_3) : (Option Addr) × Nat) => [row (Kd.int .i64) 3 (.slice q_2 r_1.length q_3) r_1])) := by
  unfold spec_plSum.f at h
  obtain rfl := (R0 ws (KeptB.refl _ _)).1
  obtain rfl := (R1 ws (KeptB.refl _ _)).1
  refine enter Try.func175 rfl Try.ntmps175 rfl hF ?_
  refine c_seq ?_
  refine za0 ?_
  refine o_q rfl rfl (q_asg rfl) ?_
  refine o_end ?_
  refine za1 ?_
  refine c_seq ?_
  refine za0 ?_
  refine o_q rfl rfl (q_asg rfl) ?_
  refine o_end ?_
  refine za1 ?_
  refine c_seq ?_
  refine c_seq ?_
  refine za0 ?_
  refine o_q rfl rfl (za3 rfl) ?_
  refine o_q rfl rfl (q_len Try.underlying25 rfl) ?_
  refine o_q rfl rfl (za3 rfl) ?_
  refine o_end ?_
  refine za1 ?_
  refine zaj ?_
  refine c_nil (Kd.int .i64) 3 ?_
  refine za7 h (fun o14 hl13 hR12 => ?_) rfl
  clear h
  refine c_fact (p := l0.length ≤ 9223372036854775807) (fun w h => (R0.now Z h).2.1) (fun hm11 => ?_)
  refine zax (σ := (List Int) × (List Int) × Int × (Option Addr) × Nat) (fun k9 ((ys8, l3, i6, A4, c5) : (List Int) × (List Int) × Int × (Option Addr) × Nat) => Rg l0 i6 ys8 ∧ ys8.length = k9 ∧ spec_plSum.l0 l1 ys8 l3 i6 = some o14) [5, 6, 9, 10, 11, 12, 13, 14, 15, 16, 17, 18, 19, 20, 21, 22, 23, 24, 25] (fun ((ys8, l3, i6, A4, c5) : (List Int) × (List Int) × Int × (Option Addr) × Nat) => [(5, .slice A4 l3.length c5), (9, .int .i64 i6)]) (fun ((ys8, l3, i6, A4, c5) : (List Int) × (List Int) × Int × (Option Addr) × Nat) => [row (Kd.int .i64) 3 (.slice A4 l3.length c5) l3]) l0.length (l0, ([] : List Int), 0, none, 0) ⟨Rg.start _, rfl, hl13⟩ ⟨rfl, rfl, trivial⟩ (fun w h => h) ?_
  refine fun k9 => cur5 (listC (fun l3 i6 A4 c5 U15 hJ_ => ?_) (fun y7 ys8 l3 i6 A4 c5 U15 hJ_ => ?_))
  · skip
    clear hl13
    have hr10 := hJ_.1; have hk16 := hJ_.2.1; have h := hJ_.2.2; clear hJ_
    replace h : spec_plSum.l0 l1 [] l3 i6 = some o14 := h
    rw [spec_plSum.l0] at h
    refine c_seq ?_
    refine za0 ?_
    refine o_q rfl rfl (q_lss rfl rfl) ?_
    refine o_end ?_
    refine za1 ?_
    refine c_seq ?_
    refine zb2 (congrArg Value.bool hr10.ge) ?_
    refine zb4 ?_
    refine za5 ?_
    refine za5 ?_
    have e_ := Option.some.inj h; replace h := hR12; rw [← e_] at h; clear e_
    refine x_hit ?_
    refine za1 ?_
    refine c_seq ?_
    refine za0 ?_
    refine o_q rfl rfl (za3 rfl) ?_
    refine o_q rfl rfl (q_asg rfl) ?_
    refine o_end ?_
    refine za1 ?_
    refine c_ret ?_
    have e0_ := Option.some.inj h; clear h
    subst e0_
    exact x_r1 (A4, c5) Try.results175 (zai rfl) rfl (fun w h => za6 [0] (by decide) rfl w h)
  · skip
    clear hl13
    have hr10 := hJ_.1; have hk16 := hJ_.2.1; have h := hJ_.2.2; clear hJ_
    replace h : spec_plSum.l0 l1 (y7 :: ys8) l3 i6 = some o14 := h
    rw [spec_plSum.l0] at h
    refine c_seq ?_
    refine za0 ?_
    refine o_q rfl rfl (q_lss rfl rfl) ?_
    refine o_end ?_
    refine za1 ?_
    refine c_seq ?_
    refine zb1 (congrArg Value.bool hr10.lt) ?_
    refine zan ?_
    refine za1 ?_
    refine c_seq ?_
    refine zaj ?_
    refine c_seq ?_
    refine za0 ?_
    refine o_q rfl rfl (za3 rfl) ?_
    refine o_q rfl rfl (q_asg rfl) ?_
    refine o_end ?_
    refine za1 ?_
    refine a_startS (ds := []) [none] MO rfl ?_
    refine za9 0 rfl rfl rfl (by kernel_rfl) (fun _ _ _ h => h) (za3 rfl) ?_
    refine za9 1 rfl rfl rfl (by kernel_rfl) (fun _ _ _ h => h) (za3 rfl) ?_
    refine za9 2 rfl rfl rfl (by kernel_rfl) (fun _ _ _ h => h) (za3 rfl) ?_
    refine a_fact (p := Sh A0 l0.length l0.length) (fun w h => f_sh (dk := (Kd.int .i64)) h (fun w h => R0.now Z h)) (fun hq17 => ?_)
    refine za9 3 rfl rfl rfl (by kernel_rfl) (fun _ _ _ h => h) (q_ix Try.underlying25 Z3 rfl rfl hq17 hr10.get) ?_
    refine zb0 4 rfl rfl rfl (by kernel_rfl) (fun _ _ _ h => h) (fun w h => za8 [none] (by decide) w h rfl) (q_lde (off := 0) Y3 rfl rfl (fun w h => R0.now Z h) hr10.get (fun _ _ h => h) rfl) ?_
    refine za9 5 rfl rfl rfl (by kernel_rfl) (fun _ _ _ h => h) (za3 rfl) ?_
    refine za9 6 rfl rfl rfl (by kernel_rfl) (fun _ _ _ h => h) (za3 rfl) ?_
    refine a_fact (p := Sh A1 l1.length l1.length) (fun w h => f_sh (dk := (Kd.int .i64)) h (fun w h => R1.now Z h)) (fun hq18 => ?_)
    refine za7 h (fun y20 hg19 h => ?_) rfl
    refine za9 7 rfl rfl rfl (by kernel_rfl) (fun _ _ _ h => h) (q_ix Try.underlying25 Z3 rfl rfl hq18 hg19) ?_
    refine zb0 8 rfl rfl rfl (by kernel_rfl) (fun _ _ _ h => h) (fun w h => za8 [none] (by decide) w h rfl) (q_lde (off := 0) Y3 rfl rfl (fun w h => R1.now Z h) hg19 (fun _ _ h => h) rfl) ?_
    refine za9 9 rfl rfl rfl (by kernel_rfl) (fun _ _ _ h => h) (zb6 rfl rfl) ?_
    refine za7 h (fun i22 hx21 h => ?_) rfl
    refine a_one 10 rfl rfl (by kernel_rfl) rfl (zad 0 Z Try.func172 N172 rfl rfl rfl (fun w P1 hF hB hS hT => spec_l1Least.calls (w64 (y7 + y20)) 1000001 hB hF _ hx21)) (fun s w h => za8 [none] (by decide) w h rfl) (fun _ => ?_)
    refine a_one 11 rfl rfl (by kernel_rfl) rfl (e_lit (vs := [(0, .int .i64 i22)]) (cs := [.int .i64 i22]) (Kd.int .i64) ([i22] : List Int) Try.underlying25 I3 (by decide) rfl (by decide) rfl rfl (fun _ _ => Kd.zar _)) (fun s w h => za8 [none] (by decide) w h rfl) (cur2 (fun A23 c24 => ?_))
    refine za7 h (fun l26 ha27 h => ?_) rfl
    refine a_one 12 rfl rfl (by kernel_rfl) rfl (e_app (i := 1) (j := 0) Try.underlying25 I3 rfl (by decide) (by decide) rfl rfl rfl rfl rfl ha27) (fun s w h => za8 [none] (by decide) w h rfl) (cur2 (fun A28 c29 => ?_))
    refine za9 13 rfl rfl rfl (by kernel_rfl) (fun _ _ _ h => h) (q_asg rfl) ?_
    refine zay (by kernel_rfl) ?_
    refine zam ?_
    refine za1 ?_
    refine za0 ?_
    refine o_q rfl rfl (q_up rfl rfl (hr10.up hm11)) ?_
    refine o_q rfl rfl (za3 rfl) ?_
    refine o_end ?_
    refine zak ys8.length (ys8, l26, i6 + 1, A28, c29) (by rw [← hk16]; exact Nat.lt_succ_self _) ⟨hr10.step, rfl, h⟩ ⟨rfl, rfl, trivial⟩ (fun w h => za6 [1] (by decide) rfl w h) ?_
    repeat (first | exact zab _ _ | refine zaf rfl ?_ | refine zac rfl ?_ | refine zah rfl ?_)

end Go.Proofs.Ytdicngjloiphkaa.L7
