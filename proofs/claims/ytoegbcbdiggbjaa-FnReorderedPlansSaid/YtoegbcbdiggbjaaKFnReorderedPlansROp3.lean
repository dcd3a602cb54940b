import Derived.Test.YtoegbcbdiggbjaaKFnReorderedPlansROp2
namespace Go.Proofs.Ytoegbcbdiggbjaa.RO
open Go.RowKit Go.Proofs.Ytoegbcbdiggbjaa.Frame Go.Proofs.YtoegbcbdiggbjaaW.PrintLast Go.Proofs.Ytoegbcbdiggbjaa.Hand
open Go.Proofs.YtoegbcbdiggbjaaW.PrintWords hiding mn mx
set_option linter.unusedVariables false
/-! ### loop.example/g01098/spec.plPlace: function 185 -/
def spec_plPlace.l0 (a1 : Int) : (List Int) → Int → Option ((Int) ⊕ (Unit))
  | [], i1 => some (.inr ())
  | y2 :: ys3, i1 => if y2 = a1 then (some (.inl i1)) else (spec_plPlace.l0 a1 ys3 (i1 + 1))
def spec_plPlace.f (l0 : List Int) (a1 : Int) : Option Int := (spec_plPlace.l0 a1 l0 0).bind fun o_ => match o_ with | .inl r_ => some r_ | .inr _ => some (-1)
set_option maxHeartbeats 600000 in
set_option maxRecDepth 100000 in
theorem spec_plPlace.calls {w0 ws : World} {P0 : Nat → Prop} (A0 : Option Addr) (c0 : Nat) (n0 : Nat) (l0 : List Int) (a1 : Int) (Z : Below w0.heap.size w0 ws) (hF : Fr w0 ws P0 [] ws) (R0 : Stable ws P0 (fun w => Kd.C (Kd.int .i64) w A0 n0 l0)) (hc0 : n0 ≤ c0) (r_1 : Int) (h : spec_plPlace.f l0 a1 = some r_1) :
    Calls Try.prog 185 #[.slice A0 n0 c0, .int .i64 a1] ws (Post1 w0 ws P0 (fun (_ : Unit) => .int .i64 r_1) (fun (_ : Unit) => [])) := by
  unfold spec_plPlace.f at h
  obtain rfl := (R0 ws (KeptB.refl _ _)).1
  refine enter Try.func185 rfl Try.ntmps185 rfl hF ?_
  refine c_seq ?_
  refine za0 ?_
  refine o_q rfl rfl (q_asg rfl) ?_
  refine o_end ?_
  refine za1 ?_
  refine c_seq ?_
  refine c_seq ?_
  refine za0 ?_
  refine o_q rfl rfl (za3 rfl) ?_
  refine o_q rfl rfl (q_len Try.underlying25 rfl) ?_
  refine o_q rfl rfl (za3 rfl) ?_
  refine o_end ?_
  refine za1 ?_
  refine zal ?_
  refine za9 h (fun o9 hl8 hR7 => ?_) rfl
  clear h
  refine c_fact (p := l0.length ≤ 9223372036854775807) (fun w h => (R0.now Z h).2.1) (fun hm6 => ?_)
  refine zax (σ := (List Int) × Int) (fun k4 ((ys3, i1) : (List Int) × Int) => Rg l0 i1 ys3 ∧ ys3.length = k4 ∧ spec_plPlace.l0 a1 ys3 i1 = some o9) [4, 5, 6, 9, 10, 11, 12, 13, 14, 15, 16, 17, 18] (fun ((ys3, i1) : (List Int) × Int) => [(9, .int .i64 i1)]) (fun ((ys3, i1) : (List Int) × Int) => []) l0.length (l0, 0) ⟨Rg.start _, rfl, hl8⟩ ⟨rfl, trivial⟩ (fun w h => h) ?_
  refine fun k4 => cur2 (listC (fun i1 U10 hJ_ => ?_) (fun y2 ys3 i1 U10 hJ_ => ?_))
  · skip
    clear hl8
    have hr5 := hJ_.1; have hk11 := hJ_.2.1; have h := hJ_.2.2; clear hJ_
    replace h : spec_plPlace.l0 a1 [] i1 = some o9 := h
    rw [spec_plPlace.l0] at h
    refine c_seq ?_
    refine za0 ?_
    refine o_q rfl rfl (q_lss rfl rfl) ?_
    refine o_end ?_
    refine za1 ?_
    refine c_seq ?_
    refine c_false (congrArg Value.bool hr5.ge) ?_
    refine c_exit ?_
    refine za8 ?_
    refine za8 ?_
    have e_ := Option.some.inj h; replace h := hR7; rw [← e_] at h; clear e_
    refine x_hit ?_
    refine za1 ?_
    refine c_seq ?_
    refine za0 ?_
    refine o_q rfl rfl (q_asg rfl) ?_
    refine o_end ?_
    refine za1 ?_
    refine c_ret ?_
    have e0_ := Option.some.inj h; clear h
    subst e0_
    exact x_r1 () Try.results185 (zaf rfl) rfl (fun w h => za7 [] (by decide) rfl w h)
  · skip
    clear hl8
    have hr5 := hJ_.1; have hk11 := hJ_.2.1; have h := hJ_.2.2; clear hJ_
    replace h : spec_plPlace.l0 a1 (y2 :: ys3) i1 = some o9 := h
    rw [spec_plPlace.l0] at h
    refine c_seq ?_
    refine za0 ?_
    refine o_q rfl rfl (q_lss rfl rfl) ?_
    refine o_end ?_
    refine za1 ?_
    refine c_seq ?_
    refine zay (congrArg Value.bool hr5.lt) ?_
    refine zao ?_
    refine za1 ?_
    refine c_seq ?_
    refine zal ?_
    refine c_seq ?_
    refine za0 ?_
    refine o_q rfl rfl (za3 rfl) ?_
    refine o_fact (p := Sh A0 l0.length l0.length) (fun w h => f_sh (dk := (Kd.int .i64)) h (fun w h => R0.now Z h)) (fun hq12 => ?_)
    refine o_q rfl rfl (q_ix Try.underlying25 Z3 rfl rfl hq12 hr5.get) ?_
    refine o_q rfl rfl (q_lde (off := 0) Y3 rfl rfl (fun w h => R0.now Z h) hr5.get (fun _ _ h => h) rfl) ?_
    refine o_q rfl rfl (q_asg rfl) ?_
    refine o_q rfl rfl (q_asg rfl) ?_
    refine o_end ?_
    refine za1 ?_
    refine c_seq ?_
    refine za0 ?_
    refine o_q rfl rfl (za3 rfl) ?_
    refine o_q rfl rfl (za3 rfl) ?_
    refine o_q rfl rfl (q_eql rfl rfl) ?_
    refine o_end ?_
    refine za1 ?_
    refine zas _ rfl (fun hb13 => ?_) (fun hb13 => ?_)
    · skip
      replace h := br_t hb13 h
      refine c_seq ?_
      refine za0 ?_
      refine o_q rfl rfl (za3 rfl) ?_
      refine o_q rfl rfl (q_asg rfl) ?_
      refine o_end ?_
      refine za1 ?_
      refine c_ret ?_
      refine zah ?_
      refine za5 ?_
      refine za5 ?_
      have e_ := Option.some.inj h; replace h := hR7; rw [← e_] at h; clear e_
      refine zah ?_
      refine za5 ?_
      have e0_ := Option.some.inj h; clear h
      subst e0_
      exact x_r1 () Try.results185 (zaf rfl) rfl (fun w h => za7 [] (by decide) rfl w h)
    · skip
      replace h := br_f hb13 h
      refine zao ?_
      refine zan ?_
      refine za1 ?_
      refine za0 ?_
      refine o_q rfl rfl (q_up rfl rfl (hr5.up hm6)) ?_
      refine o_q rfl rfl (za3 rfl) ?_
      refine o_end ?_
      refine zam ys3.length (ys3, i1 + 1) (by rw [← hk11]; exact Nat.lt_succ_self _) ⟨hr5.step, rfl, h⟩ ⟨rfl, trivial⟩ (fun w h => za7 [] (by decide) rfl w h) ?_
      repeat (first | exact zad _ _ | refine zai rfl ?_ | refine zae rfl ?_ | refine zaj rfl ?_)

/-! ### loop.example/g01098/spec.plNumber: function 188 -/
def spec_plNumber.f (a0_0 : Int) (l0_1 : List SStep) (l0_2 : List Int) (l1 : List Int) (a2 : Int) : Option Int := if a2 < a0_0 then (some a2) else ((spec_plPlace.f l1 (w64 (a2 - a0_0))).bind fun i5 => some (w64 (a0_0 + i5)))
set_option maxHeartbeats 600000 in
set_option maxRecDepth 100000 in
theorem spec_plNumber.calls {w0 ws : World} {P0 : Nat → Prop} (a0_0 : Int) (A0_1 : Option Addr) (c0_1 : Nat) (n0_1 : Nat) (l0_1 : List SStep) (A0_2 : Option Addr) (c0_2 : Nat) (n0_2 : Nat) (l0_2 : List Int) (A1 : Option Addr) (c1 : Nat) (n1 : Nat) (l1 : List Int) (a2 : Int) (Z : Below w0.heap.size w0 ws) (hF : Fr w0 ws P0 [] ws) (R0_1 : Stable ws P0 (fun w => Kd.C kStep w A0_1 n0_1 l0_1)) (hc0_1 : n0_1 ≤ c0_1) (R0_2 : Stable ws P0 (fun w => Kd.C (Kd.int .i64) w A0_2 n0_2 l0_2)) (hc0_2 : n0_2 ≤ c0_2) (R1 : Stable ws P0 (fun w => Kd.C (Kd.int .i64) w A1 n1 l1)) (hc1 : n1 ≤ c1) (r_1 : Int) (h : spec_plNumber.f a0_0 l0_1 l0_2 l1 a2 = some r_1) :
    Calls Try.prog 188 #[.agg #[.int .i64 a0_0, .slice A0_1 n0_1 c0_1, .slice A0_2 n0_2 c0_2], .slice A1 n1 c1, .int .i64 a2] ws (Post1 w0 ws P0 (fun (_ : Unit) => .int .i64 r_1) (fun (_ : Unit) => [])) := by
  unfold spec_plNumber.f at h
  obtain rfl := (R0_1 ws (KeptB.refl _ _)).1
  obtain rfl := (R0_2 ws (KeptB.refl _ _)).1
  obtain rfl := (R1 ws (KeptB.refl _ _)).1
  refine enter Try.func188 rfl Try.ntmps188 rfl hF ?_
  refine c_seq ?_
  refine za0 ?_
  refine o_e rfl (e_box rfl) (fun g1 => ?_)
  refine o_q rfl rfl (q_asg rfl) ?_
  refine o_end ?_
  refine za1 ?_
  refine c_seq ?_
  refine c_seq ?_
  refine za0 ?_
  refine o_q rfl rfl (za3 rfl) ?_
  refine o_q rfl rfl (q_f F27_0 rfl) ?_
  refine o_q rfl rfl (q_ldb Y3 rfl (fun w h => h.zaa (i := 0) rfl) rfl) ?_
  refine o_q rfl rfl (q_lss rfl rfl) ?_
  refine o_end ?_
  refine za1 ?_
  refine zas _ rfl (fun hb3 => ?_) (fun hb3 => ?_)
  · skip
    replace h := br_t hb3 h
    refine c_seq ?_
    refine za0 ?_
    refine o_q rfl rfl (za3 rfl) ?_
    refine o_q rfl rfl (q_asg rfl) ?_
    refine o_end ?_
    refine za1 ?_
    refine c_ret ?_
    refine za5 ?_
    have e0_ := Option.some.inj h; clear h
    subst e0_
    exact x_r1 () Try.results188 (zaf rfl) rfl (fun w h => za7 [] (by decide) rfl w h)
  · skip
    replace h := br_f hb3 h
    refine zao ?_
    refine za1 ?_
    refine c_seq ?_
    refine a_start (ds := []) MO rfl ?_
    refine za6 0 rfl rfl rfl (by kernel_rfl) (fun _ _ _ h => h) (q_f F27_0 rfl) ?_
    refine a_take 1 rfl rfl rfl (by kernel_rfl) (fun _ _ _ h => h) (fun w h => h) (q_ldb Y3 rfl (fun w h => h.zaa (i := 0) rfl) rfl) ?_
    refine za6 2 rfl rfl rfl (by kernel_rfl) (fun _ _ _ h => h) (za3 rfl) ?_
    refine za6 3 rfl rfl rfl (by kernel_rfl) (fun _ _ _ h => h) (za3 rfl) ?_
    refine za6 4 rfl rfl rfl (by kernel_rfl) (fun _ _ _ h => h) (q_f F27_0 rfl) ?_
    refine a_take 5 rfl rfl rfl (by kernel_rfl) (fun _ _ _ h => h) (fun w h => h) (q_ldb Y3 rfl (fun w h => h.zaa (i := 0) rfl) rfl) ?_
    refine za6 6 rfl rfl rfl (by kernel_rfl) (fun _ _ _ h => h) (q_sub64 rfl rfl) ?_
    refine za9 h (fun i5 hx4 h => ?_) rfl
    refine a_one 7 rfl rfl (by kernel_rfl) rfl (zac 0 Z Try.func185 N185 rfl rfl rfl (fun w P1 hF hB hS hT => spec_plPlace.calls A1 c1 l1.length l1 (w64 (a2 - a0_0)) hB hF (hS _ R1) hc1 _ hx4)) (fun s w h => h) (fun _ => ?_)
    refine za6 8 rfl rfl rfl (by kernel_rfl) (fun _ _ _ h => h) (q_add64 rfl rfl) ?_
    refine za6 9 rfl rfl rfl (by kernel_rfl) (fun _ _ _ h => h) (q_asg rfl) ?_
    refine zaw (by kernel_rfl) ?_
    refine za1 ?_
    refine c_ret ?_
    have e0_ := Option.some.inj h; clear h
    subst e0_
    exact x_r1 () Try.results188 (zaf rfl) rfl (fun w h => za7 [] (by decide) rfl w h)

/-! ### loop.example/g01098/spec.plKeep: function 111 -/
def spec_plKeep.l1 (a0_0 : Int) (l0_1 : List SStep) (l0_2 : List Int) (l1 : List Int) : (List Int) → (List Int) → Int → Option (List Int)
  | [], l23, i26 => some l23
  | y27 :: ys28, l23, i26 => (spec_plNumber.f a0_0 l0_1 l0_2 l1 y27).bind fun i340 => (ap l23 ([i340] : List Int)).bind fun l459 => spec_plKeep.l1 a0_0 l0_1 l0_2 l1 ys28 l459 (i26 + 1)
def spec_plKeep.l0 (a0_0 : Int) (l0_1 : List SStep) (l0_2 : List Int) (l1 : List Int) : (List Int) → (List SStep) → Int → Option (List SStep)
  | [], l8, i11 => some l8
  | y12 :: ys13, l8, i11 => (gt l0_1 y12).bind fun y702 => (spec_plNumber.f a0_0 l0_1 l0_2 l1 y702.f0).bind fun i1067 => (spec_plNumber.f a0_0 l0_1 l0_2 l1 y702.f1).bind fun i1367 => (spec_plStep.f i1067 i1367).bind fun z1427 => (ap l8 ([z1427] : List SStep)).bind fun l1546 => spec_plKeep.l0 a0_0 l0_1 l0_2 l1 ys13 l1546 (i11 + 1)
def spec_plKeep.f (a0_0 : Int) (l0_1 : List SStep) (l0_2 : List Int) (l1 : List Int) : Option ((List SStep) × (List Int)) := (spec_plKeep.l0 a0_0 l0_1 l0_2 l1 l1 ([] : List SStep) 0).bind fun l8 => (spec_plKeep.l1 a0_0 l0_1 l0_2 l1 l0_2 ([] : List Int) 0).bind fun l23 => some (l8, l23)
set_option maxHeartbeats 600000 in
set_option maxRecDepth 100000 in
theorem spec_plKeep.calls {w0 ws : World} {P0 : Nat → Prop} (a0_0 : Int) (A0_1 : Option Addr) (c0_1 : Nat) (n0_1 : Nat) (l0_1 : List SStep) (A0_2 : Option Addr) (c0_2 : Nat) (n0_2 : Nat) (l0_2 : List Int) (A1 : Option Addr) (c1 : Nat) (n1 : Nat) (l1 : List Int) (Z : Below w0.heap.size w0 ws) (hF : Fr w0 ws P0 [] ws) (R0_1 : Stable ws P0 (fun w => Kd.C kStep w A0_1 n0_1 l0_1)) (hc0_1 : n0_1 ≤ c0_1) (R0_2 : Stable ws P0 (fun w => Kd.C (Kd.int .i64) w A0_2 n0_2 l0_2)) (hc0_2 : n0_2 ≤ c0_2) (R1 : Stable ws P0 (fun w => Kd.C (Kd.int .i64) w A1 n1 l1)) (hc1 : n1 ≤ c1) (r_1 : List SStep) (r_4 : List Int) (h : spec_plKeep.f a0_0 l0_1 l0_2 l1 = some (r_1, r_4)) :
    Calls Try.prog 111 #[.agg #[.int .i64 a0_0, .slice A0_1 n0_1 c0_1, .slice A0_2 n0_2 c0_2], .slice A1 n1 c1] ws (Post1 w0 ws P0 (fun ((q_2, q_3, q_5, q_6) : (Option Addr) × Nat × (Option Addr) × Nat) => .agg #[.int .i64 a0_0, .slice q_2 r_1.length q_3, .slice q_5 r_4.length q_6]) (fun ((q_2, q_3, q_5, q_6) : (Option Addr) × Nat × (Option Addr) × Nat) => [row kStep 89 (.slice q_2 r_1.length q_3) r_1, row (Kd.int .i64) 3 (.slice q_5 r_4.length q_6) r_4])) := by
  unfold spec_plKeep.f at h
  obtain rfl := (R0_1 ws (KeptB.refl _ _)).1
  obtain rfl := (R0_2 ws (KeptB.refl _ _)).1
  obtain rfl := (R1 ws (KeptB.refl _ _)).1
  refine enter Try.func111 rfl Try.ntmps111 rfl hF ?_
  refine c_seq ?_
  refine za0 ?_
  refine o_e rfl (e_box rfl) (fun g1 => ?_)
  refine o_e rfl (e_alloc V27 rfl) (fun g3 => ?_)
  refine o_end ?_
  refine za1 ?_
  refine c_seq ?_
  refine za0 ?_
  refine o_q rfl rfl (q_f F27_0 rfl) ?_
  refine o_q rfl rfl (q_ldb Y3 rfl (fun w h => h.zaa (i := 1) rfl) rfl) ?_
  refine o_q rfl rfl (q_build (vs := [(0, .int .i64 a0_0)]) (cs := [.int .i64 a0_0, .slice none 0 0, .slice none 0 0]) rfl rfl) ?_
  refine o_e rfl (e_alloc V27 rfl) (fun g5 => ?_)
  refine o_e rfl (zau (i := 0) rfl rfl rfl Z27 rfl rfl) (fun _ => ?_)
  refine o_end ?_
  refine za1 ?_
  refine c_seq ?_
  refine c_seq ?_
  refine za0 ?_
  refine o_q rfl rfl (za3 rfl) ?_
  refine o_q rfl rfl (q_len Try.underlying25 rfl) ?_
  refine o_q rfl rfl (za3 rfl) ?_
  refine o_end ?_
  refine za1 ?_
  refine zal ?_
  refine c_nil kStep 89 ?_
  refine za9 h (fun o19 hl18 hR17 => ?_) rfl
  clear h
  refine c_fact (p := l1.length ≤ 9223372036854775807) (fun w h => (R1.now Z h).2.1) (fun hm16 => ?_)
  refine zax (σ := (List Int) × (List SStep) × Int × (Option Addr) × Nat) (fun k14 ((ys13, l8, i11, A9, c10) : (List Int) × (List SStep) × Int × (Option Addr) × Nat) => Rg l1 i11 ys13 ∧ ys13.length = k14 ∧ spec_plKeep.l0 a0_0 l0_1 l0_2 l1 ys13 l8 i11 = some o19) [7, 8, 16, 17, 18, 19, 20, 21, 22, 23, 24, 25, 26, 27, 28, 29, 30, 31, 32, 33, 34, 35, 36, 37, 38, 39, 40, 41] (fun ((ys13, l8, i11, A9, c10) : (List Int) × (List SStep) × Int × (Option Addr) × Nat) => [(16, .int .i64 i11)]) (fun ((ys13, l8, i11, A9, c10) : (List Int) × (List SStep) × Int × (Option Addr) × Nat) => [row kStep 89 (.slice A9 l8.length c10) l8, box g5 27 #[.int .i64 a0_0, .slice A9 l8.length c10, .slice none 0 0], box g3 27 #[.int .i64 0, .slice none 0 0, .slice none 0 0], box g1 27 #[.int .i64 a0_0, .slice A0_1 l0_1.length c0_1, .slice A0_2 l0_2.length c0_2]]) l1.length (l1, ([] : List SStep), 0, none, 0) ⟨Rg.start _, rfl, hl18⟩ ⟨rfl, trivial⟩ (fun w h => h) ?_
  refine fun k14 => cur5 (listC (fun l8 i11 A9 c10 U20 hJ_ => ?_) (fun y12 ys13 l8 i11 A9 c10 U20 hJ_ => ?_))
  · skip
    clear hl18
    have hr15 := hJ_.1; have hk21 := hJ_.2.1; have h := hJ_.2.2; clear hJ_
    replace h : spec_plKeep.l0 a0_0 l0_1 l0_2 l1 [] l8 i11 = some o19 := h
    rw [spec_plKeep.l0] at h
    refine c_seq ?_
    refine za0 ?_
    refine o_q rfl rfl (q_lss rfl rfl) ?_
    refine o_end ?_
    refine za1 ?_
    refine c_seq ?_
    refine c_false (congrArg Value.bool hr15.ge) ?_
    refine c_exit ?_
    refine za8 ?_
    refine za8 ?_
    have e_ := Option.some.inj h; replace h := hR17; rw [← e_] at h; clear e_
    refine x_hit ?_
    refine za1 ?_
    refine c_seq ?_
    refine c_seq ?_
    refine za0 ?_
    refine o_q rfl rfl (q_f F27_2 rfl) ?_
    refine o_q rfl rfl (q_ldb Y25 rfl (fun w h => h.zaa (i := 3) rfl) rfl) ?_
    refine o_q rfl rfl (q_len Try.underlying25 rfl) ?_
    refine o_q rfl rfl (za3 rfl) ?_
    refine o_end ?_
    refine za1 ?_
    refine zal ?_
    refine c_nil (Kd.int .i64) 3 ?_
    refine za9 h (fun o34 hl33 hR32 => ?_) rfl
    clear h
    refine c_fact (p := l0_2.length ≤ 9223372036854775807) (fun w h => (R0_2.now Z h).2.1) (fun hm31 => ?_)
    refine zax (σ := (List Int) × (List Int) × Int × (Option Addr) × Nat) (fun k29 ((ys28, l23, i26, A24, c25) : (List Int) × (List Int) × Int × (Option Addr) × Nat) => Rg l0_2 i26 ys28 ∧ ys28.length = k29 ∧ spec_plKeep.l1 a0_0 l0_1 l0_2 l1 ys28 l23 i26 = some o34) [10, 45, 46, 47, 48, 49, 50, 51, 52, 53, 54, 55, 56, 57, 58] (fun ((ys28, l23, i26, A24, c25) : (List Int) × (List Int) × Int × (Option Addr) × Nat) => [(45, .int .i64 i26)]) (fun ((ys28, l23, i26, A24, c25) : (List Int) × (List Int) × Int × (Option Addr) × Nat) => [row (Kd.int .i64) 3 (.slice A24 l23.length c25) l23, row kStep 89 (.slice A9 l8.length c10) l8, box g5 27 #[.int .i64 a0_0, .slice A9 l8.length c10, .slice A24 l23.length c25], box g3 27 #[.int .i64 0, .slice none 0 0, .slice none 0 0], box g1 27 #[.int .i64 a0_0, .slice A0_1 l0_1.length c0_1, .slice A0_2 l0_2.length c0_2]]) l0_2.length (l0_2, ([] : List Int), 0, none, 0) ⟨Rg.start _, rfl, hl33⟩ ⟨rfl, trivial⟩ (fun w h => h) ?_
    refine fun k29 => cur5 (listC (fun l23 i26 A24 c25 U35 hJ_ => ?_) (fun y27 ys28 l23 i26 A24 c25 U35 hJ_ => ?_))
    · skip
      clear hl33
      have hr30 := hJ_.1; have hk36 := hJ_.2.1; have h := hJ_.2.2; clear hJ_
      replace h : spec_plKeep.l1 a0_0 l0_1 l0_2 l1 [] l23 i26 = some o34 := h
      rw [spec_plKeep.l1] at h
      refine c_seq ?_
      refine za0 ?_
      refine o_q rfl rfl (q_lss rfl rfl) ?_
      refine o_end ?_
      refine za1 ?_
      refine c_seq ?_
      refine c_false (congrArg Value.bool hr30.ge) ?_
      refine c_exit ?_
      refine za8 ?_
      refine za8 ?_
      have e_ := Option.some.inj h; replace h := hR32; rw [← e_] at h; clear e_
      refine x_hit ?_
      refine za1 ?_
      refine c_seq ?_
      refine za0 ?_
      refine o_q rfl rfl (q_ldB G27 Z27 rfl (fun w h => h.zaa (i := 2) rfl) rfl) ?_
      refine o_e rfl (zau (i := 3) rfl rfl rfl Z27 rfl rfl) (fun _ => ?_)
      refine o_end ?_
      refine za1 ?_
      refine c_ret ?_
      have e0_ := Option.some.inj h; clear h
      have d0_ := (Prod.mk.inj e0_).1; have e1_ := (Prod.mk.inj e0_).2; clear e0_; subst d0_
      subst e1_
      exact x_r1 (A9, c10, A24, c25) Try.results111 (rv_cell rfl G27 Z27 (fun w h => h.zaa (i := 3) rfl) rfl) rfl (fun w h => za7 [1, 0] (by decide) rfl w h)
    · skip
      clear hl33
      have hr30 := hJ_.1; have hk36 := hJ_.2.1; have h := hJ_.2.2; clear hJ_
      replace h : spec_plKeep.l1 a0_0 l0_1 l0_2 l1 (y27 :: ys28) l23 i26 = some o34 := h
      rw [spec_plKeep.l1] at h
      refine c_seq ?_
      refine za0 ?_
      refine o_q rfl rfl (q_lss rfl rfl) ?_
      refine o_end ?_
      refine za1 ?_
      refine c_seq ?_
      refine zay (congrArg Value.bool hr30.lt) ?_
      refine zao ?_
      refine za1 ?_
      refine c_seq ?_
      refine zal ?_
      refine c_seq ?_
      refine za0 ?_
      refine o_fact (p := Sh A0_2 l0_2.length l0_2.length) (fun w h => f_sh (dk := (Kd.int .i64)) h (fun w h => R0_2.now Z h)) (fun hq37 => ?_)
      refine o_q rfl rfl (q_ix Try.underlying25 Z3 rfl rfl hq37 hr30.get) ?_
      refine o_q rfl rfl (q_lde (off := 0) Y3 rfl rfl (fun w h => R0_2.now Z h) hr30.get (fun _ _ h => h) rfl) ?_
      refine o_q rfl rfl (q_asg rfl) ?_
      refine o_end ?_
      refine za1 ?_
      refine za9 h (fun i340 hx339 h => ?_) rfl
      refine za9 h (fun l459 ha460 h => ?_) rfl
      refine a_startS (ds := []) [none, some 1, none, some 3, some 4] MO rfl ?_
      refine za6 0 rfl rfl rfl (by kernel_rfl) (fun _ _ _ h => h) (q_f F27_2 rfl) ?_
      refine a_take 2 rfl rfl rfl (by kernel_rfl) (fun _ _ _ h => h) (fun w h => zab [none, some 1, none, some 3, some 4] (by decide) w h rfl) (q_ldB G27 Z27 rfl (fun w h => h.zaa (i := 4) rfl) rfl) ?_
      refine za6 3 rfl rfl rfl (by kernel_rfl) (fun _ _ _ h => h) (za3 rfl) ?_
      refine za6 4 rfl rfl rfl (by kernel_rfl) (fun _ _ _ h => h) (za3 rfl) ?_
      refine a_two 1 5 rfl rfl rfl rfl (by kernel_rfl) rfl rfl (ev_q rfl (q_ldb Y25 rfl (fun w h => h.zaa (i := 2) rfl) rfl)) (fun s w h => zab [none, some 1, none, some 3, some 4] (by decide) w h rfl) (zac 0 Z Try.func188 N188 rfl rfl rfl (fun w P1 hF hB hS hT => spec_plNumber.calls a0_0 A0_1 c0_1 l0_1.length l0_1 A0_2 c0_2 l0_2.length l0_2 A1 c1 l1.length l1 y27 hB hF (hS _ R0_1) hc0_1 (hS _ R0_2) hc0_2 (hS _ R1) hc1 _ hx339)) (fun s w h => zab [none, some 1, none, some 3, some 4] (by decide) w h rfl) (fun _ => ?_) (fun _ => ?_)
      · skip
        refine a_one 5 rfl rfl (by kernel_rfl) rfl (zac 0 Z Try.func188 N188 rfl rfl rfl (fun w P1 hF hB hS hT => spec_plNumber.calls a0_0 A0_1 c0_1 l0_1.length l0_1 A0_2 c0_2 l0_2.length l0_2 A1 c1 l1.length l1 y27 hB hF (hS _ R0_1) hc0_1 (hS _ R0_2) hc0_2 (hS _ R1) hc1 _ hx339)) (fun s w h => zab [none, some 1, none, some 3, some 4] (by decide) w h rfl) (fun _ => ?_)
        refine a_one 6 rfl rfl (by kernel_rfl) rfl (e_lit (vs := [(0, .int .i64 i340)]) (cs := [.int .i64 i340]) (Kd.int .i64) ([i340] : List Int) Try.underlying25 I3 (by decide) rfl (by decide) rfl rfl (fun _ _ => Kd.zar _)) (fun s w h => zab [none, some 2, none, some 4, some 5] (by decide) w h rfl) (cur2 (fun A399 c400 => ?_))
        refine a_one 7 rfl rfl (by kernel_rfl) rfl (e_app (i := 1) (j := 0) Try.underlying25 I3 rfl (by decide) (by decide) rfl rfl rfl rfl rfl ha460) (fun s w h => zab [none, some 2, none, some 4, some 5] (by decide) w h rfl) (cur2 (fun A461 c462 => ?_))
        refine za6 8 rfl rfl rfl (by kernel_rfl) (fun _ _ _ h => h) (q_f F27_2 rfl) ?_
        refine a_one 9 rfl rfl (by kernel_rfl) rfl (e_store (i := 3) rfl rfl rfl rfl Z25 rfl rfl) (fun s w h => zab [none, some 2, none, some 4, some 5] (by decide) w h rfl) (fun _ => ?_)
        refine zaw (by kernel_rfl) ?_
        refine zan ?_
        refine za1 ?_
        refine za0 ?_
        refine o_q rfl rfl (q_up rfl rfl (hr30.up hm31)) ?_
        refine o_q rfl rfl (za3 rfl) ?_
        refine o_end ?_
        refine zam ys28.length (ys28, l459, i26 + 1, A461, c462) (by rw [← hk36]; exact Nat.lt_succ_self _) ⟨hr30.step, rfl, h⟩ ⟨rfl, trivial⟩ (fun w h => za7 [1, 2, 3, 4, 5] (by decide) rfl w h) ?_
        repeat (first | exact zad _ _ | refine zai rfl ?_ | refine zae rfl ?_ | refine zaj rfl ?_)
      · skip
        refine a_two 1 6 rfl rfl rfl rfl (by kernel_rfl) rfl rfl (ev_q rfl (q_ldb Y25 rfl (fun w h => h.zaa (i := 2) rfl) rfl)) (fun s w h => zab [none, some 1, none, some 3, some 4] (by decide) w h rfl) (e_lit (vs := [(0, .int .i64 i340)]) (cs := [.int .i64 i340]) (Kd.int .i64) ([i340] : List Int) Try.underlying25 I3 (by decide) rfl (by decide) rfl rfl (fun _ _ => Kd.zar _)) (fun s w h => zab [none, some 2, none, some 4, some 5] (by decide) w h rfl) (fun _ => ?_) (cur2 (fun A399 c400 => ?_))
        · skip
          refine a_one 6 rfl rfl (by kernel_rfl) rfl (e_lit (vs := [(0, .int .i64 i340)]) (cs := [.int .i64 i340]) (Kd.int .i64) ([i340] : List Int) Try.underlying25 I3 (by decide) rfl (by decide) rfl rfl (fun _ _ => Kd.zar _)) (fun s w h => zab [none, some 2, none, some 4, some 5] (by decide) w h rfl) (cur2 (fun A399 c400 => ?_))
          refine a_one 7 rfl rfl (by kernel_rfl) rfl (e_app (i := 1) (j := 0) Try.underlying25 I3 rfl (by decide) (by decide) rfl rfl rfl rfl rfl ha460) (fun s w h => zab [none, some 2, none, some 4, some 5] (by decide) w h rfl) (cur2 (fun A461 c462 => ?_))
          refine za6 8 rfl rfl rfl (by kernel_rfl) (fun _ _ _ h => h) (q_f F27_2 rfl) ?_
          refine a_one 9 rfl rfl (by kernel_rfl) rfl (e_store (i := 3) rfl rfl rfl rfl Z25 rfl rfl) (fun s w h => zab [none, some 2, none, some 4, some 5] (by decide) w h rfl) (fun _ => ?_)
          refine zaw (by kernel_rfl) ?_
          refine zan ?_
          refine za1 ?_
          refine za0 ?_
          refine o_q rfl rfl (q_up rfl rfl (hr30.up hm31)) ?_
          refine o_q rfl rfl (za3 rfl) ?_
          refine o_end ?_
          refine zam ys28.length (ys28, l459, i26 + 1, A461, c462) (by rw [← hk36]; exact Nat.lt_succ_self _) ⟨hr30.step, rfl, h⟩ ⟨rfl, trivial⟩ (fun w h => za7 [1, 2, 3, 4, 5] (by decide) rfl w h) ?_
          repeat (first | exact zad _ _ | refine zai rfl ?_ | refine zae rfl ?_ | refine zaj rfl ?_)
        · skip
          refine a_one 1 rfl rfl (by kernel_rfl) rfl (ev_q rfl (q_ldb Y25 rfl (fun w h => h.zaa (i := 3) rfl) rfl)) (fun s w h => zab [none, some 2, none, some 4, some 5] (by decide) w h rfl) (fun _ => ?_)
          refine a_one 7 rfl rfl (by kernel_rfl) rfl (e_app (i := 1) (j := 0) Try.underlying25 I3 rfl (by decide) (by decide) rfl rfl rfl rfl rfl ha460) (fun s w h => zab [none, some 2, none, some 4, some 5] (by decide) w h rfl) (cur2 (fun A461 c462 => ?_))
          refine za6 8 rfl rfl rfl (by kernel_rfl) (fun _ _ _ h => h) (q_f F27_2 rfl) ?_
          refine a_one 9 rfl rfl (by kernel_rfl) rfl (e_store (i := 3) rfl rfl rfl rfl Z25 rfl rfl) (fun s w h => zab [none, some 2, none, some 4, some 5] (by decide) w h rfl) (fun _ => ?_)
          refine zaw (by kernel_rfl) ?_
          refine zan ?_
          refine za1 ?_
          refine za0 ?_
          refine o_q rfl rfl (q_up rfl rfl (hr30.up hm31)) ?_
          refine o_q rfl rfl (za3 rfl) ?_
          refine o_end ?_
          refine zam ys28.length (ys28, l459, i26 + 1, A461, c462) (by rw [← hk36]; exact Nat.lt_succ_self _) ⟨hr30.step, rfl, h⟩ ⟨rfl, trivial⟩ (fun w h => za7 [1, 2, 3, 4, 5] (by decide) rfl w h) ?_
          repeat (first | exact zad _ _ | refine zai rfl ?_ | refine zae rfl ?_ | refine zaj rfl ?_)
  · skip
    clear hl18
    have hr15 := hJ_.1; have hk21 := hJ_.2.1; have h := hJ_.2.2; clear hJ_
    replace h : spec_plKeep.l0 a0_0 l0_1 l0_2 l1 (y12 :: ys13) l8 i11 = some o19 := h
    rw [spec_plKeep.l0] at h
    refine c_seq ?_
    refine za0 ?_
    refine o_q rfl rfl (q_lss rfl rfl) ?_
    refine o_end ?_
    refine za1 ?_
    refine c_seq ?_
    refine zay (congrArg Value.bool hr15.lt) ?_
    refine zao ?_
    refine za1 ?_
    refine c_seq ?_
    refine zal ?_
    refine c_seq ?_
    refine za0 ?_
    refine o_fact (p := Sh A1 l1.length l1.length) (fun w h => f_sh (dk := (Kd.int .i64)) h (fun w h => R1.now Z h)) (fun hq699 => ?_)
    refine o_q rfl rfl (q_ix Try.underlying25 Z3 rfl rfl hq699 hr15.get) ?_
    refine o_q rfl rfl (q_lde (off := 0) Y3 rfl rfl (fun w h => R1.now Z h) hr15.get (fun _ _ h => h) rfl) ?_
    refine o_q rfl rfl (q_asg rfl) ?_
    refine o_end ?_
    refine za1 ?_
    refine c_seq ?_
    refine za0 ?_
    refine o_q rfl rfl (q_f F27_1 rfl) ?_
    refine o_q rfl rfl (q_ldb Y24 rfl (fun w h => h.zaa (i := 3) rfl) rfl) ?_
    refine o_q rfl rfl (za3 rfl) ?_
    refine o_fact (p := Sh A0_1 l0_1.length l0_1.length) (fun w h => f_sh (dk := kStep) h (fun w h => R0_1.now Z h)) (fun hq700 => ?_)
    refine za9 h (fun y702 hg701 h => ?_) rfl
    refine o_q rfl rfl (q_ix Try.underlying24 Z89 rfl rfl hq700 hg701) ?_
    refine o_q rfl rfl (q_ldE G89 Z89 rfl rfl (fun w h => R0_1.now Z h) hg701 (fun _ _ h => h) rfl) ?_
    refine o_e rfl (e_alloc V89 rfl) (fun g703 => ?_)
    refine o_e rfl (zau (i := 0) rfl rfl rfl Z89 rfl rfl) (fun _ => ?_)
    refine o_end ?_
    refine za1 ?_
    refine za9 h (fun i1067 hx1066 h => ?_) rfl
    refine za9 h (fun i1367 hx1366 h => ?_) rfl
    refine za9 h (fun z1427 hx1426 h => ?_) rfl
    refine za9 h (fun l1546 ha1547 h => ?_) rfl
    refine a_startS (ds := []) [some 0, none, none, some 3, some 4] MO rfl ?_
    refine za6 0 rfl rfl rfl (by kernel_rfl) (fun _ _ _ h => h) (q_f F27_1 rfl) ?_
    refine a_take 2 rfl rfl rfl (by kernel_rfl) (fun _ _ _ h => h) (fun w h => zab [some 0, none, none, some 3, some 4] (by decide) w h rfl) (q_ldB G27 Z27 rfl (fun w h => h.zaa (i := 4) rfl) rfl) ?_
    refine za6 3 rfl rfl rfl (by kernel_rfl) (fun _ _ _ h => h) (za3 rfl) ?_
    refine za6 4 rfl rfl rfl (by kernel_rfl) (fun _ _ _ h => h) (q_f F89_0 rfl) ?_
    refine a_take 5 rfl rfl rfl (by kernel_rfl) (fun _ _ _ h => h) (fun w h => zab [some 0, none, none, some 3, some 4] (by decide) w h rfl) (q_ldb Y3 rfl (fun w h => h.zaa (i := 0) rfl) rfl) ?_
    refine a_take 7 rfl rfl rfl (by kernel_rfl) (fun _ _ _ h => h) (fun w h => zab [some 0, none, none, some 3, some 4] (by decide) w h rfl) (q_ldB G27 Z27 rfl (fun w h => h.zaa (i := 4) rfl) rfl) ?_
    refine za6 8 rfl rfl rfl (by kernel_rfl) (fun _ _ _ h => h) (za3 rfl) ?_
    refine za6 9 rfl rfl rfl (by kernel_rfl) (fun _ _ _ h => h) (q_f F89_1 rfl) ?_
    refine a_take 10 rfl rfl rfl (by kernel_rfl) (fun _ _ _ h => h) (fun w h => zab [some 0, none, none, some 3, some 4] (by decide) w h rfl) (q_ldb Y3 rfl (fun w h => h.zaa (i := 0) rfl) rfl) ?_
    refine a_two 1 6 rfl rfl rfl rfl (by kernel_rfl) rfl rfl (ev_q rfl (q_ldb Y24 rfl (fun w h => h.zaa (i := 2) rfl) rfl)) (fun s w h => zab [some 0, none, none, some 3, some 4] (by decide) w h rfl) (zac 0 Z Try.func188 N188 rfl rfl rfl (fun w P1 hF hB hS hT => spec_plNumber.calls a0_0 A0_1 c0_1 l0_1.length l0_1 A0_2 c0_2 l0_2.length l0_2 A1 c1 l1.length l1 y702.f0 hB hF (hS _ R0_1) hc0_1 (hS _ R0_2) hc0_2 (hS _ R1) hc1 _ hx1066)) (fun s w h => zab [some 0, none, none, some 3, some 4] (by decide) w h rfl) (fun _ => ?_) (fun _ => ?_)
    · skip
      refine a_one 6 rfl rfl (by kernel_rfl) rfl (zac 0 Z Try.func188 N188 rfl rfl rfl (fun w P1 hF hB hS hT => spec_plNumber.calls a0_0 A0_1 c0_1 l0_1.length l0_1 A0_2 c0_2 l0_2.length l0_2 A1 c1 l1.length l1 y702.f0 hB hF (hS _ R0_1) hc0_1 (hS _ R0_2) hc0_2 (hS _ R1) hc1 _ hx1066)) (fun s w h => zab [some 0, none, none, some 3, some 4] (by decide) w h rfl) (fun _ => ?_)
      refine a_one 11 rfl rfl (by kernel_rfl) rfl (zac 0 Z Try.func188 N188 rfl rfl rfl (fun w P1 hF hB hS hT => spec_plNumber.calls a0_0 A0_1 c0_1 l0_1.length l0_1 A0_2 c0_2 l0_2.length l0_2 A1 c1 l1.length l1 y702.f1 hB hF (hS _ R0_1) hc0_1 (hS _ R0_2) hc0_2 (hS _ R1) hc1 _ hx1366)) (fun s w h => zab [some 0, none, none, some 3, some 4] (by decide) w h rfl) (fun _ => ?_)
      refine a_one 12 rfl rfl (by kernel_rfl) rfl (zac 0 Z Try.func97 N97 rfl rfl rfl (fun w P1 hF hB hS hT => spec_plStep.calls i1067 i1367 hB hF _ hx1426)) (fun s w h => zab [some 0, none, none, some 3, some 4] (by decide) w h rfl) (fun _ => ?_)
      refine a_one 13 rfl rfl (by kernel_rfl) rfl (e_lit (vs := [(0, .agg #[.int .i64 z1427.f0, .int .i64 z1427.f1])]) (cs := [.int .i64 z1427.f0, .int .i64 z1427.f1]) kStep ([z1427] : List SStep) Try.underlying24 I89 (by decide) rfl (by decide) rfl rfl (fun _ _ => reps_flat _)) (fun s w h => zab [some 1, none, none, some 4, some 5] (by decide) w h rfl) (cur2 (fun A1486 c1487 => ?_))
      refine a_one 14 rfl rfl (by kernel_rfl) rfl (e_app (i := 2) (j := 0) Try.underlying24 I89 rfl (by decide) (by decide) rfl rfl rfl rfl rfl ha1547) (fun s w h => zab [some 1, none, none, some 4, some 5] (by decide) w h rfl) (cur2 (fun A1548 c1549 => ?_))
      refine za6 15 rfl rfl rfl (by kernel_rfl) (fun _ _ _ h => h) (q_f F27_1 rfl) ?_
      refine a_one 16 rfl rfl (by kernel_rfl) rfl (e_store (i := 3) rfl rfl rfl rfl Z24 rfl rfl) (fun s w h => zab [some 1, none, none, some 4, some 5] (by decide) w h rfl) (fun _ => ?_)
      refine zaw (by kernel_rfl) ?_
      refine zan ?_
      refine za1 ?_
      refine za0 ?_
      refine o_q rfl rfl (q_up rfl rfl (hr15.up hm16)) ?_
      refine o_q rfl rfl (za3 rfl) ?_
      refine o_end ?_
      refine zam ys13.length (ys13, l1546, i11 + 1, A1548, c1549) (by rw [← hk21]; exact Nat.lt_succ_self _) ⟨hr15.step, rfl, h⟩ ⟨rfl, trivial⟩ (fun w h => za7 [2, 3, 4, 5] (by decide) rfl w h) ?_
      repeat (first | exact zad _ _ | refine zai rfl ?_ | refine zae rfl ?_ | refine zaj rfl ?_)
    · skip
      refine a_two 1 11 rfl rfl rfl rfl (by kernel_rfl) rfl rfl (ev_q rfl (q_ldb Y24 rfl (fun w h => h.zaa (i := 2) rfl) rfl)) (fun s w h => zab [some 0, none, none, some 3, some 4] (by decide) w h rfl) (zac 0 Z Try.func188 N188 rfl rfl rfl (fun w P1 hF hB hS hT => spec_plNumber.calls a0_0 A0_1 c0_1 l0_1.length l0_1 A0_2 c0_2 l0_2.length l0_2 A1 c1 l1.length l1 y702.f1 hB hF (hS _ R0_1) hc0_1 (hS _ R0_2) hc0_2 (hS _ R1) hc1 _ hx1366)) (fun s w h => zab [some 0, none, none, some 3, some 4] (by decide) w h rfl) (fun _ => ?_) (fun _ => ?_)
      · skip
        refine a_one 11 rfl rfl (by kernel_rfl) rfl (zac 0 Z Try.func188 N188 rfl rfl rfl (fun w P1 hF hB hS hT => spec_plNumber.calls a0_0 A0_1 c0_1 l0_1.length l0_1 A0_2 c0_2 l0_2.length l0_2 A1 c1 l1.length l1 y702.f1 hB hF (hS _ R0_1) hc0_1 (hS _ R0_2) hc0_2 (hS _ R1) hc1 _ hx1366)) (fun s w h => zab [some 0, none, none, some 3, some 4] (by decide) w h rfl) (fun _ => ?_)
        refine a_one 12 rfl rfl (by kernel_rfl) rfl (zac 0 Z Try.func97 N97 rfl rfl rfl (fun w P1 hF hB hS hT => spec_plStep.calls i1067 i1367 hB hF _ hx1426)) (fun s w h => zab [some 0, none, none, some 3, some 4] (by decide) w h rfl) (fun _ => ?_)
        refine a_one 13 rfl rfl (by kernel_rfl) rfl (e_lit (vs := [(0, .agg #[.int .i64 z1427.f0, .int .i64 z1427.f1])]) (cs := [.int .i64 z1427.f0, .int .i64 z1427.f1]) kStep ([z1427] : List SStep) Try.underlying24 I89 (by decide) rfl (by decide) rfl rfl (fun _ _ => reps_flat _)) (fun s w h => zab [some 1, none, none, some 4, some 5] (by decide) w h rfl) (cur2 (fun A1486 c1487 => ?_))
        refine a_one 14 rfl rfl (by kernel_rfl) rfl (e_app (i := 2) (j := 0) Try.underlying24 I89 rfl (by decide) (by decide) rfl rfl rfl rfl rfl ha1547) (fun s w h => zab [some 1, none, none, some 4, some 5] (by decide) w h rfl) (cur2 (fun A1548 c1549 => ?_))
        refine za6 15 rfl rfl rfl (by kernel_rfl) (fun _ _ _ h => h) (q_f F27_1 rfl) ?_
        refine a_one 16 rfl rfl (by kernel_rfl) rfl (e_store (i := 3) rfl rfl rfl rfl Z24 rfl rfl) (fun s w h => zab [some 1, none, none, some 4, some 5] (by decide) w h rfl) (fun _ => ?_)
        refine zaw (by kernel_rfl) ?_
        refine zan ?_
        refine za1 ?_
        refine za0 ?_
        refine o_q rfl rfl (q_up rfl rfl (hr15.up hm16)) ?_
        refine o_q rfl rfl (za3 rfl) ?_
        refine o_end ?_
        refine zam ys13.length (ys13, l1546, i11 + 1, A1548, c1549) (by rw [← hk21]; exact Nat.lt_succ_self _) ⟨hr15.step, rfl, h⟩ ⟨rfl, trivial⟩ (fun w h => za7 [2, 3, 4, 5] (by decide) rfl w h) ?_
        repeat (first | exact zad _ _ | refine zai rfl ?_ | refine zae rfl ?_ | refine zaj rfl ?_)
      · skip
        refine a_two 1 12 rfl rfl rfl rfl (by kernel_rfl) rfl rfl (ev_q rfl (q_ldb Y24 rfl (fun w h => h.zaa (i := 2) rfl) rfl)) (fun s w h => zab [some 0, none, none, some 3, some 4] (by decide) w h rfl) (zac 0 Z Try.func97 N97 rfl rfl rfl (fun w P1 hF hB hS hT => spec_plStep.calls i1067 i1367 hB hF _ hx1426)) (fun s w h => zab [some 0, none, none, some 3, some 4] (by decide) w h rfl) (fun _ => ?_) (fun _ => ?_)
        · skip
          refine a_one 12 rfl rfl (by kernel_rfl) rfl (zac 0 Z Try.func97 N97 rfl rfl rfl (fun w P1 hF hB hS hT => spec_plStep.calls i1067 i1367 hB hF _ hx1426)) (fun s w h => zab [some 0, none, none, some 3, some 4] (by decide) w h rfl) (fun _ => ?_)
          refine a_one 13 rfl rfl (by kernel_rfl) rfl (e_lit (vs := [(0, .agg #[.int .i64 z1427.f0, .int .i64 z1427.f1])]) (cs := [.int .i64 z1427.f0, .int .i64 z1427.f1]) kStep ([z1427] : List SStep) Try.underlying24 I89 (by decide) rfl (by decide) rfl rfl (fun _ _ => reps_flat _)) (fun s w h => zab [some 1, none, none, some 4, some 5] (by decide) w h rfl) (cur2 (fun A1486 c1487 => ?_))
          refine a_one 14 rfl rfl (by kernel_rfl) rfl (e_app (i := 2) (j := 0) Try.underlying24 I89 rfl (by decide) (by decide) rfl rfl rfl rfl rfl ha1547) (fun s w h => zab [some 1, none, none, some 4, some 5] (by decide) w h rfl) (cur2 (fun A1548 c1549 => ?_))
          refine za6 15 rfl rfl rfl (by kernel_rfl) (fun _ _ _ h => h) (q_f F27_1 rfl) ?_
          refine a_one 16 rfl rfl (by kernel_rfl) rfl (e_store (i := 3) rfl rfl rfl rfl Z24 rfl rfl) (fun s w h => zab [some 1, none, none, some 4, some 5] (by decide) w h rfl) (fun _ => ?_)
          refine zaw (by kernel_rfl) ?_
          refine zan ?_
          refine za1 ?_
          refine za0 ?_
          refine o_q rfl rfl (q_up rfl rfl (hr15.up hm16)) ?_
          refine o_q rfl rfl (za3 rfl) ?_
          refine o_end ?_
          refine zam ys13.length (ys13, l1546, i11 + 1, A1548, c1549) (by rw [← hk21]; exact Nat.lt_succ_self _) ⟨hr15.step, rfl, h⟩ ⟨rfl, trivial⟩ (fun w h => za7 [2, 3, 4, 5] (by decide) rfl w h) ?_
          repeat (first | exact zad _ _ | refine zai rfl ?_ | refine zae rfl ?_ | refine zaj rfl ?_)
        · skip
          refine a_two 1 13 rfl rfl rfl rfl (by kernel_rfl) rfl rfl (ev_q rfl (q_ldb Y24 rfl (fun w h => h.zaa (i := 2) rfl) rfl)) (fun s w h => zab [some 0, none, none, some 3, some 4] (by decide) w h rfl) (e_lit (vs := [(0, .agg #[.int .i64 z1427.f0, .int .i64 z1427.f1])]) (cs := [.int .i64 z1427.f0, .int .i64 z1427.f1]) kStep ([z1427] : List SStep) Try.underlying24 I89 (by decide) rfl (by decide) rfl rfl (fun _ _ => reps_flat _)) (fun s w h => zab [some 1, none, none, some 4, some 5] (by decide) w h rfl) (fun _ => ?_) (cur2 (fun A1486 c1487 => ?_))
          · skip
            refine a_one 13 rfl rfl (by kernel_rfl) rfl (e_lit (vs := [(0, .agg #[.int .i64 z1427.f0, .int .i64 z1427.f1])]) (cs := [.int .i64 z1427.f0, .int .i64 z1427.f1]) kStep ([z1427] : List SStep) Try.underlying24 I89 (by decide) rfl (by decide) rfl rfl (fun _ _ => reps_flat _)) (fun s w h => zab [some 1, none, none, some 4, some 5] (by decide) w h rfl) (cur2 (fun A1486 c1487 => ?_))
            refine a_one 14 rfl rfl (by kernel_rfl) rfl (e_app (i := 2) (j := 0) Try.underlying24 I89 rfl (by decide) (by decide) rfl rfl rfl rfl rfl ha1547) (fun s w h => zab [some 1, none, none, some 4, some 5] (by decide) w h rfl) (cur2 (fun A1548 c1549 => ?_))
            refine za6 15 rfl rfl rfl (by kernel_rfl) (fun _ _ _ h => h) (q_f F27_1 rfl) ?_
            refine a_one 16 rfl rfl (by kernel_rfl) rfl (e_store (i := 3) rfl rfl rfl rfl Z24 rfl rfl) (fun s w h => zab [some 1, none, none, some 4, some 5] (by decide) w h rfl) (fun _ => ?_)
            refine zaw (by kernel_rfl) ?_
            refine zan ?_
            refine za1 ?_
            refine za0 ?_
            refine o_q rfl rfl (q_up rfl rfl (hr15.up hm16)) ?_
            refine o_q rfl rfl (za3 rfl) ?_
            refine o_end ?_
            refine zam ys13.length (ys13, l1546, i11 + 1, A1548, c1549) (by rw [← hk21]; exact Nat.lt_succ_self _) ⟨hr15.step, rfl, h⟩ ⟨rfl, trivial⟩ (fun w h => za7 [2, 3, 4, 5] (by decide) rfl w h) ?_
            repeat (first | exact zad _ _ | refine zai rfl ?_ | refine zae rfl ?_ | refine zaj rfl ?_)
          · skip
            refine a_one 1 rfl rfl (by kernel_rfl) rfl (ev_q rfl (q_ldb Y24 rfl (fun w h => h.zaa (i := 3) rfl) rfl)) (fun s w h => zab [some 1, none, none, some 4, some 5] (by decide) w h rfl) (fun _ => ?_)
            refine a_one 14 rfl rfl (by kernel_rfl) rfl (e_app (i := 2) (j := 0) Try.underlying24 I89 rfl (by decide) (by decide) rfl rfl rfl rfl rfl ha1547) (fun s w h => zab [some 1, none, none, some 4, some 5] (by decide) w h rfl) (cur2 (fun A1548 c1549 => ?_))
            refine za6 15 rfl rfl rfl (by kernel_rfl) (fun _ _ _ h => h) (q_f F27_1 rfl) ?_
            refine a_one 16 rfl rfl (by kernel_rfl) rfl (e_store (i := 3) rfl rfl rfl rfl Z24 rfl rfl) (fun s w h => zab [some 1, none, none, some 4, some 5] (by decide) w h rfl) (fun _ => ?_)
            refine zaw (by kernel_rfl) ?_
            refine zan ?_
            refine za1 ?_
            refine za0 ?_
            refine o_q rfl rfl (q_up rfl rfl (hr15.up hm16)) ?_
            refine o_q rfl rfl (za3 rfl) ?_
            refine o_end ?_
            refine zam ys13.length (ys13, l1546, i11 + 1, A1548, c1549) (by rw [← hk21]; exact Nat.lt_succ_self _) ⟨hr15.step, rfl, h⟩ ⟨rfl, trivial⟩ (fun w h => za7 [2, 3, 4, 5] (by decide) rfl w h) ?_
            repeat (first | exact zad _ _ | refine zai rfl ?_ | refine zae rfl ?_ | refine zaj rfl ?_)

/-! ### loop.example/g01098/spec.ReorderSteps: function 40 -/
def spec_ReorderSteps.f (k : Nat) (a0_0 : Int) (l0_1 : List SStep) (l0_2 : List Int) (l1 : List Int) : Option (Int × (List SStep) × (List Int) × Bool) := ((spec_plGood.f k a0_0 l0_1 l0_2).bind fun b17 => if b17 = true then ((spec_plOrder.f a0_0 l0_1 l0_2 l1).bind fun b20 => some (!b20)) else (some true)).bind fun b10 => if b10 = true then (some (0, ([] : List SStep), ([] : List Int), false)) else ((spec_plKeep.f a0_0 l0_1 l0_2 l1).bind fun (l23, l24) => some (a0_0, l23, l24, true))
set_option maxHeartbeats 600000 in
set_option maxRecDepth 100000 in
theorem spec_ReorderSteps.calls (k : Nat) {w0 ws : World} {P0 : Nat → Prop} (a0_0 : Int) (A0_1 : Option Addr) (c0_1 : Nat) (n0_1 : Nat) (l0_1 : List SStep) (A0_2 : Option Addr) (c0_2 : Nat) (n0_2 : Nat) (l0_2 : List Int) (A1 : Option Addr) (c1 : Nat) (n1 : Nat) (l1 : List Int) (Z : Below w0.heap.size w0 ws) (hF : Fr w0 ws P0 [] ws) (R0_1 : Stable ws P0 (fun w => Kd.C kStep w A0_1 n0_1 l0_1)) (hc0_1 : n0_1 ≤ c0_1) (R0_2 : Stable ws P0 (fun w => Kd.C (Kd.int .i64) w A0_2 n0_2 l0_2)) (hc0_2 : n0_2 ≤ c0_2) (R1 : Stable ws P0 (fun w => Kd.C (Kd.int .i64) w A1 n1 l1)) (hc1 : n1 ≤ c1) (r_1 : Int) (r_2 : List SStep) (r_5 : List Int) (r_8 : Bool) (h : spec_ReorderSteps.f k a0_0 l0_1 l0_2 l1 = some (r_1, r_2, r_5, r_8)) :
    Calls Try.prog 40 #[.agg #[.int .i64 a0_0, .slice A0_1 n0_1 c0_1, .slice A0_2 n0_2 c0_2], .slice A1 n1 c1] ws (Post1 w0 ws P0 (fun ((q_3, q_4, q_6, q_7) : (Option Addr) × Nat × (Option Addr) × Nat) => .tuple #[.agg #[.int .i64 r_1, .slice q_3 r_2.length q_4, .slice q_6 r_5.length q_7], .bool r_8]) (fun ((q_3, q_4, q_6, q_7) : (Option Addr) × Nat × (Option Addr) × Nat) => [row kStep 89 (.slice q_3 r_2.length q_4) r_2, row (Kd.int .i64) 3 (.slice q_6 r_5.length q_7) r_5])) := by
  unfold spec_ReorderSteps.f at h
  obtain rfl := (R0_1 ws (KeptB.refl _ _)).1
  obtain rfl := (R0_2 ws (KeptB.refl _ _)).1
  obtain rfl := (R1 ws (KeptB.refl _ _)).1
  refine enter Try.func40 rfl Try.ntmps40 rfl hF ?_
  refine c_seq ?_
  refine za0 ?_
  refine o_e rfl (e_box rfl) (fun g1 => ?_)
  refine o_e rfl (e_alloc V27 rfl) (fun g3 => ?_)
  refine o_q rfl rfl (q_asg rfl) ?_
  refine o_end ?_
  refine za1 ?_
  refine c_seq ?_
  refine za9 h (fun o11 hl12 hR13 => ?_) rfl
  clear h
  refine c_cutJ (σ := Bool) (fun b10 => some b10 = some o11) [6, 7, 8, 9, 10, 11, 12, 13, 14] (fun b10 => [(14, .bool b10)]) (fun b10 => [box g1 27 #[.int .i64 a0_0, .slice A0_1 l0_1.length c0_1, .slice A0_2 l0_2.length c0_2], box g3 27 #[.int .i64 0, .slice none 0 0, .slice none 0 0]]) ?_ ?_
  · skip
    have h := hl12; clear hl12
    clear hR13
    refine za0 ?_
    refine o_q rfl rfl (q_ldB G27 Z27 rfl (fun w h => h.zaa (i := 1) rfl) rfl) ?_
    refine za9 h (fun b17 hx16 h => ?_) rfl
    refine o_e rfl (zac 0 Z Try.func93 N93 rfl rfl rfl (fun w P1 hF hB hS hT => spec_plGood.calls k a0_0 A0_1 c0_1 l0_1.length l0_1 A0_2 c0_2 l0_2.length l0_2 hB hF (hS _ R0_1) hc0_1 (hS _ R0_2) hc0_2 _ hx16)) (fun _ => ?_)
    refine o_q rfl rfl (q_not rfl) ?_
    refine o_q rfl rfl (za3 rfl) ?_
    refine byB b17 (fun hb18 => ?_) (fun hb18 => ?_)
    · replace h := bb_t hb18 h
      refine o_w (za4 rfl rfl rfl (congrArg (fun b => Value.bool (!(b))) hb18)) rfl (q_ldB G27 Z27 rfl (fun w h => h.zaa (i := 1) rfl) rfl) ?_
      refine o_w (za4 rfl rfl rfl (congrArg (fun b => Value.bool (!(b))) hb18)) rfl (za3 rfl) ?_
      refine za9 h (fun b20 hx19 h => ?_) rfl
      refine o_ew (za4 rfl rfl rfl (congrArg (fun b => Value.bool (!(b))) hb18)) (zac 0 Z Try.func119 N119 rfl rfl rfl (fun w P1 hF hB hS hT => spec_plOrder.calls a0_0 A0_1 c0_1 l0_1.length l0_1 A0_2 c0_2 l0_2.length l0_2 A1 c1 l1.length l1 hB hF (hS _ R0_1) hc0_1 (hS _ R0_2) hc0_2 (hS _ R1) hc1 _ hx19)) (fun _ => ?_)
      refine o_w (za4 rfl rfl rfl (congrArg (fun b => Value.bool (!(b))) hb18)) rfl (q_not rfl) ?_
      refine o_q rfl rfl (zak false (congrArg (fun b => Value.bool (!(b))) hb18) rfl) ?_
      refine o_end ?_
      refine x_meetJ (!b20) h ⟨rfl, trivial⟩ (fun w h => za7 [1, 0] (by decide) rfl w h) ?_
      repeat (first | exact zad _ _ | refine zai rfl ?_ | refine zae rfl ?_ | refine zaj rfl ?_)
    · replace h := bb_f hb18 h
      refine @o_n _ _ _ _ _ _ _ _ _ _ _ 10 (za2 rfl rfl rfl (congrArg (fun b => Value.bool (!(b))) hb18) rfl) (Eq.refl (some 10)) ?_
      refine @o_n _ _ _ _ _ _ _ _ _ _ _ 11 (za2 rfl rfl rfl (congrArg (fun b => Value.bool (!(b))) hb18) rfl) (Eq.refl (some 11)) ?_
      refine @o_n _ _ _ _ _ _ _ _ _ _ _ 12 (za2 rfl rfl rfl (congrArg (fun b => Value.bool (!(b))) hb18) rfl) (Eq.refl (some 12)) ?_
      refine @o_n _ _ _ _ _ _ _ _ _ _ _ 13 (za2 rfl rfl rfl (congrArg (fun b => Value.bool (!(b))) hb18) rfl) (Eq.refl (some 13)) ?_
      refine o_q rfl rfl (zak true (congrArg (fun b => Value.bool (!(b))) hb18) rfl) ?_
      refine o_end ?_
      refine x_meetJ true h ⟨rfl, trivial⟩ (fun w h => za7 [1, 0] (by decide) rfl w h) ?_
      repeat (first | exact zad _ _ | refine zai rfl ?_ | refine zae rfl ?_ | refine zaj rfl ?_)
  · skip
    refine (fun b10 => fun U14 hJ15 => ?_)
    have e_ := Option.some.inj hJ15; have h := hR13; rw [← e_] at h; clear e_ hJ15 hR13 hl12
    refine zas _ rfl (fun hb21 => ?_) (fun hb21 => ?_)
    · skip
      replace h := bb_t hb21 h
      refine c_seq ?_
      refine za0 ?_
      refine o_q rfl rfl (q_build (vs := []) (cs := [.int .i64 0, .slice none 0 0, .slice none 0 0]) rfl rfl) ?_
      refine o_e rfl (zau (i := 1) rfl rfl rfl Z27 rfl rfl) (fun _ => ?_)
      refine o_q rfl rfl (q_asg rfl) ?_
      refine o_end ?_
      refine za1 ?_
      refine c_ret ?_
      refine za5 ?_
      refine x_nil kStep 89 ?_
      refine x_nil (Kd.int .i64) 3 ?_
      have e0_ := Option.some.inj h; clear h
      have d0_ := (Prod.mk.inj e0_).1; have e1_ := (Prod.mk.inj e0_).2; clear e0_; subst d0_
      have d1_ := (Prod.mk.inj e1_).1; have e2_ := (Prod.mk.inj e1_).2; clear e1_; subst d1_
      have d2_ := (Prod.mk.inj e2_).1; have e3_ := (Prod.mk.inj e2_).2; clear e2_; subst d2_
      subst e3_
      exact x_r2 (none, 0, none, 0) Try.results40 (rv_cell rfl G27 Z27 (fun w h => h.zaa (i := 3) rfl) rfl) (zaf rfl) rfl (fun w h => za7 [1, 0] (by decide) rfl w h)
    · skip
      replace h := bb_f hb21 h
      refine zao ?_
      refine za1 ?_
      refine c_seq ?_
      refine za0 ?_
      refine o_q rfl rfl (q_ldB G27 Z27 rfl (fun w h => h.zaa (i := 0) rfl) rfl) ?_
      refine o_q rfl rfl (za3 rfl) ?_
      refine bindE2 h (fun l23 l24 hx22 h => ?_) rfl
      refine o_e rfl (zac 0 Z Try.func111 N111 rfl rfl rfl (fun w P1 hF hB hS hT => spec_plKeep.calls a0_0 A0_1 c0_1 l0_1.length l0_1 A0_2 c0_2 l0_2.length l0_2 A1 c1 l1.length l1 hB hF (hS _ R0_1) hc0_1 (hS _ R0_2) hc0_2 (hS _ R1) hc1 _ _ hx22)) (cur4 (fun A25 c26 A27 c28 => ?_))
      refine o_e rfl (zau (i := 3) rfl rfl rfl Z27 rfl rfl) (fun _ => ?_)
      refine o_q rfl rfl (q_asg rfl) ?_
      refine o_end ?_
      refine za1 ?_
      refine c_ret ?_
      have e0_ := Option.some.inj h; clear h
      have d0_ := (Prod.mk.inj e0_).1; have e1_ := (Prod.mk.inj e0_).2; clear e0_; subst d0_
      have d1_ := (Prod.mk.inj e1_).1; have e2_ := (Prod.mk.inj e1_).2; clear e1_; subst d1_
      have d2_ := (Prod.mk.inj e2_).1; have e3_ := (Prod.mk.inj e2_).2; clear e2_; subst d2_
      subst e3_
      exact x_r2 (A25, c26, A27, c28) Try.results40 (rv_cell rfl G27 Z27 (fun w h => h.zaa (i := 3) rfl) rfl) (zaf rfl) rfl (fun w h => za7 [0, 1] (by decide) rfl w h)

/-! ### loop.example/g01098/laws.pSameSteps: function 99 -/
def laws_pSameSteps.l0 (l1 : List SStep) : (List SStep) → Int → Option ((Bool) ⊕ (Unit))
  | [], i2 => some (.inr ())
  | y3 :: ys4, i2 => (gt l1 i2).bind fun y16 => if (y3.f0 == y16.f0 && (y3.f1 == y16.f1 && true)) = true then (laws_pSameSteps.l0 l1 ys4 (i2 + 1)) else (some (.inl false))
def laws_pSameSteps.f (l0 : List SStep) (l1 : List SStep) : Option Bool := if (l0.length : Int) ≠ (l1.length : Int) then (some false) else ((laws_pSameSteps.l0 l1 l0 0).bind fun o_ => match o_ with | .inl r_ => some r_ | .inr _ => some true)
set_option maxHeartbeats 600000 in
set_option maxRecDepth 100000 in
theorem laws_pSameSteps.calls {w0 ws : World} {P0 : Nat → Prop} (A0 : Option Addr) (c0 : Nat) (n0 : Nat) (l0 : List SStep) (A1 : Option Addr) (c1 : Nat) (n1 : Nat) (l1 : List SStep) (Z : Below w0.heap.size w0 ws) (hF : Fr w0 ws P0 [] ws) (R0 : Stable ws P0 (fun w => Kd.C kStep w A0 n0 l0)) (hc0 : n0 ≤ c0) (R1 : Stable ws P0 (fun w => Kd.C kStep w A1 n1 l1)) (hc1 : n1 ≤ c1) (r_1 : Bool) (h : laws_pSameSteps.f l0 l1 = some r_1) :
    Calls Try.prog 99 #[.slice A0 n0 c0, .slice A1 n1 c1] ws (Post1 w0 ws P0 (fun (_ : Unit) => .bool r_1) (fun (_ : Unit) => [])) := by
  unfold laws_pSameSteps.f at h
  obtain rfl := (R0 ws (KeptB.refl _ _)).1
  obtain rfl := (R1 ws (KeptB.refl _ _)).1
  refine enter Try.func99 rfl Try.ntmps99 rfl hF ?_
  refine c_seq ?_
  refine za0 ?_
  refine o_q rfl rfl (q_asg rfl) ?_
  refine o_end ?_
  refine za1 ?_
  refine c_seq ?_
  refine c_seq ?_
  refine za0 ?_
  refine o_q rfl rfl (za3 rfl) ?_
  refine o_q rfl rfl (q_len Try.underlying24 rfl) ?_
  refine o_q rfl rfl (za3 rfl) ?_
  refine o_q rfl rfl (q_len Try.underlying24 rfl) ?_
  refine o_q rfl rfl (q_neq rfl rfl) ?_
  refine o_end ?_
  refine za1 ?_
  refine zas _ rfl (fun hb1 => ?_) (fun hb1 => ?_)
  · skip
    replace h := br_t hb1 h
    refine c_seq ?_
    refine za0 ?_
    refine o_q rfl rfl (q_asg rfl) ?_
    refine o_end ?_
    refine za1 ?_
    refine c_ret ?_
    refine za5 ?_
    have e0_ := Option.some.inj h; clear h
    subst e0_
    exact x_r1 () Try.results99 (zaf rfl) rfl (fun w h => za7 [] (by decide) rfl w h)
  · skip
    replace h := br_f hb1 h
    refine zao ?_
    refine za1 ?_
    refine c_seq ?_
    refine c_seq ?_
    refine za0 ?_
    refine o_q rfl rfl (za3 rfl) ?_
    refine o_q rfl rfl (q_len Try.underlying24 rfl) ?_
    refine o_q rfl rfl (za3 rfl) ?_
    refine o_end ?_
    refine za1 ?_
    refine zal ?_
    refine za9 h (fun o10 hl9 hR8 => ?_) rfl
    clear h
    refine c_fact (p := l0.length ≤ 9223372036854775807) (fun w h => (R0.now Z h).2.1) (fun hm7 => ?_)
    refine zax (σ := (List SStep) × Int) (fun k5 ((ys4, i2) : (List SStep) × Int) => Rg l0 i2 ys4 ∧ ys4.length = k5 ∧ laws_pSameSteps.l0 l1 ys4 i2 = some o10) [4, 5, 13, 14, 15, 16, 17, 18, 19, 20, 21, 22, 23, 24, 25] (fun ((ys4, i2) : (List SStep) × Int) => [(13, .int .i64 i2)]) (fun ((ys4, i2) : (List SStep) × Int) => []) l0.length (l0, 0) ⟨Rg.start _, rfl, hl9⟩ ⟨rfl, trivial⟩ (fun w h => h) ?_
    refine fun k5 => cur2 (listC (fun i2 U11 hJ_ => ?_) (fun y3 ys4 i2 U11 hJ_ => ?_))
    · skip
      clear hl9
      have hr6 := hJ_.1; have hk12 := hJ_.2.1; have h := hJ_.2.2; clear hJ_
      replace h : laws_pSameSteps.l0 l1 [] i2 = some o10 := h
      rw [laws_pSameSteps.l0] at h
      refine c_seq ?_
      refine za0 ?_
      refine o_q rfl rfl (q_lss rfl rfl) ?_
      refine o_end ?_
      refine za1 ?_
      refine c_seq ?_
      refine c_false (congrArg Value.bool hr6.ge) ?_
      refine c_exit ?_
      refine za8 ?_
      refine za8 ?_
      have e_ := Option.some.inj h; replace h := hR8; rw [← e_] at h; clear e_
      refine x_hit ?_
      refine za1 ?_
      refine c_seq ?_
      refine za0 ?_
      refine o_q rfl rfl (q_asg rfl) ?_
      refine o_end ?_
      refine za1 ?_
      refine c_ret ?_
      have e0_ := Option.some.inj h; clear h
      subst e0_
      exact x_r1 () Try.results99 (zaf rfl) rfl (fun w h => za7 [] (by decide) rfl w h)
    · skip
      clear hl9
      have hr6 := hJ_.1; have hk12 := hJ_.2.1; have h := hJ_.2.2; clear hJ_
      replace h : laws_pSameSteps.l0 l1 (y3 :: ys4) i2 = some o10 := h
      rw [laws_pSameSteps.l0] at h
      refine c_seq ?_
      refine za0 ?_
      refine o_q rfl rfl (q_lss rfl rfl) ?_
      refine o_end ?_
      refine za1 ?_
      refine c_seq ?_
      refine zay (congrArg Value.bool hr6.lt) ?_
      refine zao ?_
      refine za1 ?_
      refine c_seq ?_
      refine zal ?_
      refine c_seq ?_
      refine za0 ?_
      refine o_q rfl rfl (za3 rfl) ?_
      refine o_q rfl rfl (q_asg rfl) ?_
      refine o_end ?_
      refine za1 ?_
      refine c_seq ?_
      refine a_start (ds := []) MO rfl ?_
      refine za6 0 rfl rfl rfl (by kernel_rfl) (fun _ _ _ h => h) (za3 rfl) ?_
      refine za6 1 rfl rfl rfl (by kernel_rfl) (fun _ _ _ h => h) (za3 rfl) ?_
      refine a_fact (p := Sh A0 l0.length l0.length) (fun w h => f_sh (dk := kStep) h (fun w h => R0.now Z h)) (fun hq13 => ?_)
      refine za6 2 rfl rfl rfl (by kernel_rfl) (fun _ _ _ h => h) (q_ix Try.underlying24 Z89 rfl rfl hq13 hr6.get) ?_
      refine a_take 3 rfl rfl rfl (by kernel_rfl) (fun _ _ _ h => h) (fun w h => h) (q_ldE G89 Z89 rfl rfl (fun w h => R0.now Z h) hr6.get (fun _ _ h => h) rfl) ?_
      refine za6 4 rfl rfl rfl (by kernel_rfl) (fun _ _ _ h => h) (za3 rfl) ?_
      refine za6 5 rfl rfl rfl (by kernel_rfl) (fun _ _ _ h => h) (za3 rfl) ?_
      refine a_fact (p := Sh A1 l1.length l1.length) (fun w h => f_sh (dk := kStep) h (fun w h => R1.now Z h)) (fun hq14 => ?_)
      refine za9 h (fun y16 hg15 h => ?_) rfl
      refine za6 6 rfl rfl rfl (by kernel_rfl) (fun _ _ _ h => h) (q_ix Try.underlying24 Z89 rfl rfl hq14 hg15) ?_
      refine a_take 7 rfl rfl rfl (by kernel_rfl) (fun _ _ _ h => h) (fun w h => h) (q_ldE G89 Z89 rfl rfl (fun w h => R1.now Z h) hg15 (fun _ _ h => h) rfl) ?_
      refine za6 8 rfl rfl rfl (by kernel_rfl) (fun _ _ _ h => h) (q_aneq E89 O89 P89 (Q89 y3.f0 y3.f1 y16.f0 y16.f1) rfl rfl) ?_
      refine zaw (by kernel_rfl) ?_
      refine za1 ?_
      refine zas _ rfl (fun hb17 => ?_) (fun hb17 => ?_)
      · replace hb17 := nt_t hb17
        replace h := bb_f hb17 h
        refine c_seq ?_
        refine za0 ?_
        refine o_q rfl rfl (q_asg rfl) ?_
        refine o_end ?_
        refine za1 ?_
        refine c_ret ?_
        refine zah ?_
        refine za5 ?_
        refine za5 ?_
        have e_ := Option.some.inj h; replace h := hR8; rw [← e_] at h; clear e_
        refine zah ?_
        refine za5 ?_
        have e0_ := Option.some.inj h; clear h
        subst e0_
        exact x_r1 () Try.results99 (zaf rfl) rfl (fun w h => za7 [] (by decide) rfl w h)
      · replace hb17 := nt_f hb17
        replace h := bb_t hb17 h
        refine zao ?_
        refine zan ?_
        refine za1 ?_
        refine za0 ?_
        refine o_q rfl rfl (q_up rfl rfl (hr6.up hm7)) ?_
        refine o_q rfl rfl (za3 rfl) ?_
        refine o_end ?_
        refine zam ys4.length (ys4, i2 + 1) (by rw [← hk12]; exact Nat.lt_succ_self _) ⟨hr6.step, rfl, h⟩ ⟨rfl, trivial⟩ (fun w h => za7 [] (by decide) rfl w h) ?_
        repeat (first | exact zad _ _ | refine zai rfl ?_ | refine zae rfl ?_ | refine zaj rfl ?_)

/-! ### loop.example/g01098/laws.pSameInts: function 21 -/
def laws_pSameInts.l0 (l1 : List Int) : (List Int) → Int → Option ((Bool) ⊕ (Unit))
  | [], i2 => some (.inr ())
  | y3 :: ys4, i2 => (gt l1 i2).bind fun y16 => if y3 ≠ y16 then (some (.inl false)) else (laws_pSameInts.l0 l1 ys4 (i2 + 1))
def laws_pSameInts.f (l0 : List Int) (l1 : List Int) : Option Bool := if (l0.length : Int) ≠ (l1.length : Int) then (some false) else ((laws_pSameInts.l0 l1 l0 0).bind fun o_ => match o_ with | .inl r_ => some r_ | .inr _ => some true)
set_option maxHeartbeats 600000 in
set_option maxRecDepth 100000 in
theorem laws_pSameInts.calls {w0 ws : World} {P0 : Nat → Prop} (A0 : Option Addr) (c0 : Nat) (n0 : Nat) (l0 : List Int) (A1 : Option Addr) (c1 : Nat) (n1 : Nat) (l1 : List Int) (Z : Below w0.heap.size w0 ws) (hF : Fr w0 ws P0 [] ws) (R0 : Stable ws P0 (fun w => Kd.C (Kd.int .i64) w A0 n0 l0)) (hc0 : n0 ≤ c0) (R1 : Stable ws P0 (fun w => Kd.C (Kd.int .i64) w A1 n1 l1)) (hc1 : n1 ≤ c1) (r_1 : Bool) (h : laws_pSameInts.f l0 l1 = some r_1) :
    Calls Try.prog 21 #[.slice A0 n0 c0, .slice A1 n1 c1] ws (Post1 w0 ws P0 (fun (_ : Unit) => .bool r_1) (fun (_ : Unit) => [])) := by
  unfold laws_pSameInts.f at h
  obtain rfl := (R0 ws (KeptB.refl _ _)).1
  obtain rfl := (R1 ws (KeptB.refl _ _)).1
  refine enter Try.func21 rfl Try.ntmps21 rfl hF ?_
  refine c_seq ?_
  refine za0 ?_
  refine o_q rfl rfl (q_asg rfl) ?_
  refine o_end ?_
  refine za1 ?_
  refine c_seq ?_
  refine c_seq ?_
  refine za0 ?_
  refine o_q rfl rfl (za3 rfl) ?_
  refine o_q rfl rfl (q_len Try.underlying25 rfl) ?_
  refine o_q rfl rfl (za3 rfl) ?_
  refine o_q rfl rfl (q_len Try.underlying25 rfl) ?_
  refine o_q rfl rfl (q_neq rfl rfl) ?_
  refine o_end ?_
  refine za1 ?_
  refine zas _ rfl (fun hb1 => ?_) (fun hb1 => ?_)
  · skip
    replace h := br_t hb1 h
    refine c_seq ?_
    refine za0 ?_
    refine o_q rfl rfl (q_asg rfl) ?_
    refine o_end ?_
    refine za1 ?_
    refine c_ret ?_
    refine za5 ?_
    have e0_ := Option.some.inj h; clear h
    subst e0_
    exact x_r1 () Try.results21 (zaf rfl) rfl (fun w h => za7 [] (by decide) rfl w h)
  · skip
    replace h := br_f hb1 h
    refine zao ?_
    refine za1 ?_
    refine c_seq ?_
    refine c_seq ?_
    refine za0 ?_
    refine o_q rfl rfl (za3 rfl) ?_
    refine o_q rfl rfl (q_len Try.underlying25 rfl) ?_
    refine o_q rfl rfl (za3 rfl) ?_
    refine o_end ?_
    refine za1 ?_
    refine zal ?_
    refine za9 h (fun o10 hl9 hR8 => ?_) rfl
    clear h
    refine c_fact (p := l0.length ≤ 9223372036854775807) (fun w h => (R0.now Z h).2.1) (fun hm7 => ?_)
    refine zax (σ := (List Int) × Int) (fun k5 ((ys4, i2) : (List Int) × Int) => Rg l0 i2 ys4 ∧ ys4.length = k5 ∧ laws_pSameInts.l0 l1 ys4 i2 = some o10) [4, 5, 13, 14, 15, 16, 17, 18, 19, 20, 21, 22, 23, 24, 25] (fun ((ys4, i2) : (List Int) × Int) => [(13, .int .i64 i2)]) (fun ((ys4, i2) : (List Int) × Int) => []) l0.length (l0, 0) ⟨Rg.start _, rfl, hl9⟩ ⟨rfl, trivial⟩ (fun w h => h) ?_
    refine fun k5 => cur2 (listC (fun i2 U11 hJ_ => ?_) (fun y3 ys4 i2 U11 hJ_ => ?_))
    · skip
      clear hl9
      have hr6 := hJ_.1; have hk12 := hJ_.2.1; have h := hJ_.2.2; clear hJ_
      replace h : laws_pSameInts.l0 l1 [] i2 = some o10 := h
      rw [laws_pSameInts.l0] at h
      refine c_seq ?_
      refine za0 ?_
      refine o_q rfl rfl (q_lss rfl rfl) ?_
      refine o_end ?_
      refine za1 ?_
      refine c_seq ?_
      refine c_false (congrArg Value.bool hr6.ge) ?_
      refine c_exit ?_
      refine za8 ?_
      refine za8 ?_
      have e_ := Option.some.inj h; replace h := hR8; rw [← e_] at h; clear e_
      refine x_hit ?_
      refine za1 ?_
      refine c_seq ?_
      refine za0 ?_
      refine o_q rfl rfl (q_asg rfl) ?_
      refine o_end ?_
      refine za1 ?_
      refine c_ret ?_
      have e0_ := Option.some.inj h; clear h
      subst e0_
      exact x_r1 () Try.results21 (zaf rfl) rfl (fun w h => za7 [] (by decide) rfl w h)
    · skip
      clear hl9
      have hr6 := hJ_.1; have hk12 := hJ_.2.1; have h := hJ_.2.2; clear hJ_
      replace h : laws_pSameInts.l0 l1 (y3 :: ys4) i2 = some o10 := h
      rw [laws_pSameInts.l0] at h
      refine c_seq ?_
      refine za0 ?_
      refine o_q rfl rfl (q_lss rfl rfl) ?_
      refine o_end ?_
      refine za1 ?_
      refine c_seq ?_
      refine zay (congrArg Value.bool hr6.lt) ?_
      refine zao ?_
      refine za1 ?_
      refine c_seq ?_
      refine zal ?_
      refine c_seq ?_
      refine za0 ?_
      refine o_q rfl rfl (za3 rfl) ?_
      refine o_q rfl rfl (q_asg rfl) ?_
      refine o_end ?_
      refine za1 ?_
      refine c_seq ?_
      refine a_start (ds := []) MO rfl ?_
      refine za6 0 rfl rfl rfl (by kernel_rfl) (fun _ _ _ h => h) (za3 rfl) ?_
      refine za6 1 rfl rfl rfl (by kernel_rfl) (fun _ _ _ h => h) (za3 rfl) ?_
      refine a_fact (p := Sh A0 l0.length l0.length) (fun w h => f_sh (dk := (Kd.int .i64)) h (fun w h => R0.now Z h)) (fun hq13 => ?_)
      refine za6 2 rfl rfl rfl (by kernel_rfl) (fun _ _ _ h => h) (q_ix Try.underlying25 Z3 rfl rfl hq13 hr6.get) ?_
      refine a_take 3 rfl rfl rfl (by kernel_rfl) (fun _ _ _ h => h) (fun w h => h) (q_lde (off := 0) Y3 rfl rfl (fun w h => R0.now Z h) hr6.get (fun _ _ h => h) rfl) ?_
      refine za6 4 rfl rfl rfl (by kernel_rfl) (fun _ _ _ h => h) (za3 rfl) ?_
      refine za6 5 rfl rfl rfl (by kernel_rfl) (fun _ _ _ h => h) (za3 rfl) ?_
      refine a_fact (p := Sh A1 l1.length l1.length) (fun w h => f_sh (dk := (Kd.int .i64)) h (fun w h => R1.now Z h)) (fun hq14 => ?_)
      refine za9 h (fun y16 hg15 h => ?_) rfl
      refine za6 6 rfl rfl rfl (by kernel_rfl) (fun _ _ _ h => h) (q_ix Try.underlying25 Z3 rfl rfl hq14 hg15) ?_
      refine a_take 7 rfl rfl rfl (by kernel_rfl) (fun _ _ _ h => h) (fun w h => h) (q_lde (off := 0) Y3 rfl rfl (fun w h => R1.now Z h) hg15 (fun _ _ h => h) rfl) ?_
      refine za6 8 rfl rfl rfl (by kernel_rfl) (fun _ _ _ h => h) (q_neq rfl rfl) ?_
      refine zaw (by kernel_rfl) ?_
      refine za1 ?_
      refine zas _ rfl (fun hb17 => ?_) (fun hb17 => ?_)
      · skip
        replace h := br_t hb17 h
        refine c_seq ?_
        refine za0 ?_
        refine o_q rfl rfl (q_asg rfl) ?_
        refine o_end ?_
        refine za1 ?_
        refine c_ret ?_
        refine zah ?_
        refine za5 ?_
        refine za5 ?_
        have e_ := Option.some.inj h; replace h := hR8; rw [← e_] at h; clear e_
        refine zah ?_
        refine za5 ?_
        have e0_ := Option.some.inj h; clear h
        subst e0_
        exact x_r1 () Try.results21 (zaf rfl) rfl (fun w h => za7 [] (by decide) rfl w h)
      · skip
        replace h := br_f hb17 h
        refine zao ?_
        refine zan ?_
        refine za1 ?_
        refine za0 ?_
        refine o_q rfl rfl (q_up rfl rfl (hr6.up hm7)) ?_
        refine o_q rfl rfl (za3 rfl) ?_
        refine o_end ?_
        refine zam ys4.length (ys4, i2 + 1) (by rw [← hk12]; exact Nat.lt_succ_self _) ⟨hr6.step, rfl, h⟩ ⟨rfl, trivial⟩ (fun w h => za7 [] (by decide) rfl w h) ?_
        repeat (first | exact zad _ _ | refine zai rfl ?_ | refine zae rfl ?_ | refine zaj rfl ?_)

/-! ### loop.example/g01098/laws.pSamePlan: function 17 -/
def laws_pSamePlan.f (a0_0 : Int) (l0_1 : List SStep) (l0_2 : List Int) (a1_0 : Int) (l1_1 : List SStep) (l1_2 : List Int) : Option Bool := if a0_0 = a1_0 then ((laws_pSameSteps.f l0_1 l1_1).bind fun b7 => if b7 = true then ((laws_pSameInts.f l0_2 l1_2).bind fun b10 => some b10) else (some false)) else (some false)
set_option maxHeartbeats 600000 in
set_option maxRecDepth 100000 in
theorem laws_pSamePlan.calls {w0 ws : World} {P0 : Nat → Prop} (a0_0 : Int) (A0_1 : Option Addr) (c0_1 : Nat) (n0_1 : Nat) (l0_1 : List SStep) (A0_2 : Option Addr) (c0_2 : Nat) (n0_2 : Nat) (l0_2 : List Int) (a1_0 : Int) (A1_1 : Option Addr) (c1_1 : Nat) (n1_1 : Nat) (l1_1 : List SStep) (A1_2 : Option Addr) (c1_2 : Nat) (n1_2 : Nat) (l1_2 : List Int) (Z : Below w0.heap.size w0 ws) (hF : Fr w0 ws P0 [] ws) (R0_1 : Stable ws P0 (fun w => Kd.C kStep w A0_1 n0_1 l0_1)) (hc0_1 : n0_1 ≤ c0_1) (R0_2 : Stable ws P0 (fun w => Kd.C (Kd.int .i64) w A0_2 n0_2 l0_2)) (hc0_2 : n0_2 ≤ c0_2) (R1_1 : Stable ws P0 (fun w => Kd.C kStep w A1_1 n1_1 l1_1)) (hc1_1 : n1_1 ≤ c1_1) (R1_2 : Stable ws P0 (fun w => Kd.C (Kd.int .i64) w A1_2 n1_2 l1_2)) (hc1_2 : n1_2 ≤ c1_2) (r_1 : Bool) (h : laws_pSamePlan.f a0_0 l0_1 l0_2 a1_0 l1_1 l1_2 = some r_1) :
    Calls Try.prog 17 #[.agg #[.int .i64 a0_0, .slice A0_1 n0_1 c0_1, .slice A0_2 n0_2 c0_2], .agg #[.int .i64 a1_0, .slice A1_1 n1_1 c1_1, .slice A1_2 n1_2 c1_2]] ws (Post1 w0 ws P0 (fun (_ : Unit) => .bool r_1) (fun (_ : Unit) => [])) := by
  unfold laws_pSamePlan.f at h
  obtain rfl := (R0_1 ws (KeptB.refl _ _)).1
  obtain rfl := (R0_2 ws (KeptB.refl _ _)).1
  obtain rfl := (R1_1 ws (KeptB.refl _ _)).1
  obtain rfl := (R1_2 ws (KeptB.refl _ _)).1
  refine enter Try.func17 rfl Try.ntmps17 rfl hF ?_
  refine c_seq ?_
  refine za0 ?_
  refine o_e rfl (e_box rfl) (fun g1 => ?_)
  refine o_e rfl (e_box rfl) (fun g3 => ?_)
  refine o_q rfl rfl (q_asg rfl) ?_
  refine o_end ?_
  refine za1 ?_
  refine c_seq ?_
  refine za0 ?_
  refine o_q rfl rfl (q_f F27_0 rfl) ?_
  refine o_q rfl rfl (q_ldb Y3 rfl (fun w h => h.zaa (i := 1) rfl) rfl) ?_
  refine o_q rfl rfl (q_f F27_0 rfl) ?_
  refine o_q rfl rfl (q_ldb Y3 rfl (fun w h => h.zaa (i := 0) rfl) rfl) ?_
  refine o_q rfl rfl (q_eql rfl rfl) ?_
  refine o_q rfl rfl (za3 rfl) ?_
  refine byB (decide (a0_0 = a1_0)) (fun hb5 => ?_) (fun hb5 => ?_)
  · replace h := br_t hb5 h
    refine o_w (za4 rfl rfl rfl (congrArg Value.bool hb5)) rfl (q_f F27_1 rfl) ?_
    refine o_w (za4 rfl rfl rfl (congrArg Value.bool hb5)) rfl (q_ldb Y24 rfl (fun w h => h.zaa (i := 1) rfl) rfl) ?_
    refine o_w (za4 rfl rfl rfl (congrArg Value.bool hb5)) rfl (q_f F27_1 rfl) ?_
    refine o_w (za4 rfl rfl rfl (congrArg Value.bool hb5)) rfl (q_ldb Y24 rfl (fun w h => h.zaa (i := 0) rfl) rfl) ?_
    refine za9 h (fun b7 hx6 h => ?_) rfl
    refine o_ew (za4 rfl rfl rfl (congrArg Value.bool hb5)) (zac 0 Z Try.func99 N99 rfl rfl rfl (fun w P1 hF hB hS hT => laws_pSameSteps.calls A0_1 c0_1 l0_1.length l0_1 A1_1 c1_1 l1_1.length l1_1 hB hF (hS _ R0_1) hc0_1 (hS _ R1_1) hc1_1 _ hx6)) (fun _ => ?_)
    refine o_q rfl rfl (zak true (congrArg Value.bool hb5) rfl) ?_
    refine o_q rfl rfl (za3 rfl) ?_
    refine byB b7 (fun hb8 => ?_) (fun hb8 => ?_)
    · replace h := bb_t hb8 h
      refine o_w (za4 rfl rfl rfl (congrArg Value.bool hb8)) rfl (q_f F27_2 rfl) ?_
      refine o_w (za4 rfl rfl rfl (congrArg Value.bool hb8)) rfl (q_ldb Y25 rfl (fun w h => h.zaa (i := 1) rfl) rfl) ?_
      refine o_w (za4 rfl rfl rfl (congrArg Value.bool hb8)) rfl (q_f F27_2 rfl) ?_
      refine o_w (za4 rfl rfl rfl (congrArg Value.bool hb8)) rfl (q_ldb Y25 rfl (fun w h => h.zaa (i := 0) rfl) rfl) ?_
      refine za9 h (fun b10 hx9 h => ?_) rfl
      refine o_ew (za4 rfl rfl rfl (congrArg Value.bool hb8)) (zac 0 Z Try.func21 N21 rfl rfl rfl (fun w P1 hF hB hS hT => laws_pSameInts.calls A0_2 c0_2 l0_2.length l0_2 A1_2 c1_2 l1_2.length l1_2 hB hF (hS _ R0_2) hc0_2 (hS _ R1_2) hc1_2 _ hx9)) (fun _ => ?_)
      refine o_q rfl rfl (zak true (congrArg Value.bool hb8) rfl) ?_
      refine o_q rfl rfl (q_asg rfl) ?_
      refine o_end ?_
      refine za1 ?_
      refine c_ret ?_
      have e0_ := Option.some.inj h; clear h
      subst e0_
      exact x_r1 () Try.results17 (zaf rfl) rfl (fun w h => za7 [] (by decide) rfl w h)
    · replace h := bb_f hb8 h
      refine @o_n _ _ _ _ _ _ _ _ _ _ _ 18 (za2 rfl rfl rfl (congrArg Value.bool hb8) rfl) (Eq.refl (some 18)) ?_
      refine @o_n _ _ _ _ _ _ _ _ _ _ _ 19 (za2 rfl rfl rfl (congrArg Value.bool hb8) rfl) (Eq.refl (some 19)) ?_
      refine @o_n _ _ _ _ _ _ _ _ _ _ _ 20 (za2 rfl rfl rfl (congrArg Value.bool hb8) rfl) (Eq.refl (some 20)) ?_
      refine @o_n _ _ _ _ _ _ _ _ _ _ _ 21 (za2 rfl rfl rfl (congrArg Value.bool hb8) rfl) (Eq.refl (some 21)) ?_
      refine @o_n _ _ _ _ _ _ _ _ _ _ _ 22 (za2 rfl rfl rfl (congrArg Value.bool hb8) rfl) (Eq.refl (some 22)) ?_
      refine o_q rfl rfl (zak false (congrArg Value.bool hb8) rfl) ?_
      refine o_q rfl rfl (q_asg rfl) ?_
      refine o_end ?_
      refine za1 ?_
      refine c_ret ?_
      have e0_ := Option.some.inj h; clear h
      subst e0_
      exact x_r1 () Try.results17 (zaf rfl) rfl (fun w h => za7 [] (by decide) rfl w h)
  · replace h := br_f hb5 h
    refine @o_n _ _ _ _ _ _ _ _ _ _ _ 11 (za2 rfl rfl rfl (congrArg Value.bool hb5) rfl) (Eq.refl (some 11)) ?_
    refine @o_n _ _ _ _ _ _ _ _ _ _ _ 12 (za2 rfl rfl rfl (congrArg Value.bool hb5) rfl) (Eq.refl (some 12)) ?_
    refine @o_n _ _ _ _ _ _ _ _ _ _ _ 13 (za2 rfl rfl rfl (congrArg Value.bool hb5) rfl) (Eq.refl (some 13)) ?_
    refine @o_n _ _ _ _ _ _ _ _ _ _ _ 14 (za2 rfl rfl rfl (congrArg Value.bool hb5) rfl) (Eq.refl (some 14)) ?_
    refine @o_n _ _ _ _ _ _ _ _ _ _ _ 15 (za2 rfl rfl rfl (congrArg Value.bool hb5) rfl) (Eq.refl (some 15)) ?_
    refine o_q rfl rfl (zak false (congrArg Value.bool hb5) rfl) ?_
    refine o_q rfl rfl (za3 rfl) ?_
    refine @o_n _ _ _ _ _ _ _ _ _ _ _ 18 (za2 rfl rfl rfl rfl rfl) (Eq.refl (some 18)) ?_
    refine @o_n _ _ _ _ _ _ _ _ _ _ _ 19 (za2 rfl rfl rfl rfl rfl) (Eq.refl (some 19)) ?_
    refine @o_n _ _ _ _ _ _ _ _ _ _ _ 20 (za2 rfl rfl rfl rfl rfl) (Eq.refl (some 20)) ?_
    refine @o_n _ _ _ _ _ _ _ _ _ _ _ 21 (za2 rfl rfl rfl rfl rfl) (Eq.refl (some 21)) ?_
    refine @o_n _ _ _ _ _ _ _ _ _ _ _ 22 (za2 rfl rfl rfl rfl rfl) (Eq.refl (some 22)) ?_
    refine o_q rfl rfl (zak false rfl rfl) ?_
    refine o_q rfl rfl (q_asg rfl) ?_
    refine o_end ?_
    refine za1 ?_
    refine c_ret ?_
    have e0_ := Option.some.inj h; clear h
    subst e0_
    exact x_r1 () Try.results17 (zaf rfl) rfl (fun w h => za7 [] (by decide) rfl w h)

/-! ### slices.Clone[[]int,int]: function 141 -/
def slices_Clone_int_int.f (l0 : List Int) : Option (List Int) := (ap ([] : List Int) l0).bind fun l5 => some l5
set_option maxHeartbeats 600000 in
set_option maxRecDepth 100000 in
theorem slices_Clone_int_int.calls {w0 ws : World} {P0 : Nat → Prop} (A0 : Option Addr) (c0 : Nat) (n0 : Nat) (l0 : List Int) (Z : Below w0.heap.size w0 ws) (hF : Fr w0 ws P0 [] ws) (R0 : Stable ws P0 (fun w => Kd.C (Kd.int .i64) w A0 n0 l0)) (hc0 : n0 ≤ c0) (r_1 : List Int) (h : slices_Clone_int_int.f l0 = some r_1) :
    Calls Try.prog 141 #[.slice A0 n0 c0] ws (Post1 w0 ws P0 (fun ((q_2, q_3) : (Option Addr) × Nat) => .slice q_2 r_1.length q_3) (fun ((q_2, q_3) : (Option Addr) × Nat) => [row (Kd.int .i64) 3 (.slice q_2 r_1.length q_3) r_1])) := by
  unfold slices_Clone_int_int.f at h
  obtain rfl := (R0 ws (KeptB.refl _ _)).1
  refine enter Try.func141 rfl Try.ntmps141 rfl hF ?_
  refine c_seq ?_
  refine za0 ?_
  refine o_q rfl rfl (q_asg rfl) ?_
  refine o_end ?_
  refine za1 ?_
  refine c_seq ?_
  refine c_seq ?_
  refine za0 ?_
  refine o_q rfl rfl (za3 rfl) ?_
  refine o_q rfl rfl (q_snil Try.underlying25 rfl rfl) ?_
  refine o_end ?_
  refine za1 ?_
  refine zas _ rfl (fun hb1 => ?_) (fun hb1 => ?_)
  · skip
    have hl_ := nil_of hb1 (R0 ws (KeptB.refl _ _)); subst hl_
    replace h : some ([] : List Int) = some r_1 := h
    refine c_seq ?_
    refine za0 ?_
    refine o_q rfl rfl (q_asg rfl) ?_
    refine o_end ?_
    refine za1 ?_
    refine c_ret ?_
    refine za5 ?_
    refine x_nil (Kd.int .i64) 3 ?_
    have e0_ := Option.some.inj h; clear h
    subst e0_
    exact x_r1 (none, 0) Try.results141 (zaf rfl) rfl (fun w h => za7 [0] (by decide) rfl w h)
  · skip
    refine zao ?_
    refine za1 ?_
    refine c_seq ?_
    refine za0 ?_
    refine o_e rfl (e_lit0 (Kd.int .i64) Try.underlying25 I3) (cur2 (fun A2 c3 => ?_))
    refine o_q rfl rfl (za3 rfl) ?_
    refine za9 h (fun l5 ha6 h => ?_) rfl
    refine o_e rfl (e_appr (i := 0) Try.underlying25 I3 rfl (by decide) (by decide) (fun _ _ _ _ h => h) rfl (fun w h => R0.now Z h) rfl rfl ha6) (cur2 (fun A7 c8 => ?_))
    refine o_q rfl rfl (q_asg rfl) ?_
    refine o_end ?_
    refine za1 ?_
    refine c_ret ?_
    have e0_ := Option.some.inj h; clear h
    subst e0_
    exact x_r1 (A7, c8) Try.results141 (zaf rfl) rfl (fun w h => za7 [0] (by decide) rfl w h)

/-! ### (*loop.example/g01098/impl.Plan).outputExponents: function 135 -/
def impl_Plan_outputExponents.l0 (l2 : List (List Int)) : (List Int) → (List (List Int)) → Int → Option (List (List Int))
  | [], l9, i13 => some l9
  | y14 :: ys15, l9, i13 => (gt l2 y14).bind fun y27 => (slices_Clone_int_int.f y27).bind fun l30 => (ap l9 ([l30] : List (List Int))).bind fun l37 => impl_Plan_outputExponents.l0 l2 ys15 l37 (i13 + 1)
def impl_Plan_outputExponents.f (a0_0 : Int) (l0_1 : List SStep) (l0_2 : List Int) : Option (List (List Int)) := (impl_Plan_exponents.f a0_0 l0_1 l0_2).bind fun l2 => (impl_Plan_outputExponents.l0 l2 l0_2 ([] : List (List Int)) 0).bind fun l9 => some l9
set_option maxHeartbeats 600000 in
set_option maxRecDepth 100000 in
theorem impl_Plan_outputExponents.calls {w0 ws : World} {P0 : Nat → Prop} (g0 : Nat) (a0_0 : Int) (A0_1 : Option Addr) (c0_1 : Nat) (n0_1 : Nat) (l0_1 : List SStep) (A0_2 : Option Addr) (c0_2 : Nat) (n0_2 : Nat) (l0_2 : List Int) (Z : Below w0.heap.size w0 ws) (hF : Fr w0 ws P0 [] ws) (R0_1 : Stable ws P0 (fun w => Kd.C kStep w A0_1 n0_1 l0_1)) (hc0_1 : n0_1 ≤ c0_1) (R0_2 : Stable ws P0 (fun w => Kd.C (Kd.int .i64) w A0_2 n0_2 l0_2)) (hc0_2 : n0_2 ≤ c0_2) (B0 : Stable ws P0 (fun w => w.heap[g0]? = some (.cells #[.int .i64 a0_0, .slice A0_1 n0_1 c0_1, .slice A0_2 n0_2 c0_2] 27 (0, 0)))) (r_1 : List (List Int)) (h : impl_Plan_outputExponents.f a0_0 l0_1 l0_2 = some r_1) :
    Calls Try.prog 135 #[.pointer (some ⟨g0, 0, none⟩)] ws (Post1 w0 ws P0 (fun ((q_2, q_3, q_4) : (Option Addr) × Nat × Hd) => .slice q_2 r_1.length q_3) (fun ((q_2, q_3, q_4) : (Option Addr) × Nat × Hd) => [row (gk 3 (Kd.int .i64)) 25 (.slice q_2 r_1.length q_3) (zp q_4 r_1)])) := by
  unfold impl_Plan_outputExponents.f at h
  obtain rfl := (R0_1 ws (KeptB.refl _ _)).1
  obtain rfl := (R0_2 ws (KeptB.refl _ _)).1
  refine enter Try.func135 rfl Try.ntmps135 rfl hF ?_
  refine c_seq ?_
  refine za0 ?_
  refine o_q rfl rfl (q_asg rfl) ?_
  refine o_end ?_
  refine za1 ?_
  refine c_seq ?_
  refine za0 ?_
  refine o_q rfl rfl (za3 rfl) ?_
  refine za9 h (fun l2 hx1 h => ?_) rfl
  refine o_e rfl (zac 0 Z Try.func120 N120 rfl rfl rfl (fun w P1 hF hB hS hT => impl_Plan_exponents.calls g0 a0_0 A0_1 c0_1 l0_1.length l0_1 A0_2 c0_2 l0_2.length l0_2 hB hF (hS _ R0_1) hc0_1 (hS _ R0_2) hc0_2 (hS _ B0) _ hx1)) (cur3 (fun A3 c4 H5 => ?_))
  refine o_e rfl (e_lit0 (gk 3 (Kd.int .i64)) Try.underlying60 I25) (cur2 (fun A6 c7 => ?_))
  refine o_q rfl rfl (q_asg rfl) ?_
  refine o_q rfl rfl (q_asg rfl) ?_
  refine o_end ?_
  refine za1 ?_
  refine c_seq ?_
  refine c_seq ?_
  refine za0 ?_
  refine o_q rfl rfl (za3 rfl) ?_
  refine o_q rfl rfl (q_nil rfl) ?_
  refine o_q rfl rfl (q_f F27_2 rfl) ?_
  refine o_q rfl rfl (q_ldb Y25 rfl (fun w h => B0.now Z h) rfl) ?_
  refine o_q rfl rfl (q_len Try.underlying25 rfl) ?_
  refine o_q rfl rfl (za3 rfl) ?_
  refine o_end ?_
  refine za1 ?_
  refine zal ?_
  refine za9 h (fun o21 hl20 hR19 => ?_) rfl
  clear h
  refine c_fact (p := l0_2.length ≤ 9223372036854775807) (fun w h => (R0_2.now Z h).2.1) (fun hm18 => ?_)
  refine zax (σ := (List Int) × (List (List Int)) × Int × (Option Addr) × Nat × Hd) (fun k16 ((ys15, l9, i13, A10, c11, H12) : (List Int) × (List (List Int)) × Int × (Option Addr) × Nat × Hd) => Rg l0_2 i13 ys15 ∧ ys15.length = k16 ∧ impl_Plan_outputExponents.l0 l2 ys15 l9 i13 = some o21) [4, 6, 15, 16, 17, 18, 19, 20, 21, 22, 23, 24, 25, 26, 27] (fun ((ys15, l9, i13, A10, c11, H12) : (List Int) × (List (List Int)) × Int × (Option Addr) × Nat × Hd) => [(4, .slice A10 l9.length c11), (15, .int .i64 i13)]) (fun ((ys15, l9, i13, A10, c11, H12) : (List Int) × (List (List Int)) × Int × (Option Addr) × Nat × Hd) => [row (gk 3 (Kd.int .i64)) 25 (.slice A10 l9.length c11) (zp H12 l9), row (gk 3 (Kd.int .i64)) 25 (.slice A3 l2.length c4) (zp H5 l2)]) l0_2.length (l0_2, ([] : List (List Int)), 0, A6, c7, ([] : Hd)) ⟨Rg.start _, rfl, hl20⟩ ⟨rfl, rfl, trivial⟩ (fun w h => h) ?_
  refine fun k16 => cur6 (listC (fun l9 i13 A10 c11 H12 U22 hJ_ => ?_) (fun y14 ys15 l9 i13 A10 c11 H12 U22 hJ_ => ?_))
  · skip
    clear hl20
    have hr17 := hJ_.1; have hk23 := hJ_.2.1; have h := hJ_.2.2; clear hJ_
    replace h : impl_Plan_outputExponents.l0 l2 [] l9 i13 = some o21 := h
    rw [impl_Plan_outputExponents.l0] at h
    refine c_seq ?_
    refine za0 ?_
    refine o_q rfl rfl (q_lss rfl rfl) ?_
    refine o_end ?_
    refine za1 ?_
    refine c_seq ?_
    refine c_false (congrArg Value.bool hr17.ge) ?_
    refine c_exit ?_
    refine za8 ?_
    refine za8 ?_
    have e_ := Option.some.inj h; replace h := hR19; rw [← e_] at h; clear e_
    refine x_hit ?_
    refine za1 ?_
    refine c_seq ?_
    refine za0 ?_
    refine o_q rfl rfl (za3 rfl) ?_
    refine o_q rfl rfl (q_asg rfl) ?_
    refine o_end ?_
    refine za1 ?_
    refine c_ret ?_
    have e0_ := Option.some.inj h; clear h
    subst e0_
    exact x_r1 (A10, c11, H12) Try.results135 (zaf rfl) rfl (fun w h => za7 [0] (by decide) rfl w h)
  · skip
    clear hl20
    have hr17 := hJ_.1; have hk23 := hJ_.2.1; have h := hJ_.2.2; clear hJ_
    replace h : impl_Plan_outputExponents.l0 l2 (y14 :: ys15) l9 i13 = some o21 := h
    rw [impl_Plan_outputExponents.l0] at h
    refine c_seq ?_
    refine za0 ?_
    refine o_q rfl rfl (q_lss rfl rfl) ?_
    refine o_end ?_
    refine za1 ?_
    refine c_seq ?_
    refine zay (congrArg Value.bool hr17.lt) ?_
    refine zao ?_
    refine za1 ?_
    refine c_seq ?_
    refine zal ?_
    refine c_seq ?_
    refine za0 ?_
    refine o_fact (p := Sh A0_2 l0_2.length l0_2.length) (fun w h => f_sh (dk := (Kd.int .i64)) h (fun w h => R0_2.now Z h)) (fun hq24 => ?_)
    refine o_q rfl rfl (q_ix Try.underlying25 Z3 rfl rfl hq24 hr17.get) ?_
    refine o_q rfl rfl (q_lde (off := 0) Y3 rfl rfl (fun w h => R0_2.now Z h) hr17.get (fun _ _ h => h) rfl) ?_
    refine o_q rfl rfl (q_asg rfl) ?_
    refine o_end ?_
    refine za1 ?_
    refine za0 ?_
    refine o_q rfl rfl (za3 rfl) ?_
    refine o_q rfl rfl (za3 rfl) ?_
    refine o_q rfl rfl (za3 rfl) ?_
    refine o_fact (p := Sh A3 l2.length (zp H5 l2).length) (fun w h => f_sh (dk := (gk 3 (Kd.int .i64))) h (fun w h => h.zb0 (i := 1) rfl)) (fun hq25 => ?_)
    refine za9 h (fun y27 hg26 h => ?_) rfl
    refine o_q rfl rfl (q_ix Try.underlying60 Z25 rfl rfl hq25 (gt_zp hg26)) ?_
    refine o_fact (p := y27.length ≤ hC H5 y14) (fun w h => (K_in (h.zb0 (i := 1) rfl) hg26).1) (fun hc28 => ?_)
    refine o_q rfl rfl (q_lde (off := 0) Y25 rfl rfl (fun w h => h.zb0 (i := 1) rfl) (gt_zp hg26) (fun _ _ h => h.1) rfl) ?_
    refine za9 h (fun l30 hx29 h => ?_) rfl
    refine o_e rfl (zac 0 Z Try.func141 N141 rfl rfl rfl (fun w P1 hF hB hS hT => slices_Clone_int_int.calls (hA H5 y14) (hC H5 y14) y27.length y27 hB hF (stab_in (hT 1 _ rfl).row hg26) hc28 _ hx29)) (cur2 (fun A31 c32 => ?_))
    refine o_e rfl (e_litG (j := 0) (ue := 3) (dk := (Kd.int .i64)) (ys := l30) Try.underlying60 I25 rfl rfl rfl) (cur3 (fun A33 c34 H36 => ?_))
    refine za9 h (fun l37 ha38 h => ?_) rfl
    refine o_e rfl (e_appG (i := 2) (j := 0) Try.underlying60 I25 rfl (by decide) rfl rfl rfl rfl rfl ha38) (cur3 (fun A39 c40 H41 => ?_))
    refine o_q rfl rfl (q_asg rfl) ?_
    refine o_end ?_
    refine zan ?_
    refine za1 ?_
    refine za0 ?_
    refine o_q rfl rfl (q_up rfl rfl (hr17.up hm18)) ?_
    refine o_q rfl rfl (za3 rfl) ?_
    refine o_end ?_
    refine zam ys15.length (ys15, l37, i13 + 1, A39, c40, H41) (by rw [← hk23]; exact Nat.lt_succ_self _) ⟨hr17.step, rfl, h⟩ ⟨rfl, rfl, trivial⟩ (fun w h => za7 [2, 3] (by decide) rfl w h) ?_
    repeat (first | exact zad _ _ | refine zai rfl ?_ | refine zae rfl ?_ | refine zaj rfl ?_)

/-! ### slices.EqualFunc[[][]int,[][]int,[]int,[]int]: function 187 -/
def slices_EqualFunc_int_int_int_int.l0 (l1 : List (List Int)) : (List (List Int)) → Int → Option ((Bool) ⊕ (Unit))
  | [], i2 => some (.inr ())
  | y3 :: ys4, i2 => (gt l1 i2).bind fun y17 => (slices_Equal_int_int.f y3 y17).bind fun b20 => if b20 = true then (slices_EqualFunc_int_int_int_int.l0 l1 ys4 (i2 + 1)) else (some (.inl false))
def slices_EqualFunc_int_int_int_int.f (l0 : List (List Int)) (l1 : List (List Int)) : Option Bool := if (l0.length : Int) ≠ (l1.length : Int) then (some false) else ((slices_EqualFunc_int_int_int_int.l0 l1 l0 0).bind fun o_ => match o_ with | .inl r_ => some r_ | .inr _ => some true)
set_option maxHeartbeats 600000 in
set_option maxRecDepth 100000 in
theorem slices_EqualFunc_int_int_int_int.calls {w0 ws : World} {P0 : Nat → Prop} (A0 : Option Addr) (c0 : Nat) (n0 : Nat) (H0 : Hd) (l0 : List (List Int)) (A1 : Option Addr) (c1 : Nat) (n1 : Nat) (H1 : Hd) (l1 : List (List Int)) (Z : Below w0.heap.size w0 ws) (hF : Fr w0 ws P0 [] ws) (R0 : Stable ws P0 (fun w => Kd.C (gk 3 (Kd.int .i64)) w A0 n0 (zp H0 l0))) (hc0 : n0 ≤ c0) (R1 : Stable ws P0 (fun w => Kd.C (gk 3 (Kd.int .i64)) w A1 n1 (zp H1 l1))) (hc1 : n1 ≤ c1) (r_1 : Bool) (h : slices_EqualFunc_int_int_int_int.f l0 l1 = some r_1) :
    Calls Try.prog 187 #[.slice A0 n0 c0, .slice A1 n1 c1, .func (.func 144) #[] #[]] ws (Post1 w0 ws P0 (fun (_ : Unit) => .bool r_1) (fun (_ : Unit) => [])) := by
  unfold slices_EqualFunc_int_int_int_int.f at h
  obtain rfl := (zp_len _ _).symm.trans (R0 ws (KeptB.refl _ _)).1
  obtain rfl := (zp_len _ _).symm.trans (R1 ws (KeptB.refl _ _)).1
  refine enter Try.func187 rfl Try.ntmps187 rfl hF ?_
  refine c_seq ?_
  refine za0 ?_
  refine o_q rfl rfl (q_asg rfl) ?_
  refine o_end ?_
  refine za1 ?_
  refine c_seq ?_
  refine c_seq ?_
  refine za0 ?_
  refine o_q rfl rfl (za3 rfl) ?_
  refine o_q rfl rfl (q_len Try.underlying60 rfl) ?_
  refine o_q rfl rfl (za3 rfl) ?_
  refine o_q rfl rfl (q_len Try.underlying60 rfl) ?_
  refine o_q rfl rfl (q_neq rfl rfl) ?_
  refine o_end ?_
  refine za1 ?_
  refine zas _ rfl (fun hb1 => ?_) (fun hb1 => ?_)
  · skip
    replace h := br_t hb1 h
    refine c_seq ?_
    refine za0 ?_
    refine o_q rfl rfl (q_asg rfl) ?_
    refine o_end ?_
    refine za1 ?_
    refine c_ret ?_
    refine za5 ?_
    have e0_ := Option.some.inj h; clear h
    subst e0_
    exact x_r1 () Try.results187 (zaf rfl) rfl (fun w h => za7 [] (by decide) rfl w h)
  · skip
    replace h := br_f hb1 h
    refine zao ?_
    refine za1 ?_
    refine c_seq ?_
    refine c_seq ?_
    refine za0 ?_
    refine o_q rfl rfl (za3 rfl) ?_
    refine o_q rfl rfl (q_len Try.underlying60 rfl) ?_
    refine o_q rfl rfl (za3 rfl) ?_
    refine o_end ?_
    refine za1 ?_
    refine zal ?_
    refine za9 h (fun o10 hl9 hR8 => ?_) rfl
    clear h
    refine c_fact (p := l0.length ≤ 9223372036854775807) (fun w h => (R0.now Z h).2.1) (fun hm7 => ?_)
    refine zax (σ := (List (List Int)) × Int) (fun k5 ((ys4, i2) : (List (List Int)) × Int) => Rg l0 i2 ys4 ∧ ys4.length = k5 ∧ slices_EqualFunc_int_int_int_int.l0 l1 ys4 i2 = some o10) [6, 7, 8, 9, 17, 18, 19, 20, 21, 22, 23, 24, 25, 26, 27, 28, 29, 30, 31] (fun ((ys4, i2) : (List (List Int)) × Int) => [(17, .int .i64 i2)]) (fun ((ys4, i2) : (List (List Int)) × Int) => []) l0.length (l0, 0) ⟨Rg.start _, rfl, hl9⟩ ⟨rfl, trivial⟩ (fun w h => h) ?_
    refine fun k5 => cur2 (listC (fun i2 U11 hJ_ => ?_) (fun y3 ys4 i2 U11 hJ_ => ?_))
    · skip
      clear hl9
      have hr6 := hJ_.1; have hk12 := hJ_.2.1; have h := hJ_.2.2; clear hJ_
      replace h : slices_EqualFunc_int_int_int_int.l0 l1 [] i2 = some o10 := h
      rw [slices_EqualFunc_int_int_int_int.l0] at h
      refine c_seq ?_
      refine za0 ?_
      refine o_q rfl rfl (q_lss rfl rfl) ?_
      refine o_end ?_
      refine za1 ?_
      refine c_seq ?_
      refine c_false (congrArg Value.bool hr6.ge) ?_
      refine c_exit ?_
      refine za8 ?_
      refine za8 ?_
      have e_ := Option.some.inj h; replace h := hR8; rw [← e_] at h; clear e_
      refine x_hit ?_
      refine za1 ?_
      refine c_seq ?_
      refine za0 ?_
      refine o_q rfl rfl (q_asg rfl) ?_
      refine o_end ?_
      refine za1 ?_
      refine c_ret ?_
      have e0_ := Option.some.inj h; clear h
      subst e0_
      exact x_r1 () Try.results187 (zaf rfl) rfl (fun w h => za7 [] (by decide) rfl w h)
    · skip
      clear hl9
      have hr6 := hJ_.1; have hk12 := hJ_.2.1; have h := hJ_.2.2; clear hJ_
      replace h : slices_EqualFunc_int_int_int_int.l0 l1 (y3 :: ys4) i2 = some o10 := h
      rw [slices_EqualFunc_int_int_int_int.l0] at h
      refine c_seq ?_
      refine za0 ?_
      refine o_q rfl rfl (q_lss rfl rfl) ?_
      refine o_end ?_
      refine za1 ?_
      refine c_seq ?_
      refine zay (congrArg Value.bool hr6.lt) ?_
      refine zao ?_
      refine za1 ?_
      refine c_seq ?_
      refine zal ?_
      refine c_seq ?_
      refine za0 ?_
      refine o_q rfl rfl (za3 rfl) ?_
      refine o_fact (p := Sh A0 l0.length (zp H0 l0).length) (fun w h => f_sh (dk := (gk 3 (Kd.int .i64))) h (fun w h => R0.now Z h)) (fun hq13 => ?_)
      refine o_q rfl rfl (q_ix Try.underlying60 Z25 rfl rfl hq13 (gt_zp hr6.get)) ?_
      refine o_fact (p := y3.length ≤ hC H0 i2) (fun w h => (K_in (R0.now Z h) hr6.get).1) (fun hc14 => ?_)
      refine o_q rfl rfl (q_lde (off := 0) Y25 rfl rfl (fun w h => R0.now Z h) (gt_zp hr6.get) (fun _ _ h => h.1) rfl) ?_
      refine o_q rfl rfl (q_asg rfl) ?_
      refine o_q rfl rfl (q_asg rfl) ?_
      refine o_end ?_
      refine za1 ?_
      refine c_seq ?_
      refine za0 ?_
      refine o_q rfl rfl (za3 rfl) ?_
      refine o_q rfl rfl (za3 rfl) ?_
      refine o_fact (p := Sh A1 l1.length (zp H1 l1).length) (fun w h => f_sh (dk := (gk 3 (Kd.int .i64))) h (fun w h => R1.now Z h)) (fun hq15 => ?_)
      refine za9 h (fun y17 hg16 h => ?_) rfl
      refine o_q rfl rfl (q_ix Try.underlying60 Z25 rfl rfl hq15 (gt_zp hg16)) ?_
      refine o_fact (p := y17.length ≤ hC H1 i2) (fun w h => (K_in (R1.now Z h) hg16).1) (fun hc18 => ?_)
      refine o_q rfl rfl (q_lde (off := 0) Y25 rfl rfl (fun w h => R1.now Z h) (gt_zp hg16) (fun _ _ h => h.1) rfl) ?_
      refine o_q rfl rfl (q_asg rfl) ?_
      refine o_end ?_
      refine za1 ?_
      refine c_seq ?_
      refine za0 ?_
      refine o_q rfl rfl (za3 rfl) ?_
      refine o_q rfl rfl (za3 rfl) ?_
      refine o_q rfl rfl (za3 rfl) ?_
      refine za9 h (fun b20 hx19 h => ?_) rfl
      refine o_e rfl (zac 0 Z Try.func144 N144 rfl rfl rfl (fun w P1 hF hB hS hT => slices_Equal_int_int.calls (hA H0 i2) (hC H0 i2) y3.length y3 (hA H1 i2) (hC H1 i2) y17.length y17 hB hF (stab_in (hS _ R0) hr6.get) hc14 (stab_in (hS _ R1) hg16) hc18 _ hx19)) (fun _ => ?_)
      refine o_q rfl rfl (q_not rfl) ?_
      refine o_end ?_
      refine za1 ?_
      refine zas _ rfl (fun hb21 => ?_) (fun hb21 => ?_)
      · replace hb21 := nt_t hb21
        replace h := bb_f hb21 h
        refine c_seq ?_
        refine za0 ?_
        refine o_q rfl rfl (q_asg rfl) ?_
        refine o_end ?_
        refine za1 ?_
        refine c_ret ?_
        refine zah ?_
        refine za5 ?_
        refine za5 ?_
        have e_ := Option.some.inj h; replace h := hR8; rw [← e_] at h; clear e_
        refine zah ?_
        refine za5 ?_
        have e0_ := Option.some.inj h; clear h
        subst e0_
        exact x_r1 () Try.results187 (zaf rfl) rfl (fun w h => za7 [] (by decide) rfl w h)
      · replace hb21 := nt_f hb21
        replace h := bb_t hb21 h
        refine zao ?_
        refine zan ?_
        refine za1 ?_
        refine za0 ?_
        refine o_q rfl rfl (q_up rfl rfl (hr6.up hm7)) ?_
        refine o_q rfl rfl (za3 rfl) ?_
        refine o_end ?_
        refine zam ys4.length (ys4, i2 + 1) (by rw [← hk12]; exact Nat.lt_succ_self _) ⟨hr6.step, rfl, h⟩ ⟨rfl, trivial⟩ (fun w h => za7 [] (by decide) rfl w h) ?_
        repeat (first | exact zad _ _ | refine zai rfl ?_ | refine zae rfl ?_ | refine zaj rfl ?_)

/-! ### loop.example/g01098/impl.samePowers: function 109 -/
def impl_samePowers.f (a0_0 : Int) (l0_1 : List SStep) (l0_2 : List Int) (a1_0 : Int) (l1_1 : List SStep) (l1_2 : List Int) : Option Bool := if a0_0 = a1_0 then ((impl_Plan_outputExponents.f a0_0 l0_1 l0_2).bind fun l3 => (impl_Plan_outputExponents.f a1_0 l1_1 l1_2).bind fun l8 => (slices_EqualFunc_int_int_int_int.f l3 l8).bind fun b13 => some b13) else (some false)
set_option maxHeartbeats 600000 in
set_option maxRecDepth 100000 in
theorem impl_samePowers.calls {w0 ws : World} {P0 : Nat → Prop} (g0 : Nat) (a0_0 : Int) (A0_1 : Option Addr) (c0_1 : Nat) (n0_1 : Nat) (l0_1 : List SStep) (A0_2 : Option Addr) (c0_2 : Nat) (n0_2 : Nat) (l0_2 : List Int) (g1 : Nat) (a1_0 : Int) (A1_1 : Option Addr) (c1_1 : Nat) (n1_1 : Nat) (l1_1 : List SStep) (A1_2 : Option Addr) (c1_2 : Nat) (n1_2 : Nat) (l1_2 : List Int) (Z : Below w0.heap.size w0 ws) (hF : Fr w0 ws P0 [] ws) (R0_1 : Stable ws P0 (fun w => Kd.C kStep w A0_1 n0_1 l0_1)) (hc0_1 : n0_1 ≤ c0_1) (R0_2 : Stable ws P0 (fun w => Kd.C (Kd.int .i64) w A0_2 n0_2 l0_2)) (hc0_2 : n0_2 ≤ c0_2) (B0 : Stable ws P0 (fun w => w.heap[g0]? = some (.cells #[.int .i64 a0_0, .slice A0_1 n0_1 c0_1, .slice A0_2 n0_2 c0_2] 27 (0, 0)))) (R1_1 : Stable ws P0 (fun w => Kd.C kStep w A1_1 n1_1 l1_1)) (hc1_1 : n1_1 ≤ c1_1) (R1_2 : Stable ws P0 (fun w => Kd.C (Kd.int .i64) w A1_2 n1_2 l1_2)) (hc1_2 : n1_2 ≤ c1_2) (B1 : Stable ws P0 (fun w => w.heap[g1]? = some (.cells #[.int .i64 a1_0, .slice A1_1 n1_1 c1_1, .slice A1_2 n1_2 c1_2] 27 (0, 0)))) (r_1 : Bool) (h : impl_samePowers.f a0_0 l0_1 l0_2 a1_0 l1_1 l1_2 = some r_1) :
    Calls Try.prog 109 #[.pointer (some ⟨g0, 0, none⟩), .pointer (some ⟨g1, 0, none⟩)] ws (Post1 w0 ws P0 (fun (_ : Unit) => .bool r_1) (fun (_ : Unit) => [])) := by
  unfold impl_samePowers.f at h
  obtain rfl := (R0_1 ws (KeptB.refl _ _)).1
  obtain rfl := (R0_2 ws (KeptB.refl _ _)).1
  obtain rfl := (R1_1 ws (KeptB.refl _ _)).1
  obtain rfl := (R1_2 ws (KeptB.refl _ _)).1
  refine enter Try.func109 rfl Try.ntmps109 rfl hF ?_
  refine c_seq ?_
  refine za0 ?_
  refine o_q rfl rfl (q_asg rfl) ?_
  refine o_end ?_
  refine za1 ?_
  refine c_seq ?_
  refine a_start (ds := []) MO rfl ?_
  refine za6 0 rfl rfl rfl (by kernel_rfl) (fun _ _ _ h => h) (za3 rfl) ?_
  refine za6 1 rfl rfl rfl (by kernel_rfl) (fun _ _ _ h => h) (q_nil rfl) ?_
  refine za6 2 rfl rfl rfl (by kernel_rfl) (fun _ _ _ h => h) (q_f F27_0 rfl) ?_
  refine a_take 3 rfl rfl rfl (by kernel_rfl) (fun _ _ _ h => h) (fun w h => h) (q_ldb Y3 rfl (fun w h => B0.now Z h) rfl) ?_
  refine za6 4 rfl rfl rfl (by kernel_rfl) (fun _ _ _ h => h) (za3 rfl) ?_
  refine za6 5 rfl rfl rfl (by kernel_rfl) (fun _ _ _ h => h) (q_nil rfl) ?_
  refine za6 6 rfl rfl rfl (by kernel_rfl) (fun _ _ _ h => h) (q_f F27_0 rfl) ?_
  refine a_take 7 rfl rfl rfl (by kernel_rfl) (fun _ _ _ h => h) (fun w h => h) (q_ldb Y3 rfl (fun w h => B1.now Z h) rfl) ?_
  refine za6 8 rfl rfl rfl (by kernel_rfl) (fun _ _ _ h => h) (q_eql rfl rfl) ?_
  refine za6 9 rfl rfl rfl (by kernel_rfl) (fun _ _ _ h => h) (za3 rfl) ?_
  refine byB (decide (a0_0 = a1_0)) (fun hb1 => ?_) (fun hb1 => ?_)
  · replace h := br_t hb1 h
    refine zat 10 rfl rfl (za4 rfl rfl rfl (congrArg Value.bool hb1)) (by kernel_rfl) (fun _ _ _ h => h) (za3 rfl) ?_
    refine zat 12 rfl rfl (za4 rfl rfl rfl (congrArg Value.bool hb1)) (by kernel_rfl) (fun _ _ _ h => h) (za3 rfl) ?_
    refine za9 h (fun l3 hx2 h => ?_) rfl
    refine a_onew 11 rfl (za4 rfl rfl rfl (congrArg Value.bool hb1)) (by kernel_rfl) rfl (zac 0 Z Try.func135 N135 rfl rfl rfl (fun w P1 hF hB hS hT => impl_Plan_outputExponents.calls g0 a0_0 A0_1 c0_1 l0_1.length l0_1 A0_2 c0_2 l0_2.length l0_2 hB hF (hS _ R0_1) hc0_1 (hS _ R0_2) hc0_2 (hS _ B0) _ hx2)) (fun s w h => zab [] (by decide) w h rfl) (cur3 (fun A4 c5 H6 => ?_))
    refine za9 h (fun l8 hx7 h => ?_) rfl
    refine a_onew 13 rfl (za4 rfl rfl rfl (congrArg Value.bool hb1)) (by kernel_rfl) rfl (zac 0 Z Try.func135 N135 rfl rfl rfl (fun w P1 hF hB hS hT => impl_Plan_outputExponents.calls g1 a1_0 A1_1 c1_1 l1_1.length l1_1 A1_2 c1_2 l1_2.length l1_2 hB hF (hS _ R1_1) hc1_1 (hS _ R1_2) hc1_2 (hS _ B1) _ hx7)) (fun s w h => zab [] (by decide) w h rfl) (cur3 (fun A9 c10 H11 => ?_))
    refine za9 h (fun b13 hx12 h => ?_) rfl
    refine a_onew 14 rfl (za4 rfl rfl rfl (congrArg Value.bool hb1)) (by kernel_rfl) rfl (zac 0 Z Try.func187 N187 rfl rfl rfl (fun w P1 hF hB hS hT => slices_EqualFunc_int_int_int_int.calls A4 c5 l3.length H6 l3 A9 c10 l8.length H11 l8 hB hF (hT 1 _ rfl).row (hT 1 _ rfl).cap (hT 0 _ rfl).row (hT 0 _ rfl).cap _ hx12)) (fun s w h => zab [] (by decide) w h rfl) (fun _ => ?_)
    refine za6 15 rfl rfl rfl (by kernel_rfl) (fun _ _ _ h => h) (zak true (congrArg Value.bool hb1) rfl) ?_
    refine za6 16 rfl rfl rfl (by kernel_rfl) (fun _ _ _ h => h) (q_asg rfl) ?_
    refine zaw (by kernel_rfl) ?_
    refine za1 ?_
    refine c_ret ?_
    have e0_ := Option.some.inj h; clear h
    subst e0_
    exact x_r1 () Try.results109 (zaf rfl) rfl (fun w h => za7 [] (by decide) rfl w h)
  · replace h := br_f hb1 h
    refine a_no 10 rfl rfl (za2 rfl rfl rfl (congrArg Value.bool hb1) rfl) (by kernel_rfl) (fun _ _ _ h => h) ?_
    refine a_no 11 rfl rfl (za2 rfl rfl rfl (congrArg Value.bool hb1) rfl) (by kernel_rfl) (fun _ _ _ h => h) ?_
    refine a_no 12 rfl rfl (za2 rfl rfl rfl (congrArg Value.bool hb1) rfl) (by kernel_rfl) (fun _ _ _ h => h) ?_
    refine a_no 13 rfl rfl (za2 rfl rfl rfl (congrArg Value.bool hb1) rfl) (by kernel_rfl) (fun _ _ _ h => h) ?_
    refine a_no 14 rfl rfl (za2 rfl rfl rfl (congrArg Value.bool hb1) rfl) (by kernel_rfl) (fun _ _ _ h => h) ?_
    refine za6 15 rfl rfl rfl (by kernel_rfl) (fun _ _ _ h => h) (zak false (congrArg Value.bool hb1) rfl) ?_
    refine za6 16 rfl rfl rfl (by kernel_rfl) (fun _ _ _ h => h) (q_asg rfl) ?_
    refine zaw (by kernel_rfl) ?_
    refine za1 ?_
    refine c_ret ?_
    have e0_ := Option.some.inj h; clear h
    subst e0_
    exact x_r1 () Try.results109 (zaf rfl) rfl (fun w h => za7 [] (by decide) rfl w h)

/-! ### loop.example/g01098/impl.SamePowers: function 27 -/
def impl_SamePowers.f (k : Nat) (a0_0 : Int) (l0_1 : List SStep) (l0_2 : List Int) (a1_0 : Int) (l1_1 : List SStep) (l1_2 : List Int) : Option (Bool × Bool) := (impl_IsPlan.f k a0_0 l0_1 l0_2).bind fun b6 => if b6 = true then ((impl_IsPlan.f k a1_0 l1_1 l1_2).bind fun b9 => if b9 = true then ((impl_samePowers.f a0_0 l0_1 l0_2 a1_0 l1_1 l1_2).bind fun b12 => some (b12, true)) else (some (false, false))) else (some (false, false))
set_option maxHeartbeats 600000 in
set_option maxRecDepth 100000 in
theorem impl_SamePowers.calls (k : Nat) {w0 ws : World} {P0 : Nat → Prop} (a0_0 : Int) (A0_1 : Option Addr) (c0_1 : Nat) (n0_1 : Nat) (l0_1 : List SStep) (A0_2 : Option Addr) (c0_2 : Nat) (n0_2 : Nat) (l0_2 : List Int) (a1_0 : Int) (A1_1 : Option Addr) (c1_1 : Nat) (n1_1 : Nat) (l1_1 : List SStep) (A1_2 : Option Addr) (c1_2 : Nat) (n1_2 : Nat) (l1_2 : List Int) (Z : Below w0.heap.size w0 ws) (hF : Fr w0 ws P0 [] ws) (R0_1 : Stable ws P0 (fun w => Kd.C kStep w A0_1 n0_1 l0_1)) (hc0_1 : n0_1 ≤ c0_1) (R0_2 : Stable ws P0 (fun w => Kd.C (Kd.int .i64) w A0_2 n0_2 l0_2)) (hc0_2 : n0_2 ≤ c0_2) (R1_1 : Stable ws P0 (fun w => Kd.C kStep w A1_1 n1_1 l1_1)) (hc1_1 : n1_1 ≤ c1_1) (R1_2 : Stable ws P0 (fun w => Kd.C (Kd.int .i64) w A1_2 n1_2 l1_2)) (hc1_2 : n1_2 ≤ c1_2) (r_1 : Bool) (r_2 : Bool) (h : impl_SamePowers.f k a0_0 l0_1 l0_2 a1_0 l1_1 l1_2 = some (r_1, r_2)) :
    Calls Try.prog 27 #[.agg #[.int .i64 a0_0, .slice A0_1 n0_1 c0_1, .slice A0_2 n0_2 c0_2], .agg #[.int .i64 a1_0, .slice A1_1 n1_1 c1_1, .slice A1_2 n1_2 c1_2]] ws (Post1 w0 ws P0 (fun (_ : Unit) => .tuple #[.bool r_1, .bool r_2]) (fun (_ : Unit) => [])) := by
  unfold impl_SamePowers.f at h
  obtain rfl := (R0_1 ws (KeptB.refl _ _)).1
  obtain rfl := (R0_2 ws (KeptB.refl _ _)).1
  obtain rfl := (R1_1 ws (KeptB.refl _ _)).1
  obtain rfl := (R1_2 ws (KeptB.refl _ _)).1
  refine enter Try.func27 rfl Try.ntmps27 rfl hF ?_
  refine c_seq ?_
  refine za0 ?_
  refine o_e rfl (e_box rfl) (fun g1 => ?_)
  refine o_e rfl (e_box rfl) (fun g3 => ?_)
  refine o_q rfl rfl (q_asg rfl) ?_
  refine o_q rfl rfl (q_asg rfl) ?_
  refine o_end ?_
  refine za1 ?_
  refine c_seq ?_
  refine c_seq ?_
  refine za0 ?_
  refine o_q rfl rfl (q_ldB G27 Z27 rfl (fun w h => h.zaa (i := 1) rfl) rfl) ?_
  refine za9 h (fun b6 hx5 h => ?_) rfl
  refine o_e rfl (zac 0 Z Try.func86 N86 rfl rfl rfl (fun w P1 hF hB hS hT => impl_IsPlan.calls k a0_0 A0_1 c0_1 l0_1.length l0_1 A0_2 c0_2 l0_2.length l0_2 hB hF (hS _ R0_1) hc0_1 (hS _ R0_2) hc0_2 _ hx5)) (fun _ => ?_)
  refine o_q rfl rfl (q_not rfl) ?_
  refine o_q rfl rfl (za3 rfl) ?_
  refine byB b6 (fun hb7 => ?_) (fun hb7 => ?_)
  · replace h := bb_t hb7 h
    refine o_w (za4 rfl rfl rfl (congrArg (fun b => Value.bool (!(b))) hb7)) rfl (q_ldB G27 Z27 rfl (fun w h => h.zaa (i := 0) rfl) rfl) ?_
    refine za9 h (fun b9 hx8 h => ?_) rfl
    refine o_ew (za4 rfl rfl rfl (congrArg (fun b => Value.bool (!(b))) hb7)) (zac 0 Z Try.func86 N86 rfl rfl rfl (fun w P1 hF hB hS hT => impl_IsPlan.calls k a1_0 A1_1 c1_1 l1_1.length l1_1 A1_2 c1_2 l1_2.length l1_2 hB hF (hS _ R1_1) hc1_1 (hS _ R1_2) hc1_2 _ hx8)) (fun _ => ?_)
    refine o_w (za4 rfl rfl rfl (congrArg (fun b => Value.bool (!(b))) hb7)) rfl (q_not rfl) ?_
    refine o_q rfl rfl (zak false (congrArg (fun b => Value.bool (!(b))) hb7) rfl) ?_
    refine o_end ?_
    refine za1 ?_
    refine zas _ rfl (fun hb10 => ?_) (fun hb10 => ?_)
    · replace hb10 := nt_t hb10
      replace h := bb_f hb10 h
      refine c_seq ?_
      refine za0 ?_
      refine o_q rfl rfl (q_asg rfl) ?_
      refine o_q rfl rfl (q_asg rfl) ?_
      refine o_end ?_
      refine za1 ?_
      refine c_ret ?_
      refine za5 ?_
      have e0_ := Option.some.inj h; clear h
      have d0_ := (Prod.mk.inj e0_).1; have e1_ := (Prod.mk.inj e0_).2; clear e0_; subst d0_
      subst e1_
      exact x_r2 () Try.results27 (zaf rfl) (zaf rfl) rfl (fun w h => za7 [] (by decide) rfl w h)
    · replace hb10 := nt_f hb10
      replace h := bb_t hb10 h
      refine zao ?_
      refine za1 ?_
      refine c_seq ?_
      refine za0 ?_
      refine za9 h (fun b12 hx11 h => ?_) rfl
      refine o_e rfl (zac 0 Z Try.func109 N109 rfl rfl rfl (fun w P1 hF hB hS hT => impl_samePowers.calls g1 a0_0 A0_1 c0_1 l0_1.length l0_1 A0_2 c0_2 l0_2.length l0_2 g3 a1_0 A1_1 c1_1 l1_1.length l1_1 A1_2 c1_2 l1_2.length l1_2 hB hF (hS _ R0_1) hc0_1 (hS _ R0_2) hc0_2 (hT 1 _ rfl).box (hS _ R1_1) hc1_1 (hS _ R1_2) hc1_2 (hT 0 _ rfl).box _ hx11)) (fun _ => ?_)
      refine o_q rfl rfl (q_asg rfl) ?_
      refine o_q rfl rfl (q_asg rfl) ?_
      refine o_end ?_
      refine za1 ?_
      refine c_ret ?_
      have e0_ := Option.some.inj h; clear h
      have d0_ := (Prod.mk.inj e0_).1; have e1_ := (Prod.mk.inj e0_).2; clear e0_; subst d0_
      subst e1_
      exact x_r2 () Try.results27 (zaf rfl) (zaf rfl) rfl (fun w h => za7 [] (by decide) rfl w h)
  · replace h := bb_f hb7 h
    refine @o_n _ _ _ _ _ _ _ _ _ _ _ 10 (za2 rfl rfl rfl (congrArg (fun b => Value.bool (!(b))) hb7) rfl) (Eq.refl (some 10)) ?_
    refine @o_n _ _ _ _ _ _ _ _ _ _ _ 11 (za2 rfl rfl rfl (congrArg (fun b => Value.bool (!(b))) hb7) rfl) (Eq.refl (some 11)) ?_
    refine @o_n _ _ _ _ _ _ _ _ _ _ _ 12 (za2 rfl rfl rfl (congrArg (fun b => Value.bool (!(b))) hb7) rfl) (Eq.refl (some 12)) ?_
    refine o_q rfl rfl (zak true (congrArg (fun b => Value.bool (!(b))) hb7) rfl) ?_
    refine o_end ?_
    refine za1 ?_
    refine zay rfl ?_
    refine c_seq ?_
    refine za0 ?_
    refine o_q rfl rfl (q_asg rfl) ?_
    refine o_q rfl rfl (q_asg rfl) ?_
    refine o_end ?_
    refine za1 ?_
    refine c_ret ?_
    refine za5 ?_
    have e0_ := Option.some.inj h; clear h
    have d0_ := (Prod.mk.inj e0_).1; have e1_ := (Prod.mk.inj e0_).2; clear e0_; subst d0_
    subst e1_
    exact x_r2 () Try.results27 (zaf rfl) (zaf rfl) rfl (fun w h => za7 [] (by decide) rfl w h)

/-! ### loop.example/g01098/impl.CountsOf: function 41 -/
def impl_CountsOf.l0 : (List SStep) → Int → Int → Option Int
  | [], i6, i7 => some i7
  | y8 :: ys9, i6, i7 => if y8.f0 = y8.f1 then (impl_CountsOf.l0 ys9 (i6 + 1) (w64 (i7 + 1))) else (impl_CountsOf.l0 ys9 (i6 + 1) i7)
def impl_CountsOf.f (k : Nat) (a0_0 : Int) (l0_1 : List SStep) (l0_2 : List Int) : Option (Int × Int × Bool) := (impl_IsPlan.f k a0_0 l0_1 l0_2).bind fun b4 => if b4 = true then ((impl_CountsOf.l0 l0_1 0 0).bind fun i7 => some (i7, w64 ((l0_1.length : Int) - i7), true)) else (some (0, 0, false))
set_option maxHeartbeats 600000 in
set_option maxRecDepth 100000 in
theorem impl_CountsOf.calls (k : Nat) {w0 ws : World} {P0 : Nat → Prop} (a0_0 : Int) (A0_1 : Option Addr) (c0_1 : Nat) (n0_1 : Nat) (l0_1 : List SStep) (A0_2 : Option Addr) (c0_2 : Nat) (n0_2 : Nat) (l0_2 : List Int) (Z : Below w0.heap.size w0 ws) (hF : Fr w0 ws P0 [] ws) (R0_1 : Stable ws P0 (fun w => Kd.C kStep w A0_1 n0_1 l0_1)) (hc0_1 : n0_1 ≤ c0_1) (R0_2 : Stable ws P0 (fun w => Kd.C (Kd.int .i64) w A0_2 n0_2 l0_2)) (hc0_2 : n0_2 ≤ c0_2) (r_1 : Int) (r_2 : Int) (r_3 : Bool) (h : impl_CountsOf.f k a0_0 l0_1 l0_2 = some (r_1, r_2, r_3)) :
    Calls Try.prog 41 #[.agg #[.int .i64 a0_0, .slice A0_1 n0_1 c0_1, .slice A0_2 n0_2 c0_2]] ws (Post1 w0 ws P0 (fun (_ : Unit) => .tuple #[.int .i64 r_1, .int .i64 r_2, .bool r_3]) (fun (_ : Unit) => [])) := by
  unfold impl_CountsOf.f at h
  obtain rfl := (R0_1 ws (KeptB.refl _ _)).1
  obtain rfl := (R0_2 ws (KeptB.refl _ _)).1
  refine enter Try.func41 rfl Try.ntmps41 rfl hF ?_
  refine c_seq ?_
  refine za0 ?_
  refine o_e rfl (e_box rfl) (fun g1 => ?_)
  refine o_q rfl rfl (q_asg rfl) ?_
  refine o_q rfl rfl (q_asg rfl) ?_
  refine o_q rfl rfl (q_asg rfl) ?_
  refine o_end ?_
  refine za1 ?_
  refine c_seq ?_
  refine c_seq ?_
  refine za0 ?_
  refine o_q rfl rfl (q_ldB G27 Z27 rfl (fun w h => h.zaa (i := 0) rfl) rfl) ?_
  refine za9 h (fun b4 hx3 h => ?_) rfl
  refine o_e rfl (zac 0 Z Try.func86 N86 rfl rfl rfl (fun w P1 hF hB hS hT => impl_IsPlan.calls k a0_0 A0_1 c0_1 l0_1.length l0_1 A0_2 c0_2 l0_2.length l0_2 hB hF (hS _ R0_1) hc0_1 (hS _ R0_2) hc0_2 _ hx3)) (fun _ => ?_)
  refine o_q rfl rfl (q_not rfl) ?_
  refine o_end ?_
  refine za1 ?_
  refine zas _ rfl (fun hb5 => ?_) (fun hb5 => ?_)
  · replace hb5 := nt_t hb5
    replace h := bb_f hb5 h
    refine c_seq ?_
    refine za0 ?_
    refine o_q rfl rfl (q_asg rfl) ?_
    refine o_q rfl rfl (q_asg rfl) ?_
    refine o_q rfl rfl (q_asg rfl) ?_
    refine o_end ?_
    refine za1 ?_
    refine c_ret ?_
    refine za5 ?_
    have e0_ := Option.some.inj h; clear h
    have d0_ := (Prod.mk.inj e0_).1; have e1_ := (Prod.mk.inj e0_).2; clear e0_; subst d0_
    have d1_ := (Prod.mk.inj e1_).1; have e2_ := (Prod.mk.inj e1_).2; clear e1_; subst d1_
    subst e2_
    exact x_r3 () Try.results41 (zaf rfl) (zaf rfl) (zaf rfl) rfl (fun w h => za7 [] (by decide) rfl w h)
  · replace hb5 := nt_f hb5
    replace h := bb_t hb5 h
    refine zao ?_
    refine za1 ?_
    refine c_seq ?_
    refine za0 ?_
    refine o_q rfl rfl (q_asg rfl) ?_
    refine o_end ?_
    refine za1 ?_
    refine c_seq ?_
    refine c_seq ?_
    refine za0 ?_
    refine o_q rfl rfl (q_f F27_1 rfl) ?_
    refine o_q rfl rfl (q_ldb Y24 rfl (fun w h => h.zaa (i := 0) rfl) rfl) ?_
    refine o_q rfl rfl (q_len Try.underlying24 rfl) ?_
    refine o_q rfl rfl (za3 rfl) ?_
    refine o_end ?_
    refine za1 ?_
    refine zal ?_
    refine za9 h (fun o15 hl14 hR13 => ?_) rfl
    clear h
    refine c_fact (p := l0_1.length ≤ 9223372036854775807) (fun w h => (R0_1.now Z h).2.1) (fun hm12 => ?_)
    refine zax (σ := (List SStep) × Int × Int) (fun k10 ((ys9, i6, i7) : (List SStep) × Int × Int) => Rg l0_1 i6 ys9 ∧ ys9.length = k10 ∧ impl_CountsOf.l0 ys9 i6 i7 = some o15) [5, 7, 14, 15, 16, 17, 18, 19, 20, 21, 22, 23, 24, 25] (fun ((ys9, i6, i7) : (List SStep) × Int × Int) => [(5, .int .i64 i7), (14, .int .i64 i6)]) (fun ((ys9, i6, i7) : (List SStep) × Int × Int) => [box g1 27 #[.int .i64 a0_0, .slice A0_1 l0_1.length c0_1, .slice A0_2 l0_2.length c0_2]]) l0_1.length (l0_1, 0, 0) ⟨Rg.start _, rfl, hl14⟩ ⟨rfl, rfl, trivial⟩ (fun w h => h) ?_
    refine fun k10 => cur3 (listC (fun i6 i7 U16 hJ_ => ?_) (fun y8 ys9 i6 i7 U16 hJ_ => ?_))
    · skip
      clear hl14
      have hr11 := hJ_.1; have hk17 := hJ_.2.1; have h := hJ_.2.2; clear hJ_
      replace h : impl_CountsOf.l0 [] i6 i7 = some o15 := h
      rw [impl_CountsOf.l0] at h
      refine c_seq ?_
      refine za0 ?_
      refine o_q rfl rfl (q_lss rfl rfl) ?_
      refine o_end ?_
      refine za1 ?_
      refine c_seq ?_
      refine c_false (congrArg Value.bool hr11.ge) ?_
      refine c_exit ?_
      refine za8 ?_
      refine za8 ?_
      have e_ := Option.some.inj h; replace h := hR13; rw [← e_] at h; clear e_
      refine x_hit ?_
      refine za1 ?_
      refine c_seq ?_
      refine a_start (ds := []) MO rfl ?_
      refine za6 0 rfl rfl rfl (by kernel_rfl) (fun _ _ _ h => h) (za3 rfl) ?_
      refine za6 1 rfl rfl rfl (by kernel_rfl) (fun _ _ _ h => h) (q_f F27_1 rfl) ?_
      refine a_take 2 rfl rfl rfl (by kernel_rfl) (fun _ _ _ h => h) (fun w h => h) (q_ldb Y24 rfl (fun w h => h.zaa (i := 0) rfl) rfl) ?_
      refine za6 3 rfl rfl rfl (by kernel_rfl) (fun _ _ _ h => h) (q_len Try.underlying24 rfl) ?_
      refine za6 4 rfl rfl rfl (by kernel_rfl) (fun _ _ _ h => h) (za3 rfl) ?_
      refine za6 5 rfl rfl rfl (by kernel_rfl) (fun _ _ _ h => h) (q_sub64 rfl rfl) ?_
      refine za6 6 rfl rfl rfl (by kernel_rfl) (fun _ _ _ h => h) (q_asg rfl) ?_
      refine za6 7 rfl rfl rfl (by kernel_rfl) (fun _ _ _ h => h) (q_asg rfl) ?_
      refine za6 8 rfl rfl rfl (by kernel_rfl) (fun _ _ _ h => h) (q_asg rfl) ?_
      refine zaw (by kernel_rfl) ?_
      refine za1 ?_
      refine c_ret ?_
      have e0_ := Option.some.inj h; clear h
      have d0_ := (Prod.mk.inj e0_).1; have e1_ := (Prod.mk.inj e0_).2; clear e0_; subst d0_
      have d1_ := (Prod.mk.inj e1_).1; have e2_ := (Prod.mk.inj e1_).2; clear e1_; subst d1_
      subst e2_
      exact x_r3 () Try.results41 (zaf rfl) (zaf rfl) (zaf rfl) rfl (fun w h => za7 [] (by decide) rfl w h)
    · skip
      clear hl14
      have hr11 := hJ_.1; have hk17 := hJ_.2.1; have h := hJ_.2.2; clear hJ_
      replace h : impl_CountsOf.l0 (y8 :: ys9) i6 i7 = some o15 := h
      rw [impl_CountsOf.l0] at h
      refine c_seq ?_
      refine za0 ?_
      refine o_q rfl rfl (q_lss rfl rfl) ?_
      refine o_end ?_
      refine za1 ?_
      refine c_seq ?_
      refine zay (congrArg Value.bool hr11.lt) ?_
      refine zao ?_
      refine za1 ?_
      refine c_seq ?_
      refine zal ?_
      refine c_seq ?_
      refine za0 ?_
      refine o_fact (p := Sh A0_1 l0_1.length l0_1.length) (fun w h => f_sh (dk := kStep) h (fun w h => R0_1.now Z h)) (fun hq18 => ?_)
      refine o_q rfl rfl (q_ix Try.underlying24 Z89 rfl rfl hq18 hr11.get) ?_
      refine o_q rfl rfl (q_ldE G89 Z89 rfl rfl (fun w h => R0_1.now Z h) hr11.get (fun _ _ h => h) rfl) ?_
      refine o_e rfl (e_alloc V89 rfl) (fun g19 => ?_)
      refine o_e rfl (zau (i := 0) rfl rfl rfl Z89 rfl rfl) (fun _ => ?_)
      refine o_end ?_
      refine za1 ?_
      refine c_seq ?_
      refine za0 ?_
      refine o_q rfl rfl (q_f F89_0 rfl) ?_
      refine o_q rfl rfl (q_ldb Y3 rfl (fun w h => h.zaa (i := 0) rfl) rfl) ?_
      refine o_q rfl rfl (q_f F89_1 rfl) ?_
      refine o_q rfl rfl (q_ldb Y3 rfl (fun w h => h.zaa (i := 0) rfl) rfl) ?_
      refine o_q rfl rfl (q_eql rfl rfl) ?_
      refine o_end ?_
      refine za1 ?_
      refine zas _ rfl (fun hb21 => ?_) (fun hb21 => ?_)
      · skip
        replace h := br_t hb21 h
        refine za0 ?_
        refine o_q rfl rfl (za3 rfl) ?_
        refine o_q rfl rfl (q_add64 rfl rfl) ?_
        refine o_q rfl rfl (q_asg rfl) ?_
        refine o_end ?_
        refine zan ?_
        refine za1 ?_
        refine za0 ?_
        refine o_q rfl rfl (q_up rfl rfl (hr11.up hm12)) ?_
        refine o_q rfl rfl (za3 rfl) ?_
        refine o_end ?_
        refine zam ys9.length (ys9, i6 + 1, w64 (i7 + 1)) (by rw [← hk17]; exact Nat.lt_succ_self _) ⟨hr11.step, rfl, h⟩ ⟨rfl, rfl, trivial⟩ (fun w h => za7 [1] (by decide) rfl w h) ?_
        repeat (first | exact zad _ _ | refine zai rfl ?_ | refine zae rfl ?_ | refine zaj rfl ?_)
      · skip
        replace h := br_f hb21 h
        refine zao ?_
        refine zan ?_
        refine za1 ?_
        refine za0 ?_
        refine o_q rfl rfl (q_up rfl rfl (hr11.up hm12)) ?_
        refine o_q rfl rfl (za3 rfl) ?_
        refine o_end ?_
        refine zam ys9.length (ys9, i6 + 1, i7) (by rw [← hk17]; exact Nat.lt_succ_self _) ⟨hr11.step, rfl, h⟩ ⟨rfl, rfl, trivial⟩ (fun w h => za7 [1] (by decide) rfl w h) ?_
        repeat (first | exact zad _ _ | refine zai rfl ?_ | refine zae rfl ?_ | refine zaj rfl ?_)

/-! ### loop.example/g01098/impl.DepthOf: function 42 -/
def impl_DepthOf.l1 (l11 : List Int) : (List Int) → Int → Int → Option Int
  | [], i25, i26 => some i26
  | y27 :: ys28, i25, i26 => (gt l11 y27).bind fun y40 => impl_DepthOf.l1 l11 ys28 (i25 + 1) (mx i26 y40)
def impl_DepthOf.l0 : (List SStep) → (List Int) → Int → Option (List Int)
  | [], l11, i14 => some l11
  | y15 :: ys16, l11, i14 => (gt l11 y15.f0).bind fun y287 => (gt l11 y15.f1).bind fun y586 => (ap l11 ([w64 (mx y287 y586 + 1)] : List Int)).bind fun l885 => impl_DepthOf.l0 ys16 l885 (i14 + 1)
def impl_DepthOf.f (k : Nat) (a0_0 : Int) (l0_1 : List SStep) (l0_2 : List Int) : Option (Int × Bool) := (impl_IsPlan.f k a0_0 l0_1 l0_2).bind fun b4 => if b4 = true then ((mk0 a0_0 (0 : Int)).bind fun l6 => (impl_DepthOf.l0 l0_1 l6 0).bind fun l11 => (impl_DepthOf.l1 l11 l0_2 0 0).bind fun i26 => some (i26, true)) else (some (0, false))
set_option maxHeartbeats 600000 in
set_option maxRecDepth 100000 in
theorem impl_DepthOf.calls (k : Nat) {w0 ws : World} {P0 : Nat → Prop} (a0_0 : Int) (A0_1 : Option Addr) (c0_1 : Nat) (n0_1 : Nat) (l0_1 : List SStep) (A0_2 : Option Addr) (c0_2 : Nat) (n0_2 : Nat) (l0_2 : List Int) (Z : Below w0.heap.size w0 ws) (hF : Fr w0 ws P0 [] ws) (R0_1 : Stable ws P0 (fun w => Kd.C kStep w A0_1 n0_1 l0_1)) (hc0_1 : n0_1 ≤ c0_1) (R0_2 : Stable ws P0 (fun w => Kd.C (Kd.int .i64) w A0_2 n0_2 l0_2)) (hc0_2 : n0_2 ≤ c0_2) (r_1 : Int) (r_2 : Bool) (h : impl_DepthOf.f k a0_0 l0_1 l0_2 = some (r_1, r_2)) :
    Calls Try.prog 42 #[.agg #[.int .i64 a0_0, .slice A0_1 n0_1 c0_1, .slice A0_2 n0_2 c0_2]] ws (Post1 w0 ws P0 (fun (_ : Unit) => .tuple #[.int .i64 r_1, .bool r_2]) (fun (_ : Unit) => [])) := by
  unfold impl_DepthOf.f at h
  obtain rfl := (R0_1 ws (KeptB.refl _ _)).1
  obtain rfl := (R0_2 ws (KeptB.refl _ _)).1
  refine enter Try.func42 rfl Try.ntmps42 rfl hF ?_
  refine c_seq ?_
  refine za0 ?_
  refine o_e rfl (e_box rfl) (fun g1 => ?_)
  refine o_q rfl rfl (q_asg rfl) ?_
  refine o_q rfl rfl (q_asg rfl) ?_
  refine o_end ?_
  refine za1 ?_
  refine c_seq ?_
  refine c_seq ?_
  refine za0 ?_
  refine o_q rfl rfl (q_ldB G27 Z27 rfl (fun w h => h.zaa (i := 0) rfl) rfl) ?_
  refine za9 h (fun b4 hx3 h => ?_) rfl
  refine o_e rfl (zac 0 Z Try.func86 N86 rfl rfl rfl (fun w P1 hF hB hS hT => impl_IsPlan.calls k a0_0 A0_1 c0_1 l0_1.length l0_1 A0_2 c0_2 l0_2.length l0_2 hB hF (hS _ R0_1) hc0_1 (hS _ R0_2) hc0_2 _ hx3)) (fun _ => ?_)
  refine o_q rfl rfl (q_not rfl) ?_
  refine o_end ?_
  refine za1 ?_
  refine zas _ rfl (fun hb5 => ?_) (fun hb5 => ?_)
  · replace hb5 := nt_t hb5
    replace h := bb_f hb5 h
    refine c_seq ?_
    refine za0 ?_
    refine o_q rfl rfl (q_asg rfl) ?_
    refine o_q rfl rfl (q_asg rfl) ?_
    refine o_end ?_
    refine za1 ?_
    refine c_ret ?_
    refine za5 ?_
    have e0_ := Option.some.inj h; clear h
    have d0_ := (Prod.mk.inj e0_).1; have e1_ := (Prod.mk.inj e0_).2; clear e0_; subst d0_
    subst e1_
    exact x_r2 () Try.results42 (zaf rfl) (zaf rfl) rfl (fun w h => za7 [] (by decide) rfl w h)
  · replace hb5 := nt_f hb5
    replace h := bb_t hb5 h
    refine zao ?_
    refine za1 ?_
    refine c_seq ?_
    refine za0 ?_
    refine o_q rfl rfl (q_f F27_0 rfl) ?_
    refine o_q rfl rfl (q_ldb Y3 rfl (fun w h => h.zaa (i := 0) rfl) rfl) ?_
    refine za9 h (fun l6 hm7 h => ?_) rfl
    refine o_e rfl (e_make (Kd.int .i64) (0 : Int) Try.underlying25 I3 rfl (by decide) (by decide) (fun _ _ => rfl) rfl rfl hm7) (cur2 (fun A8 c9 => ?_))
    refine o_q rfl rfl (q_asg rfl) ?_
    refine o_q rfl rfl (q_asg rfl) ?_
    refine o_end ?_
    refine za1 ?_
    refine c_seq ?_
    refine c_seq ?_
    refine za0 ?_
    refine o_q rfl rfl (q_f F27_1 rfl) ?_
    refine o_q rfl rfl (q_ldb Y24 rfl (fun w h => h.zaa (i := 1) rfl) rfl) ?_
    refine o_q rfl rfl (q_len Try.underlying24 rfl) ?_
    refine o_q rfl rfl (za3 rfl) ?_
    refine o_end ?_
    refine za1 ?_
    refine zal ?_
    refine za9 h (fun o22 hl21 hR20 => ?_) rfl
    clear h
    refine c_fact (p := l0_1.length ≤ 9223372036854775807) (fun w h => (R0_1.now Z h).2.1) (fun hm19 => ?_)
    refine zax (σ := (List SStep) × (List Int) × Int × (Option Addr) × Nat) (fun k17 ((ys16, l11, i14, A12, c13) : (List SStep) × (List Int) × Int × (Option Addr) × Nat) => Rg l0_1 i14 ys16 ∧ ys16.length = k17 ∧ impl_DepthOf.l0 ys16 l11 i14 = some o22) [4, 7, 19, 20, 21, 22, 23, 24, 25, 26, 27, 28, 29, 30, 31, 32, 33, 34, 35, 36, 37, 38] (fun ((ys16, l11, i14, A12, c13) : (List SStep) × (List Int) × Int × (Option Addr) × Nat) => [(4, .slice A12 l11.length c13), (19, .int .i64 i14)]) (fun ((ys16, l11, i14, A12, c13) : (List SStep) × (List Int) × Int × (Option Addr) × Nat) => [row (Kd.int .i64) 3 (.slice A12 l11.length c13) l11, box g1 27 #[.int .i64 a0_0, .slice A0_1 l0_1.length c0_1, .slice A0_2 l0_2.length c0_2]]) l0_1.length (l0_1, l6, 0, A8, c9) ⟨Rg.start _, rfl, hl21⟩ ⟨rfl, rfl, trivial⟩ (fun w h => h) ?_
    refine fun k17 => cur5 (listC (fun l11 i14 A12 c13 U23 hJ_ => ?_) (fun y15 ys16 l11 i14 A12 c13 U23 hJ_ => ?_))
    · skip
      clear hl21
      have hr18 := hJ_.1; have hk24 := hJ_.2.1; have h := hJ_.2.2; clear hJ_
      replace h : impl_DepthOf.l0 [] l11 i14 = some o22 := h
      rw [impl_DepthOf.l0] at h
      refine c_seq ?_
      refine za0 ?_
      refine o_q rfl rfl (q_lss rfl rfl) ?_
      refine o_end ?_
      refine za1 ?_
      refine c_seq ?_
      refine c_false (congrArg Value.bool hr18.ge) ?_
      refine c_exit ?_
      refine za8 ?_
      refine za8 ?_
      have e_ := Option.some.inj h; replace h := hR20; rw [← e_] at h; clear e_
      refine x_hit ?_
      refine za1 ?_
      refine c_seq ?_
      refine c_seq ?_
      refine za0 ?_
      refine o_q rfl rfl (q_f F27_2 rfl) ?_
      refine o_q rfl rfl (q_ldb Y25 rfl (fun w h => h.zaa (i := 1) rfl) rfl) ?_
      refine o_q rfl rfl (q_len Try.underlying25 rfl) ?_
      refine o_q rfl rfl (za3 rfl) ?_
      refine o_end ?_
      refine za1 ?_
      refine zal ?_
      refine za9 h (fun o34 hl33 hR32 => ?_) rfl
      clear h
      refine c_fact (p := l0_2.length ≤ 9223372036854775807) (fun w h => (R0_2.now Z h).2.1) (fun hm31 => ?_)
      refine zax (σ := (List Int) × Int × Int) (fun k29 ((ys28, i25, i26) : (List Int) × Int × Int) => Rg l0_2 i25 ys28 ∧ ys28.length = k29 ∧ impl_DepthOf.l1 l11 ys28 i25 i26 = some o34) [5, 9, 42, 43, 44, 45, 46, 47, 48, 49, 50, 51, 52] (fun ((ys28, i25, i26) : (List Int) × Int × Int) => [(5, .int .i64 i26), (42, .int .i64 i25)]) (fun ((ys28, i25, i26) : (List Int) × Int × Int) => [row (Kd.int .i64) 3 (.slice A12 l11.length c13) l11, box g1 27 #[.int .i64 a0_0, .slice A0_1 l0_1.length c0_1, .slice A0_2 l0_2.length c0_2]]) l0_2.length (l0_2, 0, 0) ⟨Rg.start _, rfl, hl33⟩ ⟨rfl, rfl, trivial⟩ (fun w h => h) ?_
      refine fun k29 => cur3 (listC (fun i25 i26 U35 hJ_ => ?_) (fun y27 ys28 i25 i26 U35 hJ_ => ?_))
      · skip
        clear hl33
        have hr30 := hJ_.1; have hk36 := hJ_.2.1; have h := hJ_.2.2; clear hJ_
        replace h : impl_DepthOf.l1 l11 [] i25 i26 = some o34 := h
        rw [impl_DepthOf.l1] at h
        refine c_seq ?_
        refine za0 ?_
        refine o_q rfl rfl (q_lss rfl rfl) ?_
        refine o_end ?_
        refine za1 ?_
        refine c_seq ?_
        refine c_false (congrArg Value.bool hr30.ge) ?_
        refine c_exit ?_
        refine za8 ?_
        refine za8 ?_
        have e_ := Option.some.inj h; replace h := hR32; rw [← e_] at h; clear e_
        refine x_hit ?_
        refine za1 ?_
        refine c_seq ?_
        refine za0 ?_
        refine o_q rfl rfl (za3 rfl) ?_
        refine o_q rfl rfl (q_asg rfl) ?_
        refine o_q rfl rfl (q_asg rfl) ?_
        refine o_end ?_
        refine za1 ?_
        refine c_ret ?_
        have e0_ := Option.some.inj h; clear h
        have d0_ := (Prod.mk.inj e0_).1; have e1_ := (Prod.mk.inj e0_).2; clear e0_; subst d0_
        subst e1_
        exact x_r2 () Try.results42 (zaf rfl) (zaf rfl) rfl (fun w h => za7 [] (by decide) rfl w h)
      · skip
        clear hl33
        have hr30 := hJ_.1; have hk36 := hJ_.2.1; have h := hJ_.2.2; clear hJ_
        replace h : impl_DepthOf.l1 l11 (y27 :: ys28) i25 i26 = some o34 := h
        rw [impl_DepthOf.l1] at h
        refine c_seq ?_
        refine za0 ?_
        refine o_q rfl rfl (q_lss rfl rfl) ?_
        refine o_end ?_
        refine za1 ?_
        refine c_seq ?_
        refine zay (congrArg Value.bool hr30.lt) ?_
        refine zao ?_
        refine za1 ?_
        refine c_seq ?_
        refine zal ?_
        refine c_seq ?_
        refine za0 ?_
        refine o_fact (p := Sh A0_2 l0_2.length l0_2.length) (fun w h => f_sh (dk := (Kd.int .i64)) h (fun w h => R0_2.now Z h)) (fun hq37 => ?_)
        refine o_q rfl rfl (q_ix Try.underlying25 Z3 rfl rfl hq37 hr30.get) ?_
        refine o_q rfl rfl (q_lde (off := 0) Y3 rfl rfl (fun w h => R0_2.now Z h) hr30.get (fun _ _ h => h) rfl) ?_
        refine o_q rfl rfl (q_asg rfl) ?_
        refine o_end ?_
        refine za1 ?_
        refine za0 ?_
        refine o_q rfl rfl (za3 rfl) ?_
        refine o_q rfl rfl (za3 rfl) ?_
        refine o_q rfl rfl (za3 rfl) ?_
        refine o_fact (p := Sh A12 l11.length l11.length) (fun w h => f_sh (dk := (Kd.int .i64)) h (fun w h => h.zb0 (i := 0) rfl)) (fun hq38 => ?_)
        refine za9 h (fun y40 hg39 h => ?_) rfl
        refine o_q rfl rfl (q_ix Try.underlying25 Z3 rfl rfl hq38 hg39) ?_
        refine o_q rfl rfl (q_lde (off := 0) Y3 rfl rfl (fun w h => h.zb0 (i := 0) rfl) hg39 (fun _ _ h => h) rfl) ?_
        refine o_q rfl rfl (q_max rfl rfl) ?_
        refine o_q rfl rfl (q_asg rfl) ?_
        refine o_end ?_
        refine zan ?_
        refine za1 ?_
        refine za0 ?_
        refine o_q rfl rfl (q_up rfl rfl (hr30.up hm31)) ?_
        refine o_q rfl rfl (za3 rfl) ?_
        refine o_end ?_
        refine zam ys28.length (ys28, i25 + 1, mx i26 y40) (by rw [← hk36]; exact Nat.lt_succ_self _) ⟨hr30.step, rfl, h⟩ ⟨rfl, rfl, trivial⟩ (fun w h => za7 [0, 1] (by decide) rfl w h) ?_
        repeat (first | exact zad _ _ | refine zai rfl ?_ | refine zae rfl ?_ | refine zaj rfl ?_)
    · skip
      clear hl21
      have hr18 := hJ_.1; have hk24 := hJ_.2.1; have h := hJ_.2.2; clear hJ_
      replace h : impl_DepthOf.l0 (y15 :: ys16) l11 i14 = some o22 := h
      rw [impl_DepthOf.l0] at h
      refine c_seq ?_
      refine za0 ?_
      refine o_q rfl rfl (q_lss rfl rfl) ?_
      refine o_end ?_
      refine za1 ?_
      refine c_seq ?_
      refine zay (congrArg Value.bool hr18.lt) ?_
      refine zao ?_
      refine za1 ?_
      refine c_seq ?_
      refine zal ?_
      refine c_seq ?_
      refine za0 ?_
      refine o_fact (p := Sh A0_1 l0_1.length l0_1.length) (fun w h => f_sh (dk := kStep) h (fun w h => R0_1.now Z h)) (fun hq41 => ?_)
      refine o_q rfl rfl (q_ix Try.underlying24 Z89 rfl rfl hq41 hr18.get) ?_
      refine o_q rfl rfl (q_ldE G89 Z89 rfl rfl (fun w h => R0_1.now Z h) hr18.get (fun _ _ h => h) rfl) ?_
      refine o_e rfl (e_alloc V89 rfl) (fun g42 => ?_)
      refine o_e rfl (zau (i := 0) rfl rfl rfl Z89 rfl rfl) (fun _ => ?_)
      refine o_end ?_
      refine za1 ?_
      refine za9 h (fun y287 hg286 h => ?_) rfl
      refine za9 h (fun y586 hg585 h => ?_) rfl
      refine za9 h (fun l885 ha886 h => ?_) rfl
      refine a_startS (ds := []) [some 0, none, some 2] MO rfl ?_
      refine za6 0 rfl rfl rfl (by kernel_rfl) (fun _ _ _ h => h) (za3 rfl) ?_
      refine za6 1 rfl rfl rfl (by kernel_rfl) (fun _ _ _ h => h) (za3 rfl) ?_
      refine za6 2 rfl rfl rfl (by kernel_rfl) (fun _ _ _ h => h) (q_f F89_0 rfl) ?_
      refine a_take 3 rfl rfl rfl (by kernel_rfl) (fun _ _ _ h => h) (fun w h => zab [some 0, none, some 2] (by decide) w h rfl) (q_ldb Y3 rfl (fun w h => h.zaa (i := 0) rfl) rfl) ?_
      refine a_fact (p := Sh A12 l11.length l11.length) (fun w h => f_sh (dk := (Kd.int .i64)) h (fun w h => h.zb0 (i := 1) rfl)) (fun hq285 => ?_)
      refine za6 4 rfl rfl rfl (by kernel_rfl) (fun _ _ _ h => h) (q_ix Try.underlying25 Z3 rfl rfl hq285 hg286) ?_
      refine za6 6 rfl rfl rfl (by kernel_rfl) (fun _ _ _ h => h) (za3 rfl) ?_
      refine za6 7 rfl rfl rfl (by kernel_rfl) (fun _ _ _ h => h) (q_f F89_1 rfl) ?_
      refine a_take 8 rfl rfl rfl (by kernel_rfl) (fun _ _ _ h => h) (fun w h => zab [some 0, none, some 2] (by decide) w h rfl) (q_ldb Y3 rfl (fun w h => h.zaa (i := 0) rfl) rfl) ?_
      refine za6 9 rfl rfl rfl (by kernel_rfl) (fun _ _ _ h => h) (q_ix Try.underlying25 Z3 rfl rfl hq285 hg585) ?_
      refine a_two 5 10 rfl rfl rfl rfl (by kernel_rfl) rfl rfl (ev_q rfl (q_lde (off := 0) Y3 rfl rfl (fun w h => h.zb0 (i := 1) rfl) hg286 (fun _ _ h => h) rfl)) (fun s w h => zab [some 0, none, some 2] (by decide) w h rfl) (ev_q rfl (q_lde (off := 0) Y3 rfl rfl (fun w h => h.zb0 (i := 1) rfl) hg585 (fun _ _ h => h) rfl)) (fun s w h => zab [some 0, none, some 2] (by decide) w h rfl) (fun _ => ?_) (fun _ => ?_)
      · skip
        refine a_one 10 rfl rfl (by kernel_rfl) rfl (ev_q rfl (q_lde (off := 0) Y3 rfl rfl (fun w h => h.zb0 (i := 1) rfl) hg585 (fun _ _ h => h) rfl)) (fun s w h => zab [some 0, none, some 2] (by decide) w h rfl) (fun _ => ?_)
        refine za6 11 rfl rfl rfl (by kernel_rfl) (fun _ _ _ h => h) (q_max rfl rfl) ?_
        refine za6 12 rfl rfl rfl (by kernel_rfl) (fun _ _ _ h => h) (q_add64 rfl rfl) ?_
        refine a_one 13 rfl rfl (by kernel_rfl) rfl (e_lit (vs := [(0, .int .i64 (w64 (mx y287 y586 + 1)))]) (cs := [.int .i64 (w64 (mx y287 y586 + 1))]) (Kd.int .i64) ([w64 (mx y287 y586 + 1)] : List Int) Try.underlying25 I3 (by decide) rfl (by decide) rfl rfl (fun _ _ => Kd.zar _)) (fun s w h => zab [some 1, none, some 3] (by decide) w h rfl) (cur2 (fun A825 c826 => ?_))
        refine a_one 14 rfl rfl (by kernel_rfl) rfl (e_app (i := 2) (j := 0) Try.underlying25 I3 rfl (by decide) (by decide) rfl rfl rfl rfl rfl ha886) (fun s w h => zab [some 1, none, some 3] (by decide) w h rfl) (cur2 (fun A887 c888 => ?_))
        refine za6 15 rfl rfl rfl (by kernel_rfl) (fun _ _ _ h => h) (q_asg rfl) ?_
        refine zaw (by kernel_rfl) ?_
        refine zan ?_
        refine za1 ?_
        refine za0 ?_
        refine o_q rfl rfl (q_up rfl rfl (hr18.up hm19)) ?_
        refine o_q rfl rfl (za3 rfl) ?_
        refine o_end ?_
        refine zam ys16.length (ys16, l885, i14 + 1, A887, c888) (by rw [← hk24]; exact Nat.lt_succ_self _) ⟨hr18.step, rfl, h⟩ ⟨rfl, rfl, trivial⟩ (fun w h => za7 [2, 3] (by decide) rfl w h) ?_
        repeat (first | exact zad _ _ | refine zai rfl ?_ | refine zae rfl ?_ | refine zaj rfl ?_)
      · skip
        refine a_one 5 rfl rfl (by kernel_rfl) rfl (ev_q rfl (q_lde (off := 0) Y3 rfl rfl (fun w h => h.zb0 (i := 1) rfl) hg286 (fun _ _ h => h) rfl)) (fun s w h => zab [some 0, none, some 2] (by decide) w h rfl) (fun _ => ?_)
        refine za6 11 rfl rfl rfl (by kernel_rfl) (fun _ _ _ h => h) (q_max rfl rfl) ?_
        refine za6 12 rfl rfl rfl (by kernel_rfl) (fun _ _ _ h => h) (q_add64 rfl rfl) ?_
        refine a_one 13 rfl rfl (by kernel_rfl) rfl (e_lit (vs := [(0, .int .i64 (w64 (mx y287 y586 + 1)))]) (cs := [.int .i64 (w64 (mx y287 y586 + 1))]) (Kd.int .i64) ([w64 (mx y287 y586 + 1)] : List Int) Try.underlying25 I3 (by decide) rfl (by decide) rfl rfl (fun _ _ => Kd.zar _)) (fun s w h => zab [some 1, none, some 3] (by decide) w h rfl) (cur2 (fun A825 c826 => ?_))
        refine a_one 14 rfl rfl (by kernel_rfl) rfl (e_app (i := 2) (j := 0) Try.underlying25 I3 rfl (by decide) (by decide) rfl rfl rfl rfl rfl ha886) (fun s w h => zab [some 1, none, some 3] (by decide) w h rfl) (cur2 (fun A887 c888 => ?_))
        refine za6 15 rfl rfl rfl (by kernel_rfl) (fun _ _ _ h => h) (q_asg rfl) ?_
        refine zaw (by kernel_rfl) ?_
        refine zan ?_
        refine za1 ?_
        refine za0 ?_
        refine o_q rfl rfl (q_up rfl rfl (hr18.up hm19)) ?_
        refine o_q rfl rfl (za3 rfl) ?_
        refine o_end ?_
        refine zam ys16.length (ys16, l885, i14 + 1, A887, c888) (by rw [← hk24]; exact Nat.lt_succ_self _) ⟨hr18.step, rfl, h⟩ ⟨rfl, rfl, trivial⟩ (fun w h => za7 [2, 3] (by decide) rfl w h) ?_
        repeat (first | exact zad _ _ | refine zai rfl ?_ | refine zae rfl ?_ | refine zaj rfl ?_)

/-! ### loop.example/g01098/impl.ValueExponents: function 43 -/
def impl_ValueExponents.f (k : Nat) (a0_0 : Int) (l0_1 : List SStep) (l0_2 : List Int) (a1 : Int) : Option ((List Int) × Bool) := (impl_IsPlan.f k a0_0 l0_1 l0_2).bind fun b4 => if b4 = true then ((impl_Plan_many.f a0_0 l0_1 l0_2).bind fun _ => (impl_in.f a1 0 (w64 (w64 (a0_0 + (l0_1.length : Int)) - 1))).bind fun b8 => if b8 = true then ((impl_Plan_exponents.f a0_0 l0_1 l0_2).bind fun l11 => (gt l11 a1).bind fun y17 => some (y17, true)) else (some (([] : List Int), false))) else (some (([] : List Int), false))
set_option maxHeartbeats 600000 in
set_option maxRecDepth 100000 in
theorem impl_ValueExponents.calls (k : Nat) {w0 ws : World} {P0 : Nat → Prop} (a0_0 : Int) (A0_1 : Option Addr) (c0_1 : Nat) (n0_1 : Nat) (l0_1 : List SStep) (A0_2 : Option Addr) (c0_2 : Nat) (n0_2 : Nat) (l0_2 : List Int) (a1 : Int) (Z : Below w0.heap.size w0 ws) (hF : Fr w0 ws P0 [] ws) (R0_1 : Stable ws P0 (fun w => Kd.C kStep w A0_1 n0_1 l0_1)) (hc0_1 : n0_1 ≤ c0_1) (R0_2 : Stable ws P0 (fun w => Kd.C (Kd.int .i64) w A0_2 n0_2 l0_2)) (hc0_2 : n0_2 ≤ c0_2) (r_1 : List Int) (r_4 : Bool) (h : impl_ValueExponents.f k a0_0 l0_1 l0_2 a1 = some (r_1, r_4)) :
    Calls Try.prog 43 #[.agg #[.int .i64 a0_0, .slice A0_1 n0_1 c0_1, .slice A0_2 n0_2 c0_2], .int .i64 a1] ws (Post1 w0 ws P0 (fun ((q_2, q_3) : (Option Addr) × Nat) => .tuple #[.slice q_2 r_1.length q_3, .bool r_4]) (fun ((q_2, q_3) : (Option Addr) × Nat) => [row (Kd.int .i64) 3 (.slice q_2 r_1.length q_3) r_1])) := by
  unfold impl_ValueExponents.f at h
  obtain rfl := (R0_1 ws (KeptB.refl _ _)).1
  obtain rfl := (R0_2 ws (KeptB.refl _ _)).1
  refine enter Try.func43 rfl Try.ntmps43 rfl hF ?_
  refine c_seq ?_
  refine za0 ?_
  refine o_e rfl (e_box rfl) (fun g1 => ?_)
  refine o_q rfl rfl (q_asg rfl) ?_
  refine o_q rfl rfl (q_asg rfl) ?_
  refine o_end ?_
  refine za1 ?_
  refine c_seq ?_
  refine c_seq ?_
  refine za0 ?_
  refine o_q rfl rfl (q_ldB G27 Z27 rfl (fun w h => h.zaa (i := 0) rfl) rfl) ?_
  refine za9 h (fun b4 hx3 h => ?_) rfl
  refine o_e rfl (zac 0 Z Try.func86 N86 rfl rfl rfl (fun w P1 hF hB hS hT => impl_IsPlan.calls k a0_0 A0_1 c0_1 l0_1.length l0_1 A0_2 c0_2 l0_2.length l0_2 hB hF (hS _ R0_1) hc0_1 (hS _ R0_2) hc0_2 _ hx3)) (fun _ => ?_)
  refine o_q rfl rfl (q_not rfl) ?_
  refine o_q rfl rfl (za3 rfl) ?_
  refine byB b4 (fun hb5 => ?_) (fun hb5 => ?_)
  · replace h := bb_t hb5 h
    refine o_w (za4 rfl rfl rfl (congrArg (fun b => Value.bool (!(b))) hb5)) rfl (za3 rfl) ?_
    refine za9 h (fun _ hx6 h => ?_) rfl
    refine o_ew (za4 rfl rfl rfl (congrArg (fun b => Value.bool (!(b))) hb5)) (zac 0 Z Try.func90 N90 rfl rfl rfl (fun w P1 hF hB hS hT => impl_Plan_many.calls g1 a0_0 A0_1 c0_1 l0_1.length l0_1 A0_2 c0_2 l0_2.length l0_2 hB hF (hS _ R0_1) hc0_1 (hS _ R0_2) hc0_2 (hT 0 _ rfl).box hx6)) (fun _ => ?_)
    refine o_w (za4 rfl rfl rfl (congrArg (fun b => Value.bool (!(b))) hb5)) rfl (q_sub64 rfl rfl) ?_
    refine za9 h (fun b8 hx7 h => ?_) rfl
    refine o_ew (za4 rfl rfl rfl (congrArg (fun b => Value.bool (!(b))) hb5)) (zac 0 Z Try.func87 N87 rfl rfl rfl (fun w P1 hF hB hS hT => impl_in.calls a1 0 (w64 (w64 (a0_0 + (l0_1.length : Int)) - 1)) hB hF _ hx7)) (fun _ => ?_)
    refine o_w (za4 rfl rfl rfl (congrArg (fun b => Value.bool (!(b))) hb5)) rfl (q_not rfl) ?_
    refine o_q rfl rfl (zak false (congrArg (fun b => Value.bool (!(b))) hb5) rfl) ?_
    refine o_end ?_
    refine za1 ?_
    refine zas _ rfl (fun hb9 => ?_) (fun hb9 => ?_)
    · replace hb9 := nt_t hb9
      replace h := bb_f hb9 h
      refine c_seq ?_
      refine za0 ?_
      refine o_q rfl rfl (q_asg rfl) ?_
      refine o_q rfl rfl (q_asg rfl) ?_
      refine o_end ?_
      refine za1 ?_
      refine c_ret ?_
      refine za5 ?_
      refine x_nil (Kd.int .i64) 3 ?_
      have e0_ := Option.some.inj h; clear h
      have d0_ := (Prod.mk.inj e0_).1; have e1_ := (Prod.mk.inj e0_).2; clear e0_; subst d0_
      subst e1_
      exact x_r2 (none, 0) Try.results43 (zaf rfl) (zaf rfl) rfl (fun w h => za7 [0] (by decide) rfl w h)
    · replace hb9 := nt_f hb9
      replace h := bb_t hb9 h
      refine zao ?_
      refine za1 ?_
      refine c_seq ?_
      refine za0 ?_
      refine za9 h (fun l11 hx10 h => ?_) rfl
      refine o_e rfl (zac 0 Z Try.func120 N120 rfl rfl rfl (fun w P1 hF hB hS hT => impl_Plan_exponents.calls g1 a0_0 A0_1 c0_1 l0_1.length l0_1 A0_2 c0_2 l0_2.length l0_2 hB hF (hS _ R0_1) hc0_1 (hS _ R0_2) hc0_2 (hT 0 _ rfl).box _ hx10)) (cur3 (fun A12 c13 H14 => ?_))
      refine o_q rfl rfl (za3 rfl) ?_
      refine o_fact (p := Sh A12 l11.length (zp H14 l11).length) (fun w h => f_sh (dk := (gk 3 (Kd.int .i64))) h (fun w h => h.zb0 (i := 0) rfl)) (fun hq15 => ?_)
      refine za9 h (fun y17 hg16 h => ?_) rfl
      refine o_q rfl rfl (q_ix Try.underlying60 Z25 rfl rfl hq15 (gt_zp hg16)) ?_
      refine o_fact (p := y17.length ≤ hC H14 a1) (fun w h => (K_in (h.zb0 (i := 0) rfl) hg16).1) (fun hc18 => ?_)
      refine o_q rfl rfl (q_lde (off := 0) Y25 rfl rfl (fun w h => h.zb0 (i := 0) rfl) (gt_zp hg16) (fun _ _ h => h.1) rfl) ?_
      refine o_q rfl rfl (q_asg rfl) ?_
      refine o_q rfl rfl (q_asg rfl) ?_
      refine o_end ?_
      refine za1 ?_
      refine c_ret ?_
      refine x_takeP (i := 0) rfl (Pk.inn hg16) ?_
      have e0_ := Option.some.inj h; clear h
      have d0_ := (Prod.mk.inj e0_).1; have e1_ := (Prod.mk.inj e0_).2; clear e0_; subst d0_
      subst e1_
      exact x_r2 (hA H14 a1, hC H14 a1) Try.results43 (zaf rfl) (zaf rfl) rfl (fun w h => za7 [0] (by decide) rfl w h)
  · replace h := bb_f hb5 h
    refine @o_n _ _ _ _ _ _ _ _ _ _ _ 10 (za2 rfl rfl rfl (congrArg (fun b => Value.bool (!(b))) hb5) rfl) (Eq.refl (some 10)) ?_
    refine @o_n _ _ _ _ _ _ _ _ _ _ _ 11 (za2 rfl rfl rfl (congrArg (fun b => Value.bool (!(b))) hb5) rfl) (Eq.refl (some 11)) ?_
    refine @o_n _ _ _ _ _ _ _ _ _ _ _ 12 (za2 rfl rfl rfl (congrArg (fun b => Value.bool (!(b))) hb5) rfl) (Eq.refl (some 12)) ?_
    refine @o_n _ _ _ _ _ _ _ _ _ _ _ 13 (za2 rfl rfl rfl (congrArg (fun b => Value.bool (!(b))) hb5) rfl) (Eq.refl (some 13)) ?_
    refine @o_n _ _ _ _ _ _ _ _ _ _ _ 14 (za2 rfl rfl rfl (congrArg (fun b => Value.bool (!(b))) hb5) rfl) (Eq.refl (some 14)) ?_
    refine o_q rfl rfl (zak true (congrArg (fun b => Value.bool (!(b))) hb5) rfl) ?_
    refine o_end ?_
    refine za1 ?_
    refine zay rfl ?_
    refine c_seq ?_
    refine za0 ?_
    refine o_q rfl rfl (q_asg rfl) ?_
    refine o_q rfl rfl (q_asg rfl) ?_
    refine o_end ?_
    refine za1 ?_
    refine c_ret ?_
    refine za5 ?_
    refine x_nil (Kd.int .i64) 3 ?_
    have e0_ := Option.some.inj h; clear h
    have d0_ := (Prod.mk.inj e0_).1; have e1_ := (Prod.mk.inj e0_).2; clear e0_; subst d0_
    subst e1_
    exact x_r2 (none, 0) Try.results43 (zaf rfl) (zaf rfl) rfl (fun w h => za7 [0] (by decide) rfl w h)

/-! ### loop.example/g01098/laws.FnReorderedPlans: function 7 -/
def laws_FnReorderedPlans.l0 (k : Nat) (i5 : Int) (l6 : List SStep) (l7 : List Int) (i18 : Int) (l19 : List SStep) (l20 : List Int) : (List Int) → Int → Option ((Bool) ⊕ (Unit))
  | [], i70 => some (.inr ())
  | y71 :: ys72, i70 => (impl_ValueExponents.f k i5 l6 l7 (w64 (i5 + y71))).bind fun (l83, b84) => (impl_ValueExponents.f k i18 l19 l20 (w64 (i5 + i70))).bind fun (l88, b89) => if b84 = true then (if b89 = true then ((laws_pSameInts.f l83 l88).bind fun b95 => if b95 = true then (laws_FnReorderedPlans.l0 k i5 l6 l7 i18 l19 l20 ys72 (i70 + 1)) else (some (.inl false))) else (some (.inl false))) else (some (.inl false))
def laws_FnReorderedPlans.f (k : Nat) (l0 : List Int) (l1 : List Int) : Option Bool := (laws_big.f l0 l1).bind fun b2 => if b2 = true then (some true) else ((spec_DrawReorderSteps.f k l0).bind fun (i5, l6, l7, l8) => (impl_ReorderSteps.f k i5 l6 l7 l8).bind fun (i18, l19, l20, b21) => (spec_ReorderSteps.f k i5 l6 l7 l8).bind fun (i29, l30, l31, b32) => if (b21 != b32) = true then (some false) else ((laws_pSamePlan.f i18 l19 l20 i29 l30 l31).bind fun b41 => if b41 = true then (if b32 = true then ((impl_SamePowers.f k i5 l6 l7 i18 l19 l20).bind fun (b45, b46) => (impl_CountsOf.f k i5 l6 l7).bind fun (i48, i49, b50) => (impl_CountsOf.f k i18 l19 l20).bind fun (i52, i53, b54) => (impl_DepthOf.f k i5 l6 l7).bind fun (i56, b57) => (impl_DepthOf.f k i18 l19 l20).bind fun (i59, b60) => if b46 = true then (if b50 = true then (if b54 = true then (if b57 = true then (if b60 = true then (if b45 = true then (if i48 ≠ i52 then (some false) else (if i49 ≠ i53 then (some false) else (if i56 ≠ i59 then (some false) else ((laws_FnReorderedPlans.l0 k i5 l6 l7 i18 l19 l20 l8 0).bind fun o_ => match o_ with | .inl r_ => some r_ | .inr _ => some true)))) else (some false)) else (some false)) else (some false)) else (some false)) else (some false)) else (some false)) else (some true)) else (some false)))
set_option maxHeartbeats 600000 in
set_option maxRecDepth 100000 in
theorem laws_FnReorderedPlans.calls (k : Nat) {w0 ws : World} {P0 : Nat → Prop} (A0 : Option Addr) (c0 : Nat) (n0 : Nat) (l0 : List Int) (A1 : Option Addr) (c1 : Nat) (n1 : Nat) (l1 : List Int) (Z : Below w0.heap.size w0 ws) (hF : Fr w0 ws P0 [] ws) (R0 : Stable ws P0 (fun w => Kd.C (Kd.int .u8) w A0 n0 l0)) (hc0 : n0 ≤ c0) (R1 : Stable ws P0 (fun w => Kd.C (Kd.int .u8) w A1 n1 l1)) (hc1 : n1 ≤ c1) (r_1 : Bool) (h : laws_FnReorderedPlans.f k l0 l1 = some r_1) :
    Calls Try.prog 7 #[.slice A0 n0 c0, .slice A1 n1 c1] ws (Post1 w0 ws P0 (fun (_ : Unit) => .bool r_1) (fun (_ : Unit) => [])) := by
  unfold laws_FnReorderedPlans.f at h
  obtain rfl := (R0 ws (KeptB.refl _ _)).1
  obtain rfl := (R1 ws (KeptB.refl _ _)).1
  refine enter Try.func7 rfl Try.ntmps7 rfl hF ?_
  refine c_seq ?_
  refine za0 ?_
  refine o_q rfl rfl (q_asg rfl) ?_
  refine o_end ?_
  refine za1 ?_
  refine c_seq ?_
  refine c_seq ?_
  refine za0 ?_
  refine o_q rfl rfl (za3 rfl) ?_
  refine o_q rfl rfl (za3 rfl) ?_
  refine za9 h (fun b2 hx1 h => ?_) rfl
  refine o_e rfl (zac 0 Z Try.func13 N13 rfl rfl rfl (fun w P1 hF hB hS hT => laws_big.calls A0 c0 l0.length l0 A1 c1 l1.length l1 hB hF (hS _ R0) hc0 (hS _ R1) hc1 _ hx1)) (fun _ => ?_)
  refine o_end ?_
  refine za1 ?_
  refine zas _ rfl (fun hb3 => ?_) (fun hb3 => ?_)
  · skip
    replace h := bb_t hb3 h
    refine c_seq ?_
    refine za0 ?_
    refine o_q rfl rfl (q_asg rfl) ?_
    refine o_end ?_
    refine za1 ?_
    refine c_ret ?_
    refine za5 ?_
    have e0_ := Option.some.inj h; clear h
    subst e0_
    exact x_r1 () Try.results7 (zaf rfl) rfl (fun w h => za7 [] (by decide) rfl w h)
  · skip
    replace h := bb_f hb3 h
    refine zao ?_
    refine za1 ?_
    refine c_seq ?_
    refine za0 ?_
    refine o_q rfl rfl (za3 rfl) ?_
    refine bindE4 h (fun i5 l6 l7 l8 hx4 h => ?_) rfl
    refine o_e rfl (zac 0 Z Try.func38 N38 rfl rfl rfl (fun w P1 hF hB hS hT => spec_DrawReorderSteps.calls k A0 c0 l0.length l0 hB hF (hS _ R0) hc0 _ _ _ _ hx4)) (cur6 (fun A9 c10 A11 c12 A13 c14 => ?_))
    refine o_q rfl rfl (za3 rfl) ?_
    refine o_q rfl rfl (q_ext rfl rfl) ?_
    refine o_q rfl rfl (q_ext rfl rfl) ?_
    refine o_e rfl (e_alloc V27 rfl) (fun g15 => ?_)
    refine o_e rfl (zau (i := 0) rfl rfl rfl Z27 rfl rfl) (fun _ => ?_)
    refine o_q rfl rfl (q_asg rfl) ?_
    refine o_end ?_
    refine za1 ?_
    refine c_seq ?_
    refine za0 ?_
    refine o_q rfl rfl (q_ldB G27 Z27 rfl (fun w h => h.zaa (i := 0) rfl) rfl) ?_
    refine o_q rfl rfl (za3 rfl) ?_
    refine bindE4 h (fun i18 l19 l20 b21 hx17 h => ?_) rfl
    refine o_e rfl (zac 0 Z Try.func39 N39 rfl rfl rfl (fun w P1 hF hB hS hT => impl_ReorderSteps.calls k i5 A9 c10 l6.length l6 A11 c12 l7.length l7 A13 c14 l8.length l8 hB hF (hT 1 _ rfl).row (hT 1 _ rfl).cap (hT 2 _ rfl).row (hT 2 _ rfl).cap (hT 3 _ rfl).row (hT 3 _ rfl).cap _ _ _ _ hx17)) (cur4 (fun A22 c23 A24 c25 => ?_))
    refine o_q rfl rfl (za3 rfl) ?_
    refine o_q rfl rfl (q_ext rfl rfl) ?_
    refine o_q rfl rfl (q_ext rfl rfl) ?_
    refine o_e rfl (e_alloc V27 rfl) (fun g26 => ?_)
    refine o_e rfl (zau (i := 0) rfl rfl rfl Z27 rfl rfl) (fun _ => ?_)
    refine o_q rfl rfl (q_asg rfl) ?_
    refine o_end ?_
    refine za1 ?_
    refine c_seq ?_
    refine za0 ?_
    refine o_q rfl rfl (q_ldB G27 Z27 rfl (fun w h => h.zaa (i := 3) rfl) rfl) ?_
    refine o_q rfl rfl (za3 rfl) ?_
    refine bindE4 h (fun i29 l30 l31 b32 hx28 h => ?_) rfl
    refine o_e rfl (zac 0 Z Try.func40 N40 rfl rfl rfl (fun w P1 hF hB hS hT => spec_ReorderSteps.calls k i5 A9 c10 l6.length l6 A11 c12 l7.length l7 A13 c14 l8.length l8 hB hF (hT 4 _ rfl).row (hT 4 _ rfl).cap (hT 5 _ rfl).row (hT 5 _ rfl).cap (hT 6 _ rfl).row (hT 6 _ rfl).cap _ _ _ _ hx28)) (cur4 (fun A33 c34 A35 c36 => ?_))
    refine o_q rfl rfl (za3 rfl) ?_
    refine o_q rfl rfl (q_ext rfl rfl) ?_
    refine o_q rfl rfl (q_ext rfl rfl) ?_
    refine o_e rfl (e_alloc V27 rfl) (fun g37 => ?_)
    refine o_e rfl (zau (i := 0) rfl rfl rfl Z27 rfl rfl) (fun _ => ?_)
    refine o_q rfl rfl (q_asg rfl) ?_
    refine o_end ?_
    refine za1 ?_
    refine c_seq ?_
    refine c_seq ?_
    refine za0 ?_
    refine o_q rfl rfl (za3 rfl) ?_
    refine o_q rfl rfl (za3 rfl) ?_
    refine o_q rfl rfl (q_bneq Try.underlying4 rfl rfl) ?_
    refine o_q rfl rfl (za3 rfl) ?_
    refine byB (b21 != b32) (fun hb39 => ?_) (fun hb39 => ?_)
    · replace h := bb_t hb39 h
      refine @o_n _ _ _ _ _ _ _ _ _ _ _ 53 (za2 rfl rfl rfl (congrArg Value.bool hb39) rfl) (Eq.refl (some 53)) ?_
      refine @o_n _ _ _ _ _ _ _ _ _ _ _ 54 (za2 rfl rfl rfl (congrArg Value.bool hb39) rfl) (Eq.refl (some 54)) ?_
      refine @o_n _ _ _ _ _ _ _ _ _ _ _ 55 (za2 rfl rfl rfl (congrArg Value.bool hb39) rfl) (Eq.refl (some 55)) ?_
      refine @o_n _ _ _ _ _ _ _ _ _ _ _ 56 (za2 rfl rfl rfl (congrArg Value.bool hb39) rfl) (Eq.refl (some 56)) ?_
      refine o_q rfl rfl (zak true (congrArg Value.bool hb39) rfl) ?_
      refine o_end ?_
      refine za1 ?_
      refine zay rfl ?_
      refine c_seq ?_
      refine za0 ?_
      refine o_q rfl rfl (q_asg rfl) ?_
      refine o_end ?_
      refine za1 ?_
      refine c_ret ?_
      refine za5 ?_
      have e0_ := Option.some.inj h; clear h
      subst e0_
      exact x_r1 () Try.results7 (zaf rfl) rfl (fun w h => za7 [] (by decide) rfl w h)
    · replace h := bb_f hb39 h
      refine o_w (za4 rfl rfl rfl (congrArg Value.bool hb39)) rfl (q_ldB G27 Z27 rfl (fun w h => h.zaa (i := 3) rfl) rfl) ?_
      refine o_w (za4 rfl rfl rfl (congrArg Value.bool hb39)) rfl (q_ldB G27 Z27 rfl (fun w h => h.zaa (i := 0) rfl) rfl) ?_
      refine za9 h (fun b41 hx40 h => ?_) rfl
      refine o_ew (za4 rfl rfl rfl (congrArg Value.bool hb39)) (zac 0 Z Try.func17 N17 rfl rfl rfl (fun w P1 hF hB hS hT => laws_pSamePlan.calls i18 A22 c23 l19.length l19 A24 c25 l20.length l20 i29 A33 c34 l30.length l30 A35 c36 l31.length l31 hB hF (hT 4 _ rfl).row (hT 4 _ rfl).cap (hT 5 _ rfl).row (hT 5 _ rfl).cap (hT 1 _ rfl).row (hT 1 _ rfl).cap (hT 2 _ rfl).row (hT 2 _ rfl).cap _ hx40)) (fun _ => ?_)
      refine o_w (za4 rfl rfl rfl (congrArg Value.bool hb39)) rfl (q_not rfl) ?_
      refine o_q rfl rfl (zak false (congrArg Value.bool hb39) rfl) ?_
      refine o_end ?_
      refine za1 ?_
      refine zas _ rfl (fun hb42 => ?_) (fun hb42 => ?_)
      · replace hb42 := nt_t hb42
        replace h := bb_f hb42 h
        refine c_seq ?_
        refine za0 ?_
        refine o_q rfl rfl (q_asg rfl) ?_
        refine o_end ?_
        refine za1 ?_
        refine c_ret ?_
        refine za5 ?_
        have e0_ := Option.some.inj h; clear h
        subst e0_
        exact x_r1 () Try.results7 (zaf rfl) rfl (fun w h => za7 [] (by decide) rfl w h)
      · replace hb42 := nt_f hb42
        replace h := bb_t hb42 h
        refine zao ?_
        refine za1 ?_
        refine c_seq ?_
        refine c_seq ?_
        refine za0 ?_
        refine o_q rfl rfl (za3 rfl) ?_
        refine o_q rfl rfl (q_not rfl) ?_
        refine o_end ?_
        refine za1 ?_
        refine zas _ rfl (fun hb43 => ?_) (fun hb43 => ?_)
        · replace hb43 := nt_t hb43
          replace h := bb_f hb43 h
          refine c_seq ?_
          refine za0 ?_
          refine o_q rfl rfl (q_asg rfl) ?_
          refine o_end ?_
          refine za1 ?_
          refine c_ret ?_
          refine za5 ?_
          have e0_ := Option.some.inj h; clear h
          subst e0_
          exact x_r1 () Try.results7 (zaf rfl) rfl (fun w h => za7 [] (by decide) rfl w h)
        · replace hb43 := nt_f hb43
          replace h := bb_t hb43 h
          refine zao ?_
          refine za1 ?_
          refine c_seq ?_
          refine za0 ?_
          refine o_q rfl rfl (q_ldB G27 Z27 rfl (fun w h => h.zaa (i := 6) rfl) rfl) ?_
          refine o_q rfl rfl (q_ldB G27 Z27 rfl (fun w h => h.zaa (i := 3) rfl) rfl) ?_
          refine bindE2 h (fun b45 b46 hx44 h => ?_) rfl
          refine o_e rfl (zac 0 Z Try.func27 N27 rfl rfl rfl (fun w P1 hF hB hS hT => impl_SamePowers.calls k i5 A9 c10 l6.length l6 A11 c12 l7.length l7 i18 A22 c23 l19.length l19 A24 c25 l20.length l20 hB hF (hT 7 _ rfl).row (hT 7 _ rfl).cap (hT 8 _ rfl).row (hT 8 _ rfl).cap (hT 4 _ rfl).row (hT 4 _ rfl).cap (hT 5 _ rfl).row (hT 5 _ rfl).cap _ _ hx44)) (fun _ => ?_)
          refine o_q rfl rfl (za3 rfl) ?_
          refine o_q rfl rfl (q_ext rfl rfl) ?_
          refine o_q rfl rfl (q_ext rfl rfl) ?_
          refine o_q rfl rfl (q_asg rfl) ?_
          refine o_q rfl rfl (q_asg rfl) ?_
          refine o_end ?_
          refine za1 ?_
          refine c_seq ?_
          refine za0 ?_
          refine o_q rfl rfl (q_ldB G27 Z27 rfl (fun w h => h.zaa (i := 6) rfl) rfl) ?_
          refine bindE3 h (fun i48 i49 b50 hx47 h => ?_) rfl
          refine o_e rfl (zac 0 Z Try.func41 N41 rfl rfl rfl (fun w P1 hF hB hS hT => impl_CountsOf.calls k i5 A9 c10 l6.length l6 A11 c12 l7.length l7 hB hF (hT 7 _ rfl).row (hT 7 _ rfl).cap (hT 8 _ rfl).row (hT 8 _ rfl).cap _ _ _ hx47)) (fun _ => ?_)
          refine o_q rfl rfl (za3 rfl) ?_
          refine o_q rfl rfl (q_ext rfl rfl) ?_
          refine o_q rfl rfl (q_ext rfl rfl) ?_
          refine o_q rfl rfl (q_ext rfl rfl) ?_
          refine o_q rfl rfl (q_asg rfl) ?_
          refine o_q rfl rfl (q_asg rfl) ?_
          refine o_q rfl rfl (q_asg rfl) ?_
          refine o_end ?_
          refine za1 ?_
          refine c_seq ?_
          refine za0 ?_
          refine o_q rfl rfl (q_ldB G27 Z27 rfl (fun w h => h.zaa (i := 3) rfl) rfl) ?_
          refine bindE3 h (fun i52 i53 b54 hx51 h => ?_) rfl
          refine o_e rfl (zac 0 Z Try.func41 N41 rfl rfl rfl (fun w P1 hF hB hS hT => impl_CountsOf.calls k i18 A22 c23 l19.length l19 A24 c25 l20.length l20 hB hF (hT 4 _ rfl).row (hT 4 _ rfl).cap (hT 5 _ rfl).row (hT 5 _ rfl).cap _ _ _ hx51)) (fun _ => ?_)
          refine o_q rfl rfl (za3 rfl) ?_
          refine o_q rfl rfl (q_ext rfl rfl) ?_
          refine o_q rfl rfl (q_ext rfl rfl) ?_
          refine o_q rfl rfl (q_ext rfl rfl) ?_
          refine o_q rfl rfl (q_asg rfl) ?_
          refine o_q rfl rfl (q_asg rfl) ?_
          refine o_q rfl rfl (q_asg rfl) ?_
          refine o_end ?_
          refine za1 ?_
          refine c_seq ?_
          refine za0 ?_
          refine o_q rfl rfl (q_ldB G27 Z27 rfl (fun w h => h.zaa (i := 6) rfl) rfl) ?_
          refine bindE2 h (fun i56 b57 hx55 h => ?_) rfl
          refine o_e rfl (zac 0 Z Try.func42 N42 rfl rfl rfl (fun w P1 hF hB hS hT => impl_DepthOf.calls k i5 A9 c10 l6.length l6 A11 c12 l7.length l7 hB hF (hT 7 _ rfl).row (hT 7 _ rfl).cap (hT 8 _ rfl).row (hT 8 _ rfl).cap _ _ hx55)) (fun _ => ?_)
          refine o_q rfl rfl (za3 rfl) ?_
          refine o_q rfl rfl (q_ext rfl rfl) ?_
          refine o_q rfl rfl (q_ext rfl rfl) ?_
          refine o_q rfl rfl (q_asg rfl) ?_
          refine o_q rfl rfl (q_asg rfl) ?_
          refine o_end ?_
          refine za1 ?_
          refine c_seq ?_
          refine za0 ?_
          refine o_q rfl rfl (q_ldB G27 Z27 rfl (fun w h => h.zaa (i := 3) rfl) rfl) ?_
          refine bindE2 h (fun i59 b60 hx58 h => ?_) rfl
          refine o_e rfl (zac 0 Z Try.func42 N42 rfl rfl rfl (fun w P1 hF hB hS hT => impl_DepthOf.calls k i18 A22 c23 l19.length l19 A24 c25 l20.length l20 hB hF (hT 4 _ rfl).row (hT 4 _ rfl).cap (hT 5 _ rfl).row (hT 5 _ rfl).cap _ _ hx58)) (fun _ => ?_)
          refine o_q rfl rfl (za3 rfl) ?_
          refine o_q rfl rfl (q_ext rfl rfl) ?_
          refine o_q rfl rfl (q_ext rfl rfl) ?_
          refine o_q rfl rfl (q_asg rfl) ?_
          refine o_q rfl rfl (q_asg rfl) ?_
          refine o_end ?_
          refine za1 ?_
          refine c_seq ?_
          refine c_seq ?_
          refine za0 ?_
          refine o_q rfl rfl (za3 rfl) ?_
          refine o_q rfl rfl (q_not rfl) ?_
          refine o_q rfl rfl (za3 rfl) ?_
          refine byB b46 (fun hb61 => ?_) (fun hb61 => ?_)
          · replace h := bb_t hb61 h
            refine o_w (za4 rfl rfl rfl (congrArg (fun b => Value.bool (!(b))) hb61)) rfl (za3 rfl) ?_
            refine o_w (za4 rfl rfl rfl (congrArg (fun b => Value.bool (!(b))) hb61)) rfl (q_not rfl) ?_
            refine o_q rfl rfl (zak false (congrArg (fun b => Value.bool (!(b))) hb61) rfl) ?_
            refine o_q rfl rfl (za3 rfl) ?_
            refine byB b50 (fun hb62 => ?_) (fun hb62 => ?_)
            · replace h := bb_t hb62 h
              refine o_w (za4 rfl rfl rfl (congrArg (fun b => Value.bool (!(b))) hb62)) rfl (za3 rfl) ?_
              refine o_w (za4 rfl rfl rfl (congrArg (fun b => Value.bool (!(b))) hb62)) rfl (q_not rfl) ?_
              refine o_q rfl rfl (zak false (congrArg (fun b => Value.bool (!(b))) hb62) rfl) ?_
              refine o_q rfl rfl (za3 rfl) ?_
              refine byB b54 (fun hb63 => ?_) (fun hb63 => ?_)
              · replace h := bb_t hb63 h
                refine o_w (za4 rfl rfl rfl (congrArg (fun b => Value.bool (!(b))) hb63)) rfl (za3 rfl) ?_
                refine o_w (za4 rfl rfl rfl (congrArg (fun b => Value.bool (!(b))) hb63)) rfl (q_not rfl) ?_
                refine o_q rfl rfl (zak false (congrArg (fun b => Value.bool (!(b))) hb63) rfl) ?_
                refine o_q rfl rfl (za3 rfl) ?_
                refine byB b57 (fun hb64 => ?_) (fun hb64 => ?_)
                · replace h := bb_t hb64 h
                  refine o_w (za4 rfl rfl rfl (congrArg (fun b => Value.bool (!(b))) hb64)) rfl (za3 rfl) ?_
                  refine o_w (za4 rfl rfl rfl (congrArg (fun b => Value.bool (!(b))) hb64)) rfl (q_not rfl) ?_
                  refine o_q rfl rfl (zak false (congrArg (fun b => Value.bool (!(b))) hb64) rfl) ?_
                  refine o_q rfl rfl (za3 rfl) ?_
                  refine byB b60 (fun hb65 => ?_) (fun hb65 => ?_)
                  · replace h := bb_t hb65 h
                    refine o_w (za4 rfl rfl rfl (congrArg (fun b => Value.bool (!(b))) hb65)) rfl (za3 rfl) ?_
                    refine o_w (za4 rfl rfl rfl (congrArg (fun b => Value.bool (!(b))) hb65)) rfl (q_not rfl) ?_
                    refine o_q rfl rfl (zak false (congrArg (fun b => Value.bool (!(b))) hb65) rfl) ?_
                    refine o_q rfl rfl (za3 rfl) ?_
                    refine byB b45 (fun hb66 => ?_) (fun hb66 => ?_)
                    · replace h := bb_t hb66 h
                      refine o_w (za4 rfl rfl rfl (congrArg (fun b => Value.bool (!(b))) hb66)) rfl (za3 rfl) ?_
                      refine o_w (za4 rfl rfl rfl (congrArg (fun b => Value.bool (!(b))) hb66)) rfl (za3 rfl) ?_
                      refine o_w (za4 rfl rfl rfl (congrArg (fun b => Value.bool (!(b))) hb66)) rfl (q_neq rfl rfl) ?_
                      refine o_q rfl rfl (zak false (congrArg (fun b => Value.bool (!(b))) hb66) rfl) ?_
                      refine o_q rfl rfl (za3 rfl) ?_
                      refine byB (decide (i48 ≠ i52)) (fun hb67 => ?_) (fun hb67 => ?_)
                      · replace h := br_t hb67 h
                        refine @o_n _ _ _ _ _ _ _ _ _ _ _ 116 (za2 rfl rfl rfl (congrArg Value.bool hb67) rfl) (Eq.refl (some 116)) ?_
                        refine @o_n _ _ _ _ _ _ _ _ _ _ _ 117 (za2 rfl rfl rfl (congrArg Value.bool hb67) rfl) (Eq.refl (some 117)) ?_
                        refine @o_n _ _ _ _ _ _ _ _ _ _ _ 118 (za2 rfl rfl rfl (congrArg Value.bool hb67) rfl) (Eq.refl (some 118)) ?_
                        refine o_q rfl rfl (zak true (congrArg Value.bool hb67) rfl) ?_
                        refine o_q rfl rfl (za3 rfl) ?_
                        refine @o_n _ _ _ _ _ _ _ _ _ _ _ 121 (za2 rfl rfl rfl rfl rfl) (Eq.refl (some 121)) ?_
                        refine @o_n _ _ _ _ _ _ _ _ _ _ _ 122 (za2 rfl rfl rfl rfl rfl) (Eq.refl (some 122)) ?_
                        refine @o_n _ _ _ _ _ _ _ _ _ _ _ 123 (za2 rfl rfl rfl rfl rfl) (Eq.refl (some 123)) ?_
                        refine o_q rfl rfl (zak true rfl rfl) ?_
                        refine o_end ?_
                        refine za1 ?_
                        refine zay rfl ?_
                        refine c_seq ?_
                        refine za0 ?_
                        refine o_q rfl rfl (q_asg rfl) ?_
                        refine o_end ?_
                        refine za1 ?_
                        refine c_ret ?_
                        refine za5 ?_
                        have e0_ := Option.some.inj h; clear h
                        subst e0_
                        exact x_r1 () Try.results7 (zaf rfl) rfl (fun w h => za7 [] (by decide) rfl w h)
                      · replace h := br_f hb67 h
                        refine o_w (za4 rfl rfl rfl (congrArg Value.bool hb67)) rfl (za3 rfl) ?_
                        refine o_w (za4 rfl rfl rfl (congrArg Value.bool hb67)) rfl (za3 rfl) ?_
                        refine o_w (za4 rfl rfl rfl (congrArg Value.bool hb67)) rfl (q_neq rfl rfl) ?_
                        refine o_q rfl rfl (zak false (congrArg Value.bool hb67) rfl) ?_
                        refine o_q rfl rfl (za3 rfl) ?_
                        refine byB (decide (i49 ≠ i53)) (fun hb68 => ?_) (fun hb68 => ?_)
                        · replace h := br_t hb68 h
                          refine @o_n _ _ _ _ _ _ _ _ _ _ _ 121 (za2 rfl rfl rfl (congrArg Value.bool hb68) rfl) (Eq.refl (some 121)) ?_
                          refine @o_n _ _ _ _ _ _ _ _ _ _ _ 122 (za2 rfl rfl rfl (congrArg Value.bool hb68) rfl) (Eq.refl (some 122)) ?_
                          refine @o_n _ _ _ _ _ _ _ _ _ _ _ 123 (za2 rfl rfl rfl (congrArg Value.bool hb68) rfl) (Eq.refl (some 123)) ?_
                          refine o_q rfl rfl (zak true (congrArg Value.bool hb68) rfl) ?_
                          refine o_end ?_
                          refine za1 ?_
                          refine zay rfl ?_
                          refine c_seq ?_
                          refine za0 ?_
                          refine o_q rfl rfl (q_asg rfl) ?_
                          refine o_end ?_
                          refine za1 ?_
                          refine c_ret ?_
                          refine za5 ?_
                          have e0_ := Option.some.inj h; clear h
                          subst e0_
                          exact x_r1 () Try.results7 (zaf rfl) rfl (fun w h => za7 [] (by decide) rfl w h)
                        · replace h := br_f hb68 h
                          refine o_w (za4 rfl rfl rfl (congrArg Value.bool hb68)) rfl (za3 rfl) ?_
                          refine o_w (za4 rfl rfl rfl (congrArg Value.bool hb68)) rfl (za3 rfl) ?_
                          refine o_w (za4 rfl rfl rfl (congrArg Value.bool hb68)) rfl (q_neq rfl rfl) ?_
                          refine o_q rfl rfl (zak false (congrArg Value.bool hb68) rfl) ?_
                          refine o_end ?_
                          refine za1 ?_
                          refine zas _ rfl (fun hb69 => ?_) (fun hb69 => ?_)
                          · skip
                            replace h := br_t hb69 h
                            refine c_seq ?_
                            refine za0 ?_
                            refine o_q rfl rfl (q_asg rfl) ?_
                            refine o_end ?_
                            refine za1 ?_
                            refine c_ret ?_
                            refine za5 ?_
                            have e0_ := Option.some.inj h; clear h
                            subst e0_
                            exact x_r1 () Try.results7 (zaf rfl) rfl (fun w h => za7 [] (by decide) rfl w h)
                          · skip
                            replace h := br_f hb69 h
                            refine zao ?_
                            refine za1 ?_
                            refine c_seq ?_
                            refine c_seq ?_
                            refine za0 ?_
                            refine o_q rfl rfl (za3 rfl) ?_
                            refine o_q rfl rfl (q_len Try.underlying25 rfl) ?_
                            refine o_q rfl rfl (za3 rfl) ?_
                            refine o_end ?_
                            refine za1 ?_
                            refine zal ?_
                            refine za9 h (fun o78 hl77 hR76 => ?_) rfl
                            clear h
                            refine c_fact (p := l8.length ≤ 9223372036854775807) (fun w h => (h.zb0 (i := 9) rfl).2.1) (fun hm75 => ?_)
                            refine zax (σ := (List Int) × Int) (fun k73 ((ys72, i70) : (List Int) × Int) => Rg l8 i70 ys72 ∧ ys72.length = k73 ∧ laws_FnReorderedPlans.l0 k i5 l6 l7 i18 l19 l20 ys72 i70 = some o78) [4, 23, 24, 25, 26, 27, 28, 127, 128, 129, 130, 131, 132, 133, 134, 135, 136, 137, 138, 139, 140, 141, 142, 143, 144, 145, 146, 147, 148, 149, 150, 151, 152, 153, 154, 155, 156, 157, 158, 159, 160, 161, 162] (fun ((ys72, i70) : (List Int) × Int) => [(127, .int .i64 i70)]) (fun ((ys72, i70) : (List Int) × Int) => [box g37 27 #[.int .i64 i29, .slice A33 l30.length c34, .slice A35 l31.length c36], row kStep 89 (.slice A33 l30.length c34) l30, row (Kd.int .i64) 3 (.slice A35 l31.length c36) l31, box g26 27 #[.int .i64 i18, .slice A22 l19.length c23, .slice A24 l20.length c25], row kStep 89 (.slice A22 l19.length c23) l19, row (Kd.int .i64) 3 (.slice A24 l20.length c25) l20, box g15 27 #[.int .i64 i5, .slice A9 l6.length c10, .slice A11 l7.length c12], row kStep 89 (.slice A9 l6.length c10) l6, row (Kd.int .i64) 3 (.slice A11 l7.length c12) l7, row (Kd.int .i64) 3 (.slice A13 l8.length c14) l8]) l8.length (l8, 0) ⟨Rg.start _, rfl, hl77⟩ ⟨rfl, trivial⟩ (fun w h => h) ?_
                            refine fun k73 => cur2 (listC (fun i70 U79 hJ_ => ?_) (fun y71 ys72 i70 U79 hJ_ => ?_))
                            · skip
                              clear hl77
                              have hr74 := hJ_.1; have hk80 := hJ_.2.1; have h := hJ_.2.2; clear hJ_
                              replace h : laws_FnReorderedPlans.l0 k i5 l6 l7 i18 l19 l20 [] i70 = some o78 := h
                              rw [laws_FnReorderedPlans.l0] at h
                              refine c_seq ?_
                              refine za0 ?_
                              refine o_q rfl rfl (q_lss rfl rfl) ?_
                              refine o_end ?_
                              refine za1 ?_
                              refine c_seq ?_
                              refine c_false (congrArg Value.bool hr74.ge) ?_
                              refine c_exit ?_
                              refine za8 ?_
                              refine za8 ?_
                              have e_ := Option.some.inj h; replace h := hR76; rw [← e_] at h; clear e_
                              refine x_hit ?_
                              refine za1 ?_
                              refine c_seq ?_
                              refine za0 ?_
                              refine o_q rfl rfl (q_asg rfl) ?_
                              refine o_end ?_
                              refine za1 ?_
                              refine c_ret ?_
                              have e0_ := Option.some.inj h; clear h
                              subst e0_
                              exact x_r1 () Try.results7 (zaf rfl) rfl (fun w h => za7 [] (by decide) rfl w h)
                            · skip
                              clear hl77
                              have hr74 := hJ_.1; have hk80 := hJ_.2.1; have h := hJ_.2.2; clear hJ_
                              replace h : laws_FnReorderedPlans.l0 k i5 l6 l7 i18 l19 l20 (y71 :: ys72) i70 = some o78 := h
                              rw [laws_FnReorderedPlans.l0] at h
                              refine c_seq ?_
                              refine za0 ?_
                              refine o_q rfl rfl (q_lss rfl rfl) ?_
                              refine o_end ?_
                              refine za1 ?_
                              refine c_seq ?_
                              refine zay (congrArg Value.bool hr74.lt) ?_
                              refine zao ?_
                              refine za1 ?_
                              refine c_seq ?_
                              refine zal ?_
                              refine c_seq ?_
                              refine za0 ?_
                              refine o_q rfl rfl (za3 rfl) ?_
                              refine o_fact (p := Sh A13 l8.length l8.length) (fun w h => f_sh (dk := (Kd.int .i64)) h (fun w h => h.zb0 (i := 9) rfl)) (fun hq81 => ?_)
                              refine o_q rfl rfl (q_ix Try.underlying25 Z3 rfl rfl hq81 hr74.get) ?_
                              refine o_q rfl rfl (q_lde (off := 0) Y3 rfl rfl (fun w h => h.zb0 (i := 9) rfl) hr74.get (fun _ _ h => h) rfl) ?_
                              refine o_q rfl rfl (q_asg rfl) ?_
                              refine o_q rfl rfl (q_asg rfl) ?_
                              refine o_end ?_
                              refine za1 ?_
                              refine c_seq ?_
                              refine za0 ?_
                              refine o_q rfl rfl (q_ldB G27 Z27 rfl (fun w h => h.zaa (i := 6) rfl) rfl) ?_
                              refine o_q rfl rfl (q_f F27_0 rfl) ?_
                              refine o_q rfl rfl (q_ldb Y3 rfl (fun w h => h.zaa (i := 6) rfl) rfl) ?_
                              refine o_q rfl rfl (za3 rfl) ?_
                              refine o_q rfl rfl (q_add64 rfl rfl) ?_
                              refine bindE2 h (fun l83 b84 hx82 h => ?_) rfl
                              refine o_e rfl (zac 0 Z Try.func43 N43 rfl rfl rfl (fun w P1 hF hB hS hT => impl_ValueExponents.calls k i5 A9 c10 l6.length l6 A11 c12 l7.length l7 (w64 (i5 + y71)) hB hF (hT 7 _ rfl).row (hT 7 _ rfl).cap (hT 8 _ rfl).row (hT 8 _ rfl).cap _ _ hx82)) (cur2 (fun A85 c86 => ?_))
                              refine o_q rfl rfl (za3 rfl) ?_
                              refine o_q rfl rfl (q_ext rfl rfl) ?_
                              refine o_q rfl rfl (q_ext rfl rfl) ?_
                              refine o_q rfl rfl (q_asg rfl) ?_
                              refine o_q rfl rfl (q_asg rfl) ?_
                              refine o_end ?_
                              refine za1 ?_
                              refine c_seq ?_
                              refine za0 ?_
                              refine o_q rfl rfl (q_ldB G27 Z27 rfl (fun w h => h.zaa (i := 4) rfl) rfl) ?_
                              refine o_q rfl rfl (q_f F27_0 rfl) ?_
                              refine o_q rfl rfl (q_ldb Y3 rfl (fun w h => h.zaa (i := 7) rfl) rfl) ?_
                              refine o_q rfl rfl (za3 rfl) ?_
                              refine o_q rfl rfl (q_add64 rfl rfl) ?_
                              refine bindE2 h (fun l88 b89 hx87 h => ?_) rfl
                              refine o_e rfl (zac 0 Z Try.func43 N43 rfl rfl rfl (fun w P1 hF hB hS hT => impl_ValueExponents.calls k i18 A22 c23 l19.length l19 A24 c25 l20.length l20 (w64 (i5 + i70)) hB hF (hT 5 _ rfl).row (hT 5 _ rfl).cap (hT 6 _ rfl).row (hT 6 _ rfl).cap _ _ hx87)) (cur2 (fun A90 c91 => ?_))
                              refine o_q rfl rfl (za3 rfl) ?_
                              refine o_q rfl rfl (q_ext rfl rfl) ?_
                              refine o_q rfl rfl (q_ext rfl rfl) ?_
                              refine o_q rfl rfl (q_asg rfl) ?_
                              refine o_q rfl rfl (q_asg rfl) ?_
                              refine o_end ?_
                              refine za1 ?_
                              refine c_seq ?_
                              refine za0 ?_
                              refine o_q rfl rfl (za3 rfl) ?_
                              refine o_q rfl rfl (q_not rfl) ?_
                              refine o_q rfl rfl (za3 rfl) ?_
                              refine byB b84 (fun hb92 => ?_) (fun hb92 => ?_)
                              · replace h := bb_t hb92 h
                                refine o_w (za4 rfl rfl rfl (congrArg (fun b => Value.bool (!(b))) hb92)) rfl (za3 rfl) ?_
                                refine o_w (za4 rfl rfl rfl (congrArg (fun b => Value.bool (!(b))) hb92)) rfl (q_not rfl) ?_
                                refine o_q rfl rfl (zak false (congrArg (fun b => Value.bool (!(b))) hb92) rfl) ?_
                                refine o_q rfl rfl (za3 rfl) ?_
                                refine byB b89 (fun hb93 => ?_) (fun hb93 => ?_)
                                · replace h := bb_t hb93 h
                                  refine o_w (za4 rfl rfl rfl (congrArg (fun b => Value.bool (!(b))) hb93)) rfl (za3 rfl) ?_
                                  refine o_w (za4 rfl rfl rfl (congrArg (fun b => Value.bool (!(b))) hb93)) rfl (za3 rfl) ?_
                                  refine za9 h (fun b95 hx94 h => ?_) rfl
                                  refine o_ew (za4 rfl rfl rfl (congrArg (fun b => Value.bool (!(b))) hb93)) (zac 0 Z Try.func21 N21 rfl rfl rfl (fun w P1 hF hB hS hT => laws_pSameInts.calls A85 c86 l83.length l83 A90 c91 l88.length l88 hB hF (hT 1 _ rfl).row (hT 1 _ rfl).cap (hT 0 _ rfl).row (hT 0 _ rfl).cap _ hx94)) (fun _ => ?_)
                                  refine o_w (za4 rfl rfl rfl (congrArg (fun b => Value.bool (!(b))) hb93)) rfl (q_not rfl) ?_
                                  refine o_q rfl rfl (zak false (congrArg (fun b => Value.bool (!(b))) hb93) rfl) ?_
                                  refine o_end ?_
                                  refine za1 ?_
                                  refine zas _ rfl (fun hb96 => ?_) (fun hb96 => ?_)
                                  · replace hb96 := nt_t hb96
                                    replace h := bb_f hb96 h
                                    refine c_seq ?_
                                    refine za0 ?_
                                    refine o_q rfl rfl (q_asg rfl) ?_
                                    refine o_end ?_
                                    refine za1 ?_
                                    refine c_ret ?_
                                    refine zah ?_
                                    refine za5 ?_
                                    refine za5 ?_
                                    have e_ := Option.some.inj h; replace h := hR76; rw [← e_] at h; clear e_
                                    refine zah ?_
                                    refine za5 ?_
                                    have e0_ := Option.some.inj h; clear h
                                    subst e0_
                                    exact x_r1 () Try.results7 (zaf rfl) rfl (fun w h => za7 [] (by decide) rfl w h)
                                  · replace hb96 := nt_f hb96
                                    replace h := bb_t hb96 h
                                    refine zao ?_
                                    refine zan ?_
                                    refine za1 ?_
                                    refine za0 ?_
                                    refine o_q rfl rfl (q_up rfl rfl (hr74.up hm75)) ?_
                                    refine o_q rfl rfl (za3 rfl) ?_
                                    refine o_end ?_
                                    refine zam ys72.length (ys72, i70 + 1) (by rw [← hk80]; exact Nat.lt_succ_self _) ⟨hr74.step, rfl, h⟩ ⟨rfl, trivial⟩ (fun w h => za7 [2, 3, 4, 5, 6, 7, 8, 9, 10, 11] (by decide) rfl w h) ?_
                                    repeat (first | exact zad _ _ | refine zai rfl ?_ | refine zae rfl ?_ | refine zaj rfl ?_)
                                · replace h := bb_f hb93 h
                                  refine @o_n _ _ _ _ _ _ _ _ _ _ _ 157 (za2 rfl rfl rfl (congrArg (fun b => Value.bool (!(b))) hb93) rfl) (Eq.refl (some 157)) ?_
                                  refine @o_n _ _ _ _ _ _ _ _ _ _ _ 158 (za2 rfl rfl rfl (congrArg (fun b => Value.bool (!(b))) hb93) rfl) (Eq.refl (some 158)) ?_
                                  refine @o_n _ _ _ _ _ _ _ _ _ _ _ 159 (za2 rfl rfl rfl (congrArg (fun b => Value.bool (!(b))) hb93) rfl) (Eq.refl (some 159)) ?_
                                  refine @o_n _ _ _ _ _ _ _ _ _ _ _ 160 (za2 rfl rfl rfl (congrArg (fun b => Value.bool (!(b))) hb93) rfl) (Eq.refl (some 160)) ?_
                                  refine o_q rfl rfl (zak true (congrArg (fun b => Value.bool (!(b))) hb93) rfl) ?_
                                  refine o_end ?_
                                  refine za1 ?_
                                  refine zay rfl ?_
                                  refine c_seq ?_
                                  refine za0 ?_
                                  refine o_q rfl rfl (q_asg rfl) ?_
                                  refine o_end ?_
                                  refine za1 ?_
                                  refine c_ret ?_
                                  refine zah ?_
                                  refine za5 ?_
                                  refine za5 ?_
                                  have e_ := Option.some.inj h; replace h := hR76; rw [← e_] at h; clear e_
                                  refine zah ?_
                                  refine za5 ?_
                                  have e0_ := Option.some.inj h; clear h
                                  subst e0_
                                  exact x_r1 () Try.results7 (zaf rfl) rfl (fun w h => za7 [] (by decide) rfl w h)
                              · replace h := bb_f hb92 h
                                refine @o_n _ _ _ _ _ _ _ _ _ _ _ 153 (za2 rfl rfl rfl (congrArg (fun b => Value.bool (!(b))) hb92) rfl) (Eq.refl (some 153)) ?_
                                refine @o_n _ _ _ _ _ _ _ _ _ _ _ 154 (za2 rfl rfl rfl (congrArg (fun b => Value.bool (!(b))) hb92) rfl) (Eq.refl (some 154)) ?_
                                refine o_q rfl rfl (zak true (congrArg (fun b => Value.bool (!(b))) hb92) rfl) ?_
                                refine o_q rfl rfl (za3 rfl) ?_
                                refine @o_n _ _ _ _ _ _ _ _ _ _ _ 157 (za2 rfl rfl rfl rfl rfl) (Eq.refl (some 157)) ?_
                                refine @o_n _ _ _ _ _ _ _ _ _ _ _ 158 (za2 rfl rfl rfl rfl rfl) (Eq.refl (some 158)) ?_
                                refine @o_n _ _ _ _ _ _ _ _ _ _ _ 159 (za2 rfl rfl rfl rfl rfl) (Eq.refl (some 159)) ?_
                                refine @o_n _ _ _ _ _ _ _ _ _ _ _ 160 (za2 rfl rfl rfl rfl rfl) (Eq.refl (some 160)) ?_
                                refine o_q rfl rfl (zak true rfl rfl) ?_
                                refine o_end ?_
                                refine za1 ?_
                                refine zay rfl ?_
                                refine c_seq ?_
                                refine za0 ?_
                                refine o_q rfl rfl (q_asg rfl) ?_
                                refine o_end ?_
                                refine za1 ?_
                                refine c_ret ?_
                                refine zah ?_
                                refine za5 ?_
                                refine za5 ?_
                                have e_ := Option.some.inj h; replace h := hR76; rw [← e_] at h; clear e_
                                refine zah ?_
                                refine za5 ?_
                                have e0_ := Option.some.inj h; clear h
                                subst e0_
                                exact x_r1 () Try.results7 (zaf rfl) rfl (fun w h => za7 [] (by decide) rfl w h)
                    · replace h := bb_f hb66 h
                      refine @o_n _ _ _ _ _ _ _ _ _ _ _ 111 (za2 rfl rfl rfl (congrArg (fun b => Value.bool (!(b))) hb66) rfl) (Eq.refl (some 111)) ?_
                      refine @o_n _ _ _ _ _ _ _ _ _ _ _ 112 (za2 rfl rfl rfl (congrArg (fun b => Value.bool (!(b))) hb66) rfl) (Eq.refl (some 112)) ?_
                      refine @o_n _ _ _ _ _ _ _ _ _ _ _ 113 (za2 rfl rfl rfl (congrArg (fun b => Value.bool (!(b))) hb66) rfl) (Eq.refl (some 113)) ?_
                      refine o_q rfl rfl (zak true (congrArg (fun b => Value.bool (!(b))) hb66) rfl) ?_
                      refine o_q rfl rfl (za3 rfl) ?_
                      refine @o_n _ _ _ _ _ _ _ _ _ _ _ 116 (za2 rfl rfl rfl rfl rfl) (Eq.refl (some 116)) ?_
                      refine @o_n _ _ _ _ _ _ _ _ _ _ _ 117 (za2 rfl rfl rfl rfl rfl) (Eq.refl (some 117)) ?_
                      refine @o_n _ _ _ _ _ _ _ _ _ _ _ 118 (za2 rfl rfl rfl rfl rfl) (Eq.refl (some 118)) ?_
                      refine o_q rfl rfl (zak true rfl rfl) ?_
                      refine o_q rfl rfl (za3 rfl) ?_
                      refine @o_n _ _ _ _ _ _ _ _ _ _ _ 121 (za2 rfl rfl rfl rfl rfl) (Eq.refl (some 121)) ?_
                      refine @o_n _ _ _ _ _ _ _ _ _ _ _ 122 (za2 rfl rfl rfl rfl rfl) (Eq.refl (some 122)) ?_
                      refine @o_n _ _ _ _ _ _ _ _ _ _ _ 123 (za2 rfl rfl rfl rfl rfl) (Eq.refl (some 123)) ?_
                      refine o_q rfl rfl (zak true rfl rfl) ?_
                      refine o_end ?_
                      refine za1 ?_
                      refine zay rfl ?_
                      refine c_seq ?_
                      refine za0 ?_
                      refine o_q rfl rfl (q_asg rfl) ?_
                      refine o_end ?_
                      refine za1 ?_
                      refine c_ret ?_
                      refine za5 ?_
                      have e0_ := Option.some.inj h; clear h
                      subst e0_
                      exact x_r1 () Try.results7 (zaf rfl) rfl (fun w h => za7 [] (by decide) rfl w h)
                  · replace h := bb_f hb65 h
                    refine @o_n _ _ _ _ _ _ _ _ _ _ _ 107 (za2 rfl rfl rfl (congrArg (fun b => Value.bool (!(b))) hb65) rfl) (Eq.refl (some 107)) ?_
                    refine @o_n _ _ _ _ _ _ _ _ _ _ _ 108 (za2 rfl rfl rfl (congrArg (fun b => Value.bool (!(b))) hb65) rfl) (Eq.refl (some 108)) ?_
                    refine o_q rfl rfl (zak true (congrArg (fun b => Value.bool (!(b))) hb65) rfl) ?_
                    refine o_q rfl rfl (za3 rfl) ?_
                    refine @o_n _ _ _ _ _ _ _ _ _ _ _ 111 (za2 rfl rfl rfl rfl rfl) (Eq.refl (some 111)) ?_
                    refine @o_n _ _ _ _ _ _ _ _ _ _ _ 112 (za2 rfl rfl rfl rfl rfl) (Eq.refl (some 112)) ?_
                    refine @o_n _ _ _ _ _ _ _ _ _ _ _ 113 (za2 rfl rfl rfl rfl rfl) (Eq.refl (some 113)) ?_
                    refine o_q rfl rfl (zak true rfl rfl) ?_
                    refine o_q rfl rfl (za3 rfl) ?_
                    refine @o_n _ _ _ _ _ _ _ _ _ _ _ 116 (za2 rfl rfl rfl rfl rfl) (Eq.refl (some 116)) ?_
                    refine @o_n _ _ _ _ _ _ _ _ _ _ _ 117 (za2 rfl rfl rfl rfl rfl) (Eq.refl (some 117)) ?_
                    refine @o_n _ _ _ _ _ _ _ _ _ _ _ 118 (za2 rfl rfl rfl rfl rfl) (Eq.refl (some 118)) ?_
                    refine o_q rfl rfl (zak true rfl rfl) ?_
                    refine o_q rfl rfl (za3 rfl) ?_
                    refine @o_n _ _ _ _ _ _ _ _ _ _ _ 121 (za2 rfl rfl rfl rfl rfl) (Eq.refl (some 121)) ?_
                    refine @o_n _ _ _ _ _ _ _ _ _ _ _ 122 (za2 rfl rfl rfl rfl rfl) (Eq.refl (some 122)) ?_
                    refine @o_n _ _ _ _ _ _ _ _ _ _ _ 123 (za2 rfl rfl rfl rfl rfl) (Eq.refl (some 123)) ?_
                    refine o_q rfl rfl (zak true rfl rfl) ?_
                    refine o_end ?_
                    refine za1 ?_
                    refine zay rfl ?_
                    refine c_seq ?_
                    refine za0 ?_
                    refine o_q rfl rfl (q_asg rfl) ?_
                    refine o_end ?_
                    refine za1 ?_
                    refine c_ret ?_
                    refine za5 ?_
                    have e0_ := Option.some.inj h; clear h
                    subst e0_
                    exact x_r1 () Try.results7 (zaf rfl) rfl (fun w h => za7 [] (by decide) rfl w h)
                · replace h := bb_f hb64 h
                  refine @o_n _ _ _ _ _ _ _ _ _ _ _ 103 (za2 rfl rfl rfl (congrArg (fun b => Value.bool (!(b))) hb64) rfl) (Eq.refl (some 103)) ?_
                  refine @o_n _ _ _ _ _ _ _ _ _ _ _ 104 (za2 rfl rfl rfl (congrArg (fun b => Value.bool (!(b))) hb64) rfl) (Eq.refl (some 104)) ?_
                  refine o_q rfl rfl (zak true (congrArg (fun b => Value.bool (!(b))) hb64) rfl) ?_
                  refine o_q rfl rfl (za3 rfl) ?_
                  refine @o_n _ _ _ _ _ _ _ _ _ _ _ 107 (za2 rfl rfl rfl rfl rfl) (Eq.refl (some 107)) ?_
                  refine @o_n _ _ _ _ _ _ _ _ _ _ _ 108 (za2 rfl rfl rfl rfl rfl) (Eq.refl (some 108)) ?_
                  refine o_q rfl rfl (zak true rfl rfl) ?_
                  refine o_q rfl rfl (za3 rfl) ?_
                  refine @o_n _ _ _ _ _ _ _ _ _ _ _ 111 (za2 rfl rfl rfl rfl rfl) (Eq.refl (some 111)) ?_
                  refine @o_n _ _ _ _ _ _ _ _ _ _ _ 112 (za2 rfl rfl rfl rfl rfl) (Eq.refl (some 112)) ?_
                  refine @o_n _ _ _ _ _ _ _ _ _ _ _ 113 (za2 rfl rfl rfl rfl rfl) (Eq.refl (some 113)) ?_
                  refine o_q rfl rfl (zak true rfl rfl) ?_
                  refine o_q rfl rfl (za3 rfl) ?_
                  refine @o_n _ _ _ _ _ _ _ _ _ _ _ 116 (za2 rfl rfl rfl rfl rfl) (Eq.refl (some 116)) ?_
                  refine @o_n _ _ _ _ _ _ _ _ _ _ _ 117 (za2 rfl rfl rfl rfl rfl) (Eq.refl (some 117)) ?_
                  refine @o_n _ _ _ _ _ _ _ _ _ _ _ 118 (za2 rfl rfl rfl rfl rfl) (Eq.refl (some 118)) ?_
                  refine o_q rfl rfl (zak true rfl rfl) ?_
                  refine o_q rfl rfl (za3 rfl) ?_
                  refine @o_n _ _ _ _ _ _ _ _ _ _ _ 121 (za2 rfl rfl rfl rfl rfl) (Eq.refl (some 121)) ?_
                  refine @o_n _ _ _ _ _ _ _ _ _ _ _ 122 (za2 rfl rfl rfl rfl rfl) (Eq.refl (some 122)) ?_
                  refine @o_n _ _ _ _ _ _ _ _ _ _ _ 123 (za2 rfl rfl rfl rfl rfl) (Eq.refl (some 123)) ?_
                  refine o_q rfl rfl (zak true rfl rfl) ?_
                  refine o_end ?_
                  refine za1 ?_
                  refine zay rfl ?_
                  refine c_seq ?_
                  refine za0 ?_
                  refine o_q rfl rfl (q_asg rfl) ?_
                  refine o_end ?_
                  refine za1 ?_
                  refine c_ret ?_
                  refine za5 ?_
                  have e0_ := Option.some.inj h; clear h
                  subst e0_
                  exact x_r1 () Try.results7 (zaf rfl) rfl (fun w h => za7 [] (by decide) rfl w h)
              · replace h := bb_f hb63 h
                refine @o_n _ _ _ _ _ _ _ _ _ _ _ 99 (za2 rfl rfl rfl (congrArg (fun b => Value.bool (!(b))) hb63) rfl) (Eq.refl (some 99)) ?_
                refine @o_n _ _ _ _ _ _ _ _ _ _ _ 100 (za2 rfl rfl rfl (congrArg (fun b => Value.bool (!(b))) hb63) rfl) (Eq.refl (some 100)) ?_
                refine o_q rfl rfl (zak true (congrArg (fun b => Value.bool (!(b))) hb63) rfl) ?_
                refine o_q rfl rfl (za3 rfl) ?_
                refine @o_n _ _ _ _ _ _ _ _ _ _ _ 103 (za2 rfl rfl rfl rfl rfl) (Eq.refl (some 103)) ?_
                refine @o_n _ _ _ _ _ _ _ _ _ _ _ 104 (za2 rfl rfl rfl rfl rfl) (Eq.refl (some 104)) ?_
                refine o_q rfl rfl (zak true rfl rfl) ?_
                refine o_q rfl rfl (za3 rfl) ?_
                refine @o_n _ _ _ _ _ _ _ _ _ _ _ 107 (za2 rfl rfl rfl rfl rfl) (Eq.refl (some 107)) ?_
                refine @o_n _ _ _ _ _ _ _ _ _ _ _ 108 (za2 rfl rfl rfl rfl rfl) (Eq.refl (some 108)) ?_
                refine o_q rfl rfl (zak true rfl rfl) ?_
                refine o_q rfl rfl (za3 rfl) ?_
                refine @o_n _ _ _ _ _ _ _ _ _ _ _ 111 (za2 rfl rfl rfl rfl rfl) (Eq.refl (some 111)) ?_
                refine @o_n _ _ _ _ _ _ _ _ _ _ _ 112 (za2 rfl rfl rfl rfl rfl) (Eq.refl (some 112)) ?_
                refine @o_n _ _ _ _ _ _ _ _ _ _ _ 113 (za2 rfl rfl rfl rfl rfl) (Eq.refl (some 113)) ?_
                refine o_q rfl rfl (zak true rfl rfl) ?_
                refine o_q rfl rfl (za3 rfl) ?_
                refine @o_n _ _ _ _ _ _ _ _ _ _ _ 116 (za2 rfl rfl rfl rfl rfl) (Eq.refl (some 116)) ?_
                refine @o_n _ _ _ _ _ _ _ _ _ _ _ 117 (za2 rfl rfl rfl rfl rfl) (Eq.refl (some 117)) ?_
                refine @o_n _ _ _ _ _ _ _ _ _ _ _ 118 (za2 rfl rfl rfl rfl rfl) (Eq.refl (some 118)) ?_
                refine o_q rfl rfl (zak true rfl rfl) ?_
                refine o_q rfl rfl (za3 rfl) ?_
                refine @o_n _ _ _ _ _ _ _ _ _ _ _ 121 (za2 rfl rfl rfl rfl rfl) (Eq.refl (some 121)) ?_
                refine @o_n _ _ _ _ _ _ _ _ _ _ _ 122 (za2 rfl rfl rfl rfl rfl) (Eq.refl (some 122)) ?_
                refine @o_n _ _ _ _ _ _ _ _ _ _ _ 123 (za2 rfl rfl rfl rfl rfl) (Eq.refl (some 123)) ?_
                refine o_q rfl rfl (zak true rfl rfl) ?_
                refine o_end ?_
                refine za1 ?_
                refine zay rfl ?_
                refine c_seq ?_
                refine za0 ?_
                refine o_q rfl rfl (q_asg rfl) ?_
                refine o_end ?_
                refine za1 ?_
                refine c_ret ?_
                refine za5 ?_
                have e0_ := Option.some.inj h; clear h
                subst e0_
                exact x_r1 () Try.results7 (zaf rfl) rfl (fun w h => za7 [] (by decide) rfl w h)
            · replace h := bb_f hb62 h
              refine @o_n _ _ _ _ _ _ _ _ _ _ _ 95 (za2 rfl rfl rfl (congrArg (fun b => Value.bool (!(b))) hb62) rfl) (Eq.refl (some 95)) ?_
              refine @o_n _ _ _ _ _ _ _ _ _ _ _ 96 (za2 rfl rfl rfl (congrArg (fun b => Value.bool (!(b))) hb62) rfl) (Eq.refl (some 96)) ?_
              refine o_q rfl rfl (zak true (congrArg (fun b => Value.bool (!(b))) hb62) rfl) ?_
              refine o_q rfl rfl (za3 rfl) ?_
              refine @o_n _ _ _ _ _ _ _ _ _ _ _ 99 (za2 rfl rfl rfl rfl rfl) (Eq.refl (some 99)) ?_
              refine @o_n _ _ _ _ _ _ _ _ _ _ _ 100 (za2 rfl rfl rfl rfl rfl) (Eq.refl (some 100)) ?_
              refine o_q rfl rfl (zak true rfl rfl) ?_
              refine o_q rfl rfl (za3 rfl) ?_
              refine @o_n _ _ _ _ _ _ _ _ _ _ _ 103 (za2 rfl rfl rfl rfl rfl) (Eq.refl (some 103)) ?_
              refine @o_n _ _ _ _ _ _ _ _ _ _ _ 104 (za2 rfl rfl rfl rfl rfl) (Eq.refl (some 104)) ?_
              refine o_q rfl rfl (zak true rfl rfl) ?_
              refine o_q rfl rfl (za3 rfl) ?_
              refine @o_n _ _ _ _ _ _ _ _ _ _ _ 107 (za2 rfl rfl rfl rfl rfl) (Eq.refl (some 107)) ?_
              refine @o_n _ _ _ _ _ _ _ _ _ _ _ 108 (za2 rfl rfl rfl rfl rfl) (Eq.refl (some 108)) ?_
              refine o_q rfl rfl (zak true rfl rfl) ?_
              refine o_q rfl rfl (za3 rfl) ?_
              refine @o_n _ _ _ _ _ _ _ _ _ _ _ 111 (za2 rfl rfl rfl rfl rfl) (Eq.refl (some 111)) ?_
              refine @o_n _ _ _ _ _ _ _ _ _ _ _ 112 (za2 rfl rfl rfl rfl rfl) (Eq.refl (some 112)) ?_
              refine @o_n _ _ _ _ _ _ _ _ _ _ _ 113 (za2 rfl rfl rfl rfl rfl) (Eq.refl (some 113)) ?_
              refine o_q rfl rfl (zak true rfl rfl) ?_
              refine o_q rfl rfl (za3 rfl) ?_
              refine @o_n _ _ _ _ _ _ _ _ _ _ _ 116 (za2 rfl rfl rfl rfl rfl) (Eq.refl (some 116)) ?_
              refine @o_n _ _ _ _ _ _ _ _ _ _ _ 117 (za2 rfl rfl rfl rfl rfl) (Eq.refl (some 117)) ?_
              refine @o_n _ _ _ _ _ _ _ _ _ _ _ 118 (za2 rfl rfl rfl rfl rfl) (Eq.refl (some 118)) ?_
              refine o_q rfl rfl (zak true rfl rfl) ?_
              refine o_q rfl rfl (za3 rfl) ?_
              refine @o_n _ _ _ _ _ _ _ _ _ _ _ 121 (za2 rfl rfl rfl rfl rfl) (Eq.refl (some 121)) ?_
              refine @o_n _ _ _ _ _ _ _ _ _ _ _ 122 (za2 rfl rfl rfl rfl rfl) (Eq.refl (some 122)) ?_
              refine @o_n _ _ _ _ _ _ _ _ _ _ _ 123 (za2 rfl rfl rfl rfl rfl) (Eq.refl (some 123)) ?_
              refine o_q rfl rfl (zak true rfl rfl) ?_
              refine o_end ?_
              refine za1 ?_
              refine zay rfl ?_
              refine c_seq ?_
              refine za0 ?_
              refine o_q rfl rfl (q_asg rfl) ?_
              refine o_end ?_
              refine za1 ?_
              refine c_ret ?_
              refine za5 ?_
              have e0_ := Option.some.inj h; clear h
              subst e0_
              exact x_r1 () Try.results7 (zaf rfl) rfl (fun w h => za7 [] (by decide) rfl w h)
          · replace h := bb_f hb61 h
            refine @o_n _ _ _ _ _ _ _ _ _ _ _ 91 (za2 rfl rfl rfl (congrArg (fun b => Value.bool (!(b))) hb61) rfl) (Eq.refl (some 91)) ?_
            refine @o_n _ _ _ _ _ _ _ _ _ _ _ 92 (za2 rfl rfl rfl (congrArg (fun b => Value.bool (!(b))) hb61) rfl) (Eq.refl (some 92)) ?_
            refine o_q rfl rfl (zak true (congrArg (fun b => Value.bool (!(b))) hb61) rfl) ?_
            refine o_q rfl rfl (za3 rfl) ?_
            refine @o_n _ _ _ _ _ _ _ _ _ _ _ 95 (za2 rfl rfl rfl rfl rfl) (Eq.refl (some 95)) ?_
            refine @o_n _ _ _ _ _ _ _ _ _ _ _ 96 (za2 rfl rfl rfl rfl rfl) (Eq.refl (some 96)) ?_
            refine o_q rfl rfl (zak true rfl rfl) ?_
            refine o_q rfl rfl (za3 rfl) ?_
            refine @o_n _ _ _ _ _ _ _ _ _ _ _ 99 (za2 rfl rfl rfl rfl rfl) (Eq.refl (some 99)) ?_
            refine @o_n _ _ _ _ _ _ _ _ _ _ _ 100 (za2 rfl rfl rfl rfl rfl) (Eq.refl (some 100)) ?_
            refine o_q rfl rfl (zak true rfl rfl) ?_
            refine o_q rfl rfl (za3 rfl) ?_
            refine @o_n _ _ _ _ _ _ _ _ _ _ _ 103 (za2 rfl rfl rfl rfl rfl) (Eq.refl (some 103)) ?_
            refine @o_n _ _ _ _ _ _ _ _ _ _ _ 104 (za2 rfl rfl rfl rfl rfl) (Eq.refl (some 104)) ?_
            refine o_q rfl rfl (zak true rfl rfl) ?_
            refine o_q rfl rfl (za3 rfl) ?_
            refine @o_n _ _ _ _ _ _ _ _ _ _ _ 107 (za2 rfl rfl rfl rfl rfl) (Eq.refl (some 107)) ?_
            refine @o_n _ _ _ _ _ _ _ _ _ _ _ 108 (za2 rfl rfl rfl rfl rfl) (Eq.refl (some 108)) ?_
            refine o_q rfl rfl (zak true rfl rfl) ?_
            refine o_q rfl rfl (za3 rfl) ?_
            refine @o_n _ _ _ _ _ _ _ _ _ _ _ 111 (za2 rfl rfl rfl rfl rfl) (Eq.refl (some 111)) ?_
            refine @o_n _ _ _ _ _ _ _ _ _ _ _ 112 (za2 rfl rfl rfl rfl rfl) (Eq.refl (some 112)) ?_
            refine @o_n _ _ _ _ _ _ _ _ _ _ _ 113 (za2 rfl rfl rfl rfl rfl) (Eq.refl (some 113)) ?_
            refine o_q rfl rfl (zak true rfl rfl) ?_
            refine o_q rfl rfl (za3 rfl) ?_
            refine @o_n _ _ _ _ _ _ _ _ _ _ _ 116 (za2 rfl rfl rfl rfl rfl) (Eq.refl (some 116)) ?_
            refine @o_n _ _ _ _ _ _ _ _ _ _ _ 117 (za2 rfl rfl rfl rfl rfl) (Eq.refl (some 117)) ?_
            refine @o_n _ _ _ _ _ _ _ _ _ _ _ 118 (za2 rfl rfl rfl rfl rfl) (Eq.refl (some 118)) ?_
            refine o_q rfl rfl (zak true rfl rfl) ?_
            refine o_q rfl rfl (za3 rfl) ?_
            refine @o_n _ _ _ _ _ _ _ _ _ _ _ 121 (za2 rfl rfl rfl rfl rfl) (Eq.refl (some 121)) ?_
            refine @o_n _ _ _ _ _ _ _ _ _ _ _ 122 (za2 rfl rfl rfl rfl rfl) (Eq.refl (some 122)) ?_
            refine @o_n _ _ _ _ _ _ _ _ _ _ _ 123 (za2 rfl rfl rfl rfl rfl) (Eq.refl (some 123)) ?_
            refine o_q rfl rfl (zak true rfl rfl) ?_
            refine o_end ?_
            refine za1 ?_
            refine zay rfl ?_
            refine c_seq ?_
            refine za0 ?_
            refine o_q rfl rfl (q_asg rfl) ?_
            refine o_end ?_
            refine za1 ?_
            refine c_ret ?_
            refine za5 ?_
            have e0_ := Option.some.inj h; clear h
            subst e0_
            exact x_r1 () Try.results7 (zaf rfl) rfl (fun w h => za7 [] (by decide) rfl w h)

end Go.Proofs.Ytoegbcbdiggbjaa.RO
