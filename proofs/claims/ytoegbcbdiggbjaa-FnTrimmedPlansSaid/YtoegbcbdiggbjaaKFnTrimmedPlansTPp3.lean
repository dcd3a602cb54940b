import Derived.Test.YtoegbcbdiggbjaaKFnTrimmedPlansTPp2
namespace Go.Proofs.Ytoegbcbdiggbjaa.TP
open Go.RowKit Go.Proofs.Ytoegbcbdiggbjaa.Frame Go.Proofs.YtoegbcbdiggbjaaW.PrintLast Go.Proofs.Ytoegbcbdiggbjaa.Hand
open Go.Proofs.YtoegbcbdiggbjaaW.PrintWords hiding mn mx
set_option linter.unusedVariables false
/-! ### loop.example/g01098/spec.plPlace: function 185 -/
def spec_plPlace.l0 (a1 : Int) : (List Int) → Int → Option ((Int) ⊕ (Unit))
  | [], i1 => some (.inr ())
  | y2 :: ys3, i1 => if y2 = a1 then (some (.inl i1)) else (spec_plPlace.l0 a1 ys3 (i1 + 1))
def spec_plPlace.f (l0 : List Int) (a1 : Int) : Option Int := (spec_plPlace.l0 a1 l0 0).bind fun o_ => match o_ with | .inl r_ => some r_ | .inr _ => some (-1)
set_option maxHeartbeats 600000 in
set_option maxRecDepth 100000 in
theorem spec_plPlace.calls {w0 ws : World} {P0 : Nat → Prop} (A0 : Option Addr) (c0 : Nat) (n0 : Nat) (l0 : List Int) (a1 : Int) (Z : Below w0.heap.size w0 ws) (hF : Fr w0 ws P0 [] ws) (R0 : Stable ws P0 (fun w => Kd.C (Kd.int .i64) w A0 n0 l0)) (hc0 : n0 ≤ c0) (r_1 : Int) (h : spec_plPlace.f l0 a1 = some r_1) :
    Calls Try.prog 185 #[.slice A0 n0 c0, .int .i64 a1] ws (Post1 w0 ws P0 (fun (_ : Unit) => .int .i64 r_1) (fun (_ : Unit) => [])) := by
  unfold spec_plPlace.f at h
  obtain rfl := (R0 ws (KeptB.refl _ _)).1
  refine enter Try.func185 rfl Try.ntmps185 rfl hF ?_
  refine c_seq ?_
  refine za0 ?_
  refine o_q rfl rfl (q_asg rfl) ?_
  refine o_end ?_
  refine za2 ?_
  refine c_seq ?_
  refine c_seq ?_
  refine za0 ?_
  refine o_q rfl rfl (za3 rfl) ?_
  refine o_q rfl rfl (q_len Try.underlying25 rfl) ?_
  refine o_q rfl rfl (za3 rfl) ?_
  refine o_end ?_
  refine za2 ?_
  refine zak ?_
  refine za9 h (fun o9 hl8 hR7 => ?_) rfl
  clear h
  refine c_fact (p := l0.length ≤ 9223372036854775807) (fun w h => (R0.now Z h).2.1) (fun hm6 => ?_)
  refine zay (σ := (List Int) × Int) (fun k4 ((ys3, i1) : (List Int) × Int) => Rg l0 i1 ys3 ∧ ys3.length = k4 ∧ spec_plPlace.l0 a1 ys3 i1 = some o9) [4, 5, 6, 9, 10, 11, 12, 13, 14, 15, 16, 17, 18] (fun ((ys3, i1) : (List Int) × Int) => [(9, .int .i64 i1)]) (fun ((ys3, i1) : (List Int) × Int) => []) l0.length (l0, 0) ⟨Rg.start _, rfl, hl8⟩ ⟨rfl, trivial⟩ (fun w h => h) ?_
  refine fun k4 => cur2 (listC (fun i1 U10 hJ_ => ?_) (fun y2 ys3 i1 U10 hJ_ => ?_))
  · skip
    clear hl8
    have hr5 := hJ_.1; have hk11 := hJ_.2.1; have h := hJ_.2.2; clear hJ_
    replace h : spec_plPlace.l0 a1 [] i1 = some o9 := h
    rw [spec_plPlace.l0] at h
    refine c_seq ?_
    refine za0 ?_
    refine o_q rfl rfl (q_lss rfl rfl) ?_
    refine o_end ?_
    refine za2 ?_
    refine c_seq ?_
    refine c_false (congrArg Value.bool hr5.ge) ?_
    refine c_exit ?_
    refine za6 ?_
    refine za6 ?_
    have e_ := Option.some.inj h; replace h := hR7; rw [← e_] at h; clear e_
    refine x_hit ?_
    refine za2 ?_
    refine c_seq ?_
    refine za0 ?_
    refine o_q rfl rfl (q_asg rfl) ?_
    refine o_end ?_
    refine za2 ?_
    refine c_ret ?_
    have e0_ := Option.some.inj h; clear h
    subst e0_
    exact x_r1 () Try.results185 (zaf rfl) rfl (fun w h => za7 [] (by decide) rfl w h)
  · skip
    clear hl8
    have hr5 := hJ_.1; have hk11 := hJ_.2.1; have h := hJ_.2.2; clear hJ_
    replace h : spec_plPlace.l0 a1 (y2 :: ys3) i1 = some o9 := h
    rw [spec_plPlace.l0] at h
    refine c_seq ?_
    refine za0 ?_
    refine o_q rfl rfl (q_lss rfl rfl) ?_
    refine o_end ?_
    refine za2 ?_
    refine c_seq ?_
    refine c_true (congrArg Value.bool hr5.lt) ?_
    refine zao ?_
    refine za2 ?_
    refine c_seq ?_
    refine zak ?_
    refine c_seq ?_
    refine za0 ?_
    refine o_q rfl rfl (za3 rfl) ?_
    refine o_fact (p := Sh A0 l0.length l0.length) (fun w h => f_sh (dk := (Kd.int .i64)) h (fun w h => R0.now Z h)) (fun hq12 => ?_)
    refine o_q rfl rfl (q_ix Try.underlying25 Z3 rfl rfl hq12 hr5.get) ?_
    refine o_q rfl rfl (q_lde (off := 0) Y3 rfl rfl (fun w h => R0.now Z h) hr5.get (fun _ _ h => h) rfl) ?_
    refine o_q rfl rfl (q_asg rfl) ?_
    refine o_q rfl rfl (q_asg rfl) ?_
    refine o_end ?_
    refine za2 ?_
    refine c_seq ?_
    refine za0 ?_
    refine o_q rfl rfl (za3 rfl) ?_
    refine o_q rfl rfl (za3 rfl) ?_
    refine o_q rfl rfl (q_eql rfl rfl) ?_
    refine o_end ?_
    refine za2 ?_
    refine zas _ rfl (fun hb13 => ?_) (fun hb13 => ?_)
    · skip
      replace h := br_t hb13 h
      refine c_seq ?_
      refine za0 ?_
      refine o_q rfl rfl (za3 rfl) ?_
      refine o_q rfl rfl (q_asg rfl) ?_
      refine o_end ?_
      refine za2 ?_
      refine c_ret ?_
      refine zan ?_
      refine za8 ?_
      refine za8 ?_
      have e_ := Option.some.inj h; replace h := hR7; rw [← e_] at h; clear e_
      refine zan ?_
      refine za8 ?_
      have e0_ := Option.some.inj h; clear h
      subst e0_
      exact x_r1 () Try.results185 (zaf rfl) rfl (fun w h => za7 [] (by decide) rfl w h)
    · skip
      replace h := br_f hb13 h
      refine zao ?_
      refine zam ?_
      refine za2 ?_
      refine za0 ?_
      refine o_q rfl rfl (q_up rfl rfl (hr5.up hm6)) ?_
      refine o_q rfl rfl (za3 rfl) ?_
      refine o_end ?_
      refine zal ys3.length (ys3, i1 + 1) (by rw [← hk11]; exact Nat.lt_succ_self _) ⟨hr5.step, rfl, h⟩ ⟨rfl, trivial⟩ (fun w h => za7 [] (by decide) rfl w h) ?_
      repeat (first | exact zad _ _ | refine zai rfl ?_ | refine zae rfl ?_ | refine zaj rfl ?_)

/-! ### loop.example/g01098/spec.plNumber: function 188 -/
def spec_plNumber.f (a0_0 : Int) (l0_1 : List SStep) (l0_2 : List Int) (l1 : List Int) (a2 : Int) : Option Int := if a2 < a0_0 then (some a2) else ((spec_plPlace.f l1 (w64 (a2 - a0_0))).bind fun i5 => some (w64 (a0_0 + i5)))
set_option maxHeartbeats 600000 in
set_option maxRecDepth 100000 in
theorem spec_plNumber.calls {w0 ws : World} {P0 : Nat → Prop} (a0_0 : Int) (A0_1 : Option Addr) (c0_1 : Nat) (n0_1 : Nat) (l0_1 : List SStep) (A0_2 : Option Addr) (c0_2 : Nat) (n0_2 : Nat) (l0_2 : List Int) (A1 : Option Addr) (c1 : Nat) (n1 : Nat) (l1 : List Int) (a2 : Int) (Z : Below w0.heap.size w0 ws) (hF : Fr w0 ws P0 [] ws) (R0_1 : Stable ws P0 (fun w => Kd.C kStep w A0_1 n0_1 l0_1)) (hc0_1 : n0_1 ≤ c0_1) (R0_2 : Stable ws P0 (fun w => Kd.C (Kd.int .i64) w A0_2 n0_2 l0_2)) (hc0_2 : n0_2 ≤ c0_2) (R1 : Stable ws P0 (fun w => Kd.C (Kd.int .i64) w A1 n1 l1)) (hc1 : n1 ≤ c1) (r_1 : Int) (h : spec_plNumber.f a0_0 l0_1 l0_2 l1 a2 = some r_1) :
    Calls Try.prog 188 #[.agg #[.int .i64 a0_0, .slice A0_1 n0_1 c0_1, .slice A0_2 n0_2 c0_2], .slice A1 n1 c1, .int .i64 a2] ws (Post1 w0 ws P0 (fun (_ : Unit) => .int .i64 r_1) (fun (_ : Unit) => [])) := by
  unfold spec_plNumber.f at h
  obtain rfl := (R0_1 ws (KeptB.refl _ _)).1
  obtain rfl := (R0_2 ws (KeptB.refl _ _)).1
  obtain rfl := (R1 ws (KeptB.refl _ _)).1
  refine enter Try.func188 rfl Try.ntmps188 rfl hF ?_
  refine c_seq ?_
  refine za0 ?_
  refine o_e rfl (e_box rfl) (fun g1 => ?_)
  refine o_q rfl rfl (q_asg rfl) ?_
  refine o_end ?_
  refine za2 ?_
  refine c_seq ?_
  refine c_seq ?_
  refine za0 ?_
  refine o_q rfl rfl (za3 rfl) ?_
  refine o_q rfl rfl (q_f F27_0 rfl) ?_
  refine o_q rfl rfl (q_ldb Y3 rfl (fun w h => h.zab (i := 0) rfl) rfl) ?_
  refine o_q rfl rfl (q_lss rfl rfl) ?_
  refine o_end ?_
  refine za2 ?_
  refine zas _ rfl (fun hb3 => ?_) (fun hb3 => ?_)
  · skip
    replace h := br_t hb3 h
    refine c_seq ?_
    refine za0 ?_
    refine o_q rfl rfl (za3 rfl) ?_
    refine o_q rfl rfl (q_asg rfl) ?_
    refine o_end ?_
    refine za2 ?_
    refine c_ret ?_
    refine za8 ?_
    have e0_ := Option.some.inj h; clear h
    subst e0_
    exact x_r1 () Try.results188 (zaf rfl) rfl (fun w h => za7 [] (by decide) rfl w h)
  · skip
    replace h := br_f hb3 h
    refine zao ?_
    refine za2 ?_
    refine c_seq ?_
    refine a_start (ds := []) MO rfl ?_
    refine za5 0 rfl rfl rfl (by kernel_rfl) (fun _ _ _ h => h) (q_f F27_0 rfl) ?_
    refine zau 1 rfl rfl rfl (by kernel_rfl) (fun _ _ _ h => h) (fun w h => h) (q_ldb Y3 rfl (fun w h => h.zab (i := 0) rfl) rfl) ?_
    refine za5 2 rfl rfl rfl (by kernel_rfl) (fun _ _ _ h => h) (za3 rfl) ?_
    refine za5 3 rfl rfl rfl (by kernel_rfl) (fun _ _ _ h => h) (za3 rfl) ?_
    refine za5 4 rfl rfl rfl (by kernel_rfl) (fun _ _ _ h => h) (q_f F27_0 rfl) ?_
    refine zau 5 rfl rfl rfl (by kernel_rfl) (fun _ _ _ h => h) (fun w h => h) (q_ldb Y3 rfl (fun w h => h.zab (i := 0) rfl) rfl) ?_
    refine za5 6 rfl rfl rfl (by kernel_rfl) (fun _ _ _ h => h) (q_sub64 rfl rfl) ?_
    refine za9 h (fun i5 hx4 h => ?_) rfl
    refine a_one 7 rfl rfl (by kernel_rfl) rfl (zac 0 Z Try.func185 N185 rfl rfl rfl (fun w P1 hF hB hS hT => spec_plPlace.calls A1 c1 l1.length l1 (w64 (a2 - a0_0)) hB hF (hS _ R1) hc1 _ hx4)) (fun s w h => h) (fun _ => ?_)
    refine za5 8 rfl rfl rfl (by kernel_rfl) (fun _ _ _ h => h) (q_add64 rfl rfl) ?_
    refine za5 9 rfl rfl rfl (by kernel_rfl) (fun _ _ _ h => h) (q_asg rfl) ?_
    refine a_done (by kernel_rfl) ?_
    refine za2 ?_
    refine c_ret ?_
    have e0_ := Option.some.inj h; clear h
    subst e0_
    exact x_r1 () Try.results188 (zaf rfl) rfl (fun w h => za7 [] (by decide) rfl w h)

/-! ### loop.example/g01098/spec.plKeep: function 111 -/
def spec_plKeep.l1 (a0_0 : Int) (l0_1 : List SStep) (l0_2 : List Int) (l1 : List Int) : (List Int) → (List Int) → Int → Option (List Int)
  | [], l23, i26 => some l23
  | y27 :: ys28, l23, i26 => (spec_plNumber.f a0_0 l0_1 l0_2 l1 y27).bind fun i340 => (ap l23 ([i340] : List Int)).bind fun l459 => spec_plKeep.l1 a0_0 l0_1 l0_2 l1 ys28 l459 (i26 + 1)
def spec_plKeep.l0 (a0_0 : Int) (l0_1 : List SStep) (l0_2 : List Int) (l1 : List Int) : (List Int) → (List SStep) → Int → Option (List SStep)
  | [], l8, i11 => some l8
  | y12 :: ys13, l8, i11 => (gt l0_1 y12).bind fun y702 => (spec_plNumber.f a0_0 l0_1 l0_2 l1 y702.f0).bind fun i1067 => (spec_plNumber.f a0_0 l0_1 l0_2 l1 y702.f1).bind fun i1367 => (spec_plStep.f i1067 i1367).bind fun z1427 => (ap l8 ([z1427] : List SStep)).bind fun l1546 => spec_plKeep.l0 a0_0 l0_1 l0_2 l1 ys13 l1546 (i11 + 1)
def spec_plKeep.f (a0_0 : Int) (l0_1 : List SStep) (l0_2 : List Int) (l1 : List Int) : Option ((List SStep) × (List Int)) := (spec_plKeep.l0 a0_0 l0_1 l0_2 l1 l1 ([] : List SStep) 0).bind fun l8 => (spec_plKeep.l1 a0_0 l0_1 l0_2 l1 l0_2 ([] : List Int) 0).bind fun l23 => some (l8, l23)
set_option maxHeartbeats 600000 in
set_option maxRecDepth 100000 in
theorem spec_plKeep.calls {w0 ws : World} {P0 : Nat → Prop} (a0_0 : Int) (A0_1 : Option Addr) (c0_1 : Nat) (n0_1 : Nat) (l0_1 : List SStep) (A0_2 : Option Addr) (c0_2 : Nat) (n0_2 : Nat) (l0_2 : List Int) (A1 : Option Addr) (c1 : Nat) (n1 : Nat) (l1 : List Int) (Z : Below w0.heap.size w0 ws) (hF : Fr w0 ws P0 [] ws) (R0_1 : Stable ws P0 (fun w => Kd.C kStep w A0_1 n0_1 l0_1)) (hc0_1 : n0_1 ≤ c0_1) (R0_2 : Stable ws P0 (fun w => Kd.C (Kd.int .i64) w A0_2 n0_2 l0_2)) (hc0_2 : n0_2 ≤ c0_2) (R1 : Stable ws P0 (fun w => Kd.C (Kd.int .i64) w A1 n1 l1)) (hc1 : n1 ≤ c1) (r_1 : List SStep) (r_4 : List Int) (h : spec_plKeep.f a0_0 l0_1 l0_2 l1 = some (r_1, r_4)) :
    Calls Try.prog 111 #[.agg #[.int .i64 a0_0, .slice A0_1 n0_1 c0_1, .slice A0_2 n0_2 c0_2], .slice A1 n1 c1] ws (Post1 w0 ws P0 (fun ((q_2, q_3, q_5, q_6) : (Option Addr) × Nat × (Option Addr) × Nat) => .agg #[.int .i64 a0_0, .slice q_2 r_1.length q_3, .slice q_5 r_4.length q_6]) (fun ((q_2, q_3, q_5, q_6) : (Option Addr) × Nat × (Option Addr) × Nat) => [row kStep 89 (.slice q_2 r_1.length q_3) r_1, row (Kd.int .i64) 3 (.slice q_5 r_4.length q_6) r_4])) := by
  unfold spec_plKeep.f at h
  obtain rfl := (R0_1 ws (KeptB.refl _ _)).1
  obtain rfl := (R0_2 ws (KeptB.refl _ _)).1
  obtain rfl := (R1 ws (KeptB.refl _ _)).1
  refine enter Try.func111 rfl Try.ntmps111 rfl hF ?_
  refine c_seq ?_
  refine za0 ?_
  refine o_e rfl (e_box rfl) (fun g1 => ?_)
  refine o_e rfl (e_alloc V27 rfl) (fun g3 => ?_)
  refine o_end ?_
  refine za2 ?_
  refine c_seq ?_
  refine za0 ?_
  refine o_q rfl rfl (q_f F27_0 rfl) ?_
  refine o_q rfl rfl (q_ldb Y3 rfl (fun w h => h.zab (i := 1) rfl) rfl) ?_
  refine o_q rfl rfl (q_build (vs := [(0, .int .i64 a0_0)]) (cs := [.int .i64 a0_0, .slice none 0 0, .slice none 0 0]) rfl rfl) ?_
  refine o_e rfl (e_alloc V27 rfl) (fun g5 => ?_)
  refine o_e rfl (zaw (i := 0) rfl rfl rfl Z27 rfl rfl) (fun _ => ?_)
  refine o_end ?_
  refine za2 ?_
  refine c_seq ?_
  refine c_seq ?_
  refine za0 ?_
  refine o_q rfl rfl (za3 rfl) ?_
  refine o_q rfl rfl (q_len Try.underlying25 rfl) ?_
  refine o_q rfl rfl (za3 rfl) ?_
  refine o_end ?_
  refine za2 ?_
  refine zak ?_
  refine c_nil kStep 89 ?_
  refine za9 h (fun o19 hl18 hR17 => ?_) rfl
  clear h
  refine c_fact (p := l1.length ≤ 9223372036854775807) (fun w h => (R1.now Z h).2.1) (fun hm16 => ?_)
  refine zay (σ := (List Int) × (List SStep) × Int × (Option Addr) × Nat) (fun k14 ((ys13, l8, i11, A9, c10) : (List Int) × (List SStep) × Int × (Option Addr) × Nat) => Rg l1 i11 ys13 ∧ ys13.length = k14 ∧ spec_plKeep.l0 a0_0 l0_1 l0_2 l1 ys13 l8 i11 = some o19) [7, 8, 16, 17, 18, 19, 20, 21, 22, 23, 24, 25, 26, 27, 28, 29, 30, 31, 32, 33, 34, 35, 36, 37, 38, 39, 40, 41] (fun ((ys13, l8, i11, A9, c10) : (List Int) × (List SStep) × Int × (Option Addr) × Nat) => [(16, .int .i64 i11)]) (fun ((ys13, l8, i11, A9, c10) : (List Int) × (List SStep) × Int × (Option Addr) × Nat) => [row kStep 89 (.slice A9 l8.length c10) l8, box g5 27 #[.int .i64 a0_0, .slice A9 l8.length c10, .slice none 0 0], box g3 27 #[.int .i64 0, .slice none 0 0, .slice none 0 0], box g1 27 #[.int .i64 a0_0, .slice A0_1 l0_1.length c0_1, .slice A0_2 l0_2.length c0_2]]) l1.length (l1, ([] : List SStep), 0, none, 0) ⟨Rg.start _, rfl, hl18⟩ ⟨rfl, trivial⟩ (fun w h => h) ?_
  refine fun k14 => cur5 (listC (fun l8 i11 A9 c10 U20 hJ_ => ?_) (fun y12 ys13 l8 i11 A9 c10 U20 hJ_ => ?_))
  · skip
    clear hl18
    have hr15 := hJ_.1; have hk21 := hJ_.2.1; have h := hJ_.2.2; clear hJ_
    replace h : spec_plKeep.l0 a0_0 l0_1 l0_2 l1 [] l8 i11 = some o19 := h
    rw [spec_plKeep.l0] at h
    refine c_seq ?_
    refine za0 ?_
    refine o_q rfl rfl (q_lss rfl rfl) ?_
    refine o_end ?_
    refine za2 ?_
    refine c_seq ?_
    refine c_false (congrArg Value.bool hr15.ge) ?_
    refine c_exit ?_
    refine za6 ?_
    refine za6 ?_
    have e_ := Option.some.inj h; replace h := hR17; rw [← e_] at h; clear e_
    refine x_hit ?_
    refine za2 ?_
    refine c_seq ?_
    refine c_seq ?_
    refine za0 ?_
    refine o_q rfl rfl (q_f F27_2 rfl) ?_
    refine o_q rfl rfl (q_ldb Y25 rfl (fun w h => h.zab (i := 3) rfl) rfl) ?_
    refine o_q rfl rfl (q_len Try.underlying25 rfl) ?_
    refine o_q rfl rfl (za3 rfl) ?_
    refine o_end ?_
    refine za2 ?_
    refine zak ?_
    refine c_nil (Kd.int .i64) 3 ?_
    refine za9 h (fun o34 hl33 hR32 => ?_) rfl
    clear h
    refine c_fact (p := l0_2.length ≤ 9223372036854775807) (fun w h => (R0_2.now Z h).2.1) (fun hm31 => ?_)
    refine zay (σ := (List Int) × (List Int) × Int × (Option Addr) × Nat) (fun k29 ((ys28, l23, i26, A24, c25) : (List Int) × (List Int) × Int × (Option Addr) × Nat) => Rg l0_2 i26 ys28 ∧ ys28.length = k29 ∧ spec_plKeep.l1 a0_0 l0_1 l0_2 l1 ys28 l23 i26 = some o34) [10, 45, 46, 47, 48, 49, 50, 51, 52, 53, 54, 55, 56, 57, 58] (fun ((ys28, l23, i26, A24, c25) : (List Int) × (List Int) × Int × (Option Addr) × Nat) => [(45, .int .i64 i26)]) (fun ((ys28, l23, i26, A24, c25) : (List Int) × (List Int) × Int × (Option Addr) × Nat) => [row (Kd.int .i64) 3 (.slice A24 l23.length c25) l23, row kStep 89 (.slice A9 l8.length c10) l8, box g5 27 #[.int .i64 a0_0, .slice A9 l8.length c10, .slice A24 l23.length c25], box g3 27 #[.int .i64 0, .slice none 0 0, .slice none 0 0], box g1 27 #[.int .i64 a0_0, .slice A0_1 l0_1.length c0_1, .slice A0_2 l0_2.length c0_2]]) l0_2.length (l0_2, ([] : List Int), 0, none, 0) ⟨Rg.start _, rfl, hl33⟩ ⟨rfl, trivial⟩ (fun w h => h) ?_
    refine fun k29 => cur5 (listC (fun l23 i26 A24 c25 U35 hJ_ => ?_) (fun y27 ys28 l23 i26 A24 c25 U35 hJ_ => ?_))
    · skip
      clear hl33
      have hr30 := hJ_.1; have hk36 := hJ_.2.1; have h := hJ_.2.2; clear hJ_
      replace h : spec_plKeep.l1 a0_0 l0_1 l0_2 l1 [] l23 i26 = some o34 := h
      rw [spec_plKeep.l1] at h
      refine c_seq ?_
      refine za0 ?_
      refine o_q rfl rfl (q_lss rfl rfl) ?_
      refine o_end ?_
      refine za2 ?_
      refine c_seq ?_
      refine c_false (congrArg Value.bool hr30.ge) ?_
      refine c_exit ?_
      refine za6 ?_
      refine za6 ?_
      have e_ := Option.some.inj h; replace h := hR32; rw [← e_] at h; clear e_
      refine x_hit ?_
      refine za2 ?_
      refine c_seq ?_
      refine za0 ?_
      refine o_q rfl rfl (q_ldB G27 Z27 rfl (fun w h => h.zab (i := 2) rfl) rfl) ?_
      refine o_e rfl (zaw (i := 3) rfl rfl rfl Z27 rfl rfl) (fun _ => ?_)
      refine o_end ?_
      refine za2 ?_
      refine c_ret ?_
      have e0_ := Option.some.inj h; clear h
      have d0_ := (Prod.mk.inj e0_).1; have e1_ := (Prod.mk.inj e0_).2; clear e0_; subst d0_
      subst e1_
      exact x_r1 (A9, c10, A24, c25) Try.results111 (rv_cell rfl G27 Z27 (fun w h => h.zab (i := 3) rfl) rfl) rfl (fun w h => za7 [1, 0] (by decide) rfl w h)
    · skip
      clear hl33
      have hr30 := hJ_.1; have hk36 := hJ_.2.1; have h := hJ_.2.2; clear hJ_
      replace h : spec_plKeep.l1 a0_0 l0_1 l0_2 l1 (y27 :: ys28) l23 i26 = some o34 := h
      rw [spec_plKeep.l1] at h
      refine c_seq ?_
      refine za0 ?_
      refine o_q rfl rfl (q_lss rfl rfl) ?_
      refine o_end ?_
      refine za2 ?_
      refine c_seq ?_
      refine c_true (congrArg Value.bool hr30.lt) ?_
      refine zao ?_
      refine za2 ?_
      refine c_seq ?_
      refine zak ?_
      refine c_seq ?_
      refine za0 ?_
      refine o_fact (p := Sh A0_2 l0_2.length l0_2.length) (fun w h => f_sh (dk := (Kd.int .i64)) h (fun w h => R0_2.now Z h)) (fun hq37 => ?_)
      refine o_q rfl rfl (q_ix Try.underlying25 Z3 rfl rfl hq37 hr30.get) ?_
      refine o_q rfl rfl (q_lde (off := 0) Y3 rfl rfl (fun w h => R0_2.now Z h) hr30.get (fun _ _ h => h) rfl) ?_
      refine o_q rfl rfl (q_asg rfl) ?_
      refine o_end ?_
      refine za2 ?_
      refine za9 h (fun i340 hx339 h => ?_) rfl
      refine za9 h (fun l459 ha460 h => ?_) rfl
      refine a_startS (ds := []) [none, some 1, none, some 3, some 4] MO rfl ?_
      refine za5 0 rfl rfl rfl (by kernel_rfl) (fun _ _ _ h => h) (q_f F27_2 rfl) ?_
      refine zau 2 rfl rfl rfl (by kernel_rfl) (fun _ _ _ h => h) (fun w h => zaa [none, some 1, none, some 3, some 4] (by decide) w h rfl) (q_ldB G27 Z27 rfl (fun w h => h.zab (i := 4) rfl) rfl) ?_
      refine za5 3 rfl rfl rfl (by kernel_rfl) (fun _ _ _ h => h) (za3 rfl) ?_
      refine za5 4 rfl rfl rfl (by kernel_rfl) (fun _ _ _ h => h) (za3 rfl) ?_
      refine a_two 1 5 rfl rfl rfl rfl (by kernel_rfl) rfl rfl (ev_q rfl (q_ldb Y25 rfl (fun w h => h.zab (i := 2) rfl) rfl)) (fun s w h => zaa [none, some 1, none, some 3, some 4] (by decide) w h rfl) (zac 0 Z Try.func188 N188 rfl rfl rfl (fun w P1 hF hB hS hT => spec_plNumber.calls a0_0 A0_1 c0_1 l0_1.length l0_1 A0_2 c0_2 l0_2.length l0_2 A1 c1 l1.length l1 y27 hB hF (hS _ R0_1) hc0_1 (hS _ R0_2) hc0_2 (hS _ R1) hc1 _ hx339)) (fun s w h => zaa [none, some 1, none, some 3, some 4] (by decide) w h rfl) (fun _ => ?_) (fun _ => ?_)
      · skip
        refine a_one 5 rfl rfl (by kernel_rfl) rfl (zac 0 Z Try.func188 N188 rfl rfl rfl (fun w P1 hF hB hS hT => spec_plNumber.calls a0_0 A0_1 c0_1 l0_1.length l0_1 A0_2 c0_2 l0_2.length l0_2 A1 c1 l1.length l1 y27 hB hF (hS _ R0_1) hc0_1 (hS _ R0_2) hc0_2 (hS _ R1) hc1 _ hx339)) (fun s w h => zaa [none, some 1, none, some 3, some 4] (by decide) w h rfl) (fun _ => ?_)
        refine a_one 6 rfl rfl (by kernel_rfl) rfl (e_lit (vs := [(0, .int .i64 i340)]) (cs := [.int .i64 i340]) (Kd.int .i64) ([i340] : List Int) Try.underlying25 I3 (by decide) rfl (by decide) rfl rfl (fun _ _ => Kd.zar _)) (fun s w h => zaa [none, some 2, none, some 4, some 5] (by decide) w h rfl) (cur2 (fun A399 c400 => ?_))
        refine a_one 7 rfl rfl (by kernel_rfl) rfl (e_app (i := 1) (j := 0) Try.underlying25 I3 rfl (by decide) (by decide) rfl rfl rfl rfl rfl ha460) (fun s w h => zaa [none, some 2, none, some 4, some 5] (by decide) w h rfl) (cur2 (fun A461 c462 => ?_))
        refine za5 8 rfl rfl rfl (by kernel_rfl) (fun _ _ _ h => h) (q_f F27_2 rfl) ?_
        refine a_one 9 rfl rfl (by kernel_rfl) rfl (e_store (i := 3) rfl rfl rfl rfl Z25 rfl rfl) (fun s w h => zaa [none, some 2, none, some 4, some 5] (by decide) w h rfl) (fun _ => ?_)
        refine a_done (by kernel_rfl) ?_
        refine zam ?_
        refine za2 ?_
        refine za0 ?_
        refine o_q rfl rfl (q_up rfl rfl (hr30.up hm31)) ?_
        refine o_q rfl rfl (za3 rfl) ?_
        refine o_end ?_
        refine zal ys28.length (ys28, l459, i26 + 1, A461, c462) (by rw [← hk36]; exact Nat.lt_succ_self _) ⟨hr30.step, rfl, h⟩ ⟨rfl, trivial⟩ (fun w h => za7 [1, 2, 3, 4, 5] (by decide) rfl w h) ?_
        repeat (first | exact zad _ _ | refine zai rfl ?_ | refine zae rfl ?_ | refine zaj rfl ?_)
      · skip
        refine a_two 1 6 rfl rfl rfl rfl (by kernel_rfl) rfl rfl (ev_q rfl (q_ldb Y25 rfl (fun w h => h.zab (i := 2) rfl) rfl)) (fun s w h => zaa [none, some 1, none, some 3, some 4] (by decide) w h rfl) (e_lit (vs := [(0, .int .i64 i340)]) (cs := [.int .i64 i340]) (Kd.int .i64) ([i340] : List Int) Try.underlying25 I3 (by decide) rfl (by decide) rfl rfl (fun _ _ => Kd.zar _)) (fun s w h => zaa [none, some 2, none, some 4, some 5] (by decide) w h rfl) (fun _ => ?_) (cur2 (fun A399 c400 => ?_))
        · skip
          refine a_one 6 rfl rfl (by kernel_rfl) rfl (e_lit (vs := [(0, .int .i64 i340)]) (cs := [.int .i64 i340]) (Kd.int .i64) ([i340] : List Int) Try.underlying25 I3 (by decide) rfl (by decide) rfl rfl (fun _ _ => Kd.zar _)) (fun s w h => zaa [none, some 2, none, some 4, some 5] (by decide) w h rfl) (cur2 (fun A399 c400 => ?_))
          refine a_one 7 rfl rfl (by kernel_rfl) rfl (e_app (i := 1) (j := 0) Try.underlying25 I3 rfl (by decide) (by decide) rfl rfl rfl rfl rfl ha460) (fun s w h => zaa [none, some 2, none, some 4, some 5] (by decide) w h rfl) (cur2 (fun A461 c462 => ?_))
          refine za5 8 rfl rfl rfl (by kernel_rfl) (fun _ _ _ h => h) (q_f F27_2 rfl) ?_
          refine a_one 9 rfl rfl (by kernel_rfl) rfl (e_store (i := 3) rfl rfl rfl rfl Z25 rfl rfl) (fun s w h => zaa [none, some 2, none, some 4, some 5] (by decide) w h rfl) (fun _ => ?_)
          refine a_done (by kernel_rfl) ?_
          refine zam ?_
          refine za2 ?_
          refine za0 ?_
          refine o_q rfl rfl (q_up rfl rfl (hr30.up hm31)) ?_
          refine o_q rfl rfl (za3 rfl) ?_
          refine o_end ?_
          refine zal ys28.length (ys28, l459, i26 + 1, A461, c462) (by rw [← hk36]; exact Nat.lt_succ_self _) ⟨hr30.step, rfl, h⟩ ⟨rfl, trivial⟩ (fun w h => za7 [1, 2, 3, 4, 5] (by decide) rfl w h) ?_
          repeat (first | exact zad _ _ | refine zai rfl ?_ | refine zae rfl ?_ | refine zaj rfl ?_)
        · skip
          refine a_one 1 rfl rfl (by kernel_rfl) rfl (ev_q rfl (q_ldb Y25 rfl (fun w h => h.zab (i := 3) rfl) rfl)) (fun s w h => zaa [none, some 2, none, some 4, some 5] (by decide) w h rfl) (fun _ => ?_)
          refine a_one 7 rfl rfl (by kernel_rfl) rfl (e_app (i := 1) (j := 0) Try.underlying25 I3 rfl (by decide) (by decide) rfl rfl rfl rfl rfl ha460) (fun s w h => zaa [none, some 2, none, some 4, some 5] (by decide) w h rfl) (cur2 (fun A461 c462 => ?_))
          refine za5 8 rfl rfl rfl (by kernel_rfl) (fun _ _ _ h => h) (q_f F27_2 rfl) ?_
          refine a_one 9 rfl rfl (by kernel_rfl) rfl (e_store (i := 3) rfl rfl rfl rfl Z25 rfl rfl) (fun s w h => zaa [none, some 2, none, some 4, some 5] (by decide) w h rfl) (fun _ => ?_)
          refine a_done (by kernel_rfl) ?_
          refine zam ?_
          refine za2 ?_
          refine za0 ?_
          refine o_q rfl rfl (q_up rfl rfl (hr30.up hm31)) ?_
          refine o_q rfl rfl (za3 rfl) ?_
          refine o_end ?_
          refine zal ys28.length (ys28, l459, i26 + 1, A461, c462) (by rw [← hk36]; exact Nat.lt_succ_self _) ⟨hr30.step, rfl, h⟩ ⟨rfl, trivial⟩ (fun w h => za7 [1, 2, 3, 4, 5] (by decide) rfl w h) ?_
          repeat (first | exact zad _ _ | refine zai rfl ?_ | refine zae rfl ?_ | refine zaj rfl ?_)
  · skip
    clear hl18
    have hr15 := hJ_.1; have hk21 := hJ_.2.1; have h := hJ_.2.2; clear hJ_
    replace h : spec_plKeep.l0 a0_0 l0_1 l0_2 l1 (y12 :: ys13) l8 i11 = some o19 := h
    rw [spec_plKeep.l0] at h
    refine c_seq ?_
    refine za0 ?_
    refine o_q rfl rfl (q_lss rfl rfl) ?_
    refine o_end ?_
    refine za2 ?_
    refine c_seq ?_
    refine c_true (congrArg Value.bool hr15.lt) ?_
    refine zao ?_
    refine za2 ?_
    refine c_seq ?_
    refine zak ?_
    refine c_seq ?_
    refine za0 ?_
    refine o_fact (p := Sh A1 l1.length l1.length) (fun w h => f_sh (dk := (Kd.int .i64)) h (fun w h => R1.now Z h)) (fun hq699 => ?_)
    refine o_q rfl rfl (q_ix Try.underlying25 Z3 rfl rfl hq699 hr15.get) ?_
    refine o_q rfl rfl (q_lde (off := 0) Y3 rfl rfl (fun w h => R1.now Z h) hr15.get (fun _ _ h => h) rfl) ?_
    refine o_q rfl rfl (q_asg rfl) ?_
    refine o_end ?_
    refine za2 ?_
    refine c_seq ?_
    refine za0 ?_
    refine o_q rfl rfl (q_f F27_1 rfl) ?_
    refine o_q rfl rfl (q_ldb Y24 rfl (fun w h => h.zab (i := 3) rfl) rfl) ?_
    refine o_q rfl rfl (za3 rfl) ?_
    refine o_fact (p := Sh A0_1 l0_1.length l0_1.length) (fun w h => f_sh (dk := kStep) h (fun w h => R0_1.now Z h)) (fun hq700 => ?_)
    refine za9 h (fun y702 hg701 h => ?_) rfl
    refine o_q rfl rfl (q_ix Try.underlying24 Z89 rfl rfl hq700 hg701) ?_
    refine o_q rfl rfl (q_ldE G89 Z89 rfl rfl (fun w h => R0_1.now Z h) hg701 (fun _ _ h => h) rfl) ?_
    refine o_e rfl (e_alloc V89 rfl) (fun g703 => ?_)
    refine o_e rfl (zaw (i := 0) rfl rfl rfl Z89 rfl rfl) (fun _ => ?_)
    refine o_end ?_
    refine za2 ?_
    refine za9 h (fun i1067 hx1066 h => ?_) rfl
    refine za9 h (fun i1367 hx1366 h => ?_) rfl
    refine za9 h (fun z1427 hx1426 h => ?_) rfl
    refine za9 h (fun l1546 ha1547 h => ?_) rfl
    refine a_startS (ds := []) [some 0, none, none, some 3, some 4] MO rfl ?_
    refine za5 0 rfl rfl rfl (by kernel_rfl) (fun _ _ _ h => h) (q_f F27_1 rfl) ?_
    refine zau 2 rfl rfl rfl (by kernel_rfl) (fun _ _ _ h => h) (fun w h => zaa [some 0, none, none, some 3, some 4] (by decide) w h rfl) (q_ldB G27 Z27 rfl (fun w h => h.zab (i := 4) rfl) rfl) ?_
    refine za5 3 rfl rfl rfl (by kernel_rfl) (fun _ _ _ h => h) (za3 rfl) ?_
    refine za5 4 rfl rfl rfl (by kernel_rfl) (fun _ _ _ h => h) (q_f F89_0 rfl) ?_
    refine zau 5 rfl rfl rfl (by kernel_rfl) (fun _ _ _ h => h) (fun w h => zaa [some 0, none, none, some 3, some 4] (by decide) w h rfl) (q_ldb Y3 rfl (fun w h => h.zab (i := 0) rfl) rfl) ?_
    refine zau 7 rfl rfl rfl (by kernel_rfl) (fun _ _ _ h => h) (fun w h => zaa [some 0, none, none, some 3, some 4] (by decide) w h rfl) (q_ldB G27 Z27 rfl (fun w h => h.zab (i := 4) rfl) rfl) ?_
    refine za5 8 rfl rfl rfl (by kernel_rfl) (fun _ _ _ h => h) (za3 rfl) ?_
    refine za5 9 rfl rfl rfl (by kernel_rfl) (fun _ _ _ h => h) (q_f F89_1 rfl) ?_
    refine zau 10 rfl rfl rfl (by kernel_rfl) (fun _ _ _ h => h) (fun w h => zaa [some 0, none, none, some 3, some 4] (by decide) w h rfl) (q_ldb Y3 rfl (fun w h => h.zab (i := 0) rfl) rfl) ?_
    refine a_two 1 6 rfl rfl rfl rfl (by kernel_rfl) rfl rfl (ev_q rfl (q_ldb Y24 rfl (fun w h => h.zab (i := 2) rfl) rfl)) (fun s w h => zaa [some 0, none, none, some 3, some 4] (by decide) w h rfl) (zac 0 Z Try.func188 N188 rfl rfl rfl (fun w P1 hF hB hS hT => spec_plNumber.calls a0_0 A0_1 c0_1 l0_1.length l0_1 A0_2 c0_2 l0_2.length l0_2 A1 c1 l1.length l1 y702.f0 hB hF (hS _ R0_1) hc0_1 (hS _ R0_2) hc0_2 (hS _ R1) hc1 _ hx1066)) (fun s w h => zaa [some 0, none, none, some 3, some 4] (by decide) w h rfl) (fun _ => ?_) (fun _ => ?_)
    · skip
      refine a_one 6 rfl rfl (by kernel_rfl) rfl (zac 0 Z Try.func188 N188 rfl rfl rfl (fun w P1 hF hB hS hT => spec_plNumber.calls a0_0 A0_1 c0_1 l0_1.length l0_1 A0_2 c0_2 l0_2.length l0_2 A1 c1 l1.length l1 y702.f0 hB hF (hS _ R0_1) hc0_1 (hS _ R0_2) hc0_2 (hS _ R1) hc1 _ hx1066)) (fun s w h => zaa [some 0, none, none, some 3, some 4] (by decide) w h rfl) (fun _ => ?_)
      refine a_one 11 rfl rfl (by kernel_rfl) rfl (zac 0 Z Try.func188 N188 rfl rfl rfl (fun w P1 hF hB hS hT => spec_plNumber.calls a0_0 A0_1 c0_1 l0_1.length l0_1 A0_2 c0_2 l0_2.length l0_2 A1 c1 l1.length l1 y702.f1 hB hF (hS _ R0_1) hc0_1 (hS _ R0_2) hc0_2 (hS _ R1) hc1 _ hx1366)) (fun s w h => zaa [some 0, none, none, some 3, some 4] (by decide) w h rfl) (fun _ => ?_)
      refine a_one 12 rfl rfl (by kernel_rfl) rfl (zac 0 Z Try.func97 N97 rfl rfl rfl (fun w P1 hF hB hS hT => spec_plStep.calls i1067 i1367 hB hF _ hx1426)) (fun s w h => zaa [some 0, none, none, some 3, some 4] (by decide) w h rfl) (fun _ => ?_)
      refine a_one 13 rfl rfl (by kernel_rfl) rfl (e_lit (vs := [(0, .agg #[.int .i64 z1427.f0, .int .i64 z1427.f1])]) (cs := [.int .i64 z1427.f0, .int .i64 z1427.f1]) kStep ([z1427] : List SStep) Try.underlying24 I89 (by decide) rfl (by decide) rfl rfl (fun _ _ => reps_flat _)) (fun s w h => zaa [some 1, none, none, some 4, some 5] (by decide) w h rfl) (cur2 (fun A1486 c1487 => ?_))
      refine a_one 14 rfl rfl (by kernel_rfl) rfl (e_app (i := 2) (j := 0) Try.underlying24 I89 rfl (by decide) (by decide) rfl rfl rfl rfl rfl ha1547) (fun s w h => zaa [some 1, none, none, some 4, some 5] (by decide) w h rfl) (cur2 (fun A1548 c1549 => ?_))
      refine za5 15 rfl rfl rfl (by kernel_rfl) (fun _ _ _ h => h) (q_f F27_1 rfl) ?_
      refine a_one 16 rfl rfl (by kernel_rfl) rfl (e_store (i := 3) rfl rfl rfl rfl Z24 rfl rfl) (fun s w h => zaa [some 1, none, none, some 4, some 5] (by decide) w h rfl) (fun _ => ?_)
      refine a_done (by kernel_rfl) ?_
      refine zam ?_
      refine za2 ?_
      refine za0 ?_
      refine o_q rfl rfl (q_up rfl rfl (hr15.up hm16)) ?_
      refine o_q rfl rfl (za3 rfl) ?_
      refine o_end ?_
      refine zal ys13.length (ys13, l1546, i11 + 1, A1548, c1549) (by rw [← hk21]; exact Nat.lt_succ_self _) ⟨hr15.step, rfl, h⟩ ⟨rfl, trivial⟩ (fun w h => za7 [2, 3, 4, 5] (by decide) rfl w h) ?_
      repeat (first | exact zad _ _ | refine zai rfl ?_ | refine zae rfl ?_ | refine zaj rfl ?_)
    · skip
      refine a_two 1 11 rfl rfl rfl rfl (by kernel_rfl) rfl rfl (ev_q rfl (q_ldb Y24 rfl (fun w h => h.zab (i := 2) rfl) rfl)) (fun s w h => zaa [some 0, none, none, some 3, some 4] (by decide) w h rfl) (zac 0 Z Try.func188 N188 rfl rfl rfl (fun w P1 hF hB hS hT => spec_plNumber.calls a0_0 A0_1 c0_1 l0_1.length l0_1 A0_2 c0_2 l0_2.length l0_2 A1 c1 l1.length l1 y702.f1 hB hF (hS _ R0_1) hc0_1 (hS _ R0_2) hc0_2 (hS _ R1) hc1 _ hx1366)) (fun s w h => zaa [some 0, none, none, some 3, some 4] (by decide) w h rfl) (fun _ => ?_) (fun _ => ?_)
      · skip
        refine a_one 11 rfl rfl (by kernel_rfl) rfl (zac 0 Z Try.func188 N188 rfl rfl rfl (fun w P1 hF hB hS hT => spec_plNumber.calls a0_0 A0_1 c0_1 l0_1.length l0_1 A0_2 c0_2 l0_2.length l0_2 A1 c1 l1.length l1 y702.f1 hB hF (hS _ R0_1) hc0_1 (hS _ R0_2) hc0_2 (hS _ R1) hc1 _ hx1366)) (fun s w h => zaa [some 0, none, none, some 3, some 4] (by decide) w h rfl) (fun _ => ?_)
        refine a_one 12 rfl rfl (by kernel_rfl) rfl (zac 0 Z Try.func97 N97 rfl rfl rfl (fun w P1 hF hB hS hT => spec_plStep.calls i1067 i1367 hB hF _ hx1426)) (fun s w h => zaa [some 0, none, none, some 3, some 4] (by decide) w h rfl) (fun _ => ?_)
        refine a_one 13 rfl rfl (by kernel_rfl) rfl (e_lit (vs := [(0, .agg #[.int .i64 z1427.f0, .int .i64 z1427.f1])]) (cs := [.int .i64 z1427.f0, .int .i64 z1427.f1]) kStep ([z1427] : List SStep) Try.underlying24 I89 (by decide) rfl (by decide) rfl rfl (fun _ _ => reps_flat _)) (fun s w h => zaa [some 1, none, none, some 4, some 5] (by decide) w h rfl) (cur2 (fun A1486 c1487 => ?_))
        refine a_one 14 rfl rfl (by kernel_rfl) rfl (e_app (i := 2) (j := 0) Try.underlying24 I89 rfl (by decide) (by decide) rfl rfl rfl rfl rfl ha1547) (fun s w h => zaa [some 1, none, none, some 4, some 5] (by decide) w h rfl) (cur2 (fun A1548 c1549 => ?_))
        refine za5 15 rfl rfl rfl (by kernel_rfl) (fun _ _ _ h => h) (q_f F27_1 rfl) ?_
        refine a_one 16 rfl rfl (by kernel_rfl) rfl (e_store (i := 3) rfl rfl rfl rfl Z24 rfl rfl) (fun s w h => zaa [some 1, none, none, some 4, some 5] (by decide) w h rfl) (fun _ => ?_)
        refine a_done (by kernel_rfl) ?_
        refine zam ?_
        refine za2 ?_
        refine za0 ?_
        refine o_q rfl rfl (q_up rfl rfl (hr15.up hm16)) ?_
        refine o_q rfl rfl (za3 rfl) ?_
        refine o_end ?_
        refine zal ys13.length (ys13, l1546, i11 + 1, A1548, c1549) (by rw [← hk21]; exact Nat.lt_succ_self _) ⟨hr15.step, rfl, h⟩ ⟨rfl, trivial⟩ (fun w h => za7 [2, 3, 4, 5] (by decide) rfl w h) ?_
        repeat (first | exact zad _ _ | refine zai rfl ?_ | refine zae rfl ?_ | refine zaj rfl ?_)
      · skip
        refine a_two 1 12 rfl rfl rfl rfl (by kernel_rfl) rfl rfl (ev_q rfl (q_ldb Y24 rfl (fun w h => h.zab (i := 2) rfl) rfl)) (fun s w h => zaa [some 0, none, none, some 3, some 4] (by decide) w h rfl) (zac 0 Z Try.func97 N97 rfl rfl rfl (fun w P1 hF hB hS hT => spec_plStep.calls i1067 i1367 hB hF _ hx1426)) (fun s w h => zaa [some 0, none, none, some 3, some 4] (by decide) w h rfl) (fun _ => ?_) (fun _ => ?_)
        · skip
          refine a_one 12 rfl rfl (by kernel_rfl) rfl (zac 0 Z Try.func97 N97 rfl rfl rfl (fun w P1 hF hB hS hT => spec_plStep.calls i1067 i1367 hB hF _ hx1426)) (fun s w h => zaa [some 0, none, none, some 3, some 4] (by decide) w h rfl) (fun _ => ?_)
          refine a_one 13 rfl rfl (by kernel_rfl) rfl (e_lit (vs := [(0, .agg #[.int .i64 z1427.f0, .int .i64 z1427.f1])]) (cs := [.int .i64 z1427.f0, .int .i64 z1427.f1]) kStep ([z1427] : List SStep) Try.underlying24 I89 (by decide) rfl (by decide) rfl rfl (fun _ _ => reps_flat _)) (fun s w h => zaa [some 1, none, none, some 4, some 5] (by decide) w h rfl) (cur2 (fun A1486 c1487 => ?_))
          refine a_one 14 rfl rfl (by kernel_rfl) rfl (e_app (i := 2) (j := 0) Try.underlying24 I89 rfl (by decide) (by decide) rfl rfl rfl rfl rfl ha1547) (fun s w h => zaa [some 1, none, none, some 4, some 5] (by decide) w h rfl) (cur2 (fun A1548 c1549 => ?_))
          refine za5 15 rfl rfl rfl (by kernel_rfl) (fun _ _ _ h => h) (q_f F27_1 rfl) ?_
          refine a_one 16 rfl rfl (by kernel_rfl) rfl (e_store (i := 3) rfl rfl rfl rfl Z24 rfl rfl) (fun s w h => zaa [some 1, none, none, some 4, some 5] (by decide) w h rfl) (fun _ => ?_)
          refine a_done (by kernel_rfl) ?_
          refine zam ?_
          refine za2 ?_
          refine za0 ?_
          refine o_q rfl rfl (q_up rfl rfl (hr15.up hm16)) ?_
          refine o_q rfl rfl (za3 rfl) ?_
          refine o_end ?_
          refine zal ys13.length (ys13, l1546, i11 + 1, A1548, c1549) (by rw [← hk21]; exact Nat.lt_succ_self _) ⟨hr15.step, rfl, h⟩ ⟨rfl, trivial⟩ (fun w h => za7 [2, 3, 4, 5] (by decide) rfl w h) ?_
          repeat (first | exact zad _ _ | refine zai rfl ?_ | refine zae rfl ?_ | refine zaj rfl ?_)
        · skip
          refine a_two 1 13 rfl rfl rfl rfl (by kernel_rfl) rfl rfl (ev_q rfl (q_ldb Y24 rfl (fun w h => h.zab (i := 2) rfl) rfl)) (fun s w h => zaa [some 0, none, none, some 3, some 4] (by decide) w h rfl) (e_lit (vs := [(0, .agg #[.int .i64 z1427.f0, .int .i64 z1427.f1])]) (cs := [.int .i64 z1427.f0, .int .i64 z1427.f1]) kStep ([z1427] : List SStep) Try.underlying24 I89 (by decide) rfl (by decide) rfl rfl (fun _ _ => reps_flat _)) (fun s w h => zaa [some 1, none, none, some 4, some 5] (by decide) w h rfl) (fun _ => ?_) (cur2 (fun A1486 c1487 => ?_))
          · skip
            refine a_one 13 rfl rfl (by kernel_rfl) rfl (e_lit (vs := [(0, .agg #[.int .i64 z1427.f0, .int .i64 z1427.f1])]) (cs := [.int .i64 z1427.f0, .int .i64 z1427.f1]) kStep ([z1427] : List SStep) Try.underlying24 I89 (by decide) rfl (by decide) rfl rfl (fun _ _ => reps_flat _)) (fun s w h => zaa [some 1, none, none, some 4, some 5] (by decide) w h rfl) (cur2 (fun A1486 c1487 => ?_))
            refine a_one 14 rfl rfl (by kernel_rfl) rfl (e_app (i := 2) (j := 0) Try.underlying24 I89 rfl (by decide) (by decide) rfl rfl rfl rfl rfl ha1547) (fun s w h => zaa [some 1, none, none, some 4, some 5] (by decide) w h rfl) (cur2 (fun A1548 c1549 => ?_))
            refine za5 15 rfl rfl rfl (by kernel_rfl) (fun _ _ _ h => h) (q_f F27_1 rfl) ?_
            refine a_one 16 rfl rfl (by kernel_rfl) rfl (e_store (i := 3) rfl rfl rfl rfl Z24 rfl rfl) (fun s w h => zaa [some 1, none, none, some 4, some 5] (by decide) w h rfl) (fun _ => ?_)
            refine a_done (by kernel_rfl) ?_
            refine zam ?_
            refine za2 ?_
            refine za0 ?_
            refine o_q rfl rfl (q_up rfl rfl (hr15.up hm16)) ?_
            refine o_q rfl rfl (za3 rfl) ?_
            refine o_end ?_
            refine zal ys13.length (ys13, l1546, i11 + 1, A1548, c1549) (by rw [← hk21]; exact Nat.lt_succ_self _) ⟨hr15.step, rfl, h⟩ ⟨rfl, trivial⟩ (fun w h => za7 [2, 3, 4, 5] (by decide) rfl w h) ?_
            repeat (first | exact zad _ _ | refine zai rfl ?_ | refine zae rfl ?_ | refine zaj rfl ?_)
          · skip
            refine a_one 1 rfl rfl (by kernel_rfl) rfl (ev_q rfl (q_ldb Y24 rfl (fun w h => h.zab (i := 3) rfl) rfl)) (fun s w h => zaa [some 1, none, none, some 4, some 5] (by decide) w h rfl) (fun _ => ?_)
            refine a_one 14 rfl rfl (by kernel_rfl) rfl (e_app (i := 2) (j := 0) Try.underlying24 I89 rfl (by decide) (by decide) rfl rfl rfl rfl rfl ha1547) (fun s w h => zaa [some 1, none, none, some 4, some 5] (by decide) w h rfl) (cur2 (fun A1548 c1549 => ?_))
            refine za5 15 rfl rfl rfl (by kernel_rfl) (fun _ _ _ h => h) (q_f F27_1 rfl) ?_
            refine a_one 16 rfl rfl (by kernel_rfl) rfl (e_store (i := 3) rfl rfl rfl rfl Z24 rfl rfl) (fun s w h => zaa [some 1, none, none, some 4, some 5] (by decide) w h rfl) (fun _ => ?_)
            refine a_done (by kernel_rfl) ?_
            refine zam ?_
            refine za2 ?_
            refine za0 ?_
            refine o_q rfl rfl (q_up rfl rfl (hr15.up hm16)) ?_
            refine o_q rfl rfl (za3 rfl) ?_
            refine o_end ?_
            refine zal ys13.length (ys13, l1546, i11 + 1, A1548, c1549) (by rw [← hk21]; exact Nat.lt_succ_self _) ⟨hr15.step, rfl, h⟩ ⟨rfl, trivial⟩ (fun w h => za7 [2, 3, 4, 5] (by decide) rfl w h) ?_
            repeat (first | exact zad _ _ | refine zai rfl ?_ | refine zae rfl ?_ | refine zaj rfl ?_)

/-! ### loop.example/g01098/spec.TrimPlan: function 30 -/
def spec_TrimPlan.f (k : Nat) (a0_0 : Int) (l0_1 : List SStep) (l0_2 : List Int) : Option (Int × (List SStep) × (List Int) × Bool) := (spec_plGood.f k a0_0 l0_1 l0_2).bind fun b6 => if b6 = true then ((spec_plUsed.f k a0_0 l0_1 l0_2).bind fun l9 => (spec_plKeep.f a0_0 l0_1 l0_2 l9).bind fun (l13, l14) => some (a0_0, l13, l14, true)) else (some (0, ([] : List SStep), ([] : List Int), false))
set_option maxHeartbeats 600000 in
set_option maxRecDepth 100000 in
theorem spec_TrimPlan.calls (k : Nat) {w0 ws : World} {P0 : Nat → Prop} (a0_0 : Int) (A0_1 : Option Addr) (c0_1 : Nat) (n0_1 : Nat) (l0_1 : List SStep) (A0_2 : Option Addr) (c0_2 : Nat) (n0_2 : Nat) (l0_2 : List Int) (Z : Below w0.heap.size w0 ws) (hF : Fr w0 ws P0 [] ws) (R0_1 : Stable ws P0 (fun w => Kd.C kStep w A0_1 n0_1 l0_1)) (hc0_1 : n0_1 ≤ c0_1) (R0_2 : Stable ws P0 (fun w => Kd.C (Kd.int .i64) w A0_2 n0_2 l0_2)) (hc0_2 : n0_2 ≤ c0_2) (r_1 : Int) (r_2 : List SStep) (r_5 : List Int) (r_8 : Bool) (h : spec_TrimPlan.f k a0_0 l0_1 l0_2 = some (r_1, r_2, r_5, r_8)) :
    Calls Try.prog 30 #[.agg #[.int .i64 a0_0, .slice A0_1 n0_1 c0_1, .slice A0_2 n0_2 c0_2]] ws (Post1 w0 ws P0 (fun ((q_3, q_4, q_6, q_7) : (Option Addr) × Nat × (Option Addr) × Nat) => .tuple #[.agg #[.int .i64 r_1, .slice q_3 r_2.length q_4, .slice q_6 r_5.length q_7], .bool r_8]) (fun ((q_3, q_4, q_6, q_7) : (Option Addr) × Nat × (Option Addr) × Nat) => [row kStep 89 (.slice q_3 r_2.length q_4) r_2, row (Kd.int .i64) 3 (.slice q_6 r_5.length q_7) r_5])) := by
  unfold spec_TrimPlan.f at h
  obtain rfl := (R0_1 ws (KeptB.refl _ _)).1
  obtain rfl := (R0_2 ws (KeptB.refl _ _)).1
  refine enter Try.func30 rfl Try.ntmps30 rfl hF ?_
  refine c_seq ?_
  refine za0 ?_
  refine o_e rfl (e_box rfl) (fun g1 => ?_)
  refine o_e rfl (e_alloc V27 rfl) (fun g3 => ?_)
  refine o_q rfl rfl (q_asg rfl) ?_
  refine o_end ?_
  refine za2 ?_
  refine c_seq ?_
  refine c_seq ?_
  refine za0 ?_
  refine o_q rfl rfl (q_ldB G27 Z27 rfl (fun w h => h.zab (i := 1) rfl) rfl) ?_
  refine za9 h (fun b6 hx5 h => ?_) rfl
  refine o_e rfl (zac 0 Z Try.func93 N93 rfl rfl rfl (fun w P1 hF hB hS hT => spec_plGood.calls k a0_0 A0_1 c0_1 l0_1.length l0_1 A0_2 c0_2 l0_2.length l0_2 hB hF (hS _ R0_1) hc0_1 (hS _ R0_2) hc0_2 _ hx5)) (fun _ => ?_)
  refine o_q rfl rfl (q_not rfl) ?_
  refine o_end ?_
  refine za2 ?_
  refine zas _ rfl (fun hb7 => ?_) (fun hb7 => ?_)
  · replace hb7 := nt_t hb7
    replace h := bb_f hb7 h
    refine c_seq ?_
    refine za0 ?_
    refine o_q rfl rfl (q_build (vs := []) (cs := [.int .i64 0, .slice none 0 0, .slice none 0 0]) rfl rfl) ?_
    refine o_e rfl (zaw (i := 0) rfl rfl rfl Z27 rfl rfl) (fun _ => ?_)
    refine o_q rfl rfl (q_asg rfl) ?_
    refine o_end ?_
    refine za2 ?_
    refine c_ret ?_
    refine za8 ?_
    refine x_nil kStep 89 ?_
    refine x_nil (Kd.int .i64) 3 ?_
    have e0_ := Option.some.inj h; clear h
    have d0_ := (Prod.mk.inj e0_).1; have e1_ := (Prod.mk.inj e0_).2; clear e0_; subst d0_
    have d1_ := (Prod.mk.inj e1_).1; have e2_ := (Prod.mk.inj e1_).2; clear e1_; subst d1_
    have d2_ := (Prod.mk.inj e2_).1; have e3_ := (Prod.mk.inj e2_).2; clear e2_; subst d2_
    subst e3_
    exact x_r2 (none, 0, none, 0) Try.results30 (rv_cell rfl G27 Z27 (fun w h => h.zab (i := 2) rfl) rfl) (zaf rfl) rfl (fun w h => za7 [1, 0] (by decide) rfl w h)
  · replace hb7 := nt_f hb7
    replace h := bb_t hb7 h
    refine zao ?_
    refine za2 ?_
    refine c_seq ?_
    refine a_startS (ds := []) [none, some 1] MO rfl ?_
    refine zau 0 rfl rfl rfl (by kernel_rfl) (fun _ _ _ h => h) (fun w h => zaa [none, some 1] (by decide) w h rfl) (q_ldB G27 Z27 rfl (fun w h => h.zab (i := 1) rfl) rfl) ?_
    refine zau 1 rfl rfl rfl (by kernel_rfl) (fun _ _ _ h => h) (fun w h => zaa [none, some 1] (by decide) w h rfl) (q_ldB G27 Z27 rfl (fun w h => h.zab (i := 1) rfl) rfl) ?_
    refine za9 h (fun l9 hx8 h => ?_) rfl
    refine a_one 2 rfl rfl (by kernel_rfl) rfl (zac 0 Z Try.func112 N112 rfl rfl rfl (fun w P1 hF hB hS hT => spec_plUsed.calls k a0_0 A0_1 c0_1 l0_1.length l0_1 A0_2 c0_2 l0_2.length l0_2 hB hF (hS _ R0_1) hc0_1 (hS _ R0_2) hc0_2 _ hx8)) (fun s w h => zaa [none, some 2] (by decide) w h rfl) (cur2 (fun A10 c11 => ?_))
    refine bindE2 h (fun l13 l14 hx12 h => ?_) rfl
    refine a_one 3 rfl rfl (by kernel_rfl) rfl (zac 0 Z Try.func111 N111 rfl rfl rfl (fun w P1 hF hB hS hT => spec_plKeep.calls a0_0 A0_1 c0_1 l0_1.length l0_1 A0_2 c0_2 l0_2.length l0_2 A10 c11 l9.length l9 hB hF (hS _ R0_1) hc0_1 (hS _ R0_2) hc0_2 (hT 0 _ rfl).row (hT 0 _ rfl).cap _ _ hx12)) (fun s w h => zaa [none, some 4] (by decide) w h rfl) (cur4 (fun A15 c16 A17 c18 => ?_))
    refine a_one 4 rfl rfl (by kernel_rfl) rfl (zaw (i := 3) rfl rfl rfl Z27 rfl rfl) (fun s w h => zaa [none, some 4] (by decide) w h rfl) (fun _ => ?_)
    refine za5 5 rfl rfl rfl (by kernel_rfl) (fun _ _ _ h => h) (q_asg rfl) ?_
    refine a_done (by kernel_rfl) ?_
    refine za2 ?_
    refine c_ret ?_
    have e0_ := Option.some.inj h; clear h
    have d0_ := (Prod.mk.inj e0_).1; have e1_ := (Prod.mk.inj e0_).2; clear e0_; subst d0_
    have d1_ := (Prod.mk.inj e1_).1; have e2_ := (Prod.mk.inj e1_).2; clear e1_; subst d1_
    have d2_ := (Prod.mk.inj e2_).1; have e3_ := (Prod.mk.inj e2_).2; clear e2_; subst d2_
    subst e3_
    exact x_r2 (A15, c16, A17, c18) Try.results30 (rv_cell rfl G27 Z27 (fun w h => h.zab (i := 3) rfl) rfl) (zaf rfl) rfl (fun w h => za7 [0, 1] (by decide) rfl w h)

/-! ### loop.example/g01098/laws.pSameSteps: function 99 -/
def laws_pSameSteps.l0 (l1 : List SStep) : (List SStep) → Int → Option ((Bool) ⊕ (Unit))
  | [], i2 => some (.inr ())
  | y3 :: ys4, i2 => (gt l1 i2).bind fun y16 => if (y3.f0 == y16.f0 && (y3.f1 == y16.f1 && true)) = true then (laws_pSameSteps.l0 l1 ys4 (i2 + 1)) else (some (.inl false))
def laws_pSameSteps.f (l0 : List SStep) (l1 : List SStep) : Option Bool := if (l0.length : Int) ≠ (l1.length : Int) then (some false) else ((laws_pSameSteps.l0 l1 l0 0).bind fun o_ => match o_ with | .inl r_ => some r_ | .inr _ => some true)
set_option maxHeartbeats 600000 in
set_option maxRecDepth 100000 in
theorem laws_pSameSteps.calls {w0 ws : World} {P0 : Nat → Prop} (A0 : Option Addr) (c0 : Nat) (n0 : Nat) (l0 : List SStep) (A1 : Option Addr) (c1 : Nat) (n1 : Nat) (l1 : List SStep) (Z : Below w0.heap.size w0 ws) (hF : Fr w0 ws P0 [] ws) (R0 : Stable ws P0 (fun w => Kd.C kStep w A0 n0 l0)) (hc0 : n0 ≤ c0) (R1 : Stable ws P0 (fun w => Kd.C kStep w A1 n1 l1)) (hc1 : n1 ≤ c1) (r_1 : Bool) (h : laws_pSameSteps.f l0 l1 = some r_1) :
    Calls Try.prog 99 #[.slice A0 n0 c0, .slice A1 n1 c1] ws (Post1 w0 ws P0 (fun (_ : Unit) => .bool r_1) (fun (_ : Unit) => [])) := by
  unfold laws_pSameSteps.f at h
  obtain rfl := (R0 ws (KeptB.refl _ _)).1
  obtain rfl := (R1 ws (KeptB.refl _ _)).1
  refine enter Try.func99 rfl Try.ntmps99 rfl hF ?_
  refine c_seq ?_
  refine za0 ?_
  refine o_q rfl rfl (q_asg rfl) ?_
  refine o_end ?_
  refine za2 ?_
  refine c_seq ?_
  refine c_seq ?_
  refine za0 ?_
  refine o_q rfl rfl (za3 rfl) ?_
  refine o_q rfl rfl (q_len Try.underlying24 rfl) ?_
  refine o_q rfl rfl (za3 rfl) ?_
  refine o_q rfl rfl (q_len Try.underlying24 rfl) ?_
  refine o_q rfl rfl (q_neq rfl rfl) ?_
  refine o_end ?_
  refine za2 ?_
  refine zas _ rfl (fun hb1 => ?_) (fun hb1 => ?_)
  · skip
    replace h := br_t hb1 h
    refine c_seq ?_
    refine za0 ?_
    refine o_q rfl rfl (q_asg rfl) ?_
    refine o_end ?_
    refine za2 ?_
    refine c_ret ?_
    refine za8 ?_
    have e0_ := Option.some.inj h; clear h
    subst e0_
    exact x_r1 () Try.results99 (zaf rfl) rfl (fun w h => za7 [] (by decide) rfl w h)
  · skip
    replace h := br_f hb1 h
    refine zao ?_
    refine za2 ?_
    refine c_seq ?_
    refine c_seq ?_
    refine za0 ?_
    refine o_q rfl rfl (za3 rfl) ?_
    refine o_q rfl rfl (q_len Try.underlying24 rfl) ?_
    refine o_q rfl rfl (za3 rfl) ?_
    refine o_end ?_
    refine za2 ?_
    refine zak ?_
    refine za9 h (fun o10 hl9 hR8 => ?_) rfl
    clear h
    refine c_fact (p := l0.length ≤ 9223372036854775807) (fun w h => (R0.now Z h).2.1) (fun hm7 => ?_)
    refine zay (σ := (List SStep) × Int) (fun k5 ((ys4, i2) : (List SStep) × Int) => Rg l0 i2 ys4 ∧ ys4.length = k5 ∧ laws_pSameSteps.l0 l1 ys4 i2 = some o10) [4, 5, 13, 14, 15, 16, 17, 18, 19, 20, 21, 22, 23, 24, 25] (fun ((ys4, i2) : (List SStep) × Int) => [(13, .int .i64 i2)]) (fun ((ys4, i2) : (List SStep) × Int) => []) l0.length (l0, 0) ⟨Rg.start _, rfl, hl9⟩ ⟨rfl, trivial⟩ (fun w h => h) ?_
    refine fun k5 => cur2 (listC (fun i2 U11 hJ_ => ?_) (fun y3 ys4 i2 U11 hJ_ => ?_))
    · skip
      clear hl9
      have hr6 := hJ_.1; have hk12 := hJ_.2.1; have h := hJ_.2.2; clear hJ_
      replace h : laws_pSameSteps.l0 l1 [] i2 = some o10 := h
      rw [laws_pSameSteps.l0] at h
      refine c_seq ?_
      refine za0 ?_
      refine o_q rfl rfl (q_lss rfl rfl) ?_
      refine o_end ?_
      refine za2 ?_
      refine c_seq ?_
      refine c_false (congrArg Value.bool hr6.ge) ?_
      refine c_exit ?_
      refine za6 ?_
      refine za6 ?_
      have e_ := Option.some.inj h; replace h := hR8; rw [← e_] at h; clear e_
      refine x_hit ?_
      refine za2 ?_
      refine c_seq ?_
      refine za0 ?_
      refine o_q rfl rfl (q_asg rfl) ?_
      refine o_end ?_
      refine za2 ?_
      refine c_ret ?_
      have e0_ := Option.some.inj h; clear h
      subst e0_
      exact x_r1 () Try.results99 (zaf rfl) rfl (fun w h => za7 [] (by decide) rfl w h)
    · skip
      clear hl9
      have hr6 := hJ_.1; have hk12 := hJ_.2.1; have h := hJ_.2.2; clear hJ_
      replace h : laws_pSameSteps.l0 l1 (y3 :: ys4) i2 = some o10 := h
      rw [laws_pSameSteps.l0] at h
      refine c_seq ?_
      refine za0 ?_
      refine o_q rfl rfl (q_lss rfl rfl) ?_
      refine o_end ?_
      refine za2 ?_
      refine c_seq ?_
      refine c_true (congrArg Value.bool hr6.lt) ?_
      refine zao ?_
      refine za2 ?_
      refine c_seq ?_
      refine zak ?_
      refine c_seq ?_
      refine za0 ?_
      refine o_q rfl rfl (za3 rfl) ?_
      refine o_q rfl rfl (q_asg rfl) ?_
      refine o_end ?_
      refine za2 ?_
      refine c_seq ?_
      refine a_start (ds := []) MO rfl ?_
      refine za5 0 rfl rfl rfl (by kernel_rfl) (fun _ _ _ h => h) (za3 rfl) ?_
      refine za5 1 rfl rfl rfl (by kernel_rfl) (fun _ _ _ h => h) (za3 rfl) ?_
      refine a_fact (p := Sh A0 l0.length l0.length) (fun w h => f_sh (dk := kStep) h (fun w h => R0.now Z h)) (fun hq13 => ?_)
      refine za5 2 rfl rfl rfl (by kernel_rfl) (fun _ _ _ h => h) (q_ix Try.underlying24 Z89 rfl rfl hq13 hr6.get) ?_
      refine zau 3 rfl rfl rfl (by kernel_rfl) (fun _ _ _ h => h) (fun w h => h) (q_ldE G89 Z89 rfl rfl (fun w h => R0.now Z h) hr6.get (fun _ _ h => h) rfl) ?_
      refine za5 4 rfl rfl rfl (by kernel_rfl) (fun _ _ _ h => h) (za3 rfl) ?_
      refine za5 5 rfl rfl rfl (by kernel_rfl) (fun _ _ _ h => h) (za3 rfl) ?_
      refine a_fact (p := Sh A1 l1.length l1.length) (fun w h => f_sh (dk := kStep) h (fun w h => R1.now Z h)) (fun hq14 => ?_)
      refine za9 h (fun y16 hg15 h => ?_) rfl
      refine za5 6 rfl rfl rfl (by kernel_rfl) (fun _ _ _ h => h) (q_ix Try.underlying24 Z89 rfl rfl hq14 hg15) ?_
      refine zau 7 rfl rfl rfl (by kernel_rfl) (fun _ _ _ h => h) (fun w h => h) (q_ldE G89 Z89 rfl rfl (fun w h => R1.now Z h) hg15 (fun _ _ h => h) rfl) ?_
      refine za5 8 rfl rfl rfl (by kernel_rfl) (fun _ _ _ h => h) (q_aneq E89 O89 P89 (Q89 y3.f0 y3.f1 y16.f0 y16.f1) rfl rfl) ?_
      refine a_done (by kernel_rfl) ?_
      refine za2 ?_
      refine zas _ rfl (fun hb17 => ?_) (fun hb17 => ?_)
      · replace hb17 := nt_t hb17
        replace h := bb_f hb17 h
        refine c_seq ?_
        refine za0 ?_
        refine o_q rfl rfl (q_asg rfl) ?_
        refine o_end ?_
        refine za2 ?_
        refine c_ret ?_
        refine zan ?_
        refine za8 ?_
        refine za8 ?_
        have e_ := Option.some.inj h; replace h := hR8; rw [← e_] at h; clear e_
        refine zan ?_
        refine za8 ?_
        have e0_ := Option.some.inj h; clear h
        subst e0_
        exact x_r1 () Try.results99 (zaf rfl) rfl (fun w h => za7 [] (by decide) rfl w h)
      · replace hb17 := nt_f hb17
        replace h := bb_t hb17 h
        refine zao ?_
        refine zam ?_
        refine za2 ?_
        refine za0 ?_
        refine o_q rfl rfl (q_up rfl rfl (hr6.up hm7)) ?_
        refine o_q rfl rfl (za3 rfl) ?_
        refine o_end ?_
        refine zal ys4.length (ys4, i2 + 1) (by rw [← hk12]; exact Nat.lt_succ_self _) ⟨hr6.step, rfl, h⟩ ⟨rfl, trivial⟩ (fun w h => za7 [] (by decide) rfl w h) ?_
        repeat (first | exact zad _ _ | refine zai rfl ?_ | refine zae rfl ?_ | refine zaj rfl ?_)

/-! ### loop.example/g01098/laws.pSameInts: function 21 -/
def laws_pSameInts.l0 (l1 : List Int) : (List Int) → Int → Option ((Bool) ⊕ (Unit))
  | [], i2 => some (.inr ())
  | y3 :: ys4, i2 => (gt l1 i2).bind fun y16 => if y3 ≠ y16 then (some (.inl false)) else (laws_pSameInts.l0 l1 ys4 (i2 + 1))
def laws_pSameInts.f (l0 : List Int) (l1 : List Int) : Option Bool := if (l0.length : Int) ≠ (l1.length : Int) then (some false) else ((laws_pSameInts.l0 l1 l0 0).bind fun o_ => match o_ with | .inl r_ => some r_ | .inr _ => some true)
set_option maxHeartbeats 600000 in
set_option maxRecDepth 100000 in
theorem laws_pSameInts.calls {w0 ws : World} {P0 : Nat → Prop} (A0 : Option Addr) (c0 : Nat) (n0 : Nat) (l0 : List Int) (A1 : Option Addr) (c1 : Nat) (n1 : Nat) (l1 : List Int) (Z : Below w0.heap.size w0 ws) (hF : Fr w0 ws P0 [] ws) (R0 : Stable ws P0 (fun w => Kd.C (Kd.int .i64) w A0 n0 l0)) (hc0 : n0 ≤ c0) (R1 : Stable ws P0 (fun w => Kd.C (Kd.int .i64) w A1 n1 l1)) (hc1 : n1 ≤ c1) (r_1 : Bool) (h : laws_pSameInts.f l0 l1 = some r_1) :
    Calls Try.prog 21 #[.slice A0 n0 c0, .slice A1 n1 c1] ws (Post1 w0 ws P0 (fun (_ : Unit) => .bool r_1) (fun (_ : Unit) => [])) := by
  unfold laws_pSameInts.f at h
  obtain rfl := (R0 ws (KeptB.refl _ _)).1
  obtain rfl := (R1 ws (KeptB.refl _ _)).1
  refine enter Try.func21 rfl Try.ntmps21 rfl hF ?_
  refine c_seq ?_
  refine za0 ?_
  refine o_q rfl rfl (q_asg rfl) ?_
  refine o_end ?_
  refine za2 ?_
  refine c_seq ?_
  refine c_seq ?_
  refine za0 ?_
  refine o_q rfl rfl (za3 rfl) ?_
  refine o_q rfl rfl (q_len Try.underlying25 rfl) ?_
  refine o_q rfl rfl (za3 rfl) ?_
  refine o_q rfl rfl (q_len Try.underlying25 rfl) ?_
  refine o_q rfl rfl (q_neq rfl rfl) ?_
  refine o_end ?_
  refine za2 ?_
  refine zas _ rfl (fun hb1 => ?_) (fun hb1 => ?_)
  · skip
    replace h := br_t hb1 h
    refine c_seq ?_
    refine za0 ?_
    refine o_q rfl rfl (q_asg rfl) ?_
    refine o_end ?_
    refine za2 ?_
    refine c_ret ?_
    refine za8 ?_
    have e0_ := Option.some.inj h; clear h
    subst e0_
    exact x_r1 () Try.results21 (zaf rfl) rfl (fun w h => za7 [] (by decide) rfl w h)
  · skip
    replace h := br_f hb1 h
    refine zao ?_
    refine za2 ?_
    refine c_seq ?_
    refine c_seq ?_
    refine za0 ?_
    refine o_q rfl rfl (za3 rfl) ?_
    refine o_q rfl rfl (q_len Try.underlying25 rfl) ?_
    refine o_q rfl rfl (za3 rfl) ?_
    refine o_end ?_
    refine za2 ?_
    refine zak ?_
    refine za9 h (fun o10 hl9 hR8 => ?_) rfl
    clear h
    refine c_fact (p := l0.length ≤ 9223372036854775807) (fun w h => (R0.now Z h).2.1) (fun hm7 => ?_)
    refine zay (σ := (List Int) × Int) (fun k5 ((ys4, i2) : (List Int) × Int) => Rg l0 i2 ys4 ∧ ys4.length = k5 ∧ laws_pSameInts.l0 l1 ys4 i2 = some o10) [4, 5, 13, 14, 15, 16, 17, 18, 19, 20, 21, 22, 23, 24, 25] (fun ((ys4, i2) : (List Int) × Int) => [(13, .int .i64 i2)]) (fun ((ys4, i2) : (List Int) × Int) => []) l0.length (l0, 0) ⟨Rg.start _, rfl, hl9⟩ ⟨rfl, trivial⟩ (fun w h => h) ?_
    refine fun k5 => cur2 (listC (fun i2 U11 hJ_ => ?_) (fun y3 ys4 i2 U11 hJ_ => ?_))
    · skip
      clear hl9
      have hr6 := hJ_.1; have hk12 := hJ_.2.1; have h := hJ_.2.2; clear hJ_
      replace h : laws_pSameInts.l0 l1 [] i2 = some o10 := h
      rw [laws_pSameInts.l0] at h
      refine c_seq ?_
      refine za0 ?_
      refine o_q rfl rfl (q_lss rfl rfl) ?_
      refine o_end ?_
      refine za2 ?_
      refine c_seq ?_
      refine c_false (congrArg Value.bool hr6.ge) ?_
      refine c_exit ?_
      refine za6 ?_
      refine za6 ?_
      have e_ := Option.some.inj h; replace h := hR8; rw [← e_] at h; clear e_
      refine x_hit ?_
      refine za2 ?_
      refine c_seq ?_
      refine za0 ?_
      refine o_q rfl rfl (q_asg rfl) ?_
      refine o_end ?_
      refine za2 ?_
      refine c_ret ?_
      have e0_ := Option.some.inj h; clear h
      subst e0_
      exact x_r1 () Try.results21 (zaf rfl) rfl (fun w h => za7 [] (by decide) rfl w h)
    · skip
      clear hl9
      have hr6 := hJ_.1; have hk12 := hJ_.2.1; have h := hJ_.2.2; clear hJ_
      replace h : laws_pSameInts.l0 l1 (y3 :: ys4) i2 = some o10 := h
      rw [laws_pSameInts.l0] at h
      refine c_seq ?_
      refine za0 ?_
      refine o_q rfl rfl (q_lss rfl rfl) ?_
      refine o_end ?_
      refine za2 ?_
      refine c_seq ?_
      refine c_true (congrArg Value.bool hr6.lt) ?_
      refine zao ?_
      refine za2 ?_
      refine c_seq ?_
      refine zak ?_
      refine c_seq ?_
      refine za0 ?_
      refine o_q rfl rfl (za3 rfl) ?_
      refine o_q rfl rfl (q_asg rfl) ?_
      refine o_end ?_
      refine za2 ?_
      refine c_seq ?_
      refine a_start (ds := []) MO rfl ?_
      refine za5 0 rfl rfl rfl (by kernel_rfl) (fun _ _ _ h => h) (za3 rfl) ?_
      refine za5 1 rfl rfl rfl (by kernel_rfl) (fun _ _ _ h => h) (za3 rfl) ?_
      refine a_fact (p := Sh A0 l0.length l0.length) (fun w h => f_sh (dk := (Kd.int .i64)) h (fun w h => R0.now Z h)) (fun hq13 => ?_)
      refine za5 2 rfl rfl rfl (by kernel_rfl) (fun _ _ _ h => h) (q_ix Try.underlying25 Z3 rfl rfl hq13 hr6.get) ?_
      refine zau 3 rfl rfl rfl (by kernel_rfl) (fun _ _ _ h => h) (fun w h => h) (q_lde (off := 0) Y3 rfl rfl (fun w h => R0.now Z h) hr6.get (fun _ _ h => h) rfl) ?_
      refine za5 4 rfl rfl rfl (by kernel_rfl) (fun _ _ _ h => h) (za3 rfl) ?_
      refine za5 5 rfl rfl rfl (by kernel_rfl) (fun _ _ _ h => h) (za3 rfl) ?_
      refine a_fact (p := Sh A1 l1.length l1.length) (fun w h => f_sh (dk := (Kd.int .i64)) h (fun w h => R1.now Z h)) (fun hq14 => ?_)
      refine za9 h (fun y16 hg15 h => ?_) rfl
      refine za5 6 rfl rfl rfl (by kernel_rfl) (fun _ _ _ h => h) (q_ix Try.underlying25 Z3 rfl rfl hq14 hg15) ?_
      refine zau 7 rfl rfl rfl (by kernel_rfl) (fun _ _ _ h => h) (fun w h => h) (q_lde (off := 0) Y3 rfl rfl (fun w h => R1.now Z h) hg15 (fun _ _ h => h) rfl) ?_
      refine za5 8 rfl rfl rfl (by kernel_rfl) (fun _ _ _ h => h) (q_neq rfl rfl) ?_
      refine a_done (by kernel_rfl) ?_
      refine za2 ?_
      refine zas _ rfl (fun hb17 => ?_) (fun hb17 => ?_)
      · skip
        replace h := br_t hb17 h
        refine c_seq ?_
        refine za0 ?_
        refine o_q rfl rfl (q_asg rfl) ?_
        refine o_end ?_
        refine za2 ?_
        refine c_ret ?_
        refine zan ?_
        refine za8 ?_
        refine za8 ?_
        have e_ := Option.some.inj h; replace h := hR8; rw [← e_] at h; clear e_
        refine zan ?_
        refine za8 ?_
        have e0_ := Option.some.inj h; clear h
        subst e0_
        exact x_r1 () Try.results21 (zaf rfl) rfl (fun w h => za7 [] (by decide) rfl w h)
      · skip
        replace h := br_f hb17 h
        refine zao ?_
        refine zam ?_
        refine za2 ?_
        refine za0 ?_
        refine o_q rfl rfl (q_up rfl rfl (hr6.up hm7)) ?_
        refine o_q rfl rfl (za3 rfl) ?_
        refine o_end ?_
        refine zal ys4.length (ys4, i2 + 1) (by rw [← hk12]; exact Nat.lt_succ_self _) ⟨hr6.step, rfl, h⟩ ⟨rfl, trivial⟩ (fun w h => za7 [] (by decide) rfl w h) ?_
        repeat (first | exact zad _ _ | refine zai rfl ?_ | refine zae rfl ?_ | refine zaj rfl ?_)

/-! ### loop.example/g01098/laws.pSamePlan: function 17 -/
def laws_pSamePlan.f (a0_0 : Int) (l0_1 : List SStep) (l0_2 : List Int) (a1_0 : Int) (l1_1 : List SStep) (l1_2 : List Int) : Option Bool := if a0_0 = a1_0 then ((laws_pSameSteps.f l0_1 l1_1).bind fun b7 => if b7 = true then ((laws_pSameInts.f l0_2 l1_2).bind fun b10 => some b10) else (some false)) else (some false)
set_option maxHeartbeats 600000 in
set_option maxRecDepth 100000 in
theorem laws_pSamePlan.calls {w0 ws : World} {P0 : Nat → Prop} (a0_0 : Int) (A0_1 : Option Addr) (c0_1 : Nat) (n0_1 : Nat) (l0_1 : List SStep) (A0_2 : Option Addr) (c0_2 : Nat) (n0_2 : Nat) (l0_2 : List Int) (a1_0 : Int) (A1_1 : Option Addr) (c1_1 : Nat) (n1_1 : Nat) (l1_1 : List SStep) (A1_2 : Option Addr) (c1_2 : Nat) (n1_2 : Nat) (l1_2 : List Int) (Z : Below w0.heap.size w0 ws) (hF : Fr w0 ws P0 [] ws) (R0_1 : Stable ws P0 (fun w => Kd.C kStep w A0_1 n0_1 l0_1)) (hc0_1 : n0_1 ≤ c0_1) (R0_2 : Stable ws P0 (fun w => Kd.C (Kd.int .i64) w A0_2 n0_2 l0_2)) (hc0_2 : n0_2 ≤ c0_2) (R1_1 : Stable ws P0 (fun w => Kd.C kStep w A1_1 n1_1 l1_1)) (hc1_1 : n1_1 ≤ c1_1) (R1_2 : Stable ws P0 (fun w => Kd.C (Kd.int .i64) w A1_2 n1_2 l1_2)) (hc1_2 : n1_2 ≤ c1_2) (r_1 : Bool) (h : laws_pSamePlan.f a0_0 l0_1 l0_2 a1_0 l1_1 l1_2 = some r_1) :
    Calls Try.prog 17 #[.agg #[.int .i64 a0_0, .slice A0_1 n0_1 c0_1, .slice A0_2 n0_2 c0_2], .agg #[.int .i64 a1_0, .slice A1_1 n1_1 c1_1, .slice A1_2 n1_2 c1_2]] ws (Post1 w0 ws P0 (fun (_ : Unit) => .bool r_1) (fun (_ : Unit) => [])) := by
  unfold laws_pSamePlan.f at h
  obtain rfl := (R0_1 ws (KeptB.refl _ _)).1
  obtain rfl := (R0_2 ws (KeptB.refl _ _)).1
  obtain rfl := (R1_1 ws (KeptB.refl _ _)).1
  obtain rfl := (R1_2 ws (KeptB.refl _ _)).1
  refine enter Try.func17 rfl Try.ntmps17 rfl hF ?_
  refine c_seq ?_
  refine za0 ?_
  refine o_e rfl (e_box rfl) (fun g1 => ?_)
  refine o_e rfl (e_box rfl) (fun g3 => ?_)
  refine o_q rfl rfl (q_asg rfl) ?_
  refine o_end ?_
  refine za2 ?_
  refine c_seq ?_
  refine za0 ?_
  refine o_q rfl rfl (q_f F27_0 rfl) ?_
  refine o_q rfl rfl (q_ldb Y3 rfl (fun w h => h.zab (i := 1) rfl) rfl) ?_
  refine o_q rfl rfl (q_f F27_0 rfl) ?_
  refine o_q rfl rfl (q_ldb Y3 rfl (fun w h => h.zab (i := 0) rfl) rfl) ?_
  refine o_q rfl rfl (q_eql rfl rfl) ?_
  refine o_q rfl rfl (za3 rfl) ?_
  refine byB (decide (a0_0 = a1_0)) (fun hb5 => ?_) (fun hb5 => ?_)
  · replace h := br_t hb5 h
    refine o_w (za4 rfl rfl rfl (congrArg Value.bool hb5)) rfl (q_f F27_1 rfl) ?_
    refine o_w (za4 rfl rfl rfl (congrArg Value.bool hb5)) rfl (q_ldb Y24 rfl (fun w h => h.zab (i := 1) rfl) rfl) ?_
    refine o_w (za4 rfl rfl rfl (congrArg Value.bool hb5)) rfl (q_f F27_1 rfl) ?_
    refine o_w (za4 rfl rfl rfl (congrArg Value.bool hb5)) rfl (q_ldb Y24 rfl (fun w h => h.zab (i := 0) rfl) rfl) ?_
    refine za9 h (fun b7 hx6 h => ?_) rfl
    refine o_ew (za4 rfl rfl rfl (congrArg Value.bool hb5)) (zac 0 Z Try.func99 N99 rfl rfl rfl (fun w P1 hF hB hS hT => laws_pSameSteps.calls A0_1 c0_1 l0_1.length l0_1 A1_1 c1_1 l1_1.length l1_1 hB hF (hS _ R0_1) hc0_1 (hS _ R1_1) hc1_1 _ hx6)) (fun _ => ?_)
    refine o_q rfl rfl (zah true (congrArg Value.bool hb5) rfl) ?_
    refine o_q rfl rfl (za3 rfl) ?_
    refine byB b7 (fun hb8 => ?_) (fun hb8 => ?_)
    · replace h := bb_t hb8 h
      refine o_w (za4 rfl rfl rfl (congrArg Value.bool hb8)) rfl (q_f F27_2 rfl) ?_
      refine o_w (za4 rfl rfl rfl (congrArg Value.bool hb8)) rfl (q_ldb Y25 rfl (fun w h => h.zab (i := 1) rfl) rfl) ?_
      refine o_w (za4 rfl rfl rfl (congrArg Value.bool hb8)) rfl (q_f F27_2 rfl) ?_
      refine o_w (za4 rfl rfl rfl (congrArg Value.bool hb8)) rfl (q_ldb Y25 rfl (fun w h => h.zab (i := 0) rfl) rfl) ?_
      refine za9 h (fun b10 hx9 h => ?_) rfl
      refine o_ew (za4 rfl rfl rfl (congrArg Value.bool hb8)) (zac 0 Z Try.func21 N21 rfl rfl rfl (fun w P1 hF hB hS hT => laws_pSameInts.calls A0_2 c0_2 l0_2.length l0_2 A1_2 c1_2 l1_2.length l1_2 hB hF (hS _ R0_2) hc0_2 (hS _ R1_2) hc1_2 _ hx9)) (fun _ => ?_)
      refine o_q rfl rfl (zah true (congrArg Value.bool hb8) rfl) ?_
      refine o_q rfl rfl (q_asg rfl) ?_
      refine o_end ?_
      refine za2 ?_
      refine c_ret ?_
      have e0_ := Option.some.inj h; clear h
      subst e0_
      exact x_r1 () Try.results17 (zaf rfl) rfl (fun w h => za7 [] (by decide) rfl w h)
    · replace h := bb_f hb8 h
      refine @o_n _ _ _ _ _ _ _ _ _ _ _ 18 (za1 rfl rfl rfl (congrArg Value.bool hb8) rfl) (Eq.refl (some 18)) ?_
      refine @o_n _ _ _ _ _ _ _ _ _ _ _ 19 (za1 rfl rfl rfl (congrArg Value.bool hb8) rfl) (Eq.refl (some 19)) ?_
      refine @o_n _ _ _ _ _ _ _ _ _ _ _ 20 (za1 rfl rfl rfl (congrArg Value.bool hb8) rfl) (Eq.refl (some 20)) ?_
      refine @o_n _ _ _ _ _ _ _ _ _ _ _ 21 (za1 rfl rfl rfl (congrArg Value.bool hb8) rfl) (Eq.refl (some 21)) ?_
      refine @o_n _ _ _ _ _ _ _ _ _ _ _ 22 (za1 rfl rfl rfl (congrArg Value.bool hb8) rfl) (Eq.refl (some 22)) ?_
      refine o_q rfl rfl (zah false (congrArg Value.bool hb8) rfl) ?_
      refine o_q rfl rfl (q_asg rfl) ?_
      refine o_end ?_
      refine za2 ?_
      refine c_ret ?_
      have e0_ := Option.some.inj h; clear h
      subst e0_
      exact x_r1 () Try.results17 (zaf rfl) rfl (fun w h => za7 [] (by decide) rfl w h)
  · replace h := br_f hb5 h
    refine @o_n _ _ _ _ _ _ _ _ _ _ _ 11 (za1 rfl rfl rfl (congrArg Value.bool hb5) rfl) (Eq.refl (some 11)) ?_
    refine @o_n _ _ _ _ _ _ _ _ _ _ _ 12 (za1 rfl rfl rfl (congrArg Value.bool hb5) rfl) (Eq.refl (some 12)) ?_
    refine @o_n _ _ _ _ _ _ _ _ _ _ _ 13 (za1 rfl rfl rfl (congrArg Value.bool hb5) rfl) (Eq.refl (some 13)) ?_
    refine @o_n _ _ _ _ _ _ _ _ _ _ _ 14 (za1 rfl rfl rfl (congrArg Value.bool hb5) rfl) (Eq.refl (some 14)) ?_
    refine @o_n _ _ _ _ _ _ _ _ _ _ _ 15 (za1 rfl rfl rfl (congrArg Value.bool hb5) rfl) (Eq.refl (some 15)) ?_
    refine o_q rfl rfl (zah false (congrArg Value.bool hb5) rfl) ?_
    refine o_q rfl rfl (za3 rfl) ?_
    refine @o_n _ _ _ _ _ _ _ _ _ _ _ 18 (za1 rfl rfl rfl rfl rfl) (Eq.refl (some 18)) ?_
    refine @o_n _ _ _ _ _ _ _ _ _ _ _ 19 (za1 rfl rfl rfl rfl rfl) (Eq.refl (some 19)) ?_
    refine @o_n _ _ _ _ _ _ _ _ _ _ _ 20 (za1 rfl rfl rfl rfl rfl) (Eq.refl (some 20)) ?_
    refine @o_n _ _ _ _ _ _ _ _ _ _ _ 21 (za1 rfl rfl rfl rfl rfl) (Eq.refl (some 21)) ?_
    refine @o_n _ _ _ _ _ _ _ _ _ _ _ 22 (za1 rfl rfl rfl rfl rfl) (Eq.refl (some 22)) ?_
    refine o_q rfl rfl (zah false rfl rfl) ?_
    refine o_q rfl rfl (q_asg rfl) ?_
    refine o_end ?_
    refine za2 ?_
    refine c_ret ?_
    have e0_ := Option.some.inj h; clear h
    subst e0_
    exact x_r1 () Try.results17 (zaf rfl) rfl (fun w h => za7 [] (by decide) rfl w h)

/-! ### slices.Clone[[]int,int]: function 141 -/
def slices_Clone_int_int.f (l0 : List Int) : Option (List Int) := (ap ([] : List Int) l0).bind fun l5 => some l5
set_option maxHeartbeats 600000 in
set_option maxRecDepth 100000 in
theorem slices_Clone_int_int.calls {w0 ws : World} {P0 : Nat → Prop} (A0 : Option Addr) (c0 : Nat) (n0 : Nat) (l0 : List Int) (Z : Below w0.heap.size w0 ws) (hF : Fr w0 ws P0 [] ws) (R0 : Stable ws P0 (fun w => Kd.C (Kd.int .i64) w A0 n0 l0)) (hc0 : n0 ≤ c0) (r_1 : List Int) (h : slices_Clone_int_int.f l0 = some r_1) :
    Calls Try.prog 141 #[.slice A0 n0 c0] ws (Post1 w0 ws P0 (fun ((q_2, q_3) : (Option Addr) × Nat) => .slice q_2 r_1.length q_3) (fun ((q_2, q_3) : (Option Addr) × Nat) => [row (Kd.int .i64) 3 (.slice q_2 r_1.length q_3) r_1])) := by
  unfold slices_Clone_int_int.f at h
  obtain rfl := (R0 ws (KeptB.refl _ _)).1
  refine enter Try.func141 rfl Try.ntmps141 rfl hF ?_
  refine c_seq ?_
  refine za0 ?_
  refine o_q rfl rfl (q_asg rfl) ?_
  refine o_end ?_
  refine za2 ?_
  refine c_seq ?_
  refine c_seq ?_
  refine za0 ?_
  refine o_q rfl rfl (za3 rfl) ?_
  refine o_q rfl rfl (q_snil Try.underlying25 rfl rfl) ?_
  refine o_end ?_
  refine za2 ?_
  refine zas _ rfl (fun hb1 => ?_) (fun hb1 => ?_)
  · skip
    have hl_ := nil_of hb1 (R0 ws (KeptB.refl _ _)); subst hl_
    replace h : some ([] : List Int) = some r_1 := h
    refine c_seq ?_
    refine za0 ?_
    refine o_q rfl rfl (q_asg rfl) ?_
    refine o_end ?_
    refine za2 ?_
    refine c_ret ?_
    refine za8 ?_
    refine x_nil (Kd.int .i64) 3 ?_
    have e0_ := Option.some.inj h; clear h
    subst e0_
    exact x_r1 (none, 0) Try.results141 (zaf rfl) rfl (fun w h => za7 [0] (by decide) rfl w h)
  · skip
    refine zao ?_
    refine za2 ?_
    refine c_seq ?_
    refine za0 ?_
    refine o_e rfl (e_lit0 (Kd.int .i64) Try.underlying25 I3) (cur2 (fun A2 c3 => ?_))
    refine o_q rfl rfl (za3 rfl) ?_
    refine za9 h (fun l5 ha6 h => ?_) rfl
    refine o_e rfl (e_appr (i := 0) Try.underlying25 I3 rfl (by decide) (by decide) (fun _ _ _ _ h => h) rfl (fun w h => R0.now Z h) rfl rfl ha6) (cur2 (fun A7 c8 => ?_))
    refine o_q rfl rfl (q_asg rfl) ?_
    refine o_end ?_
    refine za2 ?_
    refine c_ret ?_
    have e0_ := Option.some.inj h; clear h
    subst e0_
    exact x_r1 (A7, c8) Try.results141 (zaf rfl) rfl (fun w h => za7 [0] (by decide) rfl w h)

/-! ### (*loop.example/g01098/impl.Plan).outputExponents: function 135 -/
def impl_Plan_outputExponents.l0 (l2 : List (List Int)) : (List Int) → (List (List Int)) → Int → Option (List (List Int))
  | [], l9, i13 => some l9
  | y14 :: ys15, l9, i13 => (gt l2 y14).bind fun y27 => (slices_Clone_int_int.f y27).bind fun l30 => (ap l9 ([l30] : List (List Int))).bind fun l37 => impl_Plan_outputExponents.l0 l2 ys15 l37 (i13 + 1)
def impl_Plan_outputExponents.f (a0_0 : Int) (l0_1 : List SStep) (l0_2 : List Int) : Option (List (List Int)) := (impl_Plan_exponents.f a0_0 l0_1 l0_2).bind fun l2 => (impl_Plan_outputExponents.l0 l2 l0_2 ([] : List (List Int)) 0).bind fun l9 => some l9
set_option maxHeartbeats 600000 in
set_option maxRecDepth 100000 in
theorem impl_Plan_outputExponents.calls {w0 ws : World} {P0 : Nat → Prop} (g0 : Nat) (a0_0 : Int) (A0_1 : Option Addr) (c0_1 : Nat) (n0_1 : Nat) (l0_1 : List SStep) (A0_2 : Option Addr) (c0_2 : Nat) (n0_2 : Nat) (l0_2 : List Int) (Z : Below w0.heap.size w0 ws) (hF : Fr w0 ws P0 [] ws) (R0_1 : Stable ws P0 (fun w => Kd.C kStep w A0_1 n0_1 l0_1)) (hc0_1 : n0_1 ≤ c0_1) (R0_2 : Stable ws P0 (fun w => Kd.C (Kd.int .i64) w A0_2 n0_2 l0_2)) (hc0_2 : n0_2 ≤ c0_2) (B0 : Stable ws P0 (fun w => w.heap[g0]? = some (.cells #[.int .i64 a0_0, .slice A0_1 n0_1 c0_1, .slice A0_2 n0_2 c0_2] 27 (0, 0)))) (r_1 : List (List Int)) (h : impl_Plan_outputExponents.f a0_0 l0_1 l0_2 = some r_1) :
    Calls Try.prog 135 #[.pointer (some ⟨g0, 0, none⟩)] ws (Post1 w0 ws P0 (fun ((q_2, q_3, q_4) : (Option Addr) × Nat × Hd) => .slice q_2 r_1.length q_3) (fun ((q_2, q_3, q_4) : (Option Addr) × Nat × Hd) => [row (gk 3 (Kd.int .i64)) 25 (.slice q_2 r_1.length q_3) (zp q_4 r_1)])) := by
  unfold impl_Plan_outputExponents.f at h
  obtain rfl := (R0_1 ws (KeptB.refl _ _)).1
  obtain rfl := (R0_2 ws (KeptB.refl _ _)).1
  refine enter Try.func135 rfl Try.ntmps135 rfl hF ?_
  refine c_seq ?_
  refine za0 ?_
  refine o_q rfl rfl (q_asg rfl) ?_
  refine o_end ?_
  refine za2 ?_
  refine c_seq ?_
  refine za0 ?_
  refine o_q rfl rfl (za3 rfl) ?_
  refine za9 h (fun l2 hx1 h => ?_) rfl
  refine o_e rfl (zac 0 Z Try.func120 N120 rfl rfl rfl (fun w P1 hF hB hS hT => impl_Plan_exponents.calls g0 a0_0 A0_1 c0_1 l0_1.length l0_1 A0_2 c0_2 l0_2.length l0_2 hB hF (hS _ R0_1) hc0_1 (hS _ R0_2) hc0_2 (hS _ B0) _ hx1)) (cur3 (fun A3 c4 H5 => ?_))
  refine o_e rfl (e_lit0 (gk 3 (Kd.int .i64)) Try.underlying60 I25) (cur2 (fun A6 c7 => ?_))
  refine o_q rfl rfl (q_asg rfl) ?_
  refine o_q rfl rfl (q_asg rfl) ?_
  refine o_end ?_
  refine za2 ?_
  refine c_seq ?_
  refine c_seq ?_
  refine za0 ?_
  refine o_q rfl rfl (za3 rfl) ?_
  refine o_q rfl rfl (q_nil rfl) ?_
  refine o_q rfl rfl (q_f F27_2 rfl) ?_
  refine o_q rfl rfl (q_ldb Y25 rfl (fun w h => B0.now Z h) rfl) ?_
  refine o_q rfl rfl (q_len Try.underlying25 rfl) ?_
  refine o_q rfl rfl (za3 rfl) ?_
  refine o_end ?_
  refine za2 ?_
  refine zak ?_
  refine za9 h (fun o21 hl20 hR19 => ?_) rfl
  clear h
  refine c_fact (p := l0_2.length ≤ 9223372036854775807) (fun w h => (R0_2.now Z h).2.1) (fun hm18 => ?_)
  refine zay (σ := (List Int) × (List (List Int)) × Int × (Option Addr) × Nat × Hd) (fun k16 ((ys15, l9, i13, A10, c11, H12) : (List Int) × (List (List Int)) × Int × (Option Addr) × Nat × Hd) => Rg l0_2 i13 ys15 ∧ ys15.length = k16 ∧ impl_Plan_outputExponents.l0 l2 ys15 l9 i13 = some o21) [4, 6, 15, 16, 17, 18, 19, 20, 21, 22, 23, 24, 25, 26, 27] (fun ((ys15, l9, i13, A10, c11, H12) : (List Int) × (List (List Int)) × Int × (Option Addr) × Nat × Hd) => [(4, .slice A10 l9.length c11), (15, .int .i64 i13)]) (fun ((ys15, l9, i13, A10, c11, H12) : (List Int) × (List (List Int)) × Int × (Option Addr) × Nat × Hd) => [row (gk 3 (Kd.int .i64)) 25 (.slice A10 l9.length c11) (zp H12 l9), row (gk 3 (Kd.int .i64)) 25 (.slice A3 l2.length c4) (zp H5 l2)]) l0_2.length (l0_2, ([] : List (List Int)), 0, A6, c7, ([] : Hd)) ⟨Rg.start _, rfl, hl20⟩ ⟨rfl, rfl, trivial⟩ (fun w h => h) ?_
  refine fun k16 => cur6 (listC (fun l9 i13 A10 c11 H12 U22 hJ_ => ?_) (fun y14 ys15 l9 i13 A10 c11 H12 U22 hJ_ => ?_))
  · skip
    clear hl20
    have hr17 := hJ_.1; have hk23 := hJ_.2.1; have h := hJ_.2.2; clear hJ_
    replace h : impl_Plan_outputExponents.l0 l2 [] l9 i13 = some o21 := h
    rw [impl_Plan_outputExponents.l0] at h
    refine c_seq ?_
    refine za0 ?_
    refine o_q rfl rfl (q_lss rfl rfl) ?_
    refine o_end ?_
    refine za2 ?_
    refine c_seq ?_
    refine c_false (congrArg Value.bool hr17.ge) ?_
    refine c_exit ?_
    refine za6 ?_
    refine za6 ?_
    have e_ := Option.some.inj h; replace h := hR19; rw [← e_] at h; clear e_
    refine x_hit ?_
    refine za2 ?_
    refine c_seq ?_
    refine za0 ?_
    refine o_q rfl rfl (za3 rfl) ?_
    refine o_q rfl rfl (q_asg rfl) ?_
    refine o_end ?_
    refine za2 ?_
    refine c_ret ?_
    have e0_ := Option.some.inj h; clear h
    subst e0_
    exact x_r1 (A10, c11, H12) Try.results135 (zaf rfl) rfl (fun w h => za7 [0] (by decide) rfl w h)
  · skip
    clear hl20
    have hr17 := hJ_.1; have hk23 := hJ_.2.1; have h := hJ_.2.2; clear hJ_
    replace h : impl_Plan_outputExponents.l0 l2 (y14 :: ys15) l9 i13 = some o21 := h
    rw [impl_Plan_outputExponents.l0] at h
    refine c_seq ?_
    refine za0 ?_
    refine o_q rfl rfl (q_lss rfl rfl) ?_
    refine o_end ?_
    refine za2 ?_
    refine c_seq ?_
    refine c_true (congrArg Value.bool hr17.lt) ?_
    refine zao ?_
    refine za2 ?_
    refine c_seq ?_
    refine zak ?_
    refine c_seq ?_
    refine za0 ?_
    refine o_fact (p := Sh A0_2 l0_2.length l0_2.length) (fun w h => f_sh (dk := (Kd.int .i64)) h (fun w h => R0_2.now Z h)) (fun hq24 => ?_)
    refine o_q rfl rfl (q_ix Try.underlying25 Z3 rfl rfl hq24 hr17.get) ?_
    refine o_q rfl rfl (q_lde (off := 0) Y3 rfl rfl (fun w h => R0_2.now Z h) hr17.get (fun _ _ h => h) rfl) ?_
    refine o_q rfl rfl (q_asg rfl) ?_
    refine o_end ?_
    refine za2 ?_
    refine za0 ?_
    refine o_q rfl rfl (za3 rfl) ?_
    refine o_q rfl rfl (za3 rfl) ?_
    refine o_q rfl rfl (za3 rfl) ?_
    refine o_fact (p := Sh A3 l2.length (zp H5 l2).length) (fun w h => f_sh (dk := (gk 3 (Kd.int .i64))) h (fun w h => h.zat (i := 1) rfl)) (fun hq25 => ?_)
    refine za9 h (fun y27 hg26 h => ?_) rfl
    refine o_q rfl rfl (q_ix Try.underlying60 Z25 rfl rfl hq25 (gt_zp hg26)) ?_
    refine o_fact (p := y27.length ≤ hC H5 y14) (fun w h => (K_in (h.zat (i := 1) rfl) hg26).1) (fun hc28 => ?_)
    refine o_q rfl rfl (q_lde (off := 0) Y25 rfl rfl (fun w h => h.zat (i := 1) rfl) (gt_zp hg26) (fun _ _ h => h.1) rfl) ?_
    refine za9 h (fun l30 hx29 h => ?_) rfl
    refine o_e rfl (zac 0 Z Try.func141 N141 rfl rfl rfl (fun w P1 hF hB hS hT => slices_Clone_int_int.calls (hA H5 y14) (hC H5 y14) y27.length y27 hB hF (stab_in (hT 1 _ rfl).row hg26) hc28 _ hx29)) (cur2 (fun A31 c32 => ?_))
    refine o_e rfl (e_litG (j := 0) (ue := 3) (dk := (Kd.int .i64)) (ys := l30) Try.underlying60 I25 rfl rfl rfl) (cur3 (fun A33 c34 H36 => ?_))
    refine za9 h (fun l37 ha38 h => ?_) rfl
    refine o_e rfl (e_appG (i := 2) (j := 0) Try.underlying60 I25 rfl (by decide) rfl rfl rfl rfl rfl ha38) (cur3 (fun A39 c40 H41 => ?_))
    refine o_q rfl rfl (q_asg rfl) ?_
    refine o_end ?_
    refine zam ?_
    refine za2 ?_
    refine za0 ?_
    refine o_q rfl rfl (q_up rfl rfl (hr17.up hm18)) ?_
    refine o_q rfl rfl (za3 rfl) ?_
    refine o_end ?_
    refine zal ys15.length (ys15, l37, i13 + 1, A39, c40, H41) (by rw [← hk23]; exact Nat.lt_succ_self _) ⟨hr17.step, rfl, h⟩ ⟨rfl, rfl, trivial⟩ (fun w h => za7 [2, 3] (by decide) rfl w h) ?_
    repeat (first | exact zad _ _ | refine zai rfl ?_ | refine zae rfl ?_ | refine zaj rfl ?_)

/-! ### slices.Equal[[]int,int]: function 144 -/
def slices_Equal_int_int.l0 (l1 : List Int) : (List Int) → Int → Option ((Bool) ⊕ (Unit))
  | [], i2 => some (.inr ())
  | y3 :: ys4, i2 => (gt l1 i2).bind fun y16 => if y3 ≠ y16 then (some (.inl false)) else (slices_Equal_int_int.l0 l1 ys4 (i2 + 1))
def slices_Equal_int_int.f (l0 : List Int) (l1 : List Int) : Option Bool := if (l0.length : Int) ≠ (l1.length : Int) then (some false) else ((slices_Equal_int_int.l0 l1 l0 0).bind fun o_ => match o_ with | .inl r_ => some r_ | .inr _ => some true)
set_option maxHeartbeats 600000 in
set_option maxRecDepth 100000 in
theorem slices_Equal_int_int.calls {w0 ws : World} {P0 : Nat → Prop} (A0 : Option Addr) (c0 : Nat) (n0 : Nat) (l0 : List Int) (A1 : Option Addr) (c1 : Nat) (n1 : Nat) (l1 : List Int) (Z : Below w0.heap.size w0 ws) (hF : Fr w0 ws P0 [] ws) (R0 : Stable ws P0 (fun w => Kd.C (Kd.int .i64) w A0 n0 l0)) (hc0 : n0 ≤ c0) (R1 : Stable ws P0 (fun w => Kd.C (Kd.int .i64) w A1 n1 l1)) (hc1 : n1 ≤ c1) (r_1 : Bool) (h : slices_Equal_int_int.f l0 l1 = some r_1) :
    Calls Try.prog 144 #[.slice A0 n0 c0, .slice A1 n1 c1] ws (Post1 w0 ws P0 (fun (_ : Unit) => .bool r_1) (fun (_ : Unit) => [])) := by
  unfold slices_Equal_int_int.f at h
  obtain rfl := (R0 ws (KeptB.refl _ _)).1
  obtain rfl := (R1 ws (KeptB.refl _ _)).1
  refine enter Try.func144 rfl Try.ntmps144 rfl hF ?_
  refine c_seq ?_
  refine za0 ?_
  refine o_q rfl rfl (q_asg rfl) ?_
  refine o_end ?_
  refine za2 ?_
  refine c_seq ?_
  refine c_seq ?_
  refine za0 ?_
  refine o_q rfl rfl (za3 rfl) ?_
  refine o_q rfl rfl (q_len Try.underlying25 rfl) ?_
  refine o_q rfl rfl (za3 rfl) ?_
  refine o_q rfl rfl (q_len Try.underlying25 rfl) ?_
  refine o_q rfl rfl (q_neq rfl rfl) ?_
  refine o_end ?_
  refine za2 ?_
  refine zas _ rfl (fun hb1 => ?_) (fun hb1 => ?_)
  · skip
    replace h := br_t hb1 h
    refine c_seq ?_
    refine za0 ?_
    refine o_q rfl rfl (q_asg rfl) ?_
    refine o_end ?_
    refine za2 ?_
    refine c_ret ?_
    refine za8 ?_
    have e0_ := Option.some.inj h; clear h
    subst e0_
    exact x_r1 () Try.results144 (zaf rfl) rfl (fun w h => za7 [] (by decide) rfl w h)
  · skip
    replace h := br_f hb1 h
    refine zao ?_
    refine za2 ?_
    refine c_seq ?_
    refine c_seq ?_
    refine za0 ?_
    refine o_q rfl rfl (za3 rfl) ?_
    refine o_q rfl rfl (q_len Try.underlying25 rfl) ?_
    refine o_q rfl rfl (za3 rfl) ?_
    refine o_end ?_
    refine za2 ?_
    refine zak ?_
    refine za9 h (fun o10 hl9 hR8 => ?_) rfl
    clear h
    refine c_fact (p := l0.length ≤ 9223372036854775807) (fun w h => (R0.now Z h).2.1) (fun hm7 => ?_)
    refine zay (σ := (List Int) × Int) (fun k5 ((ys4, i2) : (List Int) × Int) => Rg l0 i2 ys4 ∧ ys4.length = k5 ∧ slices_Equal_int_int.l0 l1 ys4 i2 = some o10) [4, 5, 13, 14, 15, 16, 17, 18, 19, 20, 21, 22, 23, 24, 25] (fun ((ys4, i2) : (List Int) × Int) => [(13, .int .i64 i2)]) (fun ((ys4, i2) : (List Int) × Int) => []) l0.length (l0, 0) ⟨Rg.start _, rfl, hl9⟩ ⟨rfl, trivial⟩ (fun w h => h) ?_
    refine fun k5 => cur2 (listC (fun i2 U11 hJ_ => ?_) (fun y3 ys4 i2 U11 hJ_ => ?_))
    · skip
      clear hl9
      have hr6 := hJ_.1; have hk12 := hJ_.2.1; have h := hJ_.2.2; clear hJ_
      replace h : slices_Equal_int_int.l0 l1 [] i2 = some o10 := h
      rw [slices_Equal_int_int.l0] at h
      refine c_seq ?_
      refine za0 ?_
      refine o_q rfl rfl (q_lss rfl rfl) ?_
      refine o_end ?_
      refine za2 ?_
      refine c_seq ?_
      refine c_false (congrArg Value.bool hr6.ge) ?_
      refine c_exit ?_
      refine za6 ?_
      refine za6 ?_
      have e_ := Option.some.inj h; replace h := hR8; rw [← e_] at h; clear e_
      refine x_hit ?_
      refine za2 ?_
      refine c_seq ?_
      refine za0 ?_
      refine o_q rfl rfl (q_asg rfl) ?_
      refine o_end ?_
      refine za2 ?_
      refine c_ret ?_
      have e0_ := Option.some.inj h; clear h
      subst e0_
      exact x_r1 () Try.results144 (zaf rfl) rfl (fun w h => za7 [] (by decide) rfl w h)
    · skip
      clear hl9
      have hr6 := hJ_.1; have hk12 := hJ_.2.1; have h := hJ_.2.2; clear hJ_
      replace h : slices_Equal_int_int.l0 l1 (y3 :: ys4) i2 = some o10 := h
      rw [slices_Equal_int_int.l0] at h
      refine c_seq ?_
      refine za0 ?_
      refine o_q rfl rfl (q_lss rfl rfl) ?_
      refine o_end ?_
      refine za2 ?_
      refine c_seq ?_
      refine c_true (congrArg Value.bool hr6.lt) ?_
      refine zao ?_
      refine za2 ?_
      refine c_seq ?_
      refine zak ?_
      refine c_seq ?_
      refine za0 ?_
      refine o_q rfl rfl (za3 rfl) ?_
      refine o_q rfl rfl (q_asg rfl) ?_
      refine o_end ?_
      refine za2 ?_
      refine c_seq ?_
      refine a_start (ds := []) MO rfl ?_
      refine za5 0 rfl rfl rfl (by kernel_rfl) (fun _ _ _ h => h) (za3 rfl) ?_
      refine za5 1 rfl rfl rfl (by kernel_rfl) (fun _ _ _ h => h) (za3 rfl) ?_
      refine a_fact (p := Sh A0 l0.length l0.length) (fun w h => f_sh (dk := (Kd.int .i64)) h (fun w h => R0.now Z h)) (fun hq13 => ?_)
      refine za5 2 rfl rfl rfl (by kernel_rfl) (fun _ _ _ h => h) (q_ix Try.underlying25 Z3 rfl rfl hq13 hr6.get) ?_
      refine zau 3 rfl rfl rfl (by kernel_rfl) (fun _ _ _ h => h) (fun w h => h) (q_lde (off := 0) Y3 rfl rfl (fun w h => R0.now Z h) hr6.get (fun _ _ h => h) rfl) ?_
      refine za5 4 rfl rfl rfl (by kernel_rfl) (fun _ _ _ h => h) (za3 rfl) ?_
      refine za5 5 rfl rfl rfl (by kernel_rfl) (fun _ _ _ h => h) (za3 rfl) ?_
      refine a_fact (p := Sh A1 l1.length l1.length) (fun w h => f_sh (dk := (Kd.int .i64)) h (fun w h => R1.now Z h)) (fun hq14 => ?_)
      refine za9 h (fun y16 hg15 h => ?_) rfl
      refine za5 6 rfl rfl rfl (by kernel_rfl) (fun _ _ _ h => h) (q_ix Try.underlying25 Z3 rfl rfl hq14 hg15) ?_
      refine zau 7 rfl rfl rfl (by kernel_rfl) (fun _ _ _ h => h) (fun w h => h) (q_lde (off := 0) Y3 rfl rfl (fun w h => R1.now Z h) hg15 (fun _ _ h => h) rfl) ?_
      refine za5 8 rfl rfl rfl (by kernel_rfl) (fun _ _ _ h => h) (q_neq rfl rfl) ?_
      refine a_done (by kernel_rfl) ?_
      refine za2 ?_
      refine zas _ rfl (fun hb17 => ?_) (fun hb17 => ?_)
      · skip
        replace h := br_t hb17 h
        refine c_seq ?_
        refine za0 ?_
        refine o_q rfl rfl (q_asg rfl) ?_
        refine o_end ?_
        refine za2 ?_
        refine c_ret ?_
        refine zan ?_
        refine za8 ?_
        refine za8 ?_
        have e_ := Option.some.inj h; replace h := hR8; rw [← e_] at h; clear e_
        refine zan ?_
        refine za8 ?_
        have e0_ := Option.some.inj h; clear h
        subst e0_
        exact x_r1 () Try.results144 (zaf rfl) rfl (fun w h => za7 [] (by decide) rfl w h)
      · skip
        replace h := br_f hb17 h
        refine zao ?_
        refine zam ?_
        refine za2 ?_
        refine za0 ?_
        refine o_q rfl rfl (q_up rfl rfl (hr6.up hm7)) ?_
        refine o_q rfl rfl (za3 rfl) ?_
        refine o_end ?_
        refine zal ys4.length (ys4, i2 + 1) (by rw [← hk12]; exact Nat.lt_succ_self _) ⟨hr6.step, rfl, h⟩ ⟨rfl, trivial⟩ (fun w h => za7 [] (by decide) rfl w h) ?_
        repeat (first | exact zad _ _ | refine zai rfl ?_ | refine zae rfl ?_ | refine zaj rfl ?_)

/-! ### slices.EqualFunc[[][]int,[][]int,[]int,[]int]: function 187 -/
def slices_EqualFunc_int_int_int_int.l0 (l1 : List (List Int)) : (List (List Int)) → Int → Option ((Bool) ⊕ (Unit))
  | [], i2 => some (.inr ())
  | y3 :: ys4, i2 => (gt l1 i2).bind fun y17 => (slices_Equal_int_int.f y3 y17).bind fun b20 => if b20 = true then (slices_EqualFunc_int_int_int_int.l0 l1 ys4 (i2 + 1)) else (some (.inl false))
def slices_EqualFunc_int_int_int_int.f (l0 : List (List Int)) (l1 : List (List Int)) : Option Bool := if (l0.length : Int) ≠ (l1.length : Int) then (some false) else ((slices_EqualFunc_int_int_int_int.l0 l1 l0 0).bind fun o_ => match o_ with | .inl r_ => some r_ | .inr _ => some true)
set_option maxHeartbeats 600000 in
set_option maxRecDepth 100000 in
theorem slices_EqualFunc_int_int_int_int.calls {w0 ws : World} {P0 : Nat → Prop} (A0 : Option Addr) (c0 : Nat) (n0 : Nat) (H0 : Hd) (l0 : List (List Int)) (A1 : Option Addr) (c1 : Nat) (n1 : Nat) (H1 : Hd) (l1 : List (List Int)) (Z : Below w0.heap.size w0 ws) (hF : Fr w0 ws P0 [] ws) (R0 : Stable ws P0 (fun w => Kd.C (gk 3 (Kd.int .i64)) w A0 n0 (zp H0 l0))) (hc0 : n0 ≤ c0) (R1 : Stable ws P0 (fun w => Kd.C (gk 3 (Kd.int .i64)) w A1 n1 (zp H1 l1))) (hc1 : n1 ≤ c1) (r_1 : Bool) (h : slices_EqualFunc_int_int_int_int.f l0 l1 = some r_1) :
    Calls Try.prog 187 #[.slice A0 n0 c0, .slice A1 n1 c1, .func (.func 144) #[] #[]] ws (Post1 w0 ws P0 (fun (_ : Unit) => .bool r_1) (fun (_ : Unit) => [])) := by
  unfold slices_EqualFunc_int_int_int_int.f at h
  obtain rfl := (zp_len _ _).symm.trans (R0 ws (KeptB.refl _ _)).1
  obtain rfl := (zp_len _ _).symm.trans (R1 ws (KeptB.refl _ _)).1
  refine enter Try.func187 rfl Try.ntmps187 rfl hF ?_
  refine c_seq ?_
  refine za0 ?_
  refine o_q rfl rfl (q_asg rfl) ?_
  refine o_end ?_
  refine za2 ?_
  refine c_seq ?_
  refine c_seq ?_
  refine za0 ?_
  refine o_q rfl rfl (za3 rfl) ?_
  refine o_q rfl rfl (q_len Try.underlying60 rfl) ?_
  refine o_q rfl rfl (za3 rfl) ?_
  refine o_q rfl rfl (q_len Try.underlying60 rfl) ?_
  refine o_q rfl rfl (q_neq rfl rfl) ?_
  refine o_end ?_
  refine za2 ?_
  refine zas _ rfl (fun hb1 => ?_) (fun hb1 => ?_)
  · skip
    replace h := br_t hb1 h
    refine c_seq ?_
    refine za0 ?_
    refine o_q rfl rfl (q_asg rfl) ?_
    refine o_end ?_
    refine za2 ?_
    refine c_ret ?_
    refine za8 ?_
    have e0_ := Option.some.inj h; clear h
    subst e0_
    exact x_r1 () Try.results187 (zaf rfl) rfl (fun w h => za7 [] (by decide) rfl w h)
  · skip
    replace h := br_f hb1 h
    refine zao ?_
    refine za2 ?_
    refine c_seq ?_
    refine c_seq ?_
    refine za0 ?_
    refine o_q rfl rfl (za3 rfl) ?_
    refine o_q rfl rfl (q_len Try.underlying60 rfl) ?_
    refine o_q rfl rfl (za3 rfl) ?_
    refine o_end ?_
    refine za2 ?_
    refine zak ?_
    refine za9 h (fun o10 hl9 hR8 => ?_) rfl
    clear h
    refine c_fact (p := l0.length ≤ 9223372036854775807) (fun w h => (R0.now Z h).2.1) (fun hm7 => ?_)
    refine zay (σ := (List (List Int)) × Int) (fun k5 ((ys4, i2) : (List (List Int)) × Int) => Rg l0 i2 ys4 ∧ ys4.length = k5 ∧ slices_EqualFunc_int_int_int_int.l0 l1 ys4 i2 = some o10) [6, 7, 8, 9, 17, 18, 19, 20, 21, 22, 23, 24, 25, 26, 27, 28, 29, 30, 31] (fun ((ys4, i2) : (List (List Int)) × Int) => [(17, .int .i64 i2)]) (fun ((ys4, i2) : (List (List Int)) × Int) => []) l0.length (l0, 0) ⟨Rg.start _, rfl, hl9⟩ ⟨rfl, trivial⟩ (fun w h => h) ?_
    refine fun k5 => cur2 (listC (fun i2 U11 hJ_ => ?_) (fun y3 ys4 i2 U11 hJ_ => ?_))
    · skip
      clear hl9
      have hr6 := hJ_.1; have hk12 := hJ_.2.1; have h := hJ_.2.2; clear hJ_
      replace h : slices_EqualFunc_int_int_int_int.l0 l1 [] i2 = some o10 := h
      rw [slices_EqualFunc_int_int_int_int.l0] at h
      refine c_seq ?_
      refine za0 ?_
      refine o_q rfl rfl (q_lss rfl rfl) ?_
      refine o_end ?_
      refine za2 ?_
      refine c_seq ?_
      refine c_false (congrArg Value.bool hr6.ge) ?_
      refine c_exit ?_
      refine za6 ?_
      refine za6 ?_
      have e_ := Option.some.inj h; replace h := hR8; rw [← e_] at h; clear e_
      refine x_hit ?_
      refine za2 ?_
      refine c_seq ?_
      refine za0 ?_
      refine o_q rfl rfl (q_asg rfl) ?_
      refine o_end ?_
      refine za2 ?_
      refine c_ret ?_
      have e0_ := Option.some.inj h; clear h
      subst e0_
      exact x_r1 () Try.results187 (zaf rfl) rfl (fun w h => za7 [] (by decide) rfl w h)
    · skip
      clear hl9
      have hr6 := hJ_.1; have hk12 := hJ_.2.1; have h := hJ_.2.2; clear hJ_
      replace h : slices_EqualFunc_int_int_int_int.l0 l1 (y3 :: ys4) i2 = some o10 := h
      rw [slices_EqualFunc_int_int_int_int.l0] at h
      refine c_seq ?_
      refine za0 ?_
      refine o_q rfl rfl (q_lss rfl rfl) ?_
      refine o_end ?_
      refine za2 ?_
      refine c_seq ?_
      refine c_true (congrArg Value.bool hr6.lt) ?_
      refine zao ?_
      refine za2 ?_
      refine c_seq ?_
      refine zak ?_
      refine c_seq ?_
      refine za0 ?_
      refine o_q rfl rfl (za3 rfl) ?_
      refine o_fact (p := Sh A0 l0.length (zp H0 l0).length) (fun w h => f_sh (dk := (gk 3 (Kd.int .i64))) h (fun w h => R0.now Z h)) (fun hq13 => ?_)
      refine o_q rfl rfl (q_ix Try.underlying60 Z25 rfl rfl hq13 (gt_zp hr6.get)) ?_
      refine o_fact (p := y3.length ≤ hC H0 i2) (fun w h => (K_in (R0.now Z h) hr6.get).1) (fun hc14 => ?_)
      refine o_q rfl rfl (q_lde (off := 0) Y25 rfl rfl (fun w h => R0.now Z h) (gt_zp hr6.get) (fun _ _ h => h.1) rfl) ?_
      refine o_q rfl rfl (q_asg rfl) ?_
      refine o_q rfl rfl (q_asg rfl) ?_
      refine o_end ?_
      refine za2 ?_
      refine c_seq ?_
      refine za0 ?_
      refine o_q rfl rfl (za3 rfl) ?_
      refine o_q rfl rfl (za3 rfl) ?_
      refine o_fact (p := Sh A1 l1.length (zp H1 l1).length) (fun w h => f_sh (dk := (gk 3 (Kd.int .i64))) h (fun w h => R1.now Z h)) (fun hq15 => ?_)
      refine za9 h (fun y17 hg16 h => ?_) rfl
      refine o_q rfl rfl (q_ix Try.underlying60 Z25 rfl rfl hq15 (gt_zp hg16)) ?_
      refine o_fact (p := y17.length ≤ hC H1 i2) (fun w h => (K_in (R1.now Z h) hg16).1) (fun hc18 => ?_)
      refine o_q rfl rfl (q_lde (off := 0) Y25 rfl rfl (fun w h => R1.now Z h) (gt_zp hg16) (fun _ _ h => h.1) rfl) ?_
      refine o_q rfl rfl (q_asg rfl) ?_
      refine o_end ?_
      refine za2 ?_
      refine c_seq ?_
      refine za0 ?_
      refine o_q rfl rfl (za3 rfl) ?_
      refine o_q rfl rfl (za3 rfl) ?_
      refine o_q rfl rfl (za3 rfl) ?_
      refine za9 h (fun b20 hx19 h => ?_) rfl
      refine o_e rfl (zac 0 Z Try.func144 N144 rfl rfl rfl (fun w P1 hF hB hS hT => slices_Equal_int_int.calls (hA H0 i2) (hC H0 i2) y3.length y3 (hA H1 i2) (hC H1 i2) y17.length y17 hB hF (stab_in (hS _ R0) hr6.get) hc14 (stab_in (hS _ R1) hg16) hc18 _ hx19)) (fun _ => ?_)
      refine o_q rfl rfl (q_not rfl) ?_
      refine o_end ?_
      refine za2 ?_
      refine zas _ rfl (fun hb21 => ?_) (fun hb21 => ?_)
      · replace hb21 := nt_t hb21
        replace h := bb_f hb21 h
        refine c_seq ?_
        refine za0 ?_
        refine o_q rfl rfl (q_asg rfl) ?_
        refine o_end ?_
        refine za2 ?_
        refine c_ret ?_
        refine zan ?_
        refine za8 ?_
        refine za8 ?_
        have e_ := Option.some.inj h; replace h := hR8; rw [← e_] at h; clear e_
        refine zan ?_
        refine za8 ?_
        have e0_ := Option.some.inj h; clear h
        subst e0_
        exact x_r1 () Try.results187 (zaf rfl) rfl (fun w h => za7 [] (by decide) rfl w h)
      · replace hb21 := nt_f hb21
        replace h := bb_t hb21 h
        refine zao ?_
        refine zam ?_
        refine za2 ?_
        refine za0 ?_
        refine o_q rfl rfl (q_up rfl rfl (hr6.up hm7)) ?_
        refine o_q rfl rfl (za3 rfl) ?_
        refine o_end ?_
        refine zal ys4.length (ys4, i2 + 1) (by rw [← hk12]; exact Nat.lt_succ_self _) ⟨hr6.step, rfl, h⟩ ⟨rfl, trivial⟩ (fun w h => za7 [] (by decide) rfl w h) ?_
        repeat (first | exact zad _ _ | refine zai rfl ?_ | refine zae rfl ?_ | refine zaj rfl ?_)

/-! ### loop.example/g01098/impl.samePowers: function 109 -/
def impl_samePowers.f (a0_0 : Int) (l0_1 : List SStep) (l0_2 : List Int) (a1_0 : Int) (l1_1 : List SStep) (l1_2 : List Int) : Option Bool := if a0_0 = a1_0 then ((impl_Plan_outputExponents.f a0_0 l0_1 l0_2).bind fun l3 => (impl_Plan_outputExponents.f a1_0 l1_1 l1_2).bind fun l8 => (slices_EqualFunc_int_int_int_int.f l3 l8).bind fun b13 => some b13) else (some false)
set_option maxHeartbeats 600000 in
set_option maxRecDepth 100000 in
theorem impl_samePowers.calls {w0 ws : World} {P0 : Nat → Prop} (g0 : Nat) (a0_0 : Int) (A0_1 : Option Addr) (c0_1 : Nat) (n0_1 : Nat) (l0_1 : List SStep) (A0_2 : Option Addr) (c0_2 : Nat) (n0_2 : Nat) (l0_2 : List Int) (g1 : Nat) (a1_0 : Int) (A1_1 : Option Addr) (c1_1 : Nat) (n1_1 : Nat) (l1_1 : List SStep) (A1_2 : Option Addr) (c1_2 : Nat) (n1_2 : Nat) (l1_2 : List Int) (Z : Below w0.heap.size w0 ws) (hF : Fr w0 ws P0 [] ws) (R0_1 : Stable ws P0 (fun w => Kd.C kStep w A0_1 n0_1 l0_1)) (hc0_1 : n0_1 ≤ c0_1) (R0_2 : Stable ws P0 (fun w => Kd.C (Kd.int .i64) w A0_2 n0_2 l0_2)) (hc0_2 : n0_2 ≤ c0_2) (B0 : Stable ws P0 (fun w => w.heap[g0]? = some (.cells #[.int .i64 a0_0, .slice A0_1 n0_1 c0_1, .slice A0_2 n0_2 c0_2] 27 (0, 0)))) (R1_1 : Stable ws P0 (fun w => Kd.C kStep w A1_1 n1_1 l1_1)) (hc1_1 : n1_1 ≤ c1_1) (R1_2 : Stable ws P0 (fun w => Kd.C (Kd.int .i64) w A1_2 n1_2 l1_2)) (hc1_2 : n1_2 ≤ c1_2) (B1 : Stable ws P0 (fun w => w.heap[g1]? = some (.cells #[.int .i64 a1_0, .slice A1_1 n1_1 c1_1, .slice A1_2 n1_2 c1_2] 27 (0, 0)))) (r_1 : Bool) (h : impl_samePowers.f a0_0 l0_1 l0_2 a1_0 l1_1 l1_2 = some r_1) :
    Calls Try.prog 109 #[.pointer (some ⟨g0, 0, none⟩), .pointer (some ⟨g1, 0, none⟩)] ws (Post1 w0 ws P0 (fun (_ : Unit) => .bool r_1) (fun (_ : Unit) => [])) := by
  unfold impl_samePowers.f at h
  obtain rfl := (R0_1 ws (KeptB.refl _ _)).1
  obtain rfl := (R0_2 ws (KeptB.refl _ _)).1
  obtain rfl := (R1_1 ws (KeptB.refl _ _)).1
  obtain rfl := (R1_2 ws (KeptB.refl _ _)).1
  refine enter Try.func109 rfl Try.ntmps109 rfl hF ?_
  refine c_seq ?_
  refine za0 ?_
  refine o_q rfl rfl (q_asg rfl) ?_
  refine o_end ?_
  refine za2 ?_
  refine c_seq ?_
  refine a_start (ds := []) MO rfl ?_
  refine za5 0 rfl rfl rfl (by kernel_rfl) (fun _ _ _ h => h) (za3 rfl) ?_
  refine za5 1 rfl rfl rfl (by kernel_rfl) (fun _ _ _ h => h) (q_nil rfl) ?_
  refine za5 2 rfl rfl rfl (by kernel_rfl) (fun _ _ _ h => h) (q_f F27_0 rfl) ?_
  refine zau 3 rfl rfl rfl (by kernel_rfl) (fun _ _ _ h => h) (fun w h => h) (q_ldb Y3 rfl (fun w h => B0.now Z h) rfl) ?_
  refine za5 4 rfl rfl rfl (by kernel_rfl) (fun _ _ _ h => h) (za3 rfl) ?_
  refine za5 5 rfl rfl rfl (by kernel_rfl) (fun _ _ _ h => h) (q_nil rfl) ?_
  refine za5 6 rfl rfl rfl (by kernel_rfl) (fun _ _ _ h => h) (q_f F27_0 rfl) ?_
  refine zau 7 rfl rfl rfl (by kernel_rfl) (fun _ _ _ h => h) (fun w h => h) (q_ldb Y3 rfl (fun w h => B1.now Z h) rfl) ?_
  refine za5 8 rfl rfl rfl (by kernel_rfl) (fun _ _ _ h => h) (q_eql rfl rfl) ?_
  refine za5 9 rfl rfl rfl (by kernel_rfl) (fun _ _ _ h => h) (za3 rfl) ?_
  refine byB (decide (a0_0 = a1_0)) (fun hb1 => ?_) (fun hb1 => ?_)
  · replace h := br_t hb1 h
    refine a_purew 10 rfl rfl (za4 rfl rfl rfl (congrArg Value.bool hb1)) (by kernel_rfl) (fun _ _ _ h => h) (za3 rfl) ?_
    refine a_purew 12 rfl rfl (za4 rfl rfl rfl (congrArg Value.bool hb1)) (by kernel_rfl) (fun _ _ _ h => h) (za3 rfl) ?_
    refine za9 h (fun l3 hx2 h => ?_) rfl
    refine a_onew 11 rfl (za4 rfl rfl rfl (congrArg Value.bool hb1)) (by kernel_rfl) rfl (zac 0 Z Try.func135 N135 rfl rfl rfl (fun w P1 hF hB hS hT => impl_Plan_outputExponents.calls g0 a0_0 A0_1 c0_1 l0_1.length l0_1 A0_2 c0_2 l0_2.length l0_2 hB hF (hS _ R0_1) hc0_1 (hS _ R0_2) hc0_2 (hS _ B0) _ hx2)) (fun s w h => zaa [] (by decide) w h rfl) (cur3 (fun A4 c5 H6 => ?_))
    refine za9 h (fun l8 hx7 h => ?_) rfl
    refine a_onew 13 rfl (za4 rfl rfl rfl (congrArg Value.bool hb1)) (by kernel_rfl) rfl (zac 0 Z Try.func135 N135 rfl rfl rfl (fun w P1 hF hB hS hT => impl_Plan_outputExponents.calls g1 a1_0 A1_1 c1_1 l1_1.length l1_1 A1_2 c1_2 l1_2.length l1_2 hB hF (hS _ R1_1) hc1_1 (hS _ R1_2) hc1_2 (hS _ B1) _ hx7)) (fun s w h => zaa [] (by decide) w h rfl) (cur3 (fun A9 c10 H11 => ?_))
    refine za9 h (fun b13 hx12 h => ?_) rfl
    refine a_onew 14 rfl (za4 rfl rfl rfl (congrArg Value.bool hb1)) (by kernel_rfl) rfl (zac 0 Z Try.func187 N187 rfl rfl rfl (fun w P1 hF hB hS hT => slices_EqualFunc_int_int_int_int.calls A4 c5 l3.length H6 l3 A9 c10 l8.length H11 l8 hB hF (hT 1 _ rfl).row (hT 1 _ rfl).cap (hT 0 _ rfl).row (hT 0 _ rfl).cap _ hx12)) (fun s w h => zaa [] (by decide) w h rfl) (fun _ => ?_)
    refine za5 15 rfl rfl rfl (by kernel_rfl) (fun _ _ _ h => h) (zah true (congrArg Value.bool hb1) rfl) ?_
    refine za5 16 rfl rfl rfl (by kernel_rfl) (fun _ _ _ h => h) (q_asg rfl) ?_
    refine a_done (by kernel_rfl) ?_
    refine za2 ?_
    refine c_ret ?_
    have e0_ := Option.some.inj h; clear h
    subst e0_
    exact x_r1 () Try.results109 (zaf rfl) rfl (fun w h => za7 [] (by decide) rfl w h)
  · replace h := br_f hb1 h
    refine a_no 10 rfl rfl (za1 rfl rfl rfl (congrArg Value.bool hb1) rfl) (by kernel_rfl) (fun _ _ _ h => h) ?_
    refine a_no 11 rfl rfl (za1 rfl rfl rfl (congrArg Value.bool hb1) rfl) (by kernel_rfl) (fun _ _ _ h => h) ?_
    refine a_no 12 rfl rfl (za1 rfl rfl rfl (congrArg Value.bool hb1) rfl) (by kernel_rfl) (fun _ _ _ h => h) ?_
    refine a_no 13 rfl rfl (za1 rfl rfl rfl (congrArg Value.bool hb1) rfl) (by kernel_rfl) (fun _ _ _ h => h) ?_
    refine a_no 14 rfl rfl (za1 rfl rfl rfl (congrArg Value.bool hb1) rfl) (by kernel_rfl) (fun _ _ _ h => h) ?_
    refine za5 15 rfl rfl rfl (by kernel_rfl) (fun _ _ _ h => h) (zah false (congrArg Value.bool hb1) rfl) ?_
    refine za5 16 rfl rfl rfl (by kernel_rfl) (fun _ _ _ h => h) (q_asg rfl) ?_
    refine a_done (by kernel_rfl) ?_
    refine za2 ?_
    refine c_ret ?_
    have e0_ := Option.some.inj h; clear h
    subst e0_
    exact x_r1 () Try.results109 (zaf rfl) rfl (fun w h => za7 [] (by decide) rfl w h)

/-! ### loop.example/g01098/impl.SamePowers: function 27 -/
def impl_SamePowers.f (k : Nat) (a0_0 : Int) (l0_1 : List SStep) (l0_2 : List Int) (a1_0 : Int) (l1_1 : List SStep) (l1_2 : List Int) : Option (Bool × Bool) := (impl_IsPlan.f k a0_0 l0_1 l0_2).bind fun b6 => if b6 = true then ((impl_IsPlan.f k a1_0 l1_1 l1_2).bind fun b9 => if b9 = true then ((impl_samePowers.f a0_0 l0_1 l0_2 a1_0 l1_1 l1_2).bind fun b12 => some (b12, true)) else (some (false, false))) else (some (false, false))
set_option maxHeartbeats 600000 in
set_option maxRecDepth 100000 in
theorem impl_SamePowers.calls (k : Nat) {w0 ws : World} {P0 : Nat → Prop} (a0_0 : Int) (A0_1 : Option Addr) (c0_1 : Nat) (n0_1 : Nat) (l0_1 : List SStep) (A0_2 : Option Addr) (c0_2 : Nat) (n0_2 : Nat) (l0_2 : List Int) (a1_0 : Int) (A1_1 : Option Addr) (c1_1 : Nat) (n1_1 : Nat) (l1_1 : List SStep) (A1_2 : Option Addr) (c1_2 : Nat) (n1_2 : Nat) (l1_2 : List Int) (Z : Below w0.heap.size w0 ws) (hF : Fr w0 ws P0 [] ws) (R0_1 : Stable ws P0 (fun w => Kd.C kStep w A0_1 n0_1 l0_1)) (hc0_1 : n0_1 ≤ c0_1) (R0_2 : Stable ws P0 (fun w => Kd.C (Kd.int .i64) w A0_2 n0_2 l0_2)) (hc0_2 : n0_2 ≤ c0_2) (R1_1 : Stable ws P0 (fun w => Kd.C kStep w A1_1 n1_1 l1_1)) (hc1_1 : n1_1 ≤ c1_1) (R1_2 : Stable ws P0 (fun w => Kd.C (Kd.int .i64) w A1_2 n1_2 l1_2)) (hc1_2 : n1_2 ≤ c1_2) (r_1 : Bool) (r_2 : Bool) (h : impl_SamePowers.f k a0_0 l0_1 l0_2 a1_0 l1_1 l1_2 = some (r_1, r_2)) :
    Calls Try.prog 27 #[.agg #[.int .i64 a0_0, .slice A0_1 n0_1 c0_1, .slice A0_2 n0_2 c0_2], .agg #[.int .i64 a1_0, .slice A1_1 n1_1 c1_1, .slice A1_2 n1_2 c1_2]] ws (Post1 w0 ws P0 (fun (_ : Unit) => .tuple #[.bool r_1, .bool r_2]) (fun (_ : Unit) => [])) := by
  unfold impl_SamePowers.f at h
  obtain rfl := (R0_1 ws (KeptB.refl _ _)).1
  obtain rfl := (R0_2 ws (KeptB.refl _ _)).1
  obtain rfl := (R1_1 ws (KeptB.refl _ _)).1
  obtain rfl := (R1_2 ws (KeptB.refl _ _)).1
  refine enter Try.func27 rfl Try.ntmps27 rfl hF ?_
  refine c_seq ?_
  refine za0 ?_
  refine o_e rfl (e_box rfl) (fun g1 => ?_)
  refine o_e rfl (e_box rfl) (fun g3 => ?_)
  refine o_q rfl rfl (q_asg rfl) ?_
  refine o_q rfl rfl (q_asg rfl) ?_
  refine o_end ?_
  refine za2 ?_
  refine c_seq ?_
  refine c_seq ?_
  refine za0 ?_
  refine o_q rfl rfl (q_ldB G27 Z27 rfl (fun w h => h.zab (i := 1) rfl) rfl) ?_
  refine za9 h (fun b6 hx5 h => ?_) rfl
  refine o_e rfl (zac 0 Z Try.func86 N86 rfl rfl rfl (fun w P1 hF hB hS hT => impl_IsPlan.calls k a0_0 A0_1 c0_1 l0_1.length l0_1 A0_2 c0_2 l0_2.length l0_2 hB hF (hS _ R0_1) hc0_1 (hS _ R0_2) hc0_2 _ hx5)) (fun _ => ?_)
  refine o_q rfl rfl (q_not rfl) ?_
  refine o_q rfl rfl (za3 rfl) ?_
  refine byB b6 (fun hb7 => ?_) (fun hb7 => ?_)
  · replace h := bb_t hb7 h
    refine o_w (za4 rfl rfl rfl (congrArg (fun b => Value.bool (!(b))) hb7)) rfl (q_ldB G27 Z27 rfl (fun w h => h.zab (i := 0) rfl) rfl) ?_
    refine za9 h (fun b9 hx8 h => ?_) rfl
    refine o_ew (za4 rfl rfl rfl (congrArg (fun b => Value.bool (!(b))) hb7)) (zac 0 Z Try.func86 N86 rfl rfl rfl (fun w P1 hF hB hS hT => impl_IsPlan.calls k a1_0 A1_1 c1_1 l1_1.length l1_1 A1_2 c1_2 l1_2.length l1_2 hB hF (hS _ R1_1) hc1_1 (hS _ R1_2) hc1_2 _ hx8)) (fun _ => ?_)
    refine o_w (za4 rfl rfl rfl (congrArg (fun b => Value.bool (!(b))) hb7)) rfl (q_not rfl) ?_
    refine o_q rfl rfl (zah false (congrArg (fun b => Value.bool (!(b))) hb7) rfl) ?_
    refine o_end ?_
    refine za2 ?_
    refine zas _ rfl (fun hb10 => ?_) (fun hb10 => ?_)
    · replace hb10 := nt_t hb10
      replace h := bb_f hb10 h
      refine c_seq ?_
      refine za0 ?_
      refine o_q rfl rfl (q_asg rfl) ?_
      refine o_q rfl rfl (q_asg rfl) ?_
      refine o_end ?_
      refine za2 ?_
      refine c_ret ?_
      refine za8 ?_
      have e0_ := Option.some.inj h; clear h
      have d0_ := (Prod.mk.inj e0_).1; have e1_ := (Prod.mk.inj e0_).2; clear e0_; subst d0_
      subst e1_
      exact x_r2 () Try.results27 (zaf rfl) (zaf rfl) rfl (fun w h => za7 [] (by decide) rfl w h)
    · replace hb10 := nt_f hb10
      replace h := bb_t hb10 h
      refine zao ?_
      refine za2 ?_
      refine c_seq ?_
      refine za0 ?_
      refine za9 h (fun b12 hx11 h => ?_) rfl
      refine o_e rfl (zac 0 Z Try.func109 N109 rfl rfl rfl (fun w P1 hF hB hS hT => impl_samePowers.calls g1 a0_0 A0_1 c0_1 l0_1.length l0_1 A0_2 c0_2 l0_2.length l0_2 g3 a1_0 A1_1 c1_1 l1_1.length l1_1 A1_2 c1_2 l1_2.length l1_2 hB hF (hS _ R0_1) hc0_1 (hS _ R0_2) hc0_2 (hT 1 _ rfl).box (hS _ R1_1) hc1_1 (hS _ R1_2) hc1_2 (hT 0 _ rfl).box _ hx11)) (fun _ => ?_)
      refine o_q rfl rfl (q_asg rfl) ?_
      refine o_q rfl rfl (q_asg rfl) ?_
      refine o_end ?_
      refine za2 ?_
      refine c_ret ?_
      have e0_ := Option.some.inj h; clear h
      have d0_ := (Prod.mk.inj e0_).1; have e1_ := (Prod.mk.inj e0_).2; clear e0_; subst d0_
      subst e1_
      exact x_r2 () Try.results27 (zaf rfl) (zaf rfl) rfl (fun w h => za7 [] (by decide) rfl w h)
  · replace h := bb_f hb7 h
    refine @o_n _ _ _ _ _ _ _ _ _ _ _ 10 (za1 rfl rfl rfl (congrArg (fun b => Value.bool (!(b))) hb7) rfl) (Eq.refl (some 10)) ?_
    refine @o_n _ _ _ _ _ _ _ _ _ _ _ 11 (za1 rfl rfl rfl (congrArg (fun b => Value.bool (!(b))) hb7) rfl) (Eq.refl (some 11)) ?_
    refine @o_n _ _ _ _ _ _ _ _ _ _ _ 12 (za1 rfl rfl rfl (congrArg (fun b => Value.bool (!(b))) hb7) rfl) (Eq.refl (some 12)) ?_
    refine o_q rfl rfl (zah true (congrArg (fun b => Value.bool (!(b))) hb7) rfl) ?_
    refine o_end ?_
    refine za2 ?_
    refine c_true rfl ?_
    refine c_seq ?_
    refine za0 ?_
    refine o_q rfl rfl (q_asg rfl) ?_
    refine o_q rfl rfl (q_asg rfl) ?_
    refine o_end ?_
    refine za2 ?_
    refine c_ret ?_
    refine za8 ?_
    have e0_ := Option.some.inj h; clear h
    have d0_ := (Prod.mk.inj e0_).1; have e1_ := (Prod.mk.inj e0_).2; clear e0_; subst d0_
    subst e1_
    exact x_r2 () Try.results27 (zaf rfl) (zaf rfl) rfl (fun w h => za7 [] (by decide) rfl w h)

/-! ### loop.example/g01098/impl.UsedSteps: function 31 -/
def impl_UsedSteps.l0 : (List Bool) → (List Int) → Int → Option (List Int)
  | [], l16, i19 => some l16
  | y20 :: ys21, l16, i19 => if y20 = true then ((ap l16 ([i19] : List Int)).bind fun l35 => impl_UsedSteps.l0 ys21 l35 (i19 + 1)) else (impl_UsedSteps.l0 ys21 l16 (i19 + 1))
def impl_UsedSteps.f (k : Nat) (a0_0 : Int) (l0_1 : List SStep) (l0_2 : List Int) : Option ((List Int) × Bool) := (impl_IsPlan.f k a0_0 l0_1 l0_2).bind fun b4 => if b4 = true then ((impl_Plan_used.f a0_0 l0_1 l0_2).bind fun l10 => (ct l10 a0_0 (l10.length : Int)).bind fun l13 => (impl_UsedSteps.l0 l13 ([] : List Int) 0).bind fun l16 => some (l16, true)) else (some (([] : List Int), false))
set_option maxHeartbeats 600000 in
set_option maxRecDepth 100000 in
theorem impl_UsedSteps.calls (k : Nat) {w0 ws : World} {P0 : Nat → Prop} (a0_0 : Int) (A0_1 : Option Addr) (c0_1 : Nat) (n0_1 : Nat) (l0_1 : List SStep) (A0_2 : Option Addr) (c0_2 : Nat) (n0_2 : Nat) (l0_2 : List Int) (Z : Below w0.heap.size w0 ws) (hF : Fr w0 ws P0 [] ws) (R0_1 : Stable ws P0 (fun w => Kd.C kStep w A0_1 n0_1 l0_1)) (hc0_1 : n0_1 ≤ c0_1) (R0_2 : Stable ws P0 (fun w => Kd.C (Kd.int .i64) w A0_2 n0_2 l0_2)) (hc0_2 : n0_2 ≤ c0_2) (r_1 : List Int) (r_4 : Bool) (h : impl_UsedSteps.f k a0_0 l0_1 l0_2 = some (r_1, r_4)) :
    Calls Try.prog 31 #[.agg #[.int .i64 a0_0, .slice A0_1 n0_1 c0_1, .slice A0_2 n0_2 c0_2]] ws (Post1 w0 ws P0 (fun ((q_2, q_3) : (Option Addr) × Nat) => .tuple #[.slice q_2 r_1.length q_3, .bool r_4]) (fun ((q_2, q_3) : (Option Addr) × Nat) => [row (Kd.int .i64) 3 (.slice q_2 r_1.length q_3) r_1])) := by
  unfold impl_UsedSteps.f at h
  obtain rfl := (R0_1 ws (KeptB.refl _ _)).1
  obtain rfl := (R0_2 ws (KeptB.refl _ _)).1
  refine enter Try.func31 rfl Try.ntmps31 rfl hF ?_
  refine c_seq ?_
  refine za0 ?_
  refine o_e rfl (e_box rfl) (fun g1 => ?_)
  refine o_q rfl rfl (q_asg rfl) ?_
  refine o_q rfl rfl (q_asg rfl) ?_
  refine o_end ?_
  refine za2 ?_
  refine c_seq ?_
  refine c_seq ?_
  refine za0 ?_
  refine o_q rfl rfl (q_ldB G27 Z27 rfl (fun w h => h.zab (i := 0) rfl) rfl) ?_
  refine za9 h (fun b4 hx3 h => ?_) rfl
  refine o_e rfl (zac 0 Z Try.func86 N86 rfl rfl rfl (fun w P1 hF hB hS hT => impl_IsPlan.calls k a0_0 A0_1 c0_1 l0_1.length l0_1 A0_2 c0_2 l0_2.length l0_2 hB hF (hS _ R0_1) hc0_1 (hS _ R0_2) hc0_2 _ hx3)) (fun _ => ?_)
  refine o_q rfl rfl (q_not rfl) ?_
  refine o_end ?_
  refine za2 ?_
  refine zas _ rfl (fun hb5 => ?_) (fun hb5 => ?_)
  · replace hb5 := nt_t hb5
    replace h := bb_f hb5 h
    refine c_seq ?_
    refine za0 ?_
    refine o_q rfl rfl (q_asg rfl) ?_
    refine o_q rfl rfl (q_asg rfl) ?_
    refine o_end ?_
    refine za2 ?_
    refine c_ret ?_
    refine za8 ?_
    refine x_nil (Kd.int .i64) 3 ?_
    have e0_ := Option.some.inj h; clear h
    have d0_ := (Prod.mk.inj e0_).1; have e1_ := (Prod.mk.inj e0_).2; clear e0_; subst d0_
    subst e1_
    exact x_r2 (none, 0) Try.results31 (zaf rfl) (zaf rfl) rfl (fun w h => za7 [0] (by decide) rfl w h)
  · replace hb5 := nt_f hb5
    replace h := bb_t hb5 h
    refine zao ?_
    refine za2 ?_
    refine c_seq ?_
    refine za0 ?_
    refine o_e rfl (e_lit0 (Kd.int .i64) Try.underlying25 I3) (cur2 (fun A6 c7 => ?_))
    refine o_q rfl rfl (q_asg rfl) ?_
    refine o_end ?_
    refine za2 ?_
    refine c_seq ?_
    refine c_seq ?_
    refine a_start (ds := []) MO rfl ?_
    refine za5 1 rfl rfl rfl (by kernel_rfl) (fun _ _ _ h => h) (q_f F27_0 rfl) ?_
    refine zau 2 rfl rfl rfl (by kernel_rfl) (fun _ _ _ h => h) (fun w h => h) (q_ldb Y3 rfl (fun w h => h.zab (i := 1) rfl) rfl) ?_
    refine za5 5 rfl rfl rfl (by kernel_rfl) (fun _ _ _ h => h) (za3 rfl) ?_
    refine za9 h (fun l10 hx9 h => ?_) rfl
    refine a_one 0 rfl rfl (by kernel_rfl) rfl (zac 0 Z Try.func113 N113 rfl rfl rfl (fun w P1 hF hB hS hT => impl_Plan_used.calls g1 a0_0 A0_1 c0_1 l0_1.length l0_1 A0_2 c0_2 l0_2.length l0_2 hB hF (hS _ R0_1) hc0_1 (hS _ R0_2) hc0_2 (hT 1 _ rfl).box _ hx9)) (fun s w h => zaa [some 1, some 2] (by decide) w h rfl) (cur2 (fun A11 c12 => ?_))
    refine za9 h (fun l13 hz14 h => ?_) rfl
    refine a_fact (p := l10.length = l10.length ∧ l10.length ≤ c12) (fun w h => h.row_nc (i := 0) rfl) (fun hk15 => ?_)
    refine za5 3 rfl rfl rfl (by kernel_rfl) (fun _ _ _ h => h) (q_ctv Try.underlying108 Z4 rfl ⟨_, rfl⟩ rfl hk15.1 hk15.2 hz14) ?_
    refine za5 4 rfl rfl rfl (by kernel_rfl) (fun _ _ _ h => h) (q_len Try.underlying108 rfl) ?_
    refine a_done (by kernel_rfl) ?_
    refine za2 ?_
    refine zak ?_
    refine za9 h (fun o27 hl26 hR25 => ?_) rfl
    clear h
    refine c_fact (p := l13.length ≤ 9223372036854775807) (fun w h => (C_cut (dk := Kd.bool) rfl hz14 hk15.2 (h.zat (i := 0) rfl)).2.1) (fun hm24 => ?_)
    refine zay (σ := (List Bool) × (List Int) × Int × (Option Addr) × Nat) (fun k22 ((ys21, l16, i19, A17, c18) : (List Bool) × (List Int) × Int × (Option Addr) × Nat) => Rg l13 i19 ys21 ∧ ys21.length = k22 ∧ impl_UsedSteps.l0 ys21 l16 i19 = some o27) [4, 5, 6, 16, 17, 18, 19, 20, 21, 22, 23, 24, 25, 26] (fun ((ys21, l16, i19, A17, c18) : (List Bool) × (List Int) × Int × (Option Addr) × Nat) => [(4, .slice A17 l16.length c18), (16, .int .i64 i19)]) (fun ((ys21, l16, i19, A17, c18) : (List Bool) × (List Int) × Int × (Option Addr) × Nat) => [row Kd.bool 4 (.slice A11 l10.length c12) l10, row (Kd.int .i64) 3 (.slice A17 l16.length c18) l16, box g1 27 #[.int .i64 a0_0, .slice A0_1 l0_1.length c0_1, .slice A0_2 l0_2.length c0_2]]) l13.length (l13, ([] : List Int), 0, A6, c7) ⟨Rg.start _, rfl, hl26⟩ ⟨rfl, rfl, trivial⟩ (fun w h => h) ?_
    refine fun k22 => cur5 (listC (fun l16 i19 A17 c18 U28 hJ_ => ?_) (fun y20 ys21 l16 i19 A17 c18 U28 hJ_ => ?_))
    · skip
      clear hl26
      have hr23 := hJ_.1; have hk29 := hJ_.2.1; have h := hJ_.2.2; clear hJ_
      replace h : impl_UsedSteps.l0 [] l16 i19 = some o27 := h
      rw [impl_UsedSteps.l0] at h
      refine c_seq ?_
      refine za0 ?_
      refine o_q rfl rfl (q_lss rfl rfl) ?_
      refine o_end ?_
      refine za2 ?_
      refine c_seq ?_
      refine c_false (congrArg Value.bool hr23.ge) ?_
      refine c_exit ?_
      refine za6 ?_
      refine za6 ?_
      have e_ := Option.some.inj h; replace h := hR25; rw [← e_] at h; clear e_
      refine x_hit ?_
      refine za2 ?_
      refine c_seq ?_
      refine za0 ?_
      refine o_q rfl rfl (za3 rfl) ?_
      refine o_q rfl rfl (q_asg rfl) ?_
      refine o_q rfl rfl (q_asg rfl) ?_
      refine o_end ?_
      refine za2 ?_
      refine c_ret ?_
      have e0_ := Option.some.inj h; clear h
      have d0_ := (Prod.mk.inj e0_).1; have e1_ := (Prod.mk.inj e0_).2; clear e0_; subst d0_
      subst e1_
      exact x_r2 (A17, c18) Try.results31 (zaf rfl) (zaf rfl) rfl (fun w h => za7 [1] (by decide) rfl w h)
    · skip
      clear hl26
      have hr23 := hJ_.1; have hk29 := hJ_.2.1; have h := hJ_.2.2; clear hJ_
      replace h : impl_UsedSteps.l0 (y20 :: ys21) l16 i19 = some o27 := h
      rw [impl_UsedSteps.l0] at h
      refine c_seq ?_
      refine za0 ?_
      refine o_q rfl rfl (q_lss rfl rfl) ?_
      refine o_end ?_
      refine za2 ?_
      refine c_seq ?_
      refine c_true (congrArg Value.bool hr23.lt) ?_
      refine zao ?_
      refine za2 ?_
      refine c_seq ?_
      refine zak ?_
      refine c_seq ?_
      refine za0 ?_
      refine o_q rfl rfl (za3 rfl) ?_
      refine o_fact (p := Sh (cutA A11 c12 a0_0.toNat 1) l13.length l13.length) (fun w h => f_sh (dk := Kd.bool) h (fun w h => C_cut (dk := Kd.bool) rfl hz14 hk15.2 (h.zat (i := 0) rfl))) (fun hq30 => ?_)
      refine o_q rfl rfl (q_ix Try.underlying108 Z4 rfl rfl hq30 hr23.get) ?_
      refine o_q rfl rfl (q_lde (off := 0) Y4 rfl rfl (fun w h => C_cut (dk := Kd.bool) rfl hz14 hk15.2 (h.zat (i := 0) rfl)) hr23.get (fun _ _ h => h) rfl) ?_
      refine o_q rfl rfl (q_asg rfl) ?_
      refine o_q rfl rfl (q_asg rfl) ?_
      refine o_end ?_
      refine za2 ?_
      refine c_seq ?_
      refine za0 ?_
      refine o_q rfl rfl (za3 rfl) ?_
      refine o_end ?_
      refine za2 ?_
      refine zas _ rfl (fun hb31 => ?_) (fun hb31 => ?_)
      · skip
        replace h := bb_t hb31 h
        refine za0 ?_
        refine o_q rfl rfl (za3 rfl) ?_
        refine o_q rfl rfl (za3 rfl) ?_
        refine o_e rfl (e_lit (vs := [(0, .int .i64 i19)]) (cs := [.int .i64 i19]) (Kd.int .i64) ([i19] : List Int) Try.underlying25 I3 (by decide) rfl (by decide) rfl rfl (fun _ _ => Kd.zar _)) (cur2 (fun A32 c33 => ?_))
        refine za9 h (fun l35 ha36 h => ?_) rfl
        refine o_e rfl (e_app (i := 2) (j := 0) Try.underlying25 I3 rfl (by decide) (by decide) rfl rfl rfl rfl rfl ha36) (cur2 (fun A37 c38 => ?_))
        refine o_q rfl rfl (q_asg rfl) ?_
        refine o_end ?_
        refine zam ?_
        refine za2 ?_
        refine za0 ?_
        refine o_q rfl rfl (q_up rfl rfl (hr23.up hm24)) ?_
        refine o_q rfl rfl (za3 rfl) ?_
        refine o_end ?_
        refine zal ys21.length (ys21, l35, i19 + 1, A37, c38) (by rw [← hk29]; exact Nat.lt_succ_self _) ⟨hr23.step, rfl, h⟩ ⟨rfl, rfl, trivial⟩ (fun w h => za7 [1, 2, 3] (by decide) rfl w h) ?_
        repeat (first | exact zad _ _ | refine zai rfl ?_ | refine zae rfl ?_ | refine zaj rfl ?_)
      · skip
        replace h := bb_f hb31 h
        refine zao ?_
        refine zam ?_
        refine za2 ?_
        refine za0 ?_
        refine o_q rfl rfl (q_up rfl rfl (hr23.up hm24)) ?_
        refine o_q rfl rfl (za3 rfl) ?_
        refine o_end ?_
        refine zal ys21.length (ys21, l16, i19 + 1, A17, c18) (by rw [← hk29]; exact Nat.lt_succ_self _) ⟨hr23.step, rfl, h⟩ ⟨rfl, rfl, trivial⟩ (fun w h => za7 [0, 1, 2] (by decide) rfl w h) ?_
        repeat (first | exact zad _ _ | refine zai rfl ?_ | refine zae rfl ?_ | refine zaj rfl ?_)

/-! ### loop.example/g01098/impl.IsTrim: function 32 -/
def impl_IsTrim.f (k : Nat) (a0_0 : Int) (l0_1 : List SStep) (l0_2 : List Int) : Option (Bool × Bool) := (impl_UsedSteps.f k a0_0 l0_1 l0_2).bind fun (l4, b5) => if b5 = true then (some (decide ((l4.length : Int) = (l0_1.length : Int)), b5)) else (some (false, b5))
set_option maxHeartbeats 600000 in
set_option maxRecDepth 100000 in
theorem impl_IsTrim.calls (k : Nat) {w0 ws : World} {P0 : Nat → Prop} (a0_0 : Int) (A0_1 : Option Addr) (c0_1 : Nat) (n0_1 : Nat) (l0_1 : List SStep) (A0_2 : Option Addr) (c0_2 : Nat) (n0_2 : Nat) (l0_2 : List Int) (Z : Below w0.heap.size w0 ws) (hF : Fr w0 ws P0 [] ws) (R0_1 : Stable ws P0 (fun w => Kd.C kStep w A0_1 n0_1 l0_1)) (hc0_1 : n0_1 ≤ c0_1) (R0_2 : Stable ws P0 (fun w => Kd.C (Kd.int .i64) w A0_2 n0_2 l0_2)) (hc0_2 : n0_2 ≤ c0_2) (r_1 : Bool) (r_2 : Bool) (h : impl_IsTrim.f k a0_0 l0_1 l0_2 = some (r_1, r_2)) :
    Calls Try.prog 32 #[.agg #[.int .i64 a0_0, .slice A0_1 n0_1 c0_1, .slice A0_2 n0_2 c0_2]] ws (Post1 w0 ws P0 (fun (_ : Unit) => .tuple #[.bool r_1, .bool r_2]) (fun (_ : Unit) => [])) := by
  unfold impl_IsTrim.f at h
  obtain rfl := (R0_1 ws (KeptB.refl _ _)).1
  obtain rfl := (R0_2 ws (KeptB.refl _ _)).1
  refine enter Try.func32 rfl Try.ntmps32 rfl hF ?_
  refine c_seq ?_
  refine za0 ?_
  refine o_e rfl (e_box rfl) (fun g1 => ?_)
  refine o_q rfl rfl (q_asg rfl) ?_
  refine o_q rfl rfl (q_asg rfl) ?_
  refine o_end ?_
  refine za2 ?_
  refine c_seq ?_
  refine za0 ?_
  refine o_q rfl rfl (q_ldB G27 Z27 rfl (fun w h => h.zab (i := 0) rfl) rfl) ?_
  refine bindE2 h (fun l4 b5 hx3 h => ?_) rfl
  refine o_e rfl (zac 0 Z Try.func31 N31 rfl rfl rfl (fun w P1 hF hB hS hT => impl_UsedSteps.calls k a0_0 A0_1 c0_1 l0_1.length l0_1 A0_2 c0_2 l0_2.length l0_2 hB hF (hS _ R0_1) hc0_1 (hS _ R0_2) hc0_2 _ _ hx3)) (cur2 (fun A6 c7 => ?_))
  refine o_q rfl rfl (za3 rfl) ?_
  refine o_q rfl rfl (q_ext rfl rfl) ?_
  refine o_q rfl rfl (q_ext rfl rfl) ?_
  refine o_q rfl rfl (q_asg rfl) ?_
  refine o_q rfl rfl (q_asg rfl) ?_
  refine o_end ?_
  refine za2 ?_
  refine c_seq ?_
  refine za0 ?_
  refine o_q rfl rfl (za3 rfl) ?_
  refine o_q rfl rfl (za3 rfl) ?_
  refine byB b5 (fun hb8 => ?_) (fun hb8 => ?_)
  · replace h := bb_t hb8 h
    refine o_w (za4 rfl rfl rfl (congrArg Value.bool hb8)) rfl (za3 rfl) ?_
    refine o_w (za4 rfl rfl rfl (congrArg Value.bool hb8)) rfl (q_len Try.underlying25 rfl) ?_
    refine o_w (za4 rfl rfl rfl (congrArg Value.bool hb8)) rfl (q_f F27_1 rfl) ?_
    refine o_w (za4 rfl rfl rfl (congrArg Value.bool hb8)) rfl (q_ldb Y24 rfl (fun w h => h.zab (i := 1) rfl) rfl) ?_
    refine o_w (za4 rfl rfl rfl (congrArg Value.bool hb8)) rfl (q_len Try.underlying24 rfl) ?_
    refine o_w (za4 rfl rfl rfl (congrArg Value.bool hb8)) rfl (q_eql rfl rfl) ?_
    refine o_q rfl rfl (zah true (congrArg Value.bool hb8) rfl) ?_
    refine o_q rfl rfl (za3 rfl) ?_
    refine o_q rfl rfl (q_asg rfl) ?_
    refine o_q rfl rfl (q_asg rfl) ?_
    refine o_end ?_
    refine za2 ?_
    refine c_ret ?_
    have e0_ := Option.some.inj h; clear h
    have d0_ := (Prod.mk.inj e0_).1; have e1_ := (Prod.mk.inj e0_).2; clear e0_; subst d0_
    subst e1_
    exact x_r2 () Try.results32 (zaf rfl) (zaf rfl) rfl (fun w h => za7 [] (by decide) rfl w h)
  · replace h := bb_f hb8 h
    refine @o_n _ _ _ _ _ _ _ _ _ _ _ 13 (za1 rfl rfl rfl (congrArg Value.bool hb8) rfl) (Eq.refl (some 13)) ?_
    refine @o_n _ _ _ _ _ _ _ _ _ _ _ 14 (za1 rfl rfl rfl (congrArg Value.bool hb8) rfl) (Eq.refl (some 14)) ?_
    refine @o_n _ _ _ _ _ _ _ _ _ _ _ 15 (za1 rfl rfl rfl (congrArg Value.bool hb8) rfl) (Eq.refl (some 15)) ?_
    refine @o_n _ _ _ _ _ _ _ _ _ _ _ 16 (za1 rfl rfl rfl (congrArg Value.bool hb8) rfl) (Eq.refl (some 16)) ?_
    refine @o_n _ _ _ _ _ _ _ _ _ _ _ 17 (za1 rfl rfl rfl (congrArg Value.bool hb8) rfl) (Eq.refl (some 17)) ?_
    refine @o_n _ _ _ _ _ _ _ _ _ _ _ 18 (za1 rfl rfl rfl (congrArg Value.bool hb8) rfl) (Eq.refl (some 18)) ?_
    refine o_q rfl rfl (zah false (congrArg Value.bool hb8) rfl) ?_
    refine o_q rfl rfl (za3 rfl) ?_
    refine o_q rfl rfl (q_asg rfl) ?_
    refine o_q rfl rfl (q_asg rfl) ?_
    refine o_end ?_
    refine za2 ?_
    refine c_ret ?_
    have e0_ := Option.some.inj h; clear h
    have d0_ := (Prod.mk.inj e0_).1; have e1_ := (Prod.mk.inj e0_).2; clear e0_; subst d0_
    subst e1_
    exact x_r2 () Try.results32 (zaf rfl) (zaf rfl) rfl (fun w h => za7 [] (by decide) rfl w h)

/-! ### (*loop.example/g01098/impl.Plan).uses: function 114 -/
def impl_Plan_uses.l1 : (List Int) → (List Int) → Int → Option (List Int)
  | [], l19, i20 => some l19
  | y21 :: ys22, l19, i20 => (gt l19 y21).bind fun y35 => (gt l19 y21).bind fun y37 => (st l19 y21 (w64 (y35 + 1))).bind fun l38 => impl_Plan_uses.l1 ys22 l38 (i20 + 1)
def impl_Plan_uses.l0 : (List SStep) → (List Int) → Int → Option (List Int)
  | [], l7, i8 => some l7
  | y9 :: ys10, l7, i8 => (gt l7 y9.f0).bind fun y45 => (gt l7 y9.f0).bind fun y47 => (st l7 y9.f0 (w64 (y45 + 1))).bind fun l48 => (gt l48 y9.f1).bind fun y52 => (gt l48 y9.f1).bind fun y54 => (st l48 y9.f1 (w64 (y52 + 1))).bind fun l55 => impl_Plan_uses.l0 ys10 l55 (i8 + 1)
def impl_Plan_uses.f (a0_0 : Int) (l0_1 : List SStep) (l0_2 : List Int) : Option (List Int) := (impl_Plan_many.f a0_0 l0_1 l0_2).bind fun _ => (mk0 (w64 (a0_0 + (l0_1.length : Int))) (0 : Int)).bind fun l2 => (impl_Plan_uses.l0 l0_1 l2 0).bind fun l7 => (impl_Plan_uses.l1 l0_2 l7 0).bind fun l19 => some l19
set_option maxHeartbeats 600000 in
set_option maxRecDepth 100000 in
theorem impl_Plan_uses.calls {w0 ws : World} {P0 : Nat → Prop} (g0 : Nat) (a0_0 : Int) (A0_1 : Option Addr) (c0_1 : Nat) (n0_1 : Nat) (l0_1 : List SStep) (A0_2 : Option Addr) (c0_2 : Nat) (n0_2 : Nat) (l0_2 : List Int) (Z : Below w0.heap.size w0 ws) (hF : Fr w0 ws P0 [] ws) (R0_1 : Stable ws P0 (fun w => Kd.C kStep w A0_1 n0_1 l0_1)) (hc0_1 : n0_1 ≤ c0_1) (R0_2 : Stable ws P0 (fun w => Kd.C (Kd.int .i64) w A0_2 n0_2 l0_2)) (hc0_2 : n0_2 ≤ c0_2) (B0 : Stable ws P0 (fun w => w.heap[g0]? = some (.cells #[.int .i64 a0_0, .slice A0_1 n0_1 c0_1, .slice A0_2 n0_2 c0_2] 27 (0, 0)))) (r_1 : List Int) (h : impl_Plan_uses.f a0_0 l0_1 l0_2 = some r_1) :
    Calls Try.prog 114 #[.pointer (some ⟨g0, 0, none⟩)] ws (Post1 w0 ws P0 (fun ((q_2, q_3) : (Option Addr) × Nat) => .slice q_2 r_1.length q_3) (fun ((q_2, q_3) : (Option Addr) × Nat) => [row (Kd.int .i64) 3 (.slice q_2 r_1.length q_3) r_1])) := by
  unfold impl_Plan_uses.f at h
  obtain rfl := (R0_1 ws (KeptB.refl _ _)).1
  obtain rfl := (R0_2 ws (KeptB.refl _ _)).1
  refine enter Try.func114 rfl Try.ntmps114 rfl hF ?_
  refine c_seq ?_
  refine za0 ?_
  refine o_q rfl rfl (q_asg rfl) ?_
  refine o_end ?_
  refine za2 ?_
  refine c_seq ?_
  refine za0 ?_
  refine o_q rfl rfl (za3 rfl) ?_
  refine za9 h (fun _ hx1 h => ?_) rfl
  refine o_e rfl (zac 0 Z Try.func90 N90 rfl rfl rfl (fun w P1 hF hB hS hT => impl_Plan_many.calls g0 a0_0 A0_1 c0_1 l0_1.length l0_1 A0_2 c0_2 l0_2.length l0_2 hB hF (hS _ R0_1) hc0_1 (hS _ R0_2) hc0_2 (hS _ B0) hx1)) (fun _ => ?_)
  refine za9 h (fun l2 hm3 h => ?_) rfl
  refine o_e rfl (e_make (Kd.int .i64) (0 : Int) Try.underlying25 I3 rfl (by decide) (by decide) (fun _ _ => rfl) rfl rfl hm3) (cur2 (fun A4 c5 => ?_))
  refine o_q rfl rfl (q_asg rfl) ?_
  refine o_end ?_
  refine za2 ?_
  refine c_seq ?_
  refine c_seq ?_
  refine za0 ?_
  refine o_q rfl rfl (za3 rfl) ?_
  refine o_q rfl rfl (q_nil rfl) ?_
  refine o_q rfl rfl (q_f F27_1 rfl) ?_
  refine o_q rfl rfl (q_ldb Y24 rfl (fun w h => B0.now Z h) rfl) ?_
  refine o_q rfl rfl (q_len Try.underlying24 rfl) ?_
  refine o_q rfl rfl (za3 rfl) ?_
  refine o_end ?_
  refine za2 ?_
  refine zak ?_
  refine za9 h (fun o16 hl15 hR14 => ?_) rfl
  clear h
  refine c_fact (p := l0_1.length ≤ 9223372036854775807) (fun w h => (R0_1.now Z h).2.1) (fun hm13 => ?_)
  refine zay (σ := (List SStep) × (List Int) × Int) (fun k11 ((ys10, l7, i8) : (List SStep) × (List Int) × Int) => Rg l0_1 i8 ys10 ∧ ys10.length = k11 ∧ impl_Plan_uses.l0 ys10 l7 i8 = some o16) [5, 16, 17, 18, 19, 20, 21, 22, 23, 24, 25, 26, 27, 28, 29, 30, 31, 32, 33, 34] (fun ((ys10, l7, i8) : (List SStep) × (List Int) × Int) => [(16, .int .i64 i8)]) (fun ((ys10, l7, i8) : (List SStep) × (List Int) × Int) => [row (Kd.int .i64) 3 (.slice A4 l2.length c5) l7]) l0_1.length (l0_1, l2, 0) ⟨Rg.start _, rfl, hl15⟩ ⟨rfl, trivial⟩ (fun w h => h) ?_
  refine fun k11 => cur3 (listC (fun l7 i8 U17 hJ_ => ?_) (fun y9 ys10 l7 i8 U17 hJ_ => ?_))
  · skip
    clear hl15
    have hr12 := hJ_.1; have hk18 := hJ_.2.1; have h := hJ_.2.2; clear hJ_
    replace h : impl_Plan_uses.l0 [] l7 i8 = some o16 := h
    rw [impl_Plan_uses.l0] at h
    refine c_seq ?_
    refine za0 ?_
    refine o_q rfl rfl (q_lss rfl rfl) ?_
    refine o_end ?_
    refine za2 ?_
    refine c_seq ?_
    refine c_false (congrArg Value.bool hr12.ge) ?_
    refine c_exit ?_
    refine za6 ?_
    refine za6 ?_
    have e_ := Option.some.inj h; replace h := hR14; rw [← e_] at h; clear e_
    refine x_hit ?_
    refine za2 ?_
    refine c_seq ?_
    refine c_seq ?_
    refine za0 ?_
    refine o_q rfl rfl (za3 rfl) ?_
    refine o_q rfl rfl (q_nil rfl) ?_
    refine o_q rfl rfl (q_f F27_2 rfl) ?_
    refine o_q rfl rfl (q_ldb Y25 rfl (fun w h => B0.now Z h) rfl) ?_
    refine o_q rfl rfl (q_len Try.underlying25 rfl) ?_
    refine o_q rfl rfl (za3 rfl) ?_
    refine o_end ?_
    refine za2 ?_
    refine zak ?_
    refine za9 h (fun o28 hl27 hR26 => ?_) rfl
    clear h
    refine c_fact (p := l0_2.length ≤ 9223372036854775807) (fun w h => (R0_2.now Z h).2.1) (fun hm25 => ?_)
    refine zay (σ := (List Int) × (List Int) × Int) (fun k23 ((ys22, l19, i20) : (List Int) × (List Int) × Int) => Rg l0_2 i20 ys22 ∧ ys22.length = k23 ∧ impl_Plan_uses.l1 ys22 l19 i20 = some o28) [7, 40, 41, 42, 43, 44, 45, 46, 47, 48, 49, 50] (fun ((ys22, l19, i20) : (List Int) × (List Int) × Int) => [(40, .int .i64 i20)]) (fun ((ys22, l19, i20) : (List Int) × (List Int) × Int) => [row (Kd.int .i64) 3 (.slice A4 l2.length c5) l19]) l0_2.length (l0_2, l7, 0) ⟨Rg.start _, rfl, hl27⟩ ⟨rfl, trivial⟩ (fun w h => h) ?_
    refine fun k23 => cur3 (listC (fun l19 i20 U29 hJ_ => ?_) (fun y21 ys22 l19 i20 U29 hJ_ => ?_))
    · skip
      clear hl27
      have hr24 := hJ_.1; have hk30 := hJ_.2.1; have h := hJ_.2.2; clear hJ_
      replace h : impl_Plan_uses.l1 [] l19 i20 = some o28 := h
      rw [impl_Plan_uses.l1] at h
      refine c_seq ?_
      refine za0 ?_
      refine o_q rfl rfl (q_lss rfl rfl) ?_
      refine o_end ?_
      refine za2 ?_
      refine c_seq ?_
      refine c_false (congrArg Value.bool hr24.ge) ?_
      refine c_exit ?_
      refine za6 ?_
      refine za6 ?_
      have e_ := Option.some.inj h; replace h := hR26; rw [← e_] at h; clear e_
      refine x_hit ?_
      refine za2 ?_
      refine c_seq ?_
      refine za0 ?_
      refine o_q rfl rfl (za3 rfl) ?_
      refine o_q rfl rfl (q_asg rfl) ?_
      refine o_end ?_
      refine za2 ?_
      refine c_ret ?_
      refine x_fact (p := l2.length = l19.length) (fun w h => (h.row_C (i := 0) rfl).2.1) (fun hn31 => ?_)
      have e0_ := Option.some.inj h; clear h
      subst e0_
      exact x_r1 (A4, c5) Try.results114 (zaf (v := .slice A4 l2.length c5) rfl) (by (try rw [hn31]); first | done | rfl) (f_pickE (L1 := [row (Kd.int .i64) 3 (.slice A4 l2.length c5) l19]) rfl [0] (by decide) rfl (by (try rw [hn31]); first | done | rfl))
    · skip
      clear hl27
      have hr24 := hJ_.1; have hk30 := hJ_.2.1; have h := hJ_.2.2; clear hJ_
      replace h : impl_Plan_uses.l1 (y21 :: ys22) l19 i20 = some o28 := h
      rw [impl_Plan_uses.l1] at h
      refine c_seq ?_
      refine za0 ?_
      refine o_q rfl rfl (q_lss rfl rfl) ?_
      refine o_end ?_
      refine za2 ?_
      refine c_seq ?_
      refine c_true (congrArg Value.bool hr24.lt) ?_
      refine zao ?_
      refine za2 ?_
      refine c_seq ?_
      refine zak ?_
      refine c_seq ?_
      refine za0 ?_
      refine o_fact (p := Sh A0_2 l0_2.length l0_2.length) (fun w h => f_sh (dk := (Kd.int .i64)) h (fun w h => R0_2.now Z h)) (fun hq32 => ?_)
      refine o_q rfl rfl (q_ix Try.underlying25 Z3 rfl rfl hq32 hr24.get) ?_
      refine o_q rfl rfl (q_lde (off := 0) Y3 rfl rfl (fun w h => R0_2.now Z h) hr24.get (fun _ _ h => h) rfl) ?_
      refine o_q rfl rfl (q_asg rfl) ?_
      refine o_end ?_
      refine za2 ?_
      refine za0 ?_
      refine o_q rfl rfl (za3 rfl) ?_
      refine o_q rfl rfl (za3 rfl) ?_
      refine o_fact (p := Sh A4 l2.length l19.length) (fun w h => f_sh (dk := (Kd.int .i64)) h (fun w h => h.zat (i := 0) rfl)) (fun hq33 => ?_)
      refine za9 h (fun y35 hg34 h => ?_) rfl
      refine o_q rfl rfl (q_ix Try.underlying25 Z3 rfl rfl hq33 hg34) ?_
      refine o_q rfl rfl (q_lde (off := 0) Y3 rfl rfl (fun w h => h.zat (i := 0) rfl) hg34 (fun _ _ h => h) rfl) ?_
      refine o_q rfl rfl (q_add64 rfl rfl) ?_
      refine za9 h (fun y37 hg36 h => ?_) rfl
      refine o_q rfl rfl (q_ix Try.underlying25 Z3 rfl rfl hq33 hg36) ?_
      refine za9 h (fun l38 hs39 h => ?_) rfl
      refine o_e rfl (e_set (i := 0) rfl rfl rfl Z3 hs39) (fun _ => ?_)
      refine o_end ?_
      refine zam ?_
      refine za2 ?_
      refine za0 ?_
      refine o_q rfl rfl (q_up rfl rfl (hr24.up hm25)) ?_
      refine o_q rfl rfl (za3 rfl) ?_
      refine o_end ?_
      refine zal ys22.length (ys22, l38, i20 + 1) (by rw [← hk30]; exact Nat.lt_succ_self _) ⟨hr24.step, rfl, h⟩ ⟨rfl, trivial⟩ (fun w h => za7 [0] (by decide) rfl w h) ?_
      repeat (first | exact zad _ _ | refine zai rfl ?_ | refine zae rfl ?_ | refine zaj rfl ?_)
  · skip
    clear hl15
    have hr12 := hJ_.1; have hk18 := hJ_.2.1; have h := hJ_.2.2; clear hJ_
    replace h : impl_Plan_uses.l0 (y9 :: ys10) l7 i8 = some o16 := h
    rw [impl_Plan_uses.l0] at h
    refine c_seq ?_
    refine za0 ?_
    refine o_q rfl rfl (q_lss rfl rfl) ?_
    refine o_end ?_
    refine za2 ?_
    refine c_seq ?_
    refine c_true (congrArg Value.bool hr12.lt) ?_
    refine zao ?_
    refine za2 ?_
    refine c_seq ?_
    refine zak ?_
    refine c_seq ?_
    refine za0 ?_
    refine o_fact (p := Sh A0_1 l0_1.length l0_1.length) (fun w h => f_sh (dk := kStep) h (fun w h => R0_1.now Z h)) (fun hq40 => ?_)
    refine o_q rfl rfl (q_ix Try.underlying24 Z89 rfl rfl hq40 hr12.get) ?_
    refine o_q rfl rfl (q_ldE G89 Z89 rfl rfl (fun w h => R0_1.now Z h) hr12.get (fun _ _ h => h) rfl) ?_
    refine o_e rfl (e_alloc V89 rfl) (fun g41 => ?_)
    refine o_e rfl (zaw (i := 0) rfl rfl rfl Z89 rfl rfl) (fun _ => ?_)
    refine o_end ?_
    refine za2 ?_
    refine c_seq ?_
    refine za0 ?_
    refine o_q rfl rfl (za3 rfl) ?_
    refine o_q rfl rfl (q_f F89_0 rfl) ?_
    refine o_q rfl rfl (q_ldb Y3 rfl (fun w h => h.zab (i := 0) rfl) rfl) ?_
    refine o_fact (p := Sh A4 l2.length l7.length) (fun w h => f_sh (dk := (Kd.int .i64)) h (fun w h => h.zat (i := 1) rfl)) (fun hq43 => ?_)
    refine za9 h (fun y45 hg44 h => ?_) rfl
    refine o_q rfl rfl (q_ix Try.underlying25 Z3 rfl rfl hq43 hg44) ?_
    refine o_q rfl rfl (q_lde (off := 0) Y3 rfl rfl (fun w h => h.zat (i := 1) rfl) hg44 (fun _ _ h => h) rfl) ?_
    refine o_q rfl rfl (q_add64 rfl rfl) ?_
    refine za9 h (fun y47 hg46 h => ?_) rfl
    refine o_q rfl rfl (q_ix Try.underlying25 Z3 rfl rfl hq43 hg46) ?_
    refine za9 h (fun l48 hs49 h => ?_) rfl
    refine o_e rfl (e_set (i := 1) rfl rfl rfl Z3 hs49) (fun _ => ?_)
    refine o_end ?_
    refine za2 ?_
    refine za0 ?_
    refine o_q rfl rfl (za3 rfl) ?_
    refine o_q rfl rfl (q_f F89_1 rfl) ?_
    refine o_q rfl rfl (q_ldb Y3 rfl (fun w h => h.zab (i := 0) rfl) rfl) ?_
    refine o_fact (p := Sh A4 l2.length l48.length) (fun w h => f_sh (dk := (Kd.int .i64)) h (fun w h => h.zat (i := 1) rfl)) (fun hq50 => ?_)
    refine za9 h (fun y52 hg51 h => ?_) rfl
    refine o_q rfl rfl (q_ix Try.underlying25 Z3 rfl rfl hq50 hg51) ?_
    refine o_q rfl rfl (q_lde (off := 0) Y3 rfl rfl (fun w h => h.zat (i := 1) rfl) hg51 (fun _ _ h => h) rfl) ?_
    refine o_q rfl rfl (q_add64 rfl rfl) ?_
    refine za9 h (fun y54 hg53 h => ?_) rfl
    refine o_q rfl rfl (q_ix Try.underlying25 Z3 rfl rfl hq50 hg53) ?_
    refine za9 h (fun l55 hs56 h => ?_) rfl
    refine o_e rfl (e_set (i := 1) rfl rfl rfl Z3 hs56) (fun _ => ?_)
    refine o_end ?_
    refine zam ?_
    refine za2 ?_
    refine za0 ?_
    refine o_q rfl rfl (q_up rfl rfl (hr12.up hm13)) ?_
    refine o_q rfl rfl (za3 rfl) ?_
    refine o_end ?_
    refine zal ys10.length (ys10, l55, i8 + 1) (by rw [← hk18]; exact Nat.lt_succ_self _) ⟨hr12.step, rfl, h⟩ ⟨rfl, trivial⟩ (fun w h => za7 [1] (by decide) rfl w h) ?_
    repeat (first | exact zad _ _ | refine zai rfl ?_ | refine zae rfl ?_ | refine zaj rfl ?_)

/-! ### loop.example/g01098/impl.UsesOf: function 33 -/
def impl_UsesOf.f (k : Nat) (a0_0 : Int) (l0_1 : List SStep) (l0_2 : List Int) : Option ((List Int) × Bool) := (impl_IsPlan.f k a0_0 l0_1 l0_2).bind fun b4 => if b4 = true then ((impl_Plan_uses.f a0_0 l0_1 l0_2).bind fun l7 => some (l7, true)) else (some (([] : List Int), false))
set_option maxHeartbeats 600000 in
set_option maxRecDepth 100000 in
theorem impl_UsesOf.calls (k : Nat) {w0 ws : World} {P0 : Nat → Prop} (a0_0 : Int) (A0_1 : Option Addr) (c0_1 : Nat) (n0_1 : Nat) (l0_1 : List SStep) (A0_2 : Option Addr) (c0_2 : Nat) (n0_2 : Nat) (l0_2 : List Int) (Z : Below w0.heap.size w0 ws) (hF : Fr w0 ws P0 [] ws) (R0_1 : Stable ws P0 (fun w => Kd.C kStep w A0_1 n0_1 l0_1)) (hc0_1 : n0_1 ≤ c0_1) (R0_2 : Stable ws P0 (fun w => Kd.C (Kd.int .i64) w A0_2 n0_2 l0_2)) (hc0_2 : n0_2 ≤ c0_2) (r_1 : List Int) (r_4 : Bool) (h : impl_UsesOf.f k a0_0 l0_1 l0_2 = some (r_1, r_4)) :
    Calls Try.prog 33 #[.agg #[.int .i64 a0_0, .slice A0_1 n0_1 c0_1, .slice A0_2 n0_2 c0_2]] ws (Post1 w0 ws P0 (fun ((q_2, q_3) : (Option Addr) × Nat) => .tuple #[.slice q_2 r_1.length q_3, .bool r_4]) (fun ((q_2, q_3) : (Option Addr) × Nat) => [row (Kd.int .i64) 3 (.slice q_2 r_1.length q_3) r_1])) := by
  unfold impl_UsesOf.f at h
  obtain rfl := (R0_1 ws (KeptB.refl _ _)).1
  obtain rfl := (R0_2 ws (KeptB.refl _ _)).1
  refine enter Try.func33 rfl Try.ntmps33 rfl hF ?_
  refine c_seq ?_
  refine za0 ?_
  refine o_e rfl (e_box rfl) (fun g1 => ?_)
  refine o_q rfl rfl (q_asg rfl) ?_
  refine o_q rfl rfl (q_asg rfl) ?_
  refine o_end ?_
  refine za2 ?_
  refine c_seq ?_
  refine c_seq ?_
  refine za0 ?_
  refine o_q rfl rfl (q_ldB G27 Z27 rfl (fun w h => h.zab (i := 0) rfl) rfl) ?_
  refine za9 h (fun b4 hx3 h => ?_) rfl
  refine o_e rfl (zac 0 Z Try.func86 N86 rfl rfl rfl (fun w P1 hF hB hS hT => impl_IsPlan.calls k a0_0 A0_1 c0_1 l0_1.length l0_1 A0_2 c0_2 l0_2.length l0_2 hB hF (hS _ R0_1) hc0_1 (hS _ R0_2) hc0_2 _ hx3)) (fun _ => ?_)
  refine o_q rfl rfl (q_not rfl) ?_
  refine o_end ?_
  refine za2 ?_
  refine zas _ rfl (fun hb5 => ?_) (fun hb5 => ?_)
  · replace hb5 := nt_t hb5
    replace h := bb_f hb5 h
    refine c_seq ?_
    refine za0 ?_
    refine o_q rfl rfl (q_asg rfl) ?_
    refine o_q rfl rfl (q_asg rfl) ?_
    refine o_end ?_
    refine za2 ?_
    refine c_ret ?_
    refine za8 ?_
    refine x_nil (Kd.int .i64) 3 ?_
    have e0_ := Option.some.inj h; clear h
    have d0_ := (Prod.mk.inj e0_).1; have e1_ := (Prod.mk.inj e0_).2; clear e0_; subst d0_
    subst e1_
    exact x_r2 (none, 0) Try.results33 (zaf rfl) (zaf rfl) rfl (fun w h => za7 [0] (by decide) rfl w h)
  · replace hb5 := nt_f hb5
    replace h := bb_t hb5 h
    refine zao ?_
    refine za2 ?_
    refine c_seq ?_
    refine za0 ?_
    refine za9 h (fun l7 hx6 h => ?_) rfl
    refine o_e rfl (zac 0 Z Try.func114 N114 rfl rfl rfl (fun w P1 hF hB hS hT => impl_Plan_uses.calls g1 a0_0 A0_1 c0_1 l0_1.length l0_1 A0_2 c0_2 l0_2.length l0_2 hB hF (hS _ R0_1) hc0_1 (hS _ R0_2) hc0_2 (hT 0 _ rfl).box _ hx6)) (cur2 (fun A8 c9 => ?_))
    refine o_q rfl rfl (q_asg rfl) ?_
    refine o_q rfl rfl (q_asg rfl) ?_
    refine o_end ?_
    refine za2 ?_
    refine c_ret ?_
    have e0_ := Option.some.inj h; clear h
    have d0_ := (Prod.mk.inj e0_).1; have e1_ := (Prod.mk.inj e0_).2; clear e0_; subst d0_
    subst e1_
    exact x_r2 (A8, c9) Try.results33 (zaf rfl) (zaf rfl) rfl (fun w h => za7 [0] (by decide) rfl w h)

/-! ### loop.example/g01098/laws.FnTrimmedPlans: function 5 -/
def laws_FnTrimmedPlans.l0 (i15 : Int) (l67 : List Int) : (List SStep) → Int → Option ((Bool) ⊕ (Unit))
  | [], i86 => some (.inr ())
  | y87 :: ys88, i86 => (gt l67 (w64 (i15 + i86))).bind fun y99 => if y99 = 0 then (some (.inl false)) else (laws_FnTrimmedPlans.l0 i15 l67 ys88 (i86 + 1))
def laws_FnTrimmedPlans.f (k : Nat) (l0 : List Int) (l1 : List Int) : Option Bool := (laws_big.f l0 l1).bind fun b2 => if b2 = true then (some true) else ((spec_DrawTrimPlan.f k l0).bind fun (i5, l6, l7) => (impl_TrimPlan.f k i5 l6 l7).bind fun (i15, l16, l17, b18) => (spec_TrimPlan.f k i5 l6 l7).bind fun (i26, l27, l28, b29) => if (b18 != b29) = true then (some false) else ((laws_pSamePlan.f i15 l16 l17 i26 l27 l28).bind fun b38 => if b38 = true then (if b29 = true then ((impl_SamePowers.f k i5 l6 l7 i15 l16 l17).bind fun (b42, b43) => (impl_UsedSteps.f k i5 l6 l7).bind fun (l45, b46) => (impl_IsTrim.f k i15 l16 l17).bind fun (b50, b51) => (impl_TrimPlan.f k i15 l16 l17).bind fun (i53, l54, l55, b56) => (impl_IsTrim.f k i5 l6 l7).bind fun (b64, b65) => (impl_UsesOf.f k i15 l16 l17).bind fun (l67, b68) => if b43 = true then (if b46 = true then (if b51 = true then (if b56 = true then (if b65 = true then (if b68 = true then (if b42 = true then (if b50 = true then (if (l16.length : Int) ≠ (l45.length : Int) then (some false) else ((laws_pSamePlan.f i53 l54 l55 i15 l16 l17).bind fun b81 => if b81 = true then ((laws_pSamePlan.f i5 l6 l7 i15 l16 l17).bind fun b84 => if (b64 != b84) = true then (some false) else ((laws_FnTrimmedPlans.l0 i15 l67 l16 0).bind fun o_ => match o_ with | .inl r_ => some r_ | .inr _ => some true)) else (some false))) else (some false)) else (some false)) else (some false)) else (some false)) else (some false)) else (some false)) else (some false)) else (some false)) else (some true)) else (some false)))
set_option maxHeartbeats 600000 in
set_option maxRecDepth 100000 in
theorem laws_FnTrimmedPlans.calls (k : Nat) {w0 ws : World} {P0 : Nat → Prop} (A0 : Option Addr) (c0 : Nat) (n0 : Nat) (l0 : List Int) (A1 : Option Addr) (c1 : Nat) (n1 : Nat) (l1 : List Int) (Z : Below w0.heap.size w0 ws) (hF : Fr w0 ws P0 [] ws) (R0 : Stable ws P0 (fun w => Kd.C (Kd.int .u8) w A0 n0 l0)) (hc0 : n0 ≤ c0) (R1 : Stable ws P0 (fun w => Kd.C (Kd.int .u8) w A1 n1 l1)) (hc1 : n1 ≤ c1) (r_1 : Bool) (h : laws_FnTrimmedPlans.f k l0 l1 = some r_1) :
    Calls Try.prog 5 #[.slice A0 n0 c0, .slice A1 n1 c1] ws (Post1 w0 ws P0 (fun (_ : Unit) => .bool r_1) (fun (_ : Unit) => [])) := by
  unfold laws_FnTrimmedPlans.f at h
  obtain rfl := (R0 ws (KeptB.refl _ _)).1
  obtain rfl := (R1 ws (KeptB.refl _ _)).1
  refine enter Try.func5 rfl Try.ntmps5 rfl hF ?_
  refine c_seq ?_
  refine za0 ?_
  refine o_q rfl rfl (q_asg rfl) ?_
  refine o_end ?_
  refine za2 ?_
  refine c_seq ?_
  refine c_seq ?_
  refine za0 ?_
  refine o_q rfl rfl (za3 rfl) ?_
  refine o_q rfl rfl (za3 rfl) ?_
  refine za9 h (fun b2 hx1 h => ?_) rfl
  refine o_e rfl (zac 0 Z Try.func13 N13 rfl rfl rfl (fun w P1 hF hB hS hT => laws_big.calls A0 c0 l0.length l0 A1 c1 l1.length l1 hB hF (hS _ R0) hc0 (hS _ R1) hc1 _ hx1)) (fun _ => ?_)
  refine o_end ?_
  refine za2 ?_
  refine zas _ rfl (fun hb3 => ?_) (fun hb3 => ?_)
  · skip
    replace h := bb_t hb3 h
    refine c_seq ?_
    refine za0 ?_
    refine o_q rfl rfl (q_asg rfl) ?_
    refine o_end ?_
    refine za2 ?_
    refine c_ret ?_
    refine za8 ?_
    have e0_ := Option.some.inj h; clear h
    subst e0_
    exact x_r1 () Try.results5 (zaf rfl) rfl (fun w h => za7 [] (by decide) rfl w h)
  · skip
    replace h := bb_f hb3 h
    refine zao ?_
    refine za2 ?_
    refine c_seq ?_
    refine za0 ?_
    refine o_q rfl rfl (za3 rfl) ?_
    refine bindE3 h (fun i5 l6 l7 hx4 h => ?_) rfl
    refine o_e rfl (zac 0 Z Try.func29 N29 rfl rfl rfl (fun w P1 hF hB hS hT => spec_DrawTrimPlan.calls k A0 c0 l0.length l0 hB hF (hS _ R0) hc0 _ _ _ hx4)) (cur4 (fun A8 c9 A10 c11 => ?_))
    refine o_e rfl (e_alloc V27 rfl) (fun g12 => ?_)
    refine o_e rfl (zaw (i := 0) rfl rfl rfl Z27 rfl rfl) (fun _ => ?_)
    refine o_end ?_
    refine za2 ?_
    refine c_seq ?_
    refine za0 ?_
    refine o_q rfl rfl (q_ldB G27 Z27 rfl (fun w h => h.zab (i := 0) rfl) rfl) ?_
    refine bindE4 h (fun i15 l16 l17 b18 hx14 h => ?_) rfl
    refine o_e rfl (zac 0 Z Try.func28 N28 rfl rfl rfl (fun w P1 hF hB hS hT => impl_TrimPlan.calls k i5 A8 c9 l6.length l6 A10 c11 l7.length l7 hB hF (hT 1 _ rfl).row (hT 1 _ rfl).cap (hT 2 _ rfl).row (hT 2 _ rfl).cap _ _ _ _ hx14)) (cur4 (fun A19 c20 A21 c22 => ?_))
    refine o_q rfl rfl (za3 rfl) ?_
    refine o_q rfl rfl (q_ext rfl rfl) ?_
    refine o_q rfl rfl (q_ext rfl rfl) ?_
    refine o_e rfl (e_alloc V27 rfl) (fun g23 => ?_)
    refine o_e rfl (zaw (i := 0) rfl rfl rfl Z27 rfl rfl) (fun _ => ?_)
    refine o_q rfl rfl (q_asg rfl) ?_
    refine o_end ?_
    refine za2 ?_
    refine c_seq ?_
    refine za0 ?_
    refine o_q rfl rfl (q_ldB G27 Z27 rfl (fun w h => h.zab (i := 3) rfl) rfl) ?_
    refine bindE4 h (fun i26 l27 l28 b29 hx25 h => ?_) rfl
    refine o_e rfl (zac 0 Z Try.func30 N30 rfl rfl rfl (fun w P1 hF hB hS hT => spec_TrimPlan.calls k i5 A8 c9 l6.length l6 A10 c11 l7.length l7 hB hF (hT 4 _ rfl).row (hT 4 _ rfl).cap (hT 5 _ rfl).row (hT 5 _ rfl).cap _ _ _ _ hx25)) (cur4 (fun A30 c31 A32 c33 => ?_))
    refine o_q rfl rfl (za3 rfl) ?_
    refine o_q rfl rfl (q_ext rfl rfl) ?_
    refine o_q rfl rfl (q_ext rfl rfl) ?_
    refine o_e rfl (e_alloc V27 rfl) (fun g34 => ?_)
    refine o_e rfl (zaw (i := 0) rfl rfl rfl Z27 rfl rfl) (fun _ => ?_)
    refine o_q rfl rfl (q_asg rfl) ?_
    refine o_end ?_
    refine za2 ?_
    refine c_seq ?_
    refine c_seq ?_
    refine za0 ?_
    refine o_q rfl rfl (za3 rfl) ?_
    refine o_q rfl rfl (za3 rfl) ?_
    refine o_q rfl rfl (q_bneq Try.underlying4 rfl rfl) ?_
    refine o_q rfl rfl (za3 rfl) ?_
    refine byB (b18 != b29) (fun hb36 => ?_) (fun hb36 => ?_)
    · replace h := bb_t hb36 h
      refine @o_n _ _ _ _ _ _ _ _ _ _ _ 42 (za1 rfl rfl rfl (congrArg Value.bool hb36) rfl) (Eq.refl (some 42)) ?_
      refine @o_n _ _ _ _ _ _ _ _ _ _ _ 43 (za1 rfl rfl rfl (congrArg Value.bool hb36) rfl) (Eq.refl (some 43)) ?_
      refine @o_n _ _ _ _ _ _ _ _ _ _ _ 44 (za1 rfl rfl rfl (congrArg Value.bool hb36) rfl) (Eq.refl (some 44)) ?_
      refine @o_n _ _ _ _ _ _ _ _ _ _ _ 45 (za1 rfl rfl rfl (congrArg Value.bool hb36) rfl) (Eq.refl (some 45)) ?_
      refine o_q rfl rfl (zah true (congrArg Value.bool hb36) rfl) ?_
      refine o_end ?_
      refine za2 ?_
      refine c_true rfl ?_
      refine c_seq ?_
      refine za0 ?_
      refine o_q rfl rfl (q_asg rfl) ?_
      refine o_end ?_
      refine za2 ?_
      refine c_ret ?_
      refine za8 ?_
      have e0_ := Option.some.inj h; clear h
      subst e0_
      exact x_r1 () Try.results5 (zaf rfl) rfl (fun w h => za7 [] (by decide) rfl w h)
    · replace h := bb_f hb36 h
      refine o_w (za4 rfl rfl rfl (congrArg Value.bool hb36)) rfl (q_ldB G27 Z27 rfl (fun w h => h.zab (i := 3) rfl) rfl) ?_
      refine o_w (za4 rfl rfl rfl (congrArg Value.bool hb36)) rfl (q_ldB G27 Z27 rfl (fun w h => h.zab (i := 0) rfl) rfl) ?_
      refine za9 h (fun b38 hx37 h => ?_) rfl
      refine o_ew (za4 rfl rfl rfl (congrArg Value.bool hb36)) (zac 0 Z Try.func17 N17 rfl rfl rfl (fun w P1 hF hB hS hT => laws_pSamePlan.calls i15 A19 c20 l16.length l16 A21 c22 l17.length l17 i26 A30 c31 l27.length l27 A32 c33 l28.length l28 hB hF (hT 4 _ rfl).row (hT 4 _ rfl).cap (hT 5 _ rfl).row (hT 5 _ rfl).cap (hT 1 _ rfl).row (hT 1 _ rfl).cap (hT 2 _ rfl).row (hT 2 _ rfl).cap _ hx37)) (fun _ => ?_)
      refine o_w (za4 rfl rfl rfl (congrArg Value.bool hb36)) rfl (q_not rfl) ?_
      refine o_q rfl rfl (zah false (congrArg Value.bool hb36) rfl) ?_
      refine o_end ?_
      refine za2 ?_
      refine zas _ rfl (fun hb39 => ?_) (fun hb39 => ?_)
      · replace hb39 := nt_t hb39
        replace h := bb_f hb39 h
        refine c_seq ?_
        refine za0 ?_
        refine o_q rfl rfl (q_asg rfl) ?_
        refine o_end ?_
        refine za2 ?_
        refine c_ret ?_
        refine za8 ?_
        have e0_ := Option.some.inj h; clear h
        subst e0_
        exact x_r1 () Try.results5 (zaf rfl) rfl (fun w h => za7 [] (by decide) rfl w h)
      · replace hb39 := nt_f hb39
        replace h := bb_t hb39 h
        refine zao ?_
        refine za2 ?_
        refine c_seq ?_
        refine c_seq ?_
        refine za0 ?_
        refine o_q rfl rfl (za3 rfl) ?_
        refine o_q rfl rfl (q_not rfl) ?_
        refine o_end ?_
        refine za2 ?_
        refine zas _ rfl (fun hb40 => ?_) (fun hb40 => ?_)
        · replace hb40 := nt_t hb40
          replace h := bb_f hb40 h
          refine c_seq ?_
          refine za0 ?_
          refine o_q rfl rfl (q_asg rfl) ?_
          refine o_end ?_
          refine za2 ?_
          refine c_ret ?_
          refine za8 ?_
          have e0_ := Option.some.inj h; clear h
          subst e0_
          exact x_r1 () Try.results5 (zaf rfl) rfl (fun w h => za7 [] (by decide) rfl w h)
        · replace hb40 := nt_f hb40
          replace h := bb_t hb40 h
          refine zao ?_
          refine za2 ?_
          refine c_seq ?_
          refine za0 ?_
          refine o_q rfl rfl (q_ldB G27 Z27 rfl (fun w h => h.zab (i := 6) rfl) rfl) ?_
          refine o_q rfl rfl (q_ldB G27 Z27 rfl (fun w h => h.zab (i := 3) rfl) rfl) ?_
          refine bindE2 h (fun b42 b43 hx41 h => ?_) rfl
          refine o_e rfl (zac 0 Z Try.func27 N27 rfl rfl rfl (fun w P1 hF hB hS hT => impl_SamePowers.calls k i5 A8 c9 l6.length l6 A10 c11 l7.length l7 i15 A19 c20 l16.length l16 A21 c22 l17.length l17 hB hF (hT 7 _ rfl).row (hT 7 _ rfl).cap (hT 8 _ rfl).row (hT 8 _ rfl).cap (hT 4 _ rfl).row (hT 4 _ rfl).cap (hT 5 _ rfl).row (hT 5 _ rfl).cap _ _ hx41)) (fun _ => ?_)
          refine o_q rfl rfl (za3 rfl) ?_
          refine o_q rfl rfl (q_ext rfl rfl) ?_
          refine o_q rfl rfl (q_ext rfl rfl) ?_
          refine o_q rfl rfl (q_asg rfl) ?_
          refine o_q rfl rfl (q_asg rfl) ?_
          refine o_end ?_
          refine za2 ?_
          refine c_seq ?_
          refine za0 ?_
          refine o_q rfl rfl (q_ldB G27 Z27 rfl (fun w h => h.zab (i := 6) rfl) rfl) ?_
          refine bindE2 h (fun l45 b46 hx44 h => ?_) rfl
          refine o_e rfl (zac 0 Z Try.func31 N31 rfl rfl rfl (fun w P1 hF hB hS hT => impl_UsedSteps.calls k i5 A8 c9 l6.length l6 A10 c11 l7.length l7 hB hF (hT 7 _ rfl).row (hT 7 _ rfl).cap (hT 8 _ rfl).row (hT 8 _ rfl).cap _ _ hx44)) (cur2 (fun A47 c48 => ?_))
          refine o_q rfl rfl (za3 rfl) ?_
          refine o_q rfl rfl (q_ext rfl rfl) ?_
          refine o_q rfl rfl (q_ext rfl rfl) ?_
          refine o_q rfl rfl (q_asg rfl) ?_
          refine o_q rfl rfl (q_asg rfl) ?_
          refine o_end ?_
          refine za2 ?_
          refine c_seq ?_
          refine za0 ?_
          refine o_q rfl rfl (q_ldB G27 Z27 rfl (fun w h => h.zab (i := 4) rfl) rfl) ?_
          refine bindE2 h (fun b50 b51 hx49 h => ?_) rfl
          refine o_e rfl (zac 0 Z Try.func32 N32 rfl rfl rfl (fun w P1 hF hB hS hT => impl_IsTrim.calls k i15 A19 c20 l16.length l16 A21 c22 l17.length l17 hB hF (hT 5 _ rfl).row (hT 5 _ rfl).cap (hT 6 _ rfl).row (hT 6 _ rfl).cap _ _ hx49)) (fun _ => ?_)
          refine o_q rfl rfl (za3 rfl) ?_
          refine o_q rfl rfl (q_ext rfl rfl) ?_
          refine o_q rfl rfl (q_ext rfl rfl) ?_
          refine o_q rfl rfl (q_asg rfl) ?_
          refine o_q rfl rfl (q_asg rfl) ?_
          refine o_end ?_
          refine za2 ?_
          refine c_seq ?_
          refine za0 ?_
          refine o_q rfl rfl (q_ldB G27 Z27 rfl (fun w h => h.zab (i := 4) rfl) rfl) ?_
          refine bindE4 h (fun i53 l54 l55 b56 hx52 h => ?_) rfl
          refine o_e rfl (zac 0 Z Try.func28 N28 rfl rfl rfl (fun w P1 hF hB hS hT => impl_TrimPlan.calls k i15 A19 c20 l16.length l16 A21 c22 l17.length l17 hB hF (hT 5 _ rfl).row (hT 5 _ rfl).cap (hT 6 _ rfl).row (hT 6 _ rfl).cap _ _ _ _ hx52)) (cur4 (fun A57 c58 A59 c60 => ?_))
          refine o_q rfl rfl (za3 rfl) ?_
          refine o_q rfl rfl (q_ext rfl rfl) ?_
          refine o_q rfl rfl (q_ext rfl rfl) ?_
          refine o_e rfl (e_alloc V27 rfl) (fun g61 => ?_)
          refine o_e rfl (zaw (i := 0) rfl rfl rfl Z27 rfl rfl) (fun _ => ?_)
          refine o_q rfl rfl (q_asg rfl) ?_
          refine o_end ?_
          refine za2 ?_
          refine c_seq ?_
          refine za0 ?_
          refine o_q rfl rfl (q_ldB G27 Z27 rfl (fun w h => h.zab (i := 10) rfl) rfl) ?_
          refine bindE2 h (fun b64 b65 hx63 h => ?_) rfl
          refine o_e rfl (zac 0 Z Try.func32 N32 rfl rfl rfl (fun w P1 hF hB hS hT => impl_IsTrim.calls k i5 A8 c9 l6.length l6 A10 c11 l7.length l7 hB hF (hT 11 _ rfl).row (hT 11 _ rfl).cap (hT 12 _ rfl).row (hT 12 _ rfl).cap _ _ hx63)) (fun _ => ?_)
          refine o_q rfl rfl (za3 rfl) ?_
          refine o_q rfl rfl (q_ext rfl rfl) ?_
          refine o_q rfl rfl (q_ext rfl rfl) ?_
          refine o_q rfl rfl (q_asg rfl) ?_
          refine o_q rfl rfl (q_asg rfl) ?_
          refine o_end ?_
          refine za2 ?_
          refine c_seq ?_
          refine za0 ?_
          refine o_q rfl rfl (q_ldB G27 Z27 rfl (fun w h => h.zab (i := 7) rfl) rfl) ?_
          refine bindE2 h (fun l67 b68 hx66 h => ?_) rfl
          refine o_e rfl (zac 0 Z Try.func33 N33 rfl rfl rfl (fun w P1 hF hB hS hT => impl_UsesOf.calls k i15 A19 c20 l16.length l16 A21 c22 l17.length l17 hB hF (hT 8 _ rfl).row (hT 8 _ rfl).cap (hT 9 _ rfl).row (hT 9 _ rfl).cap _ _ hx66)) (cur2 (fun A69 c70 => ?_))
          refine o_q rfl rfl (za3 rfl) ?_
          refine o_q rfl rfl (q_ext rfl rfl) ?_
          refine o_q rfl rfl (q_ext rfl rfl) ?_
          refine o_q rfl rfl (q_asg rfl) ?_
          refine o_q rfl rfl (q_asg rfl) ?_
          refine o_end ?_
          refine za2 ?_
          refine c_seq ?_
          refine c_seq ?_
          refine za0 ?_
          refine o_q rfl rfl (za3 rfl) ?_
          refine o_q rfl rfl (q_not rfl) ?_
          refine o_q rfl rfl (za3 rfl) ?_
          refine byB b43 (fun hb71 => ?_) (fun hb71 => ?_)
          · replace h := bb_t hb71 h
            refine o_w (za4 rfl rfl rfl (congrArg (fun b => Value.bool (!(b))) hb71)) rfl (za3 rfl) ?_
            refine o_w (za4 rfl rfl rfl (congrArg (fun b => Value.bool (!(b))) hb71)) rfl (q_not rfl) ?_
            refine o_q rfl rfl (zah false (congrArg (fun b => Value.bool (!(b))) hb71) rfl) ?_
            refine o_q rfl rfl (za3 rfl) ?_
            refine byB b46 (fun hb72 => ?_) (fun hb72 => ?_)
            · replace h := bb_t hb72 h
              refine o_w (za4 rfl rfl rfl (congrArg (fun b => Value.bool (!(b))) hb72)) rfl (za3 rfl) ?_
              refine o_w (za4 rfl rfl rfl (congrArg (fun b => Value.bool (!(b))) hb72)) rfl (q_not rfl) ?_
              refine o_q rfl rfl (zah false (congrArg (fun b => Value.bool (!(b))) hb72) rfl) ?_
              refine o_q rfl rfl (za3 rfl) ?_
              refine byB b51 (fun hb73 => ?_) (fun hb73 => ?_)
              · replace h := bb_t hb73 h
                refine o_w (za4 rfl rfl rfl (congrArg (fun b => Value.bool (!(b))) hb73)) rfl (za3 rfl) ?_
                refine o_w (za4 rfl rfl rfl (congrArg (fun b => Value.bool (!(b))) hb73)) rfl (q_not rfl) ?_
                refine o_q rfl rfl (zah false (congrArg (fun b => Value.bool (!(b))) hb73) rfl) ?_
                refine o_q rfl rfl (za3 rfl) ?_
                refine byB b56 (fun hb74 => ?_) (fun hb74 => ?_)
                · replace h := bb_t hb74 h
                  refine o_w (za4 rfl rfl rfl (congrArg (fun b => Value.bool (!(b))) hb74)) rfl (za3 rfl) ?_
                  refine o_w (za4 rfl rfl rfl (congrArg (fun b => Value.bool (!(b))) hb74)) rfl (q_not rfl) ?_
                  refine o_q rfl rfl (zah false (congrArg (fun b => Value.bool (!(b))) hb74) rfl) ?_
                  refine o_q rfl rfl (za3 rfl) ?_
                  refine byB b65 (fun hb75 => ?_) (fun hb75 => ?_)
                  · replace h := bb_t hb75 h
                    refine o_w (za4 rfl rfl rfl (congrArg (fun b => Value.bool (!(b))) hb75)) rfl (za3 rfl) ?_
                    refine o_w (za4 rfl rfl rfl (congrArg (fun b => Value.bool (!(b))) hb75)) rfl (q_not rfl) ?_
                    refine o_q rfl rfl (zah false (congrArg (fun b => Value.bool (!(b))) hb75) rfl) ?_
                    refine o_q rfl rfl (za3 rfl) ?_
                    refine byB b68 (fun hb76 => ?_) (fun hb76 => ?_)
                    · replace h := bb_t hb76 h
                      refine o_w (za4 rfl rfl rfl (congrArg (fun b => Value.bool (!(b))) hb76)) rfl (za3 rfl) ?_
                      refine o_w (za4 rfl rfl rfl (congrArg (fun b => Value.bool (!(b))) hb76)) rfl (q_not rfl) ?_
                      refine o_q rfl rfl (zah false (congrArg (fun b => Value.bool (!(b))) hb76) rfl) ?_
                      refine o_q rfl rfl (za3 rfl) ?_
                      refine byB b42 (fun hb77 => ?_) (fun hb77 => ?_)
                      · replace h := bb_t hb77 h
                        refine o_w (za4 rfl rfl rfl (congrArg (fun b => Value.bool (!(b))) hb77)) rfl (za3 rfl) ?_
                        refine o_w (za4 rfl rfl rfl (congrArg (fun b => Value.bool (!(b))) hb77)) rfl (q_not rfl) ?_
                        refine o_q rfl rfl (zah false (congrArg (fun b => Value.bool (!(b))) hb77) rfl) ?_
                        refine o_q rfl rfl (za3 rfl) ?_
                        refine byB b50 (fun hb78 => ?_) (fun hb78 => ?_)
                        · replace h := bb_t hb78 h
                          refine o_w (za4 rfl rfl rfl (congrArg (fun b => Value.bool (!(b))) hb78)) rfl (q_f F27_1 rfl) ?_
                          refine o_w (za4 rfl rfl rfl (congrArg (fun b => Value.bool (!(b))) hb78)) rfl (q_ldb Y24 rfl (fun w h => h.zab (i := 8) rfl) rfl) ?_
                          refine o_w (za4 rfl rfl rfl (congrArg (fun b => Value.bool (!(b))) hb78)) rfl (q_len Try.underlying24 rfl) ?_
                          refine o_w (za4 rfl rfl rfl (congrArg (fun b => Value.bool (!(b))) hb78)) rfl (za3 rfl) ?_
                          refine o_w (za4 rfl rfl rfl (congrArg (fun b => Value.bool (!(b))) hb78)) rfl (q_len Try.underlying25 rfl) ?_
                          refine o_w (za4 rfl rfl rfl (congrArg (fun b => Value.bool (!(b))) hb78)) rfl (q_neq rfl rfl) ?_
                          refine o_q rfl rfl (zah false (congrArg (fun b => Value.bool (!(b))) hb78) rfl) ?_
                          refine o_q rfl rfl (za3 rfl) ?_
                          refine byB (decide ((l16.length : Int) ≠ (l45.length : Int))) (fun hb79 => ?_) (fun hb79 => ?_)
                          · replace h := br_t hb79 h
                            refine @o_n _ _ _ _ _ _ _ _ _ _ _ 119 (za1 rfl rfl rfl (congrArg Value.bool hb79) rfl) (Eq.refl (some 119)) ?_
                            refine @o_n _ _ _ _ _ _ _ _ _ _ _ 120 (za1 rfl rfl rfl (congrArg Value.bool hb79) rfl) (Eq.refl (some 120)) ?_
                            refine @o_n _ _ _ _ _ _ _ _ _ _ _ 121 (za1 rfl rfl rfl (congrArg Value.bool hb79) rfl) (Eq.refl (some 121)) ?_
                            refine @o_n _ _ _ _ _ _ _ _ _ _ _ 122 (za1 rfl rfl rfl (congrArg Value.bool hb79) rfl) (Eq.refl (some 122)) ?_
                            refine o_q rfl rfl (zah true (congrArg Value.bool hb79) rfl) ?_
                            refine o_q rfl rfl (za3 rfl) ?_
                            refine @o_n _ _ _ _ _ _ _ _ _ _ _ 125 (za1 rfl rfl rfl rfl rfl) (Eq.refl (some 125)) ?_
                            refine @o_n _ _ _ _ _ _ _ _ _ _ _ 126 (za1 rfl rfl rfl rfl rfl) (Eq.refl (some 126)) ?_
                            refine @o_n _ _ _ _ _ _ _ _ _ _ _ 127 (za1 rfl rfl rfl rfl rfl) (Eq.refl (some 127)) ?_
                            refine @o_n _ _ _ _ _ _ _ _ _ _ _ 128 (za1 rfl rfl rfl rfl rfl) (Eq.refl (some 128)) ?_
                            refine @o_n _ _ _ _ _ _ _ _ _ _ _ 129 (za1 rfl rfl rfl rfl rfl) (Eq.refl (some 129)) ?_
                            refine o_q rfl rfl (zah true rfl rfl) ?_
                            refine o_end ?_
                            refine za2 ?_
                            refine c_true rfl ?_
                            refine c_seq ?_
                            refine za0 ?_
                            refine o_q rfl rfl (q_asg rfl) ?_
                            refine o_end ?_
                            refine za2 ?_
                            refine c_ret ?_
                            refine za8 ?_
                            have e0_ := Option.some.inj h; clear h
                            subst e0_
                            exact x_r1 () Try.results5 (zaf rfl) rfl (fun w h => za7 [] (by decide) rfl w h)
                          · replace h := br_f hb79 h
                            refine o_w (za4 rfl rfl rfl (congrArg Value.bool hb79)) rfl (q_ldB G27 Z27 rfl (fun w h => h.zab (i := 1) rfl) rfl) ?_
                            refine o_w (za4 rfl rfl rfl (congrArg Value.bool hb79)) rfl (q_ldB G27 Z27 rfl (fun w h => h.zab (i := 8) rfl) rfl) ?_
                            refine za9 h (fun b81 hx80 h => ?_) rfl
                            refine o_ew (za4 rfl rfl rfl (congrArg Value.bool hb79)) (zac 0 Z Try.func17 N17 rfl rfl rfl (fun w P1 hF hB hS hT => laws_pSamePlan.calls i53 A57 c58 l54.length l54 A59 c60 l55.length l55 i15 A19 c20 l16.length l16 A21 c22 l17.length l17 hB hF (hT 2 _ rfl).row (hT 2 _ rfl).cap (hT 3 _ rfl).row (hT 3 _ rfl).cap (hT 9 _ rfl).row (hT 9 _ rfl).cap (hT 10 _ rfl).row (hT 10 _ rfl).cap _ hx80)) (fun _ => ?_)
                            refine o_w (za4 rfl rfl rfl (congrArg Value.bool hb79)) rfl (q_not rfl) ?_
                            refine o_q rfl rfl (zah false (congrArg Value.bool hb79) rfl) ?_
                            refine o_q rfl rfl (za3 rfl) ?_
                            refine byB b81 (fun hb82 => ?_) (fun hb82 => ?_)
                            · replace h := bb_t hb82 h
                              refine o_w (za4 rfl rfl rfl (congrArg (fun b => Value.bool (!(b))) hb82)) rfl (za3 rfl) ?_
                              refine o_w (za4 rfl rfl rfl (congrArg (fun b => Value.bool (!(b))) hb82)) rfl (q_ldB G27 Z27 rfl (fun w h => h.zab (i := 11) rfl) rfl) ?_
                              refine o_w (za4 rfl rfl rfl (congrArg (fun b => Value.bool (!(b))) hb82)) rfl (q_ldB G27 Z27 rfl (fun w h => h.zab (i := 8) rfl) rfl) ?_
                              refine za9 h (fun b84 hx83 h => ?_) rfl
                              refine o_ew (za4 rfl rfl rfl (congrArg (fun b => Value.bool (!(b))) hb82)) (zac 0 Z Try.func17 N17 rfl rfl rfl (fun w P1 hF hB hS hT => laws_pSamePlan.calls i5 A8 c9 l6.length l6 A10 c11 l7.length l7 i15 A19 c20 l16.length l16 A21 c22 l17.length l17 hB hF (hT 12 _ rfl).row (hT 12 _ rfl).cap (hT 13 _ rfl).row (hT 13 _ rfl).cap (hT 9 _ rfl).row (hT 9 _ rfl).cap (hT 10 _ rfl).row (hT 10 _ rfl).cap _ hx83)) (fun _ => ?_)
                              refine o_w (za4 rfl rfl rfl (congrArg (fun b => Value.bool (!(b))) hb82)) rfl (q_bneq Try.underlying4 rfl rfl) ?_
                              refine o_q rfl rfl (zah false (congrArg (fun b => Value.bool (!(b))) hb82) rfl) ?_
                              refine o_end ?_
                              refine za2 ?_
                              refine zas _ rfl (fun hb85 => ?_) (fun hb85 => ?_)
                              · skip
                                replace h := bb_t hb85 h
                                refine c_seq ?_
                                refine za0 ?_
                                refine o_q rfl rfl (q_asg rfl) ?_
                                refine o_end ?_
                                refine za2 ?_
                                refine c_ret ?_
                                refine za8 ?_
                                have e0_ := Option.some.inj h; clear h
                                subst e0_
                                exact x_r1 () Try.results5 (zaf rfl) rfl (fun w h => za7 [] (by decide) rfl w h)
                              · skip
                                replace h := bb_f hb85 h
                                refine zao ?_
                                refine za2 ?_
                                refine c_seq ?_
                                refine c_seq ?_
                                refine za0 ?_
                                refine o_q rfl rfl (q_f F27_1 rfl) ?_
                                refine o_q rfl rfl (q_ldb Y24 rfl (fun w h => h.zab (i := 8) rfl) rfl) ?_
                                refine o_q rfl rfl (q_len Try.underlying24 rfl) ?_
                                refine o_q rfl rfl (za3 rfl) ?_
                                refine o_end ?_
                                refine za2 ?_
                                refine zak ?_
                                refine za9 h (fun o94 hl93 hR92 => ?_) rfl
                                clear h
                                refine c_fact (p := l16.length ≤ 9223372036854775807) (fun w h => (h.zat (i := 9) rfl).2.1) (fun hm91 => ?_)
                                refine zay (σ := (List SStep) × Int) (fun k89 ((ys88, i86) : (List SStep) × Int) => Rg l16 i86 ys88 ∧ ys88.length = k89 ∧ laws_FnTrimmedPlans.l0 i15 l67 ys88 i86 = some o94) [4, 22, 134, 135, 136, 137, 138, 139, 140, 141, 142, 143, 144, 145] (fun ((ys88, i86) : (List SStep) × Int) => [(134, .int .i64 i86)]) (fun ((ys88, i86) : (List SStep) × Int) => [row (Kd.int .i64) 3 (.slice A69 l67.length c70) l67, box g61 27 #[.int .i64 i53, .slice A57 l54.length c58, .slice A59 l55.length c60], row kStep 89 (.slice A57 l54.length c58) l54, row (Kd.int .i64) 3 (.slice A59 l55.length c60) l55, row (Kd.int .i64) 3 (.slice A47 l45.length c48) l45, box g34 27 #[.int .i64 i26, .slice A30 l27.length c31, .slice A32 l28.length c33], row kStep 89 (.slice A30 l27.length c31) l27, row (Kd.int .i64) 3 (.slice A32 l28.length c33) l28, box g23 27 #[.int .i64 i15, .slice A19 l16.length c20, .slice A21 l17.length c22], row kStep 89 (.slice A19 l16.length c20) l16, row (Kd.int .i64) 3 (.slice A21 l17.length c22) l17, box g12 27 #[.int .i64 i5, .slice A8 l6.length c9, .slice A10 l7.length c11], row kStep 89 (.slice A8 l6.length c9) l6, row (Kd.int .i64) 3 (.slice A10 l7.length c11) l7]) l16.length (l16, 0) ⟨Rg.start _, rfl, hl93⟩ ⟨rfl, trivial⟩ (fun w h => h) ?_
                                refine fun k89 => cur2 (listC (fun i86 U95 hJ_ => ?_) (fun y87 ys88 i86 U95 hJ_ => ?_))
                                · skip
                                  clear hl93
                                  have hr90 := hJ_.1; have hk96 := hJ_.2.1; have h := hJ_.2.2; clear hJ_
                                  replace h : laws_FnTrimmedPlans.l0 i15 l67 [] i86 = some o94 := h
                                  rw [laws_FnTrimmedPlans.l0] at h
                                  refine c_seq ?_
                                  refine za0 ?_
                                  refine o_q rfl rfl (q_lss rfl rfl) ?_
                                  refine o_end ?_
                                  refine za2 ?_
                                  refine c_seq ?_
                                  refine c_false (congrArg Value.bool hr90.ge) ?_
                                  refine c_exit ?_
                                  refine za6 ?_
                                  refine za6 ?_
                                  have e_ := Option.some.inj h; replace h := hR92; rw [← e_] at h; clear e_
                                  refine x_hit ?_
                                  refine za2 ?_
                                  refine c_seq ?_
                                  refine za0 ?_
                                  refine o_q rfl rfl (q_asg rfl) ?_
                                  refine o_end ?_
                                  refine za2 ?_
                                  refine c_ret ?_
                                  have e0_ := Option.some.inj h; clear h
                                  subst e0_
                                  exact x_r1 () Try.results5 (zaf rfl) rfl (fun w h => za7 [] (by decide) rfl w h)
                                · skip
                                  clear hl93
                                  have hr90 := hJ_.1; have hk96 := hJ_.2.1; have h := hJ_.2.2; clear hJ_
                                  replace h : laws_FnTrimmedPlans.l0 i15 l67 (y87 :: ys88) i86 = some o94 := h
                                  rw [laws_FnTrimmedPlans.l0] at h
                                  refine c_seq ?_
                                  refine za0 ?_
                                  refine o_q rfl rfl (q_lss rfl rfl) ?_
                                  refine o_end ?_
                                  refine za2 ?_
                                  refine c_seq ?_
                                  refine c_true (congrArg Value.bool hr90.lt) ?_
                                  refine zao ?_
                                  refine za2 ?_
                                  refine c_seq ?_
                                  refine zak ?_
                                  refine c_seq ?_
                                  refine za0 ?_
                                  refine o_q rfl rfl (za3 rfl) ?_
                                  refine o_q rfl rfl (q_asg rfl) ?_
                                  refine o_end ?_
                                  refine za2 ?_
                                  refine c_seq ?_
                                  refine za0 ?_
                                  refine o_q rfl rfl (za3 rfl) ?_
                                  refine o_q rfl rfl (q_f F27_0 rfl) ?_
                                  refine o_q rfl rfl (q_ldb Y3 rfl (fun w h => h.zab (i := 8) rfl) rfl) ?_
                                  refine o_q rfl rfl (za3 rfl) ?_
                                  refine o_q rfl rfl (q_add64 rfl rfl) ?_
                                  refine o_fact (p := Sh A69 l67.length l67.length) (fun w h => f_sh (dk := (Kd.int .i64)) h (fun w h => h.zat (i := 0) rfl)) (fun hq97 => ?_)
                                  refine za9 h (fun y99 hg98 h => ?_) rfl
                                  refine o_q rfl rfl (q_ix Try.underlying25 Z3 rfl rfl hq97 hg98) ?_
                                  refine o_q rfl rfl (q_lde (off := 0) Y3 rfl rfl (fun w h => h.zat (i := 0) rfl) hg98 (fun _ _ h => h) rfl) ?_
                                  refine o_q rfl rfl (q_eql rfl rfl) ?_
                                  refine o_end ?_
                                  refine za2 ?_
                                  refine zas _ rfl (fun hb100 => ?_) (fun hb100 => ?_)
                                  · skip
                                    replace h := br_t hb100 h
                                    refine c_seq ?_
                                    refine za0 ?_
                                    refine o_q rfl rfl (q_asg rfl) ?_
                                    refine o_end ?_
                                    refine za2 ?_
                                    refine c_ret ?_
                                    refine zan ?_
                                    refine za8 ?_
                                    refine za8 ?_
                                    have e_ := Option.some.inj h; replace h := hR92; rw [← e_] at h; clear e_
                                    refine zan ?_
                                    refine za8 ?_
                                    have e0_ := Option.some.inj h; clear h
                                    subst e0_
                                    exact x_r1 () Try.results5 (zaf rfl) rfl (fun w h => za7 [] (by decide) rfl w h)
                                  · skip
                                    replace h := br_f hb100 h
                                    refine zao ?_
                                    refine zam ?_
                                    refine za2 ?_
                                    refine za0 ?_
                                    refine o_q rfl rfl (q_up rfl rfl (hr90.up hm91)) ?_
                                    refine o_q rfl rfl (za3 rfl) ?_
                                    refine o_end ?_
                                    refine zal ys88.length (ys88, i86 + 1) (by rw [← hk96]; exact Nat.lt_succ_self _) ⟨hr90.step, rfl, h⟩ ⟨rfl, trivial⟩ (fun w h => za7 [0, 1, 2, 3, 4, 5, 6, 7, 8, 9, 10, 11, 12, 13] (by decide) rfl w h) ?_
                                    repeat (first | exact zad _ _ | refine zai rfl ?_ | refine zae rfl ?_ | refine zaj rfl ?_)
                            · replace h := bb_f hb82 h
                              refine @o_n _ _ _ _ _ _ _ _ _ _ _ 125 (za1 rfl rfl rfl (congrArg (fun b => Value.bool (!(b))) hb82) rfl) (Eq.refl (some 125)) ?_
                              refine @o_n _ _ _ _ _ _ _ _ _ _ _ 126 (za1 rfl rfl rfl (congrArg (fun b => Value.bool (!(b))) hb82) rfl) (Eq.refl (some 126)) ?_
                              refine @o_n _ _ _ _ _ _ _ _ _ _ _ 127 (za1 rfl rfl rfl (congrArg (fun b => Value.bool (!(b))) hb82) rfl) (Eq.refl (some 127)) ?_
                              refine @o_n _ _ _ _ _ _ _ _ _ _ _ 128 (za1 rfl rfl rfl (congrArg (fun b => Value.bool (!(b))) hb82) rfl) (Eq.refl (some 128)) ?_
                              refine @o_n _ _ _ _ _ _ _ _ _ _ _ 129 (za1 rfl rfl rfl (congrArg (fun b => Value.bool (!(b))) hb82) rfl) (Eq.refl (some 129)) ?_
                              refine o_q rfl rfl (zah true (congrArg (fun b => Value.bool (!(b))) hb82) rfl) ?_
                              refine o_end ?_
                              refine za2 ?_
                              refine c_true rfl ?_
                              refine c_seq ?_
                              refine za0 ?_
                              refine o_q rfl rfl (q_asg rfl) ?_
                              refine o_end ?_
                              refine za2 ?_
                              refine c_ret ?_
                              refine za8 ?_
                              have e0_ := Option.some.inj h; clear h
                              subst e0_
                              exact x_r1 () Try.results5 (zaf rfl) rfl (fun w h => za7 [] (by decide) rfl w h)
                        · replace h := bb_f hb78 h
                          refine @o_n _ _ _ _ _ _ _ _ _ _ _ 111 (za1 rfl rfl rfl (congrArg (fun b => Value.bool (!(b))) hb78) rfl) (Eq.refl (some 111)) ?_
                          refine @o_n _ _ _ _ _ _ _ _ _ _ _ 112 (za1 rfl rfl rfl (congrArg (fun b => Value.bool (!(b))) hb78) rfl) (Eq.refl (some 112)) ?_
                          refine @o_n _ _ _ _ _ _ _ _ _ _ _ 113 (za1 rfl rfl rfl (congrArg (fun b => Value.bool (!(b))) hb78) rfl) (Eq.refl (some 113)) ?_
                          refine @o_n _ _ _ _ _ _ _ _ _ _ _ 114 (za1 rfl rfl rfl (congrArg (fun b => Value.bool (!(b))) hb78) rfl) (Eq.refl (some 114)) ?_
                          refine @o_n _ _ _ _ _ _ _ _ _ _ _ 115 (za1 rfl rfl rfl (congrArg (fun b => Value.bool (!(b))) hb78) rfl) (Eq.refl (some 115)) ?_
                          refine @o_n _ _ _ _ _ _ _ _ _ _ _ 116 (za1 rfl rfl rfl (congrArg (fun b => Value.bool (!(b))) hb78) rfl) (Eq.refl (some 116)) ?_
                          refine o_q rfl rfl (zah true (congrArg (fun b => Value.bool (!(b))) hb78) rfl) ?_
                          refine o_q rfl rfl (za3 rfl) ?_
                          refine @o_n _ _ _ _ _ _ _ _ _ _ _ 119 (za1 rfl rfl rfl rfl rfl) (Eq.refl (some 119)) ?_
                          refine @o_n _ _ _ _ _ _ _ _ _ _ _ 120 (za1 rfl rfl rfl rfl rfl) (Eq.refl (some 120)) ?_
                          refine @o_n _ _ _ _ _ _ _ _ _ _ _ 121 (za1 rfl rfl rfl rfl rfl) (Eq.refl (some 121)) ?_
                          refine @o_n _ _ _ _ _ _ _ _ _ _ _ 122 (za1 rfl rfl rfl rfl rfl) (Eq.refl (some 122)) ?_
                          refine o_q rfl rfl (zah true rfl rfl) ?_
                          refine o_q rfl rfl (za3 rfl) ?_
                          refine @o_n _ _ _ _ _ _ _ _ _ _ _ 125 (za1 rfl rfl rfl rfl rfl) (Eq.refl (some 125)) ?_
                          refine @o_n _ _ _ _ _ _ _ _ _ _ _ 126 (za1 rfl rfl rfl rfl rfl) (Eq.refl (some 126)) ?_
                          refine @o_n _ _ _ _ _ _ _ _ _ _ _ 127 (za1 rfl rfl rfl rfl rfl) (Eq.refl (some 127)) ?_
                          refine @o_n _ _ _ _ _ _ _ _ _ _ _ 128 (za1 rfl rfl rfl rfl rfl) (Eq.refl (some 128)) ?_
                          refine @o_n _ _ _ _ _ _ _ _ _ _ _ 129 (za1 rfl rfl rfl rfl rfl) (Eq.refl (some 129)) ?_
                          refine o_q rfl rfl (zah true rfl rfl) ?_
                          refine o_end ?_
                          refine za2 ?_
                          refine c_true rfl ?_
                          refine c_seq ?_
                          refine za0 ?_
                          refine o_q rfl rfl (q_asg rfl) ?_
                          refine o_end ?_
                          refine za2 ?_
                          refine c_ret ?_
                          refine za8 ?_
                          have e0_ := Option.some.inj h; clear h
                          subst e0_
                          exact x_r1 () Try.results5 (zaf rfl) rfl (fun w h => za7 [] (by decide) rfl w h)
                      · replace h := bb_f hb77 h
                        refine @o_n _ _ _ _ _ _ _ _ _ _ _ 107 (za1 rfl rfl rfl (congrArg (fun b => Value.bool (!(b))) hb77) rfl) (Eq.refl (some 107)) ?_
                        refine @o_n _ _ _ _ _ _ _ _ _ _ _ 108 (za1 rfl rfl rfl (congrArg (fun b => Value.bool (!(b))) hb77) rfl) (Eq.refl (some 108)) ?_
                        refine o_q rfl rfl (zah true (congrArg (fun b => Value.bool (!(b))) hb77) rfl) ?_
                        refine o_q rfl rfl (za3 rfl) ?_
                        refine @o_n _ _ _ _ _ _ _ _ _ _ _ 111 (za1 rfl rfl rfl rfl rfl) (Eq.refl (some 111)) ?_
                        refine @o_n _ _ _ _ _ _ _ _ _ _ _ 112 (za1 rfl rfl rfl rfl rfl) (Eq.refl (some 112)) ?_
                        refine @o_n _ _ _ _ _ _ _ _ _ _ _ 113 (za1 rfl rfl rfl rfl rfl) (Eq.refl (some 113)) ?_
                        refine @o_n _ _ _ _ _ _ _ _ _ _ _ 114 (za1 rfl rfl rfl rfl rfl) (Eq.refl (some 114)) ?_
                        refine @o_n _ _ _ _ _ _ _ _ _ _ _ 115 (za1 rfl rfl rfl rfl rfl) (Eq.refl (some 115)) ?_
                        refine @o_n _ _ _ _ _ _ _ _ _ _ _ 116 (za1 rfl rfl rfl rfl rfl) (Eq.refl (some 116)) ?_
                        refine o_q rfl rfl (zah true rfl rfl) ?_
                        refine o_q rfl rfl (za3 rfl) ?_
                        refine @o_n _ _ _ _ _ _ _ _ _ _ _ 119 (za1 rfl rfl rfl rfl rfl) (Eq.refl (some 119)) ?_
                        refine @o_n _ _ _ _ _ _ _ _ _ _ _ 120 (za1 rfl rfl rfl rfl rfl) (Eq.refl (some 120)) ?_
                        refine @o_n _ _ _ _ _ _ _ _ _ _ _ 121 (za1 rfl rfl rfl rfl rfl) (Eq.refl (some 121)) ?_
                        refine @o_n _ _ _ _ _ _ _ _ _ _ _ 122 (za1 rfl rfl rfl rfl rfl) (Eq.refl (some 122)) ?_
                        refine o_q rfl rfl (zah true rfl rfl) ?_
                        refine o_q rfl rfl (za3 rfl) ?_
                        refine @o_n _ _ _ _ _ _ _ _ _ _ _ 125 (za1 rfl rfl rfl rfl rfl) (Eq.refl (some 125)) ?_
                        refine @o_n _ _ _ _ _ _ _ _ _ _ _ 126 (za1 rfl rfl rfl rfl rfl) (Eq.refl (some 126)) ?_
                        refine @o_n _ _ _ _ _ _ _ _ _ _ _ 127 (za1 rfl rfl rfl rfl rfl) (Eq.refl (some 127)) ?_
                        refine @o_n _ _ _ _ _ _ _ _ _ _ _ 128 (za1 rfl rfl rfl rfl rfl) (Eq.refl (some 128)) ?_
                        refine @o_n _ _ _ _ _ _ _ _ _ _ _ 129 (za1 rfl rfl rfl rfl rfl) (Eq.refl (some 129)) ?_
                        refine o_q rfl rfl (zah true rfl rfl) ?_
                        refine o_end ?_
                        refine za2 ?_
                        refine c_true rfl ?_
                        refine c_seq ?_
                        refine za0 ?_
                        refine o_q rfl rfl (q_asg rfl) ?_
                        refine o_end ?_
                        refine za2 ?_
                        refine c_ret ?_
                        refine za8 ?_
                        have e0_ := Option.some.inj h; clear h
                        subst e0_
                        exact x_r1 () Try.results5 (zaf rfl) rfl (fun w h => za7 [] (by decide) rfl w h)
                    · replace h := bb_f hb76 h
                      refine @o_n _ _ _ _ _ _ _ _ _ _ _ 103 (za1 rfl rfl rfl (congrArg (fun b => Value.bool (!(b))) hb76) rfl) (Eq.refl (some 103)) ?_
                      refine @o_n _ _ _ _ _ _ _ _ _ _ _ 104 (za1 rfl rfl rfl (congrArg (fun b => Value.bool (!(b))) hb76) rfl) (Eq.refl (some 104)) ?_
                      refine o_q rfl rfl (zah true (congrArg (fun b => Value.bool (!(b))) hb76) rfl) ?_
                      refine o_q rfl rfl (za3 rfl) ?_
                      refine @o_n _ _ _ _ _ _ _ _ _ _ _ 107 (za1 rfl rfl rfl rfl rfl) (Eq.refl (some 107)) ?_
                      refine @o_n _ _ _ _ _ _ _ _ _ _ _ 108 (za1 rfl rfl rfl rfl rfl) (Eq.refl (some 108)) ?_
                      refine o_q rfl rfl (zah true rfl rfl) ?_
                      refine o_q rfl rfl (za3 rfl) ?_
                      refine @o_n _ _ _ _ _ _ _ _ _ _ _ 111 (za1 rfl rfl rfl rfl rfl) (Eq.refl (some 111)) ?_
                      refine @o_n _ _ _ _ _ _ _ _ _ _ _ 112 (za1 rfl rfl rfl rfl rfl) (Eq.refl (some 112)) ?_
                      refine @o_n _ _ _ _ _ _ _ _ _ _ _ 113 (za1 rfl rfl rfl rfl rfl) (Eq.refl (some 113)) ?_
                      refine @o_n _ _ _ _ _ _ _ _ _ _ _ 114 (za1 rfl rfl rfl rfl rfl) (Eq.refl (some 114)) ?_
                      refine @o_n _ _ _ _ _ _ _ _ _ _ _ 115 (za1 rfl rfl rfl rfl rfl) (Eq.refl (some 115)) ?_
                      refine @o_n _ _ _ _ _ _ _ _ _ _ _ 116 (za1 rfl rfl rfl rfl rfl) (Eq.refl (some 116)) ?_
                      refine o_q rfl rfl (zah true rfl rfl) ?_
                      refine o_q rfl rfl (za3 rfl) ?_
                      refine @o_n _ _ _ _ _ _ _ _ _ _ _ 119 (za1 rfl rfl rfl rfl rfl) (Eq.refl (some 119)) ?_
                      refine @o_n _ _ _ _ _ _ _ _ _ _ _ 120 (za1 rfl rfl rfl rfl rfl) (Eq.refl (some 120)) ?_
                      refine @o_n _ _ _ _ _ _ _ _ _ _ _ 121 (za1 rfl rfl rfl rfl rfl) (Eq.refl (some 121)) ?_
                      refine @o_n _ _ _ _ _ _ _ _ _ _ _ 122 (za1 rfl rfl rfl rfl rfl) (Eq.refl (some 122)) ?_
                      refine o_q rfl rfl (zah true rfl rfl) ?_
                      refine o_q rfl rfl (za3 rfl) ?_
                      refine @o_n _ _ _ _ _ _ _ _ _ _ _ 125 (za1 rfl rfl rfl rfl rfl) (Eq.refl (some 125)) ?_
                      refine @o_n _ _ _ _ _ _ _ _ _ _ _ 126 (za1 rfl rfl rfl rfl rfl) (Eq.refl (some 126)) ?_
                      refine @o_n _ _ _ _ _ _ _ _ _ _ _ 127 (za1 rfl rfl rfl rfl rfl) (Eq.refl (some 127)) ?_
                      refine @o_n _ _ _ _ _ _ _ _ _ _ _ 128 (za1 rfl rfl rfl rfl rfl) (Eq.refl (some 128)) ?_
                      refine @o_n _ _ _ _ _ _ _ _ _ _ _ 129 (za1 rfl rfl rfl rfl rfl) (Eq.refl (some 129)) ?_
                      refine o_q rfl rfl (zah true rfl rfl) ?_
                      refine o_end ?_
                      refine za2 ?_
                      refine c_true rfl ?_
                      refine c_seq ?_
                      refine za0 ?_
                      refine o_q rfl rfl (q_asg rfl) ?_
                      refine o_end ?_
                      refine za2 ?_
                      refine c_ret ?_
                      refine za8 ?_
                      have e0_ := Option.some.inj h; clear h
                      subst e0_
                      exact x_r1 () Try.results5 (zaf rfl) rfl (fun w h => za7 [] (by decide) rfl w h)
                  · replace h := bb_f hb75 h
                    refine @o_n _ _ _ _ _ _ _ _ _ _ _ 99 (za1 rfl rfl rfl (congrArg (fun b => Value.bool (!(b))) hb75) rfl) (Eq.refl (some 99)) ?_
                    refine @o_n _ _ _ _ _ _ _ _ _ _ _ 100 (za1 rfl rfl rfl (congrArg (fun b => Value.bool (!(b))) hb75) rfl) (Eq.refl (some 100)) ?_
                    refine o_q rfl rfl (zah true (congrArg (fun b => Value.bool (!(b))) hb75) rfl) ?_
                    refine o_q rfl rfl (za3 rfl) ?_
                    refine @o_n _ _ _ _ _ _ _ _ _ _ _ 103 (za1 rfl rfl rfl rfl rfl) (Eq.refl (some 103)) ?_
                    refine @o_n _ _ _ _ _ _ _ _ _ _ _ 104 (za1 rfl rfl rfl rfl rfl) (Eq.refl (some 104)) ?_
                    refine o_q rfl rfl (zah true rfl rfl) ?_
                    refine o_q rfl rfl (za3 rfl) ?_
                    refine @o_n _ _ _ _ _ _ _ _ _ _ _ 107 (za1 rfl rfl rfl rfl rfl) (Eq.refl (some 107)) ?_
                    refine @o_n _ _ _ _ _ _ _ _ _ _ _ 108 (za1 rfl rfl rfl rfl rfl) (Eq.refl (some 108)) ?_
                    refine o_q rfl rfl (zah true rfl rfl) ?_
                    refine o_q rfl rfl (za3 rfl) ?_
                    refine @o_n _ _ _ _ _ _ _ _ _ _ _ 111 (za1 rfl rfl rfl rfl rfl) (Eq.refl (some 111)) ?_
                    refine @o_n _ _ _ _ _ _ _ _ _ _ _ 112 (za1 rfl rfl rfl rfl rfl) (Eq.refl (some 112)) ?_
                    refine @o_n _ _ _ _ _ _ _ _ _ _ _ 113 (za1 rfl rfl rfl rfl rfl) (Eq.refl (some 113)) ?_
                    refine @o_n _ _ _ _ _ _ _ _ _ _ _ 114 (za1 rfl rfl rfl rfl rfl) (Eq.refl (some 114)) ?_
                    refine @o_n _ _ _ _ _ _ _ _ _ _ _ 115 (za1 rfl rfl rfl rfl rfl) (Eq.refl (some 115)) ?_
                    refine @o_n _ _ _ _ _ _ _ _ _ _ _ 116 (za1 rfl rfl rfl rfl rfl) (Eq.refl (some 116)) ?_
                    refine o_q rfl rfl (zah true rfl rfl) ?_
                    refine o_q rfl rfl (za3 rfl) ?_
                    refine @o_n _ _ _ _ _ _ _ _ _ _ _ 119 (za1 rfl rfl rfl rfl rfl) (Eq.refl (some 119)) ?_
                    refine @o_n _ _ _ _ _ _ _ _ _ _ _ 120 (za1 rfl rfl rfl rfl rfl) (Eq.refl (some 120)) ?_
                    refine @o_n _ _ _ _ _ _ _ _ _ _ _ 121 (za1 rfl rfl rfl rfl rfl) (Eq.refl (some 121)) ?_
                    refine @o_n _ _ _ _ _ _ _ _ _ _ _ 122 (za1 rfl rfl rfl rfl rfl) (Eq.refl (some 122)) ?_
                    refine o_q rfl rfl (zah true rfl rfl) ?_
                    refine o_q rfl rfl (za3 rfl) ?_
                    refine @o_n _ _ _ _ _ _ _ _ _ _ _ 125 (za1 rfl rfl rfl rfl rfl) (Eq.refl (some 125)) ?_
                    refine @o_n _ _ _ _ _ _ _ _ _ _ _ 126 (za1 rfl rfl rfl rfl rfl) (Eq.refl (some 126)) ?_
                    refine @o_n _ _ _ _ _ _ _ _ _ _ _ 127 (za1 rfl rfl rfl rfl rfl) (Eq.refl (some 127)) ?_
                    refine @o_n _ _ _ _ _ _ _ _ _ _ _ 128 (za1 rfl rfl rfl rfl rfl) (Eq.refl (some 128)) ?_
                    refine @o_n _ _ _ _ _ _ _ _ _ _ _ 129 (za1 rfl rfl rfl rfl rfl) (Eq.refl (some 129)) ?_
                    refine o_q rfl rfl (zah true rfl rfl) ?_
                    refine o_end ?_
                    refine za2 ?_
                    refine c_true rfl ?_
                    refine c_seq ?_
                    refine za0 ?_
                    refine o_q rfl rfl (q_asg rfl) ?_
                    refine o_end ?_
                    refine za2 ?_
                    refine c_ret ?_
                    refine za8 ?_
                    have e0_ := Option.some.inj h; clear h
                    subst e0_
                    exact x_r1 () Try.results5 (zaf rfl) rfl (fun w h => za7 [] (by decide) rfl w h)
                · replace h := bb_f hb74 h
                  refine @o_n _ _ _ _ _ _ _ _ _ _ _ 95 (za1 rfl rfl rfl (congrArg (fun b => Value.bool (!(b))) hb74) rfl) (Eq.refl (some 95)) ?_
                  refine @o_n _ _ _ _ _ _ _ _ _ _ _ 96 (za1 rfl rfl rfl (congrArg (fun b => Value.bool (!(b))) hb74) rfl) (Eq.refl (some 96)) ?_
                  refine o_q rfl rfl (zah true (congrArg (fun b => Value.bool (!(b))) hb74) rfl) ?_
                  refine o_q rfl rfl (za3 rfl) ?_
                  refine @o_n _ _ _ _ _ _ _ _ _ _ _ 99 (za1 rfl rfl rfl rfl rfl) (Eq.refl (some 99)) ?_
                  refine @o_n _ _ _ _ _ _ _ _ _ _ _ 100 (za1 rfl rfl rfl rfl rfl) (Eq.refl (some 100)) ?_
                  refine o_q rfl rfl (zah true rfl rfl) ?_
                  refine o_q rfl rfl (za3 rfl) ?_
                  refine @o_n _ _ _ _ _ _ _ _ _ _ _ 103 (za1 rfl rfl rfl rfl rfl) (Eq.refl (some 103)) ?_
                  refine @o_n _ _ _ _ _ _ _ _ _ _ _ 104 (za1 rfl rfl rfl rfl rfl) (Eq.refl (some 104)) ?_
                  refine o_q rfl rfl (zah true rfl rfl) ?_
                  refine o_q rfl rfl (za3 rfl) ?_
                  refine @o_n _ _ _ _ _ _ _ _ _ _ _ 107 (za1 rfl rfl rfl rfl rfl) (Eq.refl (some 107)) ?_
                  refine @o_n _ _ _ _ _ _ _ _ _ _ _ 108 (za1 rfl rfl rfl rfl rfl) (Eq.refl (some 108)) ?_
                  refine o_q rfl rfl (zah true rfl rfl) ?_
                  refine o_q rfl rfl (za3 rfl) ?_
                  refine @o_n _ _ _ _ _ _ _ _ _ _ _ 111 (za1 rfl rfl rfl rfl rfl) (Eq.refl (some 111)) ?_
                  refine @o_n _ _ _ _ _ _ _ _ _ _ _ 112 (za1 rfl rfl rfl rfl rfl) (Eq.refl (some 112)) ?_
                  refine @o_n _ _ _ _ _ _ _ _ _ _ _ 113 (za1 rfl rfl rfl rfl rfl) (Eq.refl (some 113)) ?_
                  refine @o_n _ _ _ _ _ _ _ _ _ _ _ 114 (za1 rfl rfl rfl rfl rfl) (Eq.refl (some 114)) ?_
                  refine @o_n _ _ _ _ _ _ _ _ _ _ _ 115 (za1 rfl rfl rfl rfl rfl) (Eq.refl (some 115)) ?_
                  refine @o_n _ _ _ _ _ _ _ _ _ _ _ 116 (za1 rfl rfl rfl rfl rfl) (Eq.refl (some 116)) ?_
                  refine o_q rfl rfl (zah true rfl rfl) ?_
                  refine o_q rfl rfl (za3 rfl) ?_
                  refine @o_n _ _ _ _ _ _ _ _ _ _ _ 119 (za1 rfl rfl rfl rfl rfl) (Eq.refl (some 119)) ?_
                  refine @o_n _ _ _ _ _ _ _ _ _ _ _ 120 (za1 rfl rfl rfl rfl rfl) (Eq.refl (some 120)) ?_
                  refine @o_n _ _ _ _ _ _ _ _ _ _ _ 121 (za1 rfl rfl rfl rfl rfl) (Eq.refl (some 121)) ?_
                  refine @o_n _ _ _ _ _ _ _ _ _ _ _ 122 (za1 rfl rfl rfl rfl rfl) (Eq.refl (some 122)) ?_
                  refine o_q rfl rfl (zah true rfl rfl) ?_
                  refine o_q rfl rfl (za3 rfl) ?_
                  refine @o_n _ _ _ _ _ _ _ _ _ _ _ 125 (za1 rfl rfl rfl rfl rfl) (Eq.refl (some 125)) ?_
                  refine @o_n _ _ _ _ _ _ _ _ _ _ _ 126 (za1 rfl rfl rfl rfl rfl) (Eq.refl (some 126)) ?_
                  refine @o_n _ _ _ _ _ _ _ _ _ _ _ 127 (za1 rfl rfl rfl rfl rfl) (Eq.refl (some 127)) ?_
                  refine @o_n _ _ _ _ _ _ _ _ _ _ _ 128 (za1 rfl rfl rfl rfl rfl) (Eq.refl (some 128)) ?_
                  refine @o_n _ _ _ _ _ _ _ _ _ _ _ 129 (za1 rfl rfl rfl rfl rfl) (Eq.refl (some 129)) ?_
                  refine o_q rfl rfl (zah true rfl rfl) ?_
                  refine o_end ?_
                  refine za2 ?_
                  refine c_true rfl ?_
                  refine c_seq ?_
                  refine za0 ?_
                  refine o_q rfl rfl (q_asg rfl) ?_
                  refine o_end ?_
                  refine za2 ?_
                  refine c_ret ?_
                  refine za8 ?_
                  have e0_ := Option.some.inj h; clear h
                  subst e0_
                  exact x_r1 () Try.results5 (zaf rfl) rfl (fun w h => za7 [] (by decide) rfl w h)
              · replace h := bb_f hb73 h
                refine @o_n _ _ _ _ _ _ _ _ _ _ _ 91 (za1 rfl rfl rfl (congrArg (fun b => Value.bool (!(b))) hb73) rfl) (Eq.refl (some 91)) ?_
                refine @o_n _ _ _ _ _ _ _ _ _ _ _ 92 (za1 rfl rfl rfl (congrArg (fun b => Value.bool (!(b))) hb73) rfl) (Eq.refl (some 92)) ?_
                refine o_q rfl rfl (zah true (congrArg (fun b => Value.bool (!(b))) hb73) rfl) ?_
                refine o_q rfl rfl (za3 rfl) ?_
                refine @o_n _ _ _ _ _ _ _ _ _ _ _ 95 (za1 rfl rfl rfl rfl rfl) (Eq.refl (some 95)) ?_
                refine @o_n _ _ _ _ _ _ _ _ _ _ _ 96 (za1 rfl rfl rfl rfl rfl) (Eq.refl (some 96)) ?_
                refine o_q rfl rfl (zah true rfl rfl) ?_
                refine o_q rfl rfl (za3 rfl) ?_
                refine @o_n _ _ _ _ _ _ _ _ _ _ _ 99 (za1 rfl rfl rfl rfl rfl) (Eq.refl (some 99)) ?_
                refine @o_n _ _ _ _ _ _ _ _ _ _ _ 100 (za1 rfl rfl rfl rfl rfl) (Eq.refl (some 100)) ?_
                refine o_q rfl rfl (zah true rfl rfl) ?_
                refine o_q rfl rfl (za3 rfl) ?_
                refine @o_n _ _ _ _ _ _ _ _ _ _ _ 103 (za1 rfl rfl rfl rfl rfl) (Eq.refl (some 103)) ?_
                refine @o_n _ _ _ _ _ _ _ _ _ _ _ 104 (za1 rfl rfl rfl rfl rfl) (Eq.refl (some 104)) ?_
                refine o_q rfl rfl (zah true rfl rfl) ?_
                refine o_q rfl rfl (za3 rfl) ?_
                refine @o_n _ _ _ _ _ _ _ _ _ _ _ 107 (za1 rfl rfl rfl rfl rfl) (Eq.refl (some 107)) ?_
                refine @o_n _ _ _ _ _ _ _ _ _ _ _ 108 (za1 rfl rfl rfl rfl rfl) (Eq.refl (some 108)) ?_
                refine o_q rfl rfl (zah true rfl rfl) ?_
                refine o_q rfl rfl (za3 rfl) ?_
                refine @o_n _ _ _ _ _ _ _ _ _ _ _ 111 (za1 rfl rfl rfl rfl rfl) (Eq.refl (some 111)) ?_
                refine @o_n _ _ _ _ _ _ _ _ _ _ _ 112 (za1 rfl rfl rfl rfl rfl) (Eq.refl (some 112)) ?_
                refine @o_n _ _ _ _ _ _ _ _ _ _ _ 113 (za1 rfl rfl rfl rfl rfl) (Eq.refl (some 113)) ?_
                refine @o_n _ _ _ _ _ _ _ _ _ _ _ 114 (za1 rfl rfl rfl rfl rfl) (Eq.refl (some 114)) ?_
                refine @o_n _ _ _ _ _ _ _ _ _ _ _ 115 (za1 rfl rfl rfl rfl rfl) (Eq.refl (some 115)) ?_
                refine @o_n _ _ _ _ _ _ _ _ _ _ _ 116 (za1 rfl rfl rfl rfl rfl) (Eq.refl (some 116)) ?_
                refine o_q rfl rfl (zah true rfl rfl) ?_
                refine o_q rfl rfl (za3 rfl) ?_
                refine @o_n _ _ _ _ _ _ _ _ _ _ _ 119 (za1 rfl rfl rfl rfl rfl) (Eq.refl (some 119)) ?_
                refine @o_n _ _ _ _ _ _ _ _ _ _ _ 120 (za1 rfl rfl rfl rfl rfl) (Eq.refl (some 120)) ?_
                refine @o_n _ _ _ _ _ _ _ _ _ _ _ 121 (za1 rfl rfl rfl rfl rfl) (Eq.refl (some 121)) ?_
                refine @o_n _ _ _ _ _ _ _ _ _ _ _ 122 (za1 rfl rfl rfl rfl rfl) (Eq.refl (some 122)) ?_
                refine o_q rfl rfl (zah true rfl rfl) ?_
                refine o_q rfl rfl (za3 rfl) ?_
                refine @o_n _ _ _ _ _ _ _ _ _ _ _ 125 (za1 rfl rfl rfl rfl rfl) (Eq.refl (some 125)) ?_
                refine @o_n _ _ _ _ _ _ _ _ _ _ _ 126 (za1 rfl rfl rfl rfl rfl) (Eq.refl (some 126)) ?_
                refine @o_n _ _ _ _ _ _ _ _ _ _ _ 127 (za1 rfl rfl rfl rfl rfl) (Eq.refl (some 127)) ?_
                refine @o_n _ _ _ _ _ _ _ _ _ _ _ 128 (za1 rfl rfl rfl rfl rfl) (Eq.refl (some 128)) ?_
                refine @o_n _ _ _ _ _ _ _ _ _ _ _ 129 (za1 rfl rfl rfl rfl rfl) (Eq.refl (some 129)) ?_
                refine o_q rfl rfl (zah true rfl rfl) ?_
                refine o_end ?_
                refine za2 ?_
                refine c_true rfl ?_
                refine c_seq ?_
                refine za0 ?_
                refine o_q rfl rfl (q_asg rfl) ?_
                refine o_end ?_
                refine za2 ?_
                refine c_ret ?_
                refine za8 ?_
                have e0_ := Option.some.inj h; clear h
                subst e0_
                exact x_r1 () Try.results5 (zaf rfl) rfl (fun w h => za7 [] (by decide) rfl w h)
            · replace h := bb_f hb72 h
              refine @o_n _ _ _ _ _ _ _ _ _ _ _ 87 (za1 rfl rfl rfl (congrArg (fun b => Value.bool (!(b))) hb72) rfl) (Eq.refl (some 87)) ?_
              refine @o_n _ _ _ _ _ _ _ _ _ _ _ 88 (za1 rfl rfl rfl (congrArg (fun b => Value.bool (!(b))) hb72) rfl) (Eq.refl (some 88)) ?_
              refine o_q rfl rfl (zah true (congrArg (fun b => Value.bool (!(b))) hb72) rfl) ?_
              refine o_q rfl rfl (za3 rfl) ?_
              refine @o_n _ _ _ _ _ _ _ _ _ _ _ 91 (za1 rfl rfl rfl rfl rfl) (Eq.refl (some 91)) ?_
              refine @o_n _ _ _ _ _ _ _ _ _ _ _ 92 (za1 rfl rfl rfl rfl rfl) (Eq.refl (some 92)) ?_
              refine o_q rfl rfl (zah true rfl rfl) ?_
              refine o_q rfl rfl (za3 rfl) ?_
              refine @o_n _ _ _ _ _ _ _ _ _ _ _ 95 (za1 rfl rfl rfl rfl rfl) (Eq.refl (some 95)) ?_
              refine @o_n _ _ _ _ _ _ _ _ _ _ _ 96 (za1 rfl rfl rfl rfl rfl) (Eq.refl (some 96)) ?_
              refine o_q rfl rfl (zah true rfl rfl) ?_
              refine o_q rfl rfl (za3 rfl) ?_
              refine @o_n _ _ _ _ _ _ _ _ _ _ _ 99 (za1 rfl rfl rfl rfl rfl) (Eq.refl (some 99)) ?_
              refine @o_n _ _ _ _ _ _ _ _ _ _ _ 100 (za1 rfl rfl rfl rfl rfl) (Eq.refl (some 100)) ?_
              refine o_q rfl rfl (zah true rfl rfl) ?_
              refine o_q rfl rfl (za3 rfl) ?_
              refine @o_n _ _ _ _ _ _ _ _ _ _ _ 103 (za1 rfl rfl rfl rfl rfl) (Eq.refl (some 103)) ?_
              refine @o_n _ _ _ _ _ _ _ _ _ _ _ 104 (za1 rfl rfl rfl rfl rfl) (Eq.refl (some 104)) ?_
              refine o_q rfl rfl (zah true rfl rfl) ?_
              refine o_q rfl rfl (za3 rfl) ?_
              refine @o_n _ _ _ _ _ _ _ _ _ _ _ 107 (za1 rfl rfl rfl rfl rfl) (Eq.refl (some 107)) ?_
              refine @o_n _ _ _ _ _ _ _ _ _ _ _ 108 (za1 rfl rfl rfl rfl rfl) (Eq.refl (some 108)) ?_
              refine o_q rfl rfl (zah true rfl rfl) ?_
              refine o_q rfl rfl (za3 rfl) ?_
              refine @o_n _ _ _ _ _ _ _ _ _ _ _ 111 (za1 rfl rfl rfl rfl rfl) (Eq.refl (some 111)) ?_
              refine @o_n _ _ _ _ _ _ _ _ _ _ _ 112 (za1 rfl rfl rfl rfl rfl) (Eq.refl (some 112)) ?_
              refine @o_n _ _ _ _ _ _ _ _ _ _ _ 113 (za1 rfl rfl rfl rfl rfl) (Eq.refl (some 113)) ?_
              refine @o_n _ _ _ _ _ _ _ _ _ _ _ 114 (za1 rfl rfl rfl rfl rfl) (Eq.refl (some 114)) ?_
              refine @o_n _ _ _ _ _ _ _ _ _ _ _ 115 (za1 rfl rfl rfl rfl rfl) (Eq.refl (some 115)) ?_
              refine @o_n _ _ _ _ _ _ _ _ _ _ _ 116 (za1 rfl rfl rfl rfl rfl) (Eq.refl (some 116)) ?_
              refine o_q rfl rfl (zah true rfl rfl) ?_
              refine o_q rfl rfl (za3 rfl) ?_
              refine @o_n _ _ _ _ _ _ _ _ _ _ _ 119 (za1 rfl rfl rfl rfl rfl) (Eq.refl (some 119)) ?_
              refine @o_n _ _ _ _ _ _ _ _ _ _ _ 120 (za1 rfl rfl rfl rfl rfl) (Eq.refl (some 120)) ?_
              refine @o_n _ _ _ _ _ _ _ _ _ _ _ 121 (za1 rfl rfl rfl rfl rfl) (Eq.refl (some 121)) ?_
              refine @o_n _ _ _ _ _ _ _ _ _ _ _ 122 (za1 rfl rfl rfl rfl rfl) (Eq.refl (some 122)) ?_
              refine o_q rfl rfl (zah true rfl rfl) ?_
              refine o_q rfl rfl (za3 rfl) ?_
              refine @o_n _ _ _ _ _ _ _ _ _ _ _ 125 (za1 rfl rfl rfl rfl rfl) (Eq.refl (some 125)) ?_
              refine @o_n _ _ _ _ _ _ _ _ _ _ _ 126 (za1 rfl rfl rfl rfl rfl) (Eq.refl (some 126)) ?_
              refine @o_n _ _ _ _ _ _ _ _ _ _ _ 127 (za1 rfl rfl rfl rfl rfl) (Eq.refl (some 127)) ?_
              refine @o_n _ _ _ _ _ _ _ _ _ _ _ 128 (za1 rfl rfl rfl rfl rfl) (Eq.refl (some 128)) ?_
              refine @o_n _ _ _ _ _ _ _ _ _ _ _ 129 (za1 rfl rfl rfl rfl rfl) (Eq.refl (some 129)) ?_
              refine o_q rfl rfl (zah true rfl rfl) ?_
              refine o_end ?_
              refine za2 ?_
              refine c_true rfl ?_
              refine c_seq ?_
              refine za0 ?_
              refine o_q rfl rfl (q_asg rfl) ?_
              refine o_end ?_
              refine za2 ?_
              refine c_ret ?_
              refine za8 ?_
              have e0_ := Option.some.inj h; clear h
              subst e0_
              exact x_r1 () Try.results5 (zaf rfl) rfl (fun w h => za7 [] (by decide) rfl w h)
          · replace h := bb_f hb71 h
            refine @o_n _ _ _ _ _ _ _ _ _ _ _ 83 (za1 rfl rfl rfl (congrArg (fun b => Value.bool (!(b))) hb71) rfl) (Eq.refl (some 83)) ?_
            refine @o_n _ _ _ _ _ _ _ _ _ _ _ 84 (za1 rfl rfl rfl (congrArg (fun b => Value.bool (!(b))) hb71) rfl) (Eq.refl (some 84)) ?_
            refine o_q rfl rfl (zah true (congrArg (fun b => Value.bool (!(b))) hb71) rfl) ?_
            refine o_q rfl rfl (za3 rfl) ?_
            refine @o_n _ _ _ _ _ _ _ _ _ _ _ 87 (za1 rfl rfl rfl rfl rfl) (Eq.refl (some 87)) ?_
            refine @o_n _ _ _ _ _ _ _ _ _ _ _ 88 (za1 rfl rfl rfl rfl rfl) (Eq.refl (some 88)) ?_
            refine o_q rfl rfl (zah true rfl rfl) ?_
            refine o_q rfl rfl (za3 rfl) ?_
            refine @o_n _ _ _ _ _ _ _ _ _ _ _ 91 (za1 rfl rfl rfl rfl rfl) (Eq.refl (some 91)) ?_
            refine @o_n _ _ _ _ _ _ _ _ _ _ _ 92 (za1 rfl rfl rfl rfl rfl) (Eq.refl (some 92)) ?_
            refine o_q rfl rfl (zah true rfl rfl) ?_
            refine o_q rfl rfl (za3 rfl) ?_
            refine @o_n _ _ _ _ _ _ _ _ _ _ _ 95 (za1 rfl rfl rfl rfl rfl) (Eq.refl (some 95)) ?_
            refine @o_n _ _ _ _ _ _ _ _ _ _ _ 96 (za1 rfl rfl rfl rfl rfl) (Eq.refl (some 96)) ?_
            refine o_q rfl rfl (zah true rfl rfl) ?_
            refine o_q rfl rfl (za3 rfl) ?_
            refine @o_n _ _ _ _ _ _ _ _ _ _ _ 99 (za1 rfl rfl rfl rfl rfl) (Eq.refl (some 99)) ?_
            refine @o_n _ _ _ _ _ _ _ _ _ _ _ 100 (za1 rfl rfl rfl rfl rfl) (Eq.refl (some 100)) ?_
            refine o_q rfl rfl (zah true rfl rfl) ?_
            refine o_q rfl rfl (za3 rfl) ?_
            refine @o_n _ _ _ _ _ _ _ _ _ _ _ 103 (za1 rfl rfl rfl rfl rfl) (Eq.refl (some 103)) ?_
            refine @o_n _ _ _ _ _ _ _ _ _ _ _ 104 (za1 rfl rfl rfl rfl rfl) (Eq.refl (some 104)) ?_
            refine o_q rfl rfl (zah true rfl rfl) ?_
            refine o_q rfl rfl (za3 rfl) ?_
            refine @o_n _ _ _ _ _ _ _ _ _ _ _ 107 (za1 rfl rfl rfl rfl rfl) (Eq.refl (some 107)) ?_
            refine @o_n _ _ _ _ _ _ _ _ _ _ _ 108 (za1 rfl rfl rfl rfl rfl) (Eq.refl (some 108)) ?_
            refine o_q rfl rfl (zah true rfl rfl) ?_
            refine o_q rfl rfl (za3 rfl) ?_
            refine @o_n _ _ _ _ _ _ _ _ _ _ _ 111 (za1 rfl rfl rfl rfl rfl) (Eq.refl (some 111)) ?_
            refine @o_n _ _ _ _ _ _ _ _ _ _ _ 112 (za1 rfl rfl rfl rfl rfl) (Eq.refl (some 112)) ?_
            refine @o_n _ _ _ _ _ _ _ _ _ _ _ 113 (za1 rfl rfl rfl rfl rfl) (Eq.refl (some 113)) ?_
            refine @o_n _ _ _ _ _ _ _ _ _ _ _ 114 (za1 rfl rfl rfl rfl rfl) (Eq.refl (some 114)) ?_
            refine @o_n _ _ _ _ _ _ _ _ _ _ _ 115 (za1 rfl rfl rfl rfl rfl) (Eq.refl (some 115)) ?_
            refine @o_n _ _ _ _ _ _ _ _ _ _ _ 116 (za1 rfl rfl rfl rfl rfl) (Eq.refl (some 116)) ?_
            refine o_q rfl rfl (zah true rfl rfl) ?_
            refine o_q rfl rfl (za3 rfl) ?_
            refine @o_n _ _ _ _ _ _ _ _ _ _ _ 119 (za1 rfl rfl rfl rfl rfl) (Eq.refl (some 119)) ?_
            refine @o_n _ _ _ _ _ _ _ _ _ _ _ 120 (za1 rfl rfl rfl rfl rfl) (Eq.refl (some 120)) ?_
            refine @o_n _ _ _ _ _ _ _ _ _ _ _ 121 (za1 rfl rfl rfl rfl rfl) (Eq.refl (some 121)) ?_
            refine @o_n _ _ _ _ _ _ _ _ _ _ _ 122 (za1 rfl rfl rfl rfl rfl) (Eq.refl (some 122)) ?_
            refine o_q rfl rfl (zah true rfl rfl) ?_
            refine o_q rfl rfl (za3 rfl) ?_
            refine @o_n _ _ _ _ _ _ _ _ _ _ _ 125 (za1 rfl rfl rfl rfl rfl) (Eq.refl (some 125)) ?_
            refine @o_n _ _ _ _ _ _ _ _ _ _ _ 126 (za1 rfl rfl rfl rfl rfl) (Eq.refl (some 126)) ?_
            refine @o_n _ _ _ _ _ _ _ _ _ _ _ 127 (za1 rfl rfl rfl rfl rfl) (Eq.refl (some 127)) ?_
            refine @o_n _ _ _ _ _ _ _ _ _ _ _ 128 (za1 rfl rfl rfl rfl rfl) (Eq.refl (some 128)) ?_
            refine @o_n _ _ _ _ _ _ _ _ _ _ _ 129 (za1 rfl rfl rfl rfl rfl) (Eq.refl (some 129)) ?_
            refine o_q rfl rfl (zah true rfl rfl) ?_
            refine o_end ?_
            refine za2 ?_
            refine c_true rfl ?_
            refine c_seq ?_
            refine za0 ?_
            refine o_q rfl rfl (q_asg rfl) ?_
            refine o_end ?_
            refine za2 ?_
            refine c_ret ?_
            refine za8 ?_
            have e0_ := Option.some.inj h; clear h
            subst e0_
            exact x_r1 () Try.results5 (zaf rfl) rfl (fun w h => za7 [] (by decide) rfl w h)

end Go.Proofs.Ytoegbcbdiggbjaa.TP
