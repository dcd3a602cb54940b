import Derived.Test.YtoegbcbdiggbjaaKFnSharedPlansHPp2
namespace Go.Proofs.Ytoegbcbdiggbjaa.HP
open Go.RowKit Go.Proofs.Ytoegbcbdiggbjaa.Frame Go.Proofs.YtoegbcbdiggbjaaW.PrintLast Go.Proofs.Ytoegbcbdiggbjaa.Hand
open Go.Proofs.YtoegbcbdiggbjaaW.PrintWords hiding mn mx
set_option linter.unusedVariables false
/-! ### loop.example/g01098/spec.l1Same: function 145 -/
def spec_l1Same.l0 (l1 : List Int) : (List Int) → Int → Option ((Bool) ⊕ (Unit))
  | [], i2 => some (.inr ())
  | y3 :: ys4, i2 => (gt l1 i2).bind fun y16 => if y3 ≠ y16 then (some (.inl false)) else (spec_l1Same.l0 l1 ys4 (i2 + 1))
def spec_l1Same.f (l0 : List Int) (l1 : List Int) : Option Bool := if (l0.length : Int) ≠ (l1.length : Int) then (some false) else ((spec_l1Same.l0 l1 l0 0).bind fun o_ => match o_ with | .inl r_ => some r_ | .inr _ => some true)
set_option maxHeartbeats 600000 in
set_option maxRecDepth 100000 in
theorem spec_l1Same.calls {w0 ws : World} {P0 : Nat → Prop} (A0 : Option Addr) (c0 : Nat) (n0 : Nat) (l0 : List Int) (A1 : Option Addr) (c1 : Nat) (n1 : Nat) (l1 : List Int) (Z : Below w0.heap.size w0 ws) (hF : Fr w0 ws P0 [] ws) (R0 : Stable ws P0 (fun w => Kd.C (Kd.int .i64) w A0 n0 l0)) (hc0 : n0 ≤ c0) (R1 : Stable ws P0 (fun w => Kd.C (Kd.int .i64) w A1 n1 l1)) (hc1 : n1 ≤ c1) (r_1 : Bool) (h : spec_l1Same.f l0 l1 = some r_1) :
    Calls Try.prog 145 #[.slice A0 n0 c0, .slice A1 n1 c1] ws (Post1 w0 ws P0 (fun (_ : Unit) => .bool r_1) (fun (_ : Unit) => [])) := by
  unfold spec_l1Same.f at h
  obtain rfl := (R0 ws (KeptB.refl _ _)).1
  obtain rfl := (R1 ws (KeptB.refl _ _)).1
  refine enter Try.func145 rfl Try.ntmps145 rfl hF ?_
  refine c_seq ?_
  refine za0 ?_
  refine o_q rfl rfl (q_asg rfl) ?_
  refine o_end ?_
  refine za1 ?_
  refine c_seq ?_
  refine c_seq ?_
  refine za0 ?_
  refine o_q rfl rfl (za2 rfl) ?_
  refine o_q rfl rfl (q_len Try.underlying25 rfl) ?_
  refine o_q rfl rfl (za2 rfl) ?_
  refine o_q rfl rfl (q_len Try.underlying25 rfl) ?_
  refine o_q rfl rfl (q_neq rfl rfl) ?_
  refine o_end ?_
  refine za1 ?_
  refine zau _ rfl (fun hb1 => ?_) (fun hb1 => ?_)
  · skip
    replace h := br_t hb1 h
    refine c_seq ?_
    refine za0 ?_
    refine o_q rfl rfl (q_asg rfl) ?_
    refine o_end ?_
    refine za1 ?_
    refine c_ret ?_
    refine za9 ?_
    have e0_ := Option.some.inj h; clear h
    subst e0_
    exact x_r1 () Try.results145 (zaf rfl) rfl (fun w h => za8 [] (by decide) rfl w h)
  · skip
    replace h := br_f hb1 h
    refine zan ?_
    refine za1 ?_
    refine c_seq ?_
    refine c_seq ?_
    refine za0 ?_
    refine o_q rfl rfl (za2 rfl) ?_
    refine o_q rfl rfl (q_len Try.underlying25 rfl) ?_
    refine o_q rfl rfl (za2 rfl) ?_
    refine o_end ?_
    refine za1 ?_
    refine zaj ?_
    refine zaa h (fun o10 hl9 hR8 => ?_) rfl
    clear h
    refine c_fact (p := l0.length ≤ 9223372036854775807) (fun w h => (R0.now Z h).2.1) (fun hm7 => ?_)
    refine zaw (σ := (List Int) × Int) (fun k5 ((ys4, i2) : (List Int) × Int) => Rg l0 i2 ys4 ∧ ys4.length = k5 ∧ spec_l1Same.l0 l1 ys4 i2 = some o10) [4, 5, 13, 14, 15, 16, 17, 18, 19, 20, 21, 22, 23, 24, 25] (fun ((ys4, i2) : (List Int) × Int) => [(13, .int .i64 i2)]) (fun ((ys4, i2) : (List Int) × Int) => []) l0.length (l0, 0) ⟨Rg.start _, rfl, hl9⟩ ⟨rfl, trivial⟩ (fun w h => h) ?_
    refine fun k5 => cur2 (listC (fun i2 U11 hJ_ => ?_) (fun y3 ys4 i2 U11 hJ_ => ?_))
    · skip
      clear hl9
      have hr6 := hJ_.1; have hk12 := hJ_.2.1; have h := hJ_.2.2; clear hJ_
      replace h : spec_l1Same.l0 l1 [] i2 = some o10 := h
      rw [spec_l1Same.l0] at h
      refine c_seq ?_
      refine za0 ?_
      refine o_q rfl rfl (q_lss rfl rfl) ?_
      refine o_end ?_
      refine za1 ?_
      refine c_seq ?_
      refine c_false (congrArg Value.bool hr6.ge) ?_
      refine c_exit ?_
      refine za6 ?_
      refine za6 ?_
      have e_ := Option.some.inj h; replace h := hR8; rw [← e_] at h; clear e_
      refine x_hit ?_
      refine za1 ?_
      refine c_seq ?_
      refine za0 ?_
      refine o_q rfl rfl (q_asg rfl) ?_
      refine o_end ?_
      refine za1 ?_
      refine c_ret ?_
      have e0_ := Option.some.inj h; clear h
      subst e0_
      exact x_r1 () Try.results145 (zaf rfl) rfl (fun w h => za8 [] (by decide) rfl w h)
    · skip
      clear hl9
      have hr6 := hJ_.1; have hk12 := hJ_.2.1; have h := hJ_.2.2; clear hJ_
      replace h : spec_l1Same.l0 l1 (y3 :: ys4) i2 = some o10 := h
      rw [spec_l1Same.l0] at h
      refine c_seq ?_
      refine za0 ?_
      refine o_q rfl rfl (q_lss rfl rfl) ?_
      refine o_end ?_
      refine za1 ?_
      refine c_seq ?_
      refine c_true (congrArg Value.bool hr6.lt) ?_
      refine zan ?_
      refine za1 ?_
      refine c_seq ?_
      refine zaj ?_
      refine c_seq ?_
      refine za0 ?_
      refine o_q rfl rfl (za2 rfl) ?_
      refine o_q rfl rfl (q_asg rfl) ?_
      refine o_end ?_
      refine za1 ?_
      refine c_seq ?_
      refine a_start (ds := []) MO rfl ?_
      refine za5 0 rfl rfl rfl (by kernel_rfl) (fun _ _ _ h => h) (za2 rfl) ?_
      refine za5 1 rfl rfl rfl (by kernel_rfl) (fun _ _ _ h => h) (za2 rfl) ?_
      refine a_fact (p := Sh A0 l0.length l0.length) (fun w h => f_sh (dk := (Kd.int .i64)) h (fun w h => R0.now Z h)) (fun hq13 => ?_)
      refine za5 2 rfl rfl rfl (by kernel_rfl) (fun _ _ _ h => h) (q_ix Try.underlying25 Z3 rfl rfl hq13 hr6.get) ?_
      refine zat 3 rfl rfl rfl (by kernel_rfl) (fun _ _ _ h => h) (fun w h => h) (q_lde (off := 0) Y3 rfl rfl (fun w h => R0.now Z h) hr6.get (fun _ _ h => h) rfl) ?_
      refine za5 4 rfl rfl rfl (by kernel_rfl) (fun _ _ _ h => h) (za2 rfl) ?_
      refine za5 5 rfl rfl rfl (by kernel_rfl) (fun _ _ _ h => h) (za2 rfl) ?_
      refine a_fact (p := Sh A1 l1.length l1.length) (fun w h => f_sh (dk := (Kd.int .i64)) h (fun w h => R1.now Z h)) (fun hq14 => ?_)
      refine zaa h (fun y16 hg15 h => ?_) rfl
      refine za5 6 rfl rfl rfl (by kernel_rfl) (fun _ _ _ h => h) (q_ix Try.underlying25 Z3 rfl rfl hq14 hg15) ?_
      refine zat 7 rfl rfl rfl (by kernel_rfl) (fun _ _ _ h => h) (fun w h => h) (q_lde (off := 0) Y3 rfl rfl (fun w h => R1.now Z h) hg15 (fun _ _ h => h) rfl) ?_
      refine za5 8 rfl rfl rfl (by kernel_rfl) (fun _ _ _ h => h) (q_neq rfl rfl) ?_
      refine zav (by kernel_rfl) ?_
      refine za1 ?_
      refine zau _ rfl (fun hb17 => ?_) (fun hb17 => ?_)
      · skip
        replace h := br_t hb17 h
        refine c_seq ?_
        refine za0 ?_
        refine o_q rfl rfl (q_asg rfl) ?_
        refine o_end ?_
        refine za1 ?_
        refine c_ret ?_
        refine zam ?_
        refine za9 ?_
        refine za9 ?_
        have e_ := Option.some.inj h; replace h := hR8; rw [← e_] at h; clear e_
        refine zam ?_
        refine za9 ?_
        have e0_ := Option.some.inj h; clear h
        subst e0_
        exact x_r1 () Try.results145 (zaf rfl) rfl (fun w h => za8 [] (by decide) rfl w h)
      · skip
        replace h := br_f hb17 h
        refine zan ?_
        refine zal ?_
        refine za1 ?_
        refine za0 ?_
        refine o_q rfl rfl (q_up rfl rfl (hr6.up hm7)) ?_
        refine o_q rfl rfl (za2 rfl) ?_
        refine o_end ?_
        refine zak ys4.length (ys4, i2 + 1) (by rw [← hk12]; exact Nat.lt_succ_self _) ⟨hr6.step, rfl, h⟩ ⟨rfl, trivial⟩ (fun w h => za8 [] (by decide) rfl w h) ?_
        repeat (first | exact zad _ _ | refine zah rfl ?_ | refine zae rfl ?_ | refine zai rfl ?_)

/-! ### loop.example/g01098/spec.plFirst: function 116 -/
def spec_plFirst.l1 (l4 : List (List Int)) (y13 : List Int) : Nat → Int → Option Int
  | 0, _ => none
  | k28 + 1, i25 => (gt l4 i25).bind fun y37 => (spec_l1Same.f y37 y13).bind fun b40 => if b40 = true then (some i25) else (spec_plFirst.l1 l4 y13 k28 (w64 (i25 + 1)))
def spec_plFirst.l0 (k : Nat) (l4 : List (List Int)) : (List (List Int)) → (List Int) → Int → Option (List Int)
  | [], l9, i12 => some l9
  | y13 :: ys14, l9, i12 => (spec_plFirst.l1 l4 y13 k 0).bind fun i25 => (spec_l1Least.f i25 i12).bind fun i43 => (ap l9 ([i43] : List Int)).bind fun l47 => spec_plFirst.l0 k l4 ys14 l47 (i12 + 1)
def spec_plFirst.f (k : Nat) (a0_0 : Int) (l0_1 : List SStep) (l0_2 : List Int) : Option (List Int) := (spec_plExponents.f k a0_0 l0_1 l0_2).bind fun l4 => (spec_plFirst.l0 k l4 l4 ([] : List Int) 0).bind fun l9 => some l9
set_option maxHeartbeats 600000 in
set_option maxRecDepth 100000 in
theorem spec_plFirst.calls (k : Nat) {w0 ws : World} {P0 : Nat → Prop} (a0_0 : Int) (A0_1 : Option Addr) (c0_1 : Nat) (n0_1 : Nat) (l0_1 : List SStep) (A0_2 : Option Addr) (c0_2 : Nat) (n0_2 : Nat) (l0_2 : List Int) (Z : Below w0.heap.size w0 ws) (hF : Fr w0 ws P0 [] ws) (R0_1 : Stable ws P0 (fun w => Kd.C kStep w A0_1 n0_1 l0_1)) (hc0_1 : n0_1 ≤ c0_1) (R0_2 : Stable ws P0 (fun w => Kd.C (Kd.int .i64) w A0_2 n0_2 l0_2)) (hc0_2 : n0_2 ≤ c0_2) (r_1 : List Int) (h : spec_plFirst.f k a0_0 l0_1 l0_2 = some r_1) :
    Calls Try.prog 116 #[.agg #[.int .i64 a0_0, .slice A0_1 n0_1 c0_1, .slice A0_2 n0_2 c0_2]] ws (Post1 w0 ws P0 (fun ((q_2, q_3) : (Option Addr) × Nat) => .slice q_2 r_1.length q_3) (fun ((q_2, q_3) : (Option Addr) × Nat) => [row (Kd.int .i64) 3 (.slice q_2 r_1.length q_3) r_1])) := by
  unfold spec_plFirst.f at h
  obtain rfl := (R0_1 ws (KeptB.refl _ _)).1
  obtain rfl := (R0_2 ws (KeptB.refl _ _)).1
  refine enter Try.func116 rfl Try.ntmps116 rfl hF ?_
  refine c_seq ?_
  refine za0 ?_
  refine o_e rfl (e_box rfl) (fun g1 => ?_)
  refine o_q rfl rfl (q_asg rfl) ?_
  refine o_end ?_
  refine za1 ?_
  refine c_seq ?_
  refine za0 ?_
  refine o_q rfl rfl (q_ldB G27 Z27 rfl (fun w h => h.zab (i := 0) rfl) rfl) ?_
  refine zaa h (fun l4 hx3 h => ?_) rfl
  refine o_e rfl (zac 0 Z Try.func183 N183 rfl rfl rfl (fun w P1 hF hB hS hT => spec_plExponents.calls k a0_0 A0_1 c0_1 l0_1.length l0_1 A0_2 c0_2 l0_2.length l0_2 hB hF (hS _ R0_1) hc0_1 (hS _ R0_2) hc0_2 _ hx3)) (cur3 (fun A5 c6 H7 => ?_))
  refine o_q rfl rfl (q_asg rfl) ?_
  refine o_end ?_
  refine za1 ?_
  refine c_seq ?_
  refine za0 ?_
  refine o_q rfl rfl (q_asg rfl) ?_
  refine o_end ?_
  refine za1 ?_
  refine c_seq ?_
  refine c_seq ?_
  refine za0 ?_
  refine o_q rfl rfl (za2 rfl) ?_
  refine o_q rfl rfl (q_len Try.underlying60 rfl) ?_
  refine o_q rfl rfl (za2 rfl) ?_
  refine o_end ?_
  refine za1 ?_
  refine zaj ?_
  refine c_nil (Kd.int .i64) 3 ?_
  refine zaa h (fun o20 hl19 hR18 => ?_) rfl
  clear h
  refine c_fact (p := l4.length ≤ 9223372036854775807) (fun w h => (h.zas (i := 1) rfl).2.1) (fun hm17 => ?_)
  refine zaw (σ := (List (List Int)) × (List Int) × Int × (Option Addr) × Nat) (fun k15 ((ys14, l9, i12, A10, c11) : (List (List Int)) × (List Int) × Int × (Option Addr) × Nat) => Rg l4 i12 ys14 ∧ ys14.length = k15 ∧ spec_plFirst.l0 k l4 ys14 l9 i12 = some o20) [4, 5, 6, 7, 12, 13, 14, 15, 16, 17, 18, 19, 20, 21, 22, 23, 24, 25, 26, 27, 28, 29, 30, 31, 32] (fun ((ys14, l9, i12, A10, c11) : (List (List Int)) × (List Int) × Int × (Option Addr) × Nat) => [(4, .slice A10 l9.length c11), (12, .int .i64 i12)]) (fun ((ys14, l9, i12, A10, c11) : (List (List Int)) × (List Int) × Int × (Option Addr) × Nat) => [row (Kd.int .i64) 3 (.slice A10 l9.length c11) l9, row (gk 3 (Kd.int .i64)) 25 (.slice A5 l4.length c6) (zp H7 l4), box g1 27 #[.int .i64 a0_0, .slice A0_1 l0_1.length c0_1, .slice A0_2 l0_2.length c0_2]]) l4.length (l4, ([] : List Int), 0, none, 0) ⟨Rg.start _, rfl, hl19⟩ ⟨rfl, rfl, trivial⟩ (fun w h => h) ?_
  refine fun k15 => cur5 (listC (fun l9 i12 A10 c11 U21 hJ_ => ?_) (fun y13 ys14 l9 i12 A10 c11 U21 hJ_ => ?_))
  · skip
    clear hl19
    have hr16 := hJ_.1; have hk22 := hJ_.2.1; have h := hJ_.2.2; clear hJ_
    replace h : spec_plFirst.l0 k l4 [] l9 i12 = some o20 := h
    rw [spec_plFirst.l0] at h
    refine c_seq ?_
    refine za0 ?_
    refine o_q rfl rfl (q_lss rfl rfl) ?_
    refine o_end ?_
    refine za1 ?_
    refine c_seq ?_
    refine c_false (congrArg Value.bool hr16.ge) ?_
    refine c_exit ?_
    refine za6 ?_
    refine za6 ?_
    have e_ := Option.some.inj h; replace h := hR18; rw [← e_] at h; clear e_
    refine x_hit ?_
    refine za1 ?_
    refine c_seq ?_
    refine za0 ?_
    refine o_q rfl rfl (za2 rfl) ?_
    refine o_q rfl rfl (q_asg rfl) ?_
    refine o_end ?_
    refine za1 ?_
    refine c_ret ?_
    have e0_ := Option.some.inj h; clear h
    subst e0_
    exact x_r1 (A10, c11) Try.results116 (zaf rfl) rfl (fun w h => za8 [0] (by decide) rfl w h)
  · skip
    clear hl19
    have hr16 := hJ_.1; have hk22 := hJ_.2.1; have h := hJ_.2.2; clear hJ_
    replace h : spec_plFirst.l0 k l4 (y13 :: ys14) l9 i12 = some o20 := h
    rw [spec_plFirst.l0] at h
    refine c_seq ?_
    refine za0 ?_
    refine o_q rfl rfl (q_lss rfl rfl) ?_
    refine o_end ?_
    refine za1 ?_
    refine c_seq ?_
    refine c_true (congrArg Value.bool hr16.lt) ?_
    refine zan ?_
    refine za1 ?_
    refine c_seq ?_
    refine zaj ?_
    refine c_seq ?_
    refine za0 ?_
    refine o_q rfl rfl (za2 rfl) ?_
    refine zaz (p := Sh A5 l4.length (zp H7 l4).length) (fun w h => f_sh (dk := (gk 3 (Kd.int .i64))) h (fun w h => h.zas (i := 1) rfl)) (fun hq23 => ?_)
    refine o_q rfl rfl (q_ix Try.underlying60 Z25 rfl rfl hq23 (gt_zp hr16.get)) ?_
    refine zaz (p := y13.length ≤ hC H7 i12) (fun w h => (K_in (h.zas (i := 1) rfl) hr16.get).1) (fun hc24 => ?_)
    refine o_q rfl rfl (q_lde (off := 0) Y25 rfl rfl (fun w h => h.zas (i := 1) rfl) (gt_zp hr16.get) (fun _ _ h => h.1) rfl) ?_
    refine o_q rfl rfl (q_asg rfl) ?_
    refine o_q rfl rfl (q_asg rfl) ?_
    refine o_end ?_
    refine za1 ?_
    refine c_seq ?_
    refine za0 ?_
    refine o_q rfl rfl (q_asg rfl) ?_
    refine o_end ?_
    refine za1 ?_
    refine c_seq ?_
    refine zaj ?_
    refine zaa h (fun o33 hl32 hR31 => ?_) rfl
    clear h
    refine zaw (σ := Int) (fun k28 (i25 : Int) => spec_plFirst.l1 l4 y13 k28 i25 = some o33) [7, 17, 18, 19, 20, 21, 22, 23, 24, 25] (fun (i25 : Int) => [(7, .int .i64 i25)]) (fun (i25 : Int) => [row (Kd.int .i64) 3 (.slice A10 l9.length c11) l9, row (gk 3 (Kd.int .i64)) 25 (.slice A5 l4.length c6) (zp H7 l4), box g1 27 #[.int .i64 a0_0, .slice A0_1 l0_1.length c0_1, .slice A0_2 l0_2.length c0_2]]) k 0 hl32 ⟨rfl, trivial⟩ (fun w h => h) ?_
    refine natC (fun i25 => fun U34 hJ_ => ?_) (fun k28 => (fun i25 => fun U34 hJ_ => ?_))
    · skip
      replace hJ_ : spec_plFirst.l1 l4 y13 0 i25 = some o33 := hJ_
      rw [spec_plFirst.l1] at hJ_
      exact noneE hJ_
    · skip
      clear hl32
      have h := hJ_; clear hJ_
      replace h : spec_plFirst.l1 l4 y13 (k28 + 1) i25 = some o33 := h
      rw [spec_plFirst.l1] at h
      refine c_seq ?_
      refine c_seq ?_
      refine za0 ?_
      refine o_q rfl rfl (za2 rfl) ?_
      refine o_q rfl rfl (za2 rfl) ?_
      refine zaa h (fun y37 hg36 h => ?_) rfl
      refine o_q rfl rfl (q_ix Try.underlying60 Z25 rfl rfl hq23 (gt_zp hg36)) ?_
      refine zaz (p := y37.length ≤ hC H7 i25) (fun w h => (K_in (h.zas (i := 1) rfl) hg36).1) (fun hc38 => ?_)
      refine o_q rfl rfl (q_lde (off := 0) Y25 rfl rfl (fun w h => h.zas (i := 1) rfl) (gt_zp hg36) (fun _ _ h => h.1) rfl) ?_
      refine o_q rfl rfl (za2 rfl) ?_
      refine zaa h (fun b40 hx39 h => ?_) rfl
      refine o_e rfl (zac 0 Z Try.func145 N145 rfl rfl rfl (fun w P1 hF hB hS hT => spec_l1Same.calls (hA H7 i25) (hC H7 i25) y37.length y37 (hA H7 i12) (hC H7 i12) y13.length y13 hB hF (stab_in (hT 1 _ rfl).row hg36) hc38 (stab_in (hT 1 _ rfl).row hr16.get) hc24 _ hx39)) (fun _ => ?_)
      refine o_q rfl rfl (q_not rfl) ?_
      refine o_end ?_
      refine za1 ?_
      refine zau _ rfl (fun hb41 => ?_) (fun hb41 => ?_)
      · replace hb41 := nt_t hb41
        replace h := bb_f hb41 h
        refine zan ?_
        refine za1 ?_
        refine zaj ?_
        refine za0 ?_
        refine o_q rfl rfl (za2 rfl) ?_
        refine o_q rfl rfl (q_add64 rfl rfl) ?_
        refine o_q rfl rfl (q_asg rfl) ?_
        refine o_end ?_
        refine zal ?_
        refine zak k28 (w64 (i25 + 1)) (Nat.lt_succ_self _) h ⟨rfl, trivial⟩ (fun w h => za8 [0, 1, 2] (by decide) rfl w h) ?_
        repeat (first | exact zad _ _ | refine zah rfl ?_ | refine zae rfl ?_ | refine zai rfl ?_)
      · replace hb41 := nt_f hb41
        replace h := bb_t hb41 h
        refine c_exit ?_
        refine za6 ?_
        refine za6 ?_
        have e_ := Option.some.inj h; replace h := hR31; rw [← e_] at h; clear e_
        refine x_hit ?_
        refine za1 ?_
        refine za0 ?_
        refine o_q rfl rfl (za2 rfl) ?_
        refine o_q rfl rfl (za2 rfl) ?_
        refine o_q rfl rfl (za2 rfl) ?_
        refine zaa h (fun i43 hx42 h => ?_) rfl
        refine o_e rfl (zac 0 Z Try.func124 N124 rfl rfl rfl (fun w P1 hF hB hS hT => spec_l1Least.calls i25 i12 hB hF _ hx42)) (fun _ => ?_)
        refine o_e rfl (e_lit (vs := [(0, .int .i64 i43)]) (cs := [.int .i64 i43]) (Kd.int .i64) ([i43] : List Int) Try.underlying25 I3 (by decide) rfl (by decide) rfl rfl (fun _ _ => Kd.zao _)) (cur2 (fun A44 c45 => ?_))
        refine zaa h (fun l47 ha48 h => ?_) rfl
        refine o_e rfl (e_app (i := 1) (j := 0) Try.underlying25 I3 rfl (by decide) (by decide) rfl rfl rfl rfl rfl ha48) (cur2 (fun A49 c50 => ?_))
        refine o_q rfl rfl (q_asg rfl) ?_
        refine o_end ?_
        refine zal ?_
        refine za1 ?_
        refine za0 ?_
        refine o_q rfl rfl (q_up rfl rfl (hr16.up hm17)) ?_
        refine o_q rfl rfl (za2 rfl) ?_
        refine o_end ?_
        refine zak ys14.length (ys14, l47, i12 + 1, A49, c50) (by rw [← hk22]; exact Nat.lt_succ_self _) ⟨hr16.step, rfl, h⟩ ⟨rfl, rfl, trivial⟩ (fun w h => za8 [1, 2, 3] (by decide) rfl w h) ?_
        repeat (first | exact zad _ _ | refine zah rfl ?_ | refine zae rfl ?_ | refine zai rfl ?_)

/-! ### loop.example/g01098/spec.l1Own: function 96 -/
def spec_l1Own.f (l0 : List Int) : Option (List Int) := (ap ([] : List Int) l0).bind fun l4 => some l4
set_option maxHeartbeats 600000 in
set_option maxRecDepth 100000 in
theorem spec_l1Own.calls {w0 ws : World} {P0 : Nat → Prop} (A0 : Option Addr) (c0 : Nat) (n0 : Nat) (l0 : List Int) (Z : Below w0.heap.size w0 ws) (hF : Fr w0 ws P0 [] ws) (R0 : Stable ws P0 (fun w => Kd.C (Kd.int .i64) w A0 n0 l0)) (hc0 : n0 ≤ c0) (r_1 : List Int) (h : spec_l1Own.f l0 = some r_1) :
    Calls Try.prog 96 #[.slice A0 n0 c0] ws (Post1 w0 ws P0 (fun ((q_2, q_3) : (Option Addr) × Nat) => .slice q_2 r_1.length q_3) (fun ((q_2, q_3) : (Option Addr) × Nat) => [row (Kd.int .i64) 3 (.slice q_2 r_1.length q_3) r_1])) := by
  unfold spec_l1Own.f at h
  obtain rfl := (R0 ws (KeptB.refl _ _)).1
  refine enter Try.func96 rfl Try.ntmps96 rfl hF ?_
  refine c_seq ?_
  refine za0 ?_
  refine o_q rfl rfl (q_asg rfl) ?_
  refine o_end ?_
  refine za1 ?_
  refine c_seq ?_
  refine za0 ?_
  refine o_e rfl (e_lit0 (Kd.int .i64) Try.underlying25 I3) (cur2 (fun A1 c2 => ?_))
  refine o_q rfl rfl (za2 rfl) ?_
  refine zaa h (fun l4 ha5 h => ?_) rfl
  refine o_e rfl (e_appr (i := 0) Try.underlying25 I3 rfl (by decide) (by decide) (fun _ _ _ _ h => h) rfl (fun w h => R0.now Z h) rfl rfl ha5) (cur2 (fun A6 c7 => ?_))
  refine o_q rfl rfl (q_asg rfl) ?_
  refine o_end ?_
  refine za1 ?_
  refine c_ret ?_
  have e0_ := Option.some.inj h; clear h
  subst e0_
  exact x_r1 (A6, c7) Try.results96 (zaf rfl) rfl (fun w h => za8 [0] (by decide) rfl w h)

/-! ### loop.example/g01098/spec.l1Has: function 189 -/
def spec_l1Has.l0 (a1 : Int) : (List Int) → Int → Option ((Bool) ⊕ (Unit))
  | [], i1 => some (.inr ())
  | y2 :: ys3, i1 => if y2 = a1 then (some (.inl true)) else (spec_l1Has.l0 a1 ys3 (i1 + 1))
def spec_l1Has.f (l0 : List Int) (a1 : Int) : Option Bool := (spec_l1Has.l0 a1 l0 0).bind fun o_ => match o_ with | .inl r_ => some r_ | .inr _ => some false
set_option maxHeartbeats 600000 in
set_option maxRecDepth 100000 in
theorem spec_l1Has.calls {w0 ws : World} {P0 : Nat → Prop} (A0 : Option Addr) (c0 : Nat) (n0 : Nat) (l0 : List Int) (a1 : Int) (Z : Below w0.heap.size w0 ws) (hF : Fr w0 ws P0 [] ws) (R0 : Stable ws P0 (fun w => Kd.C (Kd.int .i64) w A0 n0 l0)) (hc0 : n0 ≤ c0) (r_1 : Bool) (h : spec_l1Has.f l0 a1 = some r_1) :
    Calls Try.prog 189 #[.slice A0 n0 c0, .int .i64 a1] ws (Post1 w0 ws P0 (fun (_ : Unit) => .bool r_1) (fun (_ : Unit) => [])) := by
  unfold spec_l1Has.f at h
  obtain rfl := (R0 ws (KeptB.refl _ _)).1
  refine enter Try.func189 rfl Try.ntmps189 rfl hF ?_
  refine c_seq ?_
  refine za0 ?_
  refine o_q rfl rfl (q_asg rfl) ?_
  refine o_end ?_
  refine za1 ?_
  refine c_seq ?_
  refine c_seq ?_
  refine za0 ?_
  refine o_q rfl rfl (za2 rfl) ?_
  refine o_q rfl rfl (q_len Try.underlying25 rfl) ?_
  refine o_q rfl rfl (za2 rfl) ?_
  refine o_end ?_
  refine za1 ?_
  refine zaj ?_
  refine zaa h (fun o9 hl8 hR7 => ?_) rfl
  clear h
  refine c_fact (p := l0.length ≤ 9223372036854775807) (fun w h => (R0.now Z h).2.1) (fun hm6 => ?_)
  refine zaw (σ := (List Int) × Int) (fun k4 ((ys3, i1) : (List Int) × Int) => Rg l0 i1 ys3 ∧ ys3.length = k4 ∧ spec_l1Has.l0 a1 ys3 i1 = some o9) [4, 6, 9, 10, 11, 12, 13, 14, 15, 16] (fun ((ys3, i1) : (List Int) × Int) => [(9, .int .i64 i1)]) (fun ((ys3, i1) : (List Int) × Int) => []) l0.length (l0, 0) ⟨Rg.start _, rfl, hl8⟩ ⟨rfl, trivial⟩ (fun w h => h) ?_
  refine fun k4 => cur2 (listC (fun i1 U10 hJ_ => ?_) (fun y2 ys3 i1 U10 hJ_ => ?_))
  · skip
    clear hl8
    have hr5 := hJ_.1; have hk11 := hJ_.2.1; have h := hJ_.2.2; clear hJ_
    replace h : spec_l1Has.l0 a1 [] i1 = some o9 := h
    rw [spec_l1Has.l0] at h
    refine c_seq ?_
    refine za0 ?_
    refine o_q rfl rfl (q_lss rfl rfl) ?_
    refine o_end ?_
    refine za1 ?_
    refine c_seq ?_
    refine c_false (congrArg Value.bool hr5.ge) ?_
    refine c_exit ?_
    refine za6 ?_
    refine za6 ?_
    have e_ := Option.some.inj h; replace h := hR7; rw [← e_] at h; clear e_
    refine x_hit ?_
    refine za1 ?_
    refine c_seq ?_
    refine za0 ?_
    refine o_q rfl rfl (q_asg rfl) ?_
    refine o_end ?_
    refine za1 ?_
    refine c_ret ?_
    have e0_ := Option.some.inj h; clear h
    subst e0_
    exact x_r1 () Try.results189 (zaf rfl) rfl (fun w h => za8 [] (by decide) rfl w h)
  · skip
    clear hl8
    have hr5 := hJ_.1; have hk11 := hJ_.2.1; have h := hJ_.2.2; clear hJ_
    replace h : spec_l1Has.l0 a1 (y2 :: ys3) i1 = some o9 := h
    rw [spec_l1Has.l0] at h
    refine c_seq ?_
    refine za0 ?_
    refine o_q rfl rfl (q_lss rfl rfl) ?_
    refine o_end ?_
    refine za1 ?_
    refine c_seq ?_
    refine c_true (congrArg Value.bool hr5.lt) ?_
    refine zan ?_
    refine za1 ?_
    refine c_seq ?_
    refine zaj ?_
    refine c_seq ?_
    refine za0 ?_
    refine zaz (p := Sh A0 l0.length l0.length) (fun w h => f_sh (dk := (Kd.int .i64)) h (fun w h => R0.now Z h)) (fun hq12 => ?_)
    refine o_q rfl rfl (q_ix Try.underlying25 Z3 rfl rfl hq12 hr5.get) ?_
    refine o_q rfl rfl (q_lde (off := 0) Y3 rfl rfl (fun w h => R0.now Z h) hr5.get (fun _ _ h => h) rfl) ?_
    refine o_q rfl rfl (q_asg rfl) ?_
    refine o_end ?_
    refine za1 ?_
    refine c_seq ?_
    refine za0 ?_
    refine o_q rfl rfl (za2 rfl) ?_
    refine o_q rfl rfl (za2 rfl) ?_
    refine o_q rfl rfl (q_eql rfl rfl) ?_
    refine o_end ?_
    refine za1 ?_
    refine zau _ rfl (fun hb13 => ?_) (fun hb13 => ?_)
    · skip
      replace h := br_t hb13 h
      refine c_seq ?_
      refine za0 ?_
      refine o_q rfl rfl (q_asg rfl) ?_
      refine o_end ?_
      refine za1 ?_
      refine c_ret ?_
      refine zam ?_
      refine za9 ?_
      refine za9 ?_
      have e_ := Option.some.inj h; replace h := hR7; rw [← e_] at h; clear e_
      refine zam ?_
      refine za9 ?_
      have e0_ := Option.some.inj h; clear h
      subst e0_
      exact x_r1 () Try.results189 (zaf rfl) rfl (fun w h => za8 [] (by decide) rfl w h)
    · skip
      replace h := br_f hb13 h
      refine zan ?_
      refine zal ?_
      refine za1 ?_
      refine za0 ?_
      refine o_q rfl rfl (q_up rfl rfl (hr5.up hm6)) ?_
      refine o_q rfl rfl (za2 rfl) ?_
      refine o_end ?_
      refine zak ys3.length (ys3, i1 + 1) (by rw [← hk11]; exact Nat.lt_succ_self _) ⟨hr5.step, rfl, h⟩ ⟨rfl, trivial⟩ (fun w h => za8 [] (by decide) rfl w h) ?_
      repeat (first | exact zad _ _ | refine zah rfl ?_ | refine zae rfl ?_ | refine zai rfl ?_)

/-! ### loop.example/g01098/spec.l1Put: function 184 -/
def spec_l1Put.l0 (l0 : List Int) (a1 : Int) : Nat → Int → Option Int
  | 0, _ => none
  | k26 + 1, i23 => if i23 < (l0.length : Int) then ((gt l0 i23).bind fun y37 => if y37 < a1 then (spec_l1Put.l0 l0 a1 k26 (w64 (i23 + 1))) else (some i23)) else (some i23)
def spec_l1Put.f (k : Nat) (l0 : List Int) (a1 : Int) : Option (List Int) := ((spec_l1Put.l0 l0 a1 k 0)).bind fun i17 => (if i17 < (l0.length : Int) then ((gt l0 i17).bind fun y52 => if y52 = a1 then (some (.inl l0)) else (some (.inr ()))) else (some (.inr ())) : Option (((List Int)) ⊕ (Unit))).bind fun o_ => match o_ with | .inl r_ => some r_ | .inr _ => (ct l0 (0 : Int) i17).bind fun l57 => (ap ([] : List Int) l57).bind fun l60 => (ap l60 ([a1] : List Int)).bind fun l67 => (ct l0 i17 (l0.length : Int)).bind fun l71 => (ap l67 l71).bind fun l74 => some l74
set_option maxHeartbeats 600000 in
set_option maxRecDepth 100000 in
theorem spec_l1Put.calls (k : Nat) {w0 ws : World} {P0 : Nat → Prop} (A0 : Option Addr) (c0 : Nat) (n0 : Nat) (l0 : List Int) (a1 : Int) (Z : Below w0.heap.size w0 ws) (hF : Fr w0 ws P0 [row (Kd.int .i64) 3 (.slice A0 n0 c0) l0] ws)  (r_1 : List Int) (h : spec_l1Put.f k l0 a1 = some r_1) :
    Calls Try.prog 184 #[.slice A0 n0 c0, .int .i64 a1] ws (Post1 w0 ws P0 (fun ((q_2, q_3) : (Option Addr) × Nat) => .slice q_2 r_1.length q_3) (fun ((q_2, q_3) : (Option Addr) × Nat) => [row (Kd.int .i64) 3 (.slice q_2 r_1.length q_3) r_1])) := by
  unfold spec_l1Put.f at h
  obtain rfl := (hF.row_C (i := 0) rfl).2.1
  refine enter Try.func184 rfl Try.ntmps184 rfl hF ?_
  refine c_seq ?_
  refine za0 ?_
  refine o_q rfl rfl (q_asg rfl) ?_
  refine o_end ?_
  refine za1 ?_
  refine c_seq ?_
  refine za0 ?_
  refine o_q rfl rfl (q_asg rfl) ?_
  refine o_end ?_
  refine za1 ?_
  refine zaa h (fun o18 hl19 hR20 => ?_) rfl
  clear h
  refine c_cutJ (σ := Int) (fun i17 => some i17 = some o18) [5, 7, 8, 9, 10, 11, 12, 13, 14, 15, 16, 17, 18, 19, 20] (fun i17 => [(5, .int .i64 i17)]) (fun i17 => [row (Kd.int .i64) 3 (.slice A0 l0.length c0) l0]) ?_ ?_
  · skip
    have h := hl19; clear hl19
    clear hR20
    refine zaj ?_
    have hl30 := h; clear h
    refine zaw (σ := Int) (fun k26 (i23 : Int) => spec_l1Put.l0 l0 a1 k26 i23 = some o18) [5, 7, 8, 9, 10, 11, 12, 13, 14, 15, 16, 17, 18, 19, 20] (fun (i23 : Int) => [(5, .int .i64 i23)]) (fun (i23 : Int) => [row (Kd.int .i64) 3 (.slice A0 l0.length c0) l0]) k 0 hl30 ⟨rfl, trivial⟩ (fun w h => h) ?_
    refine natC (fun i23 => fun U32 hJ_ => ?_) (fun k26 => (fun i23 => fun U32 hJ_ => ?_))
    · skip
      replace hJ_ : spec_l1Put.l0 l0 a1 0 i23 = some o18 := hJ_
      rw [spec_l1Put.l0] at hJ_
      exact noneE hJ_
    · skip
      clear hl30
      have h := hJ_; clear hJ_
      replace h : spec_l1Put.l0 l0 a1 (k26 + 1) i23 = some o18 := h
      rw [spec_l1Put.l0] at h
      refine c_seq ?_
      refine c_seq ?_
      refine za0 ?_
      refine o_q rfl rfl (za2 rfl) ?_
      refine o_q rfl rfl (za2 rfl) ?_
      refine o_q rfl rfl (q_len Try.underlying25 rfl) ?_
      refine o_q rfl rfl (q_lss rfl rfl) ?_
      refine o_q rfl rfl (za2 rfl) ?_
      refine byB (decide (i23 < (l0.length : Int))) (fun hb34 => ?_) (fun hb34 => ?_)
      · replace h := br_t hb34 h
        refine o_w (za4 rfl rfl rfl (congrArg Value.bool hb34)) rfl (za2 rfl) ?_
        refine o_w (za4 rfl rfl rfl (congrArg Value.bool hb34)) rfl (za2 rfl) ?_
        refine zaz (p := Sh A0 l0.length l0.length) (fun w h => f_sh (dk := (Kd.int .i64)) h (fun w h => h.zas (i := 0) rfl)) (fun hq35 => ?_)
        refine zaa h (fun y37 hg36 h => ?_) rfl
        refine o_w (za4 rfl rfl rfl (congrArg Value.bool hb34)) rfl (q_ix Try.underlying25 Z3 rfl rfl hq35 hg36) ?_
        refine o_w (za4 rfl rfl rfl (congrArg Value.bool hb34)) rfl (q_lde (off := 0) Y3 rfl rfl (fun w h => h.zas (i := 0) rfl) hg36 (fun _ _ h => h) rfl) ?_
        refine o_w (za4 rfl rfl rfl (congrArg Value.bool hb34)) rfl (za2 rfl) ?_
        refine o_w (za4 rfl rfl rfl (congrArg Value.bool hb34)) rfl (q_lss rfl rfl) ?_
        refine o_q rfl rfl (zar true (congrArg Value.bool hb34) rfl) ?_
        refine o_end ?_
        refine za1 ?_
        refine zau _ rfl (fun hb38 => ?_) (fun hb38 => ?_)
        · skip
          replace h := br_t hb38 h
          refine zan ?_
          refine za1 ?_
          refine zaj ?_
          refine za0 ?_
          refine o_q rfl rfl (za2 rfl) ?_
          refine o_q rfl rfl (q_add64 rfl rfl) ?_
          refine o_q rfl rfl (q_asg rfl) ?_
          refine o_end ?_
          refine zal ?_
          refine zak k26 (w64 (i23 + 1)) (Nat.lt_succ_self _) h ⟨rfl, trivial⟩ (fun w h => za8 [0] (by decide) rfl w h) ?_
          repeat (first | exact zad _ _ | refine zah rfl ?_ | refine zae rfl ?_ | refine zai rfl ?_)
        · skip
          replace h := br_f hb38 h
          refine c_exit ?_
          refine za6 ?_
          refine za6 ?_
          refine x_hit ?_
          refine x_meetJ i23 h ⟨rfl, trivial⟩ (fun w h => za8 [0] (by decide) rfl w h) ?_
          repeat (first | exact zad _ _ | refine zah rfl ?_ | refine zae rfl ?_ | refine zai rfl ?_)
      · replace h := br_f hb34 h
        refine @o_n _ _ _ _ _ _ _ _ _ _ _ 12 (za3 rfl rfl rfl (congrArg Value.bool hb34) rfl) (Eq.refl (some 12)) ?_
        refine @o_n _ _ _ _ _ _ _ _ _ _ _ 13 (za3 rfl rfl rfl (congrArg Value.bool hb34) rfl) (Eq.refl (some 13)) ?_
        refine @o_n _ _ _ _ _ _ _ _ _ _ _ 14 (za3 rfl rfl rfl (congrArg Value.bool hb34) rfl) (Eq.refl (some 14)) ?_
        refine @o_n _ _ _ _ _ _ _ _ _ _ _ 15 (za3 rfl rfl rfl (congrArg Value.bool hb34) rfl) (Eq.refl (some 15)) ?_
        refine @o_n _ _ _ _ _ _ _ _ _ _ _ 16 (za3 rfl rfl rfl (congrArg Value.bool hb34) rfl) (Eq.refl (some 16)) ?_
        refine @o_n _ _ _ _ _ _ _ _ _ _ _ 17 (za3 rfl rfl rfl (congrArg Value.bool hb34) rfl) (Eq.refl (some 17)) ?_
        refine o_q rfl rfl (zar false (congrArg Value.bool hb34) rfl) ?_
        refine o_end ?_
        refine za1 ?_
        refine c_false rfl ?_
        refine c_exit ?_
        refine za6 ?_
        refine za6 ?_
        refine x_hit ?_
        refine x_meetJ i23 h ⟨rfl, trivial⟩ (fun w h => za8 [0] (by decide) rfl w h) ?_
        repeat (first | exact zad _ _ | refine zah rfl ?_ | refine zae rfl ?_ | refine zai rfl ?_)
  · skip
    refine (fun i17 => fun U21 hJ22 => ?_)
    have e_ := Option.some.inj hJ22; have h := hR20; rw [← e_] at h; clear e_ hJ22 hR20 hl19
    refine zaa h (fun o44 hl45 hR46 => ?_) rfl
    clear h
    refine c_cutJ (σ := Unit) (fun _ => some (.inr ()) = some o44) [4, 21, 22, 23, 24, 25, 26, 27, 28, 29, 30, 31, 32, 33] (fun _ => []) (fun _ => [row (Kd.int .i64) 3 (.slice A0 l0.length c0) l0]) ?_ ?_
    · skip
      have h := hl45; clear hl45
      refine c_seq ?_
      refine za0 ?_
      refine o_q rfl rfl (za2 rfl) ?_
      refine o_q rfl rfl (za2 rfl) ?_
      refine o_q rfl rfl (q_len Try.underlying25 rfl) ?_
      refine o_q rfl rfl (q_lss rfl rfl) ?_
      refine o_q rfl rfl (za2 rfl) ?_
      refine byB (decide (i17 < (l0.length : Int))) (fun hb49 => ?_) (fun hb49 => ?_)
      · replace h := br_t hb49 h
        refine o_w (za4 rfl rfl rfl (congrArg Value.bool hb49)) rfl (za2 rfl) ?_
        refine o_w (za4 rfl rfl rfl (congrArg Value.bool hb49)) rfl (za2 rfl) ?_
        refine zaz (p := Sh A0 l0.length l0.length) (fun w h => f_sh (dk := (Kd.int .i64)) h (fun w h => h.zas (i := 0) rfl)) (fun hq50 => ?_)
        refine zaa h (fun y52 hg51 h => ?_) rfl
        refine o_w (za4 rfl rfl rfl (congrArg Value.bool hb49)) rfl (q_ix Try.underlying25 Z3 rfl rfl hq50 hg51) ?_
        refine o_w (za4 rfl rfl rfl (congrArg Value.bool hb49)) rfl (q_lde (off := 0) Y3 rfl rfl (fun w h => h.zas (i := 0) rfl) hg51 (fun _ _ h => h) rfl) ?_
        refine o_w (za4 rfl rfl rfl (congrArg Value.bool hb49)) rfl (za2 rfl) ?_
        refine o_w (za4 rfl rfl rfl (congrArg Value.bool hb49)) rfl (q_eql rfl rfl) ?_
        refine o_q rfl rfl (zar true (congrArg Value.bool hb49) rfl) ?_
        refine o_end ?_
        refine za1 ?_
        refine zau _ rfl (fun hb53 => ?_) (fun hb53 => ?_)
        · skip
          replace h := br_t hb53 h
          refine c_seq ?_
          refine za0 ?_
          refine o_q rfl rfl (za2 rfl) ?_
          refine o_q rfl rfl (q_asg rfl) ?_
          refine o_end ?_
          refine za1 ?_
          refine c_ret ?_
          refine za9 ?_
          have e_ := Option.some.inj h; replace h := hR46; rw [← e_] at h; clear e_
          have e0_ := Option.some.inj h; clear h
          subst e0_
          exact x_r1 (A0, c0) Try.results184 (zaf rfl) rfl (fun w h => za8 [0] (by decide) rfl w h)
        · skip
          replace h := br_f hb53 h
          refine zan ?_
          refine x_meetJ () h trivial (fun w h => za8 [0] (by decide) rfl w h) ?_
          repeat (first | exact zad _ _ | refine zah rfl ?_ | refine zae rfl ?_ | refine zai rfl ?_)
      · replace h := br_f hb49 h
        refine @o_n _ _ _ _ _ _ _ _ _ _ _ 26 (za3 rfl rfl rfl (congrArg Value.bool hb49) rfl) (Eq.refl (some 26)) ?_
        refine @o_n _ _ _ _ _ _ _ _ _ _ _ 27 (za3 rfl rfl rfl (congrArg Value.bool hb49) rfl) (Eq.refl (some 27)) ?_
        refine @o_n _ _ _ _ _ _ _ _ _ _ _ 28 (za3 rfl rfl rfl (congrArg Value.bool hb49) rfl) (Eq.refl (some 28)) ?_
        refine @o_n _ _ _ _ _ _ _ _ _ _ _ 29 (za3 rfl rfl rfl (congrArg Value.bool hb49) rfl) (Eq.refl (some 29)) ?_
        refine @o_n _ _ _ _ _ _ _ _ _ _ _ 30 (za3 rfl rfl rfl (congrArg Value.bool hb49) rfl) (Eq.refl (some 30)) ?_
        refine @o_n _ _ _ _ _ _ _ _ _ _ _ 31 (za3 rfl rfl rfl (congrArg Value.bool hb49) rfl) (Eq.refl (some 31)) ?_
        refine o_q rfl rfl (zar false (congrArg Value.bool hb49) rfl) ?_
        refine o_end ?_
        refine za1 ?_
        refine c_false rfl ?_
        refine zan ?_
        refine x_meetJ () h trivial (fun w h => za8 [0] (by decide) rfl w h) ?_
        repeat (first | exact zad _ _ | refine zah rfl ?_ | refine zae rfl ?_ | refine zai rfl ?_)
    · skip
      refine (fun _ => fun U47 hJ48 => ?_)
      have e_ := Option.some.inj hJ48; have h := hR46; rw [← e_] at h; clear e_ hJ48 hR46 hl45
      refine c_seq ?_
      refine za0 ?_
      refine o_e rfl (e_lit0 (Kd.int .i64) Try.underlying25 I3) (cur2 (fun A54 c55 => ?_))
      refine o_q rfl rfl (za2 rfl) ?_
      refine o_q rfl rfl (za2 rfl) ?_
      refine zaa h (fun l57 hz58 h => ?_) rfl
      refine zaz (p := l0.length = l0.length ∧ l0.length ≤ c0) (fun w h => h.row_nc (i := 1) rfl) (fun hk59 => ?_)
      refine o_q rfl rfl (q_ctv Try.underlying25 Z3 rfl rfl ⟨_, rfl⟩ hk59.1 hk59.2 hz58) ?_
      refine zaa h (fun l60 ha61 h => ?_) rfl
      refine o_e rfl (e_appr (i := 0) Try.underlying25 I3 rfl (by decide) (by decide) (fun _ _ _ _ h => h) rfl (fun w h => C_cut (dk := (Kd.int .i64)) rfl hz58 hk59.2 (h.zas (i := 1) rfl)) rfl rfl ha61) (cur2 (fun A62 c63 => ?_))
      refine o_q rfl rfl (q_asg rfl) ?_
      refine o_end ?_
      refine za1 ?_
      refine c_seq ?_
      refine za0 ?_
      refine o_q rfl rfl (za2 rfl) ?_
      refine o_q rfl rfl (za2 rfl) ?_
      refine o_e rfl (e_lit (vs := [(0, .int .i64 a1)]) (cs := [.int .i64 a1]) (Kd.int .i64) ([a1] : List Int) Try.underlying25 I3 (by decide) rfl (by decide) rfl rfl (fun _ _ => Kd.zao _)) (cur2 (fun A64 c65 => ?_))
      refine zaa h (fun l67 ha68 h => ?_) rfl
      refine o_e rfl (e_app (i := 1) (j := 0) Try.underlying25 I3 rfl (by decide) (by decide) rfl rfl rfl rfl rfl ha68) (cur2 (fun A69 c70 => ?_))
      refine o_q rfl rfl (q_asg rfl) ?_
      refine o_end ?_
      refine za1 ?_
      refine c_seq ?_
      refine za0 ?_
      refine o_q rfl rfl (za2 rfl) ?_
      refine o_q rfl rfl (za2 rfl) ?_
      refine o_q rfl rfl (za2 rfl) ?_
      refine zaa h (fun l71 hz72 h => ?_) rfl
      refine zaz (p := l0.length = l0.length ∧ l0.length ≤ c0) (fun w h => h.row_nc (i := 2) rfl) (fun hk73 => ?_)
      refine o_q rfl rfl (q_ctv Try.underlying25 Z3 rfl ⟨_, rfl⟩ rfl hk73.1 hk73.2 hz72) ?_
      refine zaa h (fun l74 ha75 h => ?_) rfl
      refine o_e rfl (e_appr (i := 1) Try.underlying25 I3 rfl (by decide) (by decide) (fun _ _ _ _ h => h) rfl (fun w h => C_cut (dk := (Kd.int .i64)) rfl hz72 hk73.2 (h.zas (i := 2) rfl)) rfl rfl ha75) (cur2 (fun A76 c77 => ?_))
      refine o_q rfl rfl (q_asg rfl) ?_
      refine o_end ?_
      refine za1 ?_
      refine c_ret ?_
      have e0_ := Option.some.inj h; clear h
      subst e0_
      exact x_r1 (A76, c77) Try.results184 (zaf rfl) rfl (fun w h => za8 [1] (by decide) rfl w h)

/-! ### loop.example/g01098/spec.plUsed: function 112 -/
def spec_plUsed.l0 (k : Nat) (a0_0 : Int) (l0_1 : List SStep) : Nat → (List Int) → (List Int) → Int → Option ((List Int) × (List Int))
  | 0, _, _, _ => none
  | k17 + 1, l8, l11, i14 => if 0 ≤ i14 then ((spec_l1Has.f l8 (w64 (a0_0 + i14))).bind fun b27 => if b27 = true then ((gt l0_1 i14).bind fun y31 => (gt l0_1 i14).bind fun y33 => (ap l8 ([y31.f0, y33.f1] : List Int)).bind fun l37 => (spec_l1Put.f k l11 i14).bind fun l42 => spec_plUsed.l0 k a0_0 l0_1 k17 l37 l42 (w64 (i14 - 1))) else (spec_plUsed.l0 k a0_0 l0_1 k17 l8 l11 (w64 (i14 - 1)))) else (some (l8, l11))
def spec_plUsed.f (k : Nat) (a0_0 : Int) (l0_1 : List SStep) (l0_2 : List Int) : Option (List Int) := (spec_l1Own.f l0_2).bind fun l4 => (spec_plUsed.l0 k a0_0 l0_1 k l4 ([] : List Int) (w64 ((l0_1.length : Int) - 1))).bind fun (l8, l11) => some l11
set_option maxHeartbeats 600000 in
set_option maxRecDepth 100000 in
theorem spec_plUsed.calls (k : Nat) {w0 ws : World} {P0 : Nat → Prop} (a0_0 : Int) (A0_1 : Option Addr) (c0_1 : Nat) (n0_1 : Nat) (l0_1 : List SStep) (A0_2 : Option Addr) (c0_2 : Nat) (n0_2 : Nat) (l0_2 : List Int) (Z : Below w0.heap.size w0 ws) (hF : Fr w0 ws P0 [] ws) (R0_1 : Stable ws P0 (fun w => Kd.C kStep w A0_1 n0_1 l0_1)) (hc0_1 : n0_1 ≤ c0_1) (R0_2 : Stable ws P0 (fun w => Kd.C (Kd.int .i64) w A0_2 n0_2 l0_2)) (hc0_2 : n0_2 ≤ c0_2) (r_1 : List Int) (h : spec_plUsed.f k a0_0 l0_1 l0_2 = some r_1) :
    Calls Try.prog 112 #[.agg #[.int .i64 a0_0, .slice A0_1 n0_1 c0_1, .slice A0_2 n0_2 c0_2]] ws (Post1 w0 ws P0 (fun ((q_2, q_3) : (Option Addr) × Nat) => .slice q_2 r_1.length q_3) (fun ((q_2, q_3) : (Option Addr) × Nat) => [row (Kd.int .i64) 3 (.slice q_2 r_1.length q_3) r_1])) := by
  unfold spec_plUsed.f at h
  obtain rfl := (R0_1 ws (KeptB.refl _ _)).1
  obtain rfl := (R0_2 ws (KeptB.refl _ _)).1
  refine enter Try.func112 rfl Try.ntmps112 rfl hF ?_
  refine c_seq ?_
  refine za0 ?_
  refine o_e rfl (e_box rfl) (fun g1 => ?_)
  refine o_q rfl rfl (q_asg rfl) ?_
  refine o_end ?_
  refine za1 ?_
  refine c_seq ?_
  refine za0 ?_
  refine o_q rfl rfl (q_f F27_2 rfl) ?_
  refine o_q rfl rfl (q_ldb Y25 rfl (fun w h => h.zab (i := 0) rfl) rfl) ?_
  refine zaa h (fun l4 hx3 h => ?_) rfl
  refine o_e rfl (zac 0 Z Try.func96 N96 rfl rfl rfl (fun w P1 hF hB hS hT => spec_l1Own.calls A0_2 c0_2 l0_2.length l0_2 hB hF (hS _ R0_2) hc0_2 _ hx3)) (cur2 (fun A5 c6 => ?_))
  refine o_q rfl rfl (q_asg rfl) ?_
  refine o_end ?_
  refine za1 ?_
  refine c_seq ?_
  refine za0 ?_
  refine o_q rfl rfl (q_asg rfl) ?_
  refine o_end ?_
  refine za1 ?_
  refine c_seq ?_
  refine c_seq ?_
  refine za0 ?_
  refine o_q rfl rfl (q_f F27_1 rfl) ?_
  refine o_q rfl rfl (q_ldb Y24 rfl (fun w h => h.zab (i := 1) rfl) rfl) ?_
  refine o_q rfl rfl (q_len Try.underlying24 rfl) ?_
  refine o_q rfl rfl (q_sub64 rfl rfl) ?_
  refine o_q rfl rfl (q_asg rfl) ?_
  refine o_end ?_
  refine za1 ?_
  refine zaj ?_
  refine c_nil (Kd.int .i64) 3 ?_
  refine zaa h (fun o22 hl21 hR20 => ?_) rfl
  clear h
  refine zaw (σ := (List Int) × (List Int) × Int × (Option Addr) × Nat × (Option Addr) × Nat) (fun k17 ((l8, l11, i14, A9, c10, A12, c13) : (List Int) × (List Int) × Int × (Option Addr) × Nat × (Option Addr) × Nat) => spec_plUsed.l0 k a0_0 l0_1 k17 l8 l11 i14 = some o22) [3, 4, 5, 13, 14, 15, 16, 17, 18, 19, 20, 21, 22, 23, 24, 25, 26, 27, 28, 29, 30, 31, 32, 33, 34, 35, 36, 37, 38, 39, 40] (fun ((l8, l11, i14, A9, c10, A12, c13) : (List Int) × (List Int) × Int × (Option Addr) × Nat × (Option Addr) × Nat) => [(3, .slice A9 l8.length c10), (4, .slice A12 l11.length c13), (5, .int .i64 i14)]) (fun ((l8, l11, i14, A9, c10, A12, c13) : (List Int) × (List Int) × Int × (Option Addr) × Nat × (Option Addr) × Nat) => [row (Kd.int .i64) 3 (.slice A12 l11.length c13) l11, row (Kd.int .i64) 3 (.slice A9 l8.length c10) l8, box g1 27 #[.int .i64 a0_0, .slice A0_1 l0_1.length c0_1, .slice A0_2 l0_2.length c0_2]]) k (l4, ([] : List Int), w64 ((l0_1.length : Int) - 1), A5, c6, none, 0) hl21 ⟨rfl, rfl, rfl, trivial⟩ (fun w h => h) ?_
  refine natC (cur7 (fun l8 l11 i14 A9 c10 A12 c13 => fun U23 hJ_ => ?_)) (fun k17 => (cur7 (fun l8 l11 i14 A9 c10 A12 c13 => fun U23 hJ_ => ?_)))
  · skip
    replace hJ_ : spec_plUsed.l0 k a0_0 l0_1 0 l8 l11 i14 = some o22 := hJ_
    rw [spec_plUsed.l0] at hJ_
    exact noneE hJ_
  · skip
    clear hl21
    have h := hJ_; clear hJ_
    replace h : spec_plUsed.l0 k a0_0 l0_1 (k17 + 1) l8 l11 i14 = some o22 := h
    rw [spec_plUsed.l0] at h
    refine c_seq ?_
    refine c_seq ?_
    refine za0 ?_
    refine o_q rfl rfl (za2 rfl) ?_
    refine o_q rfl rfl (q_geq rfl rfl) ?_
    refine o_end ?_
    refine za1 ?_
    refine zau _ rfl (fun hb25 => ?_) (fun hb25 => ?_)
    · skip
      replace h := br_t hb25 h
      refine zan ?_
      refine za1 ?_
      refine c_seq ?_
      refine zaj ?_
      refine c_seq ?_
      refine za0 ?_
      refine o_q rfl rfl (za2 rfl) ?_
      refine o_q rfl rfl (q_f F27_0 rfl) ?_
      refine o_q rfl rfl (q_ldb Y3 rfl (fun w h => h.zab (i := 2) rfl) rfl) ?_
      refine o_q rfl rfl (za2 rfl) ?_
      refine o_q rfl rfl (q_add64 rfl rfl) ?_
      refine zaa h (fun b27 hx26 h => ?_) rfl
      refine o_e rfl (zac 0 Z Try.func189 N189 rfl rfl rfl (fun w P1 hF hB hS hT => spec_l1Has.calls A9 c10 l8.length l8 (w64 (a0_0 + i14)) hB hF (hT 1 _ rfl).row (hT 1 _ rfl).cap _ hx26)) (fun _ => ?_)
      refine o_end ?_
      refine za1 ?_
      refine zau _ rfl (fun hb28 => ?_) (fun hb28 => ?_)
      · skip
        replace h := bb_t hb28 h
        refine c_seq ?_
        refine a_startS (ds := []) [some 0, none, some 2] MO rfl ?_
        refine za5 0 rfl rfl rfl (by kernel_rfl) (fun _ _ _ h => h) (za2 rfl) ?_
        refine za5 1 rfl rfl rfl (by kernel_rfl) (fun _ _ _ h => h) (q_f F27_1 rfl) ?_
        refine zat 2 rfl rfl rfl (by kernel_rfl) (fun _ _ _ h => h) (fun w h => za7 [some 0, none, some 2] (by decide) w h rfl) (q_ldb Y24 rfl (fun w h => h.zab (i := 2) rfl) rfl) ?_
        refine za5 3 rfl rfl rfl (by kernel_rfl) (fun _ _ _ h => h) (za2 rfl) ?_
        refine a_fact (p := Sh A0_1 l0_1.length l0_1.length) (fun w h => f_sh (dk := kStep) h (fun w h => R0_1.now Z h)) (fun hq29 => ?_)
        refine zaa h (fun y31 hg30 h => ?_) rfl
        refine za5 4 rfl rfl rfl (by kernel_rfl) (fun _ _ _ h => h) (q_ix Try.underlying24 Z89 rfl rfl hq29 hg30) ?_
        refine za5 5 rfl rfl rfl (by kernel_rfl) (fun _ _ _ h => h) (q_fe F89_0 rfl) ?_
        refine zat 6 rfl rfl rfl (by kernel_rfl) (fun _ _ _ h => h) (fun w h => za7 [some 0, none, some 2] (by decide) w h rfl) (q_lde (off := 0) Y3 rfl rfl (fun w h => R0_1.now Z h) hg30 (fun _ _ h => h) rfl) ?_
        refine za5 7 rfl rfl rfl (by kernel_rfl) (fun _ _ _ h => h) (q_f F27_1 rfl) ?_
        refine zat 8 rfl rfl rfl (by kernel_rfl) (fun _ _ _ h => h) (fun w h => za7 [some 0, none, some 2] (by decide) w h rfl) (q_ldb Y24 rfl (fun w h => h.zab (i := 2) rfl) rfl) ?_
        refine za5 9 rfl rfl rfl (by kernel_rfl) (fun _ _ _ h => h) (za2 rfl) ?_
        refine zaa h (fun y33 hg32 h => ?_) rfl
        refine za5 10 rfl rfl rfl (by kernel_rfl) (fun _ _ _ h => h) (q_ix Try.underlying24 Z89 rfl rfl hq29 hg32) ?_
        refine za5 11 rfl rfl rfl (by kernel_rfl) (fun _ _ _ h => h) (q_fe F89_1 rfl) ?_
        refine zat 12 rfl rfl rfl (by kernel_rfl) (fun _ _ _ h => h) (fun w h => za7 [some 0, none, some 2] (by decide) w h rfl) (q_lde (off := 1) Y3 rfl rfl (fun w h => R0_1.now Z h) hg32 (fun _ _ h => h) rfl) ?_
        refine a_one 13 rfl rfl (by kernel_rfl) rfl (e_lit (vs := [(0, .int .i64 y31.f0), (1, .int .i64 y33.f1)]) (cs := [.int .i64 y31.f0, .int .i64 y33.f1]) (Kd.int .i64) ([y31.f0, y33.f1] : List Int) Try.underlying25 I3 (by decide) rfl (by decide) rfl rfl (fun _ _ => Kd.zao _)) (fun s w h => za7 [some 1, none, some 3] (by decide) w h rfl) (cur2 (fun A34 c35 => ?_))
        refine zaa h (fun l37 ha38 h => ?_) rfl
        refine a_one 14 rfl rfl (by kernel_rfl) rfl (e_app (i := 2) (j := 0) Try.underlying25 I3 rfl (by decide) (by decide) rfl rfl rfl rfl rfl ha38) (fun s w h => za7 [some 1, none, some 3] (by decide) w h rfl) (cur2 (fun A39 c40 => ?_))
        refine za5 15 rfl rfl rfl (by kernel_rfl) (fun _ _ _ h => h) (q_asg rfl) ?_
        refine zav (by kernel_rfl) ?_
        refine za1 ?_
        refine za0 ?_
        refine o_q rfl rfl (za2 rfl) ?_
        refine o_q rfl rfl (za2 rfl) ?_
        refine o_pick [1, 2, 3] (by decide) rfl ?_
        refine zaa h (fun l42 hx41 h => ?_) rfl
        refine o_e rfl (zac 1 Z Try.func184 N184 rfl rfl rfl (fun w P1 hF hB hS hT => spec_l1Put.calls k A12 c13 l11.length l11 i14 hB hF _ hx41)) (cur2 (fun A43 c44 => ?_))
        refine o_q rfl rfl (q_asg rfl) ?_
        refine o_end ?_
        refine zal ?_
        refine za1 ?_
        refine za0 ?_
        refine o_q rfl rfl (za2 rfl) ?_
        refine o_q rfl rfl (q_sub64 rfl rfl) ?_
        refine o_q rfl rfl (q_asg rfl) ?_
        refine o_end ?_
        refine zak k17 (l37, l42, w64 (i14 - 1), A39, c40, A43, c44) (Nat.lt_succ_self _) h ⟨rfl, rfl, rfl, trivial⟩ (fun w h => za8 [0, 1, 2] (by decide) rfl w h) ?_
        repeat (first | exact zad _ _ | refine zah rfl ?_ | refine zae rfl ?_ | refine zai rfl ?_)
      · skip
        replace h := bb_f hb28 h
        refine zan ?_
        refine zal ?_
        refine za1 ?_
        refine za0 ?_
        refine o_q rfl rfl (za2 rfl) ?_
        refine o_q rfl rfl (q_sub64 rfl rfl) ?_
        refine o_q rfl rfl (q_asg rfl) ?_
        refine o_end ?_
        refine zak k17 (l8, l11, w64 (i14 - 1), A9, c10, A12, c13) (Nat.lt_succ_self _) h ⟨rfl, rfl, rfl, trivial⟩ (fun w h => za8 [0, 1, 2] (by decide) rfl w h) ?_
        repeat (first | exact zad _ _ | refine zah rfl ?_ | refine zae rfl ?_ | refine zai rfl ?_)
    · skip
      replace h := br_f hb25 h
      refine c_exit ?_
      refine za6 ?_
      refine za6 ?_
      have e_ := Option.some.inj h; replace h := hR20; rw [← e_] at h; clear e_
      refine x_hit ?_
      refine za1 ?_
      refine c_seq ?_
      refine za0 ?_
      refine o_q rfl rfl (za2 rfl) ?_
      refine o_q rfl rfl (q_asg rfl) ?_
      refine o_end ?_
      refine za1 ?_
      refine c_ret ?_
      have e0_ := Option.some.inj h; clear h
      subst e0_
      exact x_r1 (A12, c13) Try.results112 (zaf rfl) rfl (fun w h => za8 [0] (by decide) rfl w h)

/-! ### loop.example/g01098/spec.plPlace: function 185 -/
def spec_plPlace.l0 (a1 : Int) : (List Int) → Int → Option ((Int) ⊕ (Unit))
  | [], i1 => some (.inr ())
  | y2 :: ys3, i1 => if y2 = a1 then (some (.inl i1)) else (spec_plPlace.l0 a1 ys3 (i1 + 1))
def spec_plPlace.f (l0 : List Int) (a1 : Int) : Option Int := (spec_plPlace.l0 a1 l0 0).bind fun o_ => match o_ with | .inl r_ => some r_ | .inr _ => some (-1)
set_option maxHeartbeats 600000 in
set_option maxRecDepth 100000 in
theorem spec_plPlace.calls {w0 ws : World} {P0 : Nat → Prop} (A0 : Option Addr) (c0 : Nat) (n0 : Nat) (l0 : List Int) (a1 : Int) (Z : Below w0.heap.size w0 ws) (hF : Fr w0 ws P0 [] ws) (R0 : Stable ws P0 (fun w => Kd.C (Kd.int .i64) w A0 n0 l0)) (hc0 : n0 ≤ c0) (r_1 : Int) (h : spec_plPlace.f l0 a1 = some r_1) :
    Calls Try.prog 185 #[.slice A0 n0 c0, .int .i64 a1] ws (Post1 w0 ws P0 (fun (_ : Unit) => .int .i64 r_1) (fun (_ : Unit) => [])) := by
  unfold spec_plPlace.f at h
  obtain rfl := (R0 ws (KeptB.refl _ _)).1
  refine enter Try.func185 rfl Try.ntmps185 rfl hF ?_
  refine c_seq ?_
  refine za0 ?_
  refine o_q rfl rfl (q_asg rfl) ?_
  refine o_end ?_
  refine za1 ?_
  refine c_seq ?_
  refine c_seq ?_
  refine za0 ?_
  refine o_q rfl rfl (za2 rfl) ?_
  refine o_q rfl rfl (q_len Try.underlying25 rfl) ?_
  refine o_q rfl rfl (za2 rfl) ?_
  refine o_end ?_
  refine za1 ?_
  refine zaj ?_
  refine zaa h (fun o9 hl8 hR7 => ?_) rfl
  clear h
  refine c_fact (p := l0.length ≤ 9223372036854775807) (fun w h => (R0.now Z h).2.1) (fun hm6 => ?_)
  refine zaw (σ := (List Int) × Int) (fun k4 ((ys3, i1) : (List Int) × Int) => Rg l0 i1 ys3 ∧ ys3.length = k4 ∧ spec_plPlace.l0 a1 ys3 i1 = some o9) [4, 5, 6, 9, 10, 11, 12, 13, 14, 15, 16, 17, 18] (fun ((ys3, i1) : (List Int) × Int) => [(9, .int .i64 i1)]) (fun ((ys3, i1) : (List Int) × Int) => []) l0.length (l0, 0) ⟨Rg.start _, rfl, hl8⟩ ⟨rfl, trivial⟩ (fun w h => h) ?_
  refine fun k4 => cur2 (listC (fun i1 U10 hJ_ => ?_) (fun y2 ys3 i1 U10 hJ_ => ?_))
  · skip
    clear hl8
    have hr5 := hJ_.1; have hk11 := hJ_.2.1; have h := hJ_.2.2; clear hJ_
    replace h : spec_plPlace.l0 a1 [] i1 = some o9 := h
    rw [spec_plPlace.l0] at h
    refine c_seq ?_
    refine za0 ?_
    refine o_q rfl rfl (q_lss rfl rfl) ?_
    refine o_end ?_
    refine za1 ?_
    refine c_seq ?_
    refine c_false (congrArg Value.bool hr5.ge) ?_
    refine c_exit ?_
    refine za6 ?_
    refine za6 ?_
    have e_ := Option.some.inj h; replace h := hR7; rw [← e_] at h; clear e_
    refine x_hit ?_
    refine za1 ?_
    refine c_seq ?_
    refine za0 ?_
    refine o_q rfl rfl (q_asg rfl) ?_
    refine o_end ?_
    refine za1 ?_
    refine c_ret ?_
    have e0_ := Option.some.inj h; clear h
    subst e0_
    exact x_r1 () Try.results185 (zaf rfl) rfl (fun w h => za8 [] (by decide) rfl w h)
  · skip
    clear hl8
    have hr5 := hJ_.1; have hk11 := hJ_.2.1; have h := hJ_.2.2; clear hJ_
    replace h : spec_plPlace.l0 a1 (y2 :: ys3) i1 = some o9 := h
    rw [spec_plPlace.l0] at h
    refine c_seq ?_
    refine za0 ?_
    refine o_q rfl rfl (q_lss rfl rfl) ?_
    refine o_end ?_
    refine za1 ?_
    refine c_seq ?_
    refine c_true (congrArg Value.bool hr5.lt) ?_
    refine zan ?_
    refine za1 ?_
    refine c_seq ?_
    refine zaj ?_
    refine c_seq ?_
    refine za0 ?_
    refine o_q rfl rfl (za2 rfl) ?_
    refine zaz (p := Sh A0 l0.length l0.length) (fun w h => f_sh (dk := (Kd.int .i64)) h (fun w h => R0.now Z h)) (fun hq12 => ?_)
    refine o_q rfl rfl (q_ix Try.underlying25 Z3 rfl rfl hq12 hr5.get) ?_
    refine o_q rfl rfl (q_lde (off := 0) Y3 rfl rfl (fun w h => R0.now Z h) hr5.get (fun _ _ h => h) rfl) ?_
    refine o_q rfl rfl (q_asg rfl) ?_
    refine o_q rfl rfl (q_asg rfl) ?_
    refine o_end ?_
    refine za1 ?_
    refine c_seq ?_
    refine za0 ?_
    refine o_q rfl rfl (za2 rfl) ?_
    refine o_q rfl rfl (za2 rfl) ?_
    refine o_q rfl rfl (q_eql rfl rfl) ?_
    refine o_end ?_
    refine za1 ?_
    refine zau _ rfl (fun hb13 => ?_) (fun hb13 => ?_)
    · skip
      replace h := br_t hb13 h
      refine c_seq ?_
      refine za0 ?_
      refine o_q rfl rfl (za2 rfl) ?_
      refine o_q rfl rfl (q_asg rfl) ?_
      refine o_end ?_
      refine za1 ?_
      refine c_ret ?_
      refine zam ?_
      refine za9 ?_
      refine za9 ?_
      have e_ := Option.some.inj h; replace h := hR7; rw [← e_] at h; clear e_
      refine zam ?_
      refine za9 ?_
      have e0_ := Option.some.inj h; clear h
      subst e0_
      exact x_r1 () Try.results185 (zaf rfl) rfl (fun w h => za8 [] (by decide) rfl w h)
    · skip
      replace h := br_f hb13 h
      refine zan ?_
      refine zal ?_
      refine za1 ?_
      refine za0 ?_
      refine o_q rfl rfl (q_up rfl rfl (hr5.up hm6)) ?_
      refine o_q rfl rfl (za2 rfl) ?_
      refine o_end ?_
      refine zak ys3.length (ys3, i1 + 1) (by rw [← hk11]; exact Nat.lt_succ_self _) ⟨hr5.step, rfl, h⟩ ⟨rfl, trivial⟩ (fun w h => za8 [] (by decide) rfl w h) ?_
      repeat (first | exact zad _ _ | refine zah rfl ?_ | refine zae rfl ?_ | refine zai rfl ?_)

/-! ### loop.example/g01098/spec.plNumber: function 188 -/
def spec_plNumber.f (a0_0 : Int) (l0_1 : List SStep) (l0_2 : List Int) (l1 : List Int) (a2 : Int) : Option Int := if a2 < a0_0 then (some a2) else ((spec_plPlace.f l1 (w64 (a2 - a0_0))).bind fun i5 => some (w64 (a0_0 + i5)))
set_option maxHeartbeats 600000 in
set_option maxRecDepth 100000 in
theorem spec_plNumber.calls {w0 ws : World} {P0 : Nat → Prop} (a0_0 : Int) (A0_1 : Option Addr) (c0_1 : Nat) (n0_1 : Nat) (l0_1 : List SStep) (A0_2 : Option Addr) (c0_2 : Nat) (n0_2 : Nat) (l0_2 : List Int) (A1 : Option Addr) (c1 : Nat) (n1 : Nat) (l1 : List Int) (a2 : Int) (Z : Below w0.heap.size w0 ws) (hF : Fr w0 ws P0 [] ws) (R0_1 : Stable ws P0 (fun w => Kd.C kStep w A0_1 n0_1 l0_1)) (hc0_1 : n0_1 ≤ c0_1) (R0_2 : Stable ws P0 (fun w => Kd.C (Kd.int .i64) w A0_2 n0_2 l0_2)) (hc0_2 : n0_2 ≤ c0_2) (R1 : Stable ws P0 (fun w => Kd.C (Kd.int .i64) w A1 n1 l1)) (hc1 : n1 ≤ c1) (r_1 : Int) (h : spec_plNumber.f a0_0 l0_1 l0_2 l1 a2 = some r_1) :
    Calls Try.prog 188 #[.agg #[.int .i64 a0_0, .slice A0_1 n0_1 c0_1, .slice A0_2 n0_2 c0_2], .slice A1 n1 c1, .int .i64 a2] ws (Post1 w0 ws P0 (fun (_ : Unit) => .int .i64 r_1) (fun (_ : Unit) => [])) := by
  unfold spec_plNumber.f at h
  obtain rfl := (R0_1 ws (KeptB.refl _ _)).1
  obtain rfl := (R0_2 ws (KeptB.refl _ _)).1
  obtain rfl := (R1 ws (KeptB.refl _ _)).1
  refine enter Try.func188 rfl Try.ntmps188 rfl hF ?_
  refine c_seq ?_
  refine za0 ?_
  refine o_e rfl (e_box rfl) (fun g1 => ?_)
  refine o_q rfl rfl (q_asg rfl) ?_
  refine o_end ?_
  refine za1 ?_
  refine c_seq ?_
  refine c_seq ?_
  refine za0 ?_
  refine o_q rfl rfl (za2 rfl) ?_
  refine o_q rfl rfl (q_f F27_0 rfl) ?_
  refine o_q rfl rfl (q_ldb Y3 rfl (fun w h => h.zab (i := 0) rfl) rfl) ?_
  refine o_q rfl rfl (q_lss rfl rfl) ?_
  refine o_end ?_
  refine za1 ?_
  refine zau _ rfl (fun hb3 => ?_) (fun hb3 => ?_)
  · skip
    replace h := br_t hb3 h
    refine c_seq ?_
    refine za0 ?_
    refine o_q rfl rfl (za2 rfl) ?_
    refine o_q rfl rfl (q_asg rfl) ?_
    refine o_end ?_
    refine za1 ?_
    refine c_ret ?_
    refine za9 ?_
    have e0_ := Option.some.inj h; clear h
    subst e0_
    exact x_r1 () Try.results188 (zaf rfl) rfl (fun w h => za8 [] (by decide) rfl w h)
  · skip
    replace h := br_f hb3 h
    refine zan ?_
    refine za1 ?_
    refine c_seq ?_
    refine a_start (ds := []) MO rfl ?_
    refine za5 0 rfl rfl rfl (by kernel_rfl) (fun _ _ _ h => h) (q_f F27_0 rfl) ?_
    refine zat 1 rfl rfl rfl (by kernel_rfl) (fun _ _ _ h => h) (fun w h => h) (q_ldb Y3 rfl (fun w h => h.zab (i := 0) rfl) rfl) ?_
    refine za5 2 rfl rfl rfl (by kernel_rfl) (fun _ _ _ h => h) (za2 rfl) ?_
    refine za5 3 rfl rfl rfl (by kernel_rfl) (fun _ _ _ h => h) (za2 rfl) ?_
    refine za5 4 rfl rfl rfl (by kernel_rfl) (fun _ _ _ h => h) (q_f F27_0 rfl) ?_
    refine zat 5 rfl rfl rfl (by kernel_rfl) (fun _ _ _ h => h) (fun w h => h) (q_ldb Y3 rfl (fun w h => h.zab (i := 0) rfl) rfl) ?_
    refine za5 6 rfl rfl rfl (by kernel_rfl) (fun _ _ _ h => h) (q_sub64 rfl rfl) ?_
    refine zaa h (fun i5 hx4 h => ?_) rfl
    refine a_one 7 rfl rfl (by kernel_rfl) rfl (zac 0 Z Try.func185 N185 rfl rfl rfl (fun w P1 hF hB hS hT => spec_plPlace.calls A1 c1 l1.length l1 (w64 (a2 - a0_0)) hB hF (hS _ R1) hc1 _ hx4)) (fun s w h => h) (fun _ => ?_)
    refine za5 8 rfl rfl rfl (by kernel_rfl) (fun _ _ _ h => h) (q_add64 rfl rfl) ?_
    refine za5 9 rfl rfl rfl (by kernel_rfl) (fun _ _ _ h => h) (q_asg rfl) ?_
    refine zav (by kernel_rfl) ?_
    refine za1 ?_
    refine c_ret ?_
    have e0_ := Option.some.inj h; clear h
    subst e0_
    exact x_r1 () Try.results188 (zaf rfl) rfl (fun w h => za8 [] (by decide) rfl w h)

/-! ### loop.example/g01098/spec.plKeep: function 111 -/
def spec_plKeep.l1 (a0_0 : Int) (l0_1 : List SStep) (l0_2 : List Int) (l1 : List Int) : (List Int) → (List Int) → Int → Option (List Int)
  | [], l23, i26 => some l23
  | y27 :: ys28, l23, i26 => (spec_plNumber.f a0_0 l0_1 l0_2 l1 y27).bind fun i340 => (ap l23 ([i340] : List Int)).bind fun l459 => spec_plKeep.l1 a0_0 l0_1 l0_2 l1 ys28 l459 (i26 + 1)
def spec_plKeep.l0 (a0_0 : Int) (l0_1 : List SStep) (l0_2 : List Int) (l1 : List Int) : (List Int) → (List SStep) → Int → Option (List SStep)
  | [], l8, i11 => some l8
  | y12 :: ys13, l8, i11 => (gt l0_1 y12).bind fun y702 => (spec_plNumber.f a0_0 l0_1 l0_2 l1 y702.f0).bind fun i1067 => (spec_plNumber.f a0_0 l0_1 l0_2 l1 y702.f1).bind fun i1367 => (spec_plStep.f i1067 i1367).bind fun z1427 => (ap l8 ([z1427] : List SStep)).bind fun l1546 => spec_plKeep.l0 a0_0 l0_1 l0_2 l1 ys13 l1546 (i11 + 1)
def spec_plKeep.f (a0_0 : Int) (l0_1 : List SStep) (l0_2 : List Int) (l1 : List Int) : Option ((List SStep) × (List Int)) := (spec_plKeep.l0 a0_0 l0_1 l0_2 l1 l1 ([] : List SStep) 0).bind fun l8 => (spec_plKeep.l1 a0_0 l0_1 l0_2 l1 l0_2 ([] : List Int) 0).bind fun l23 => some (l8, l23)
set_option maxHeartbeats 600000 in
set_option maxRecDepth 100000 in
theorem spec_plKeep.calls {w0 ws : World} {P0 : Nat → Prop} (a0_0 : Int) (A0_1 : Option Addr) (c0_1 : Nat) (n0_1 : Nat) (l0_1 : List SStep) (A0_2 : Option Addr) (c0_2 : Nat) (n0_2 : Nat) (l0_2 : List Int) (A1 : Option Addr) (c1 : Nat) (n1 : Nat) (l1 : List Int) (Z : Below w0.heap.size w0 ws) (hF : Fr w0 ws P0 [] ws) (R0_1 : Stable ws P0 (fun w => Kd.C kStep w A0_1 n0_1 l0_1)) (hc0_1 : n0_1 ≤ c0_1) (R0_2 : Stable ws P0 (fun w => Kd.C (Kd.int .i64) w A0_2 n0_2 l0_2)) (hc0_2 : n0_2 ≤ c0_2) (R1 : Stable ws P0 (fun w => Kd.C (Kd.int .i64) w A1 n1 l1)) (hc1 : n1 ≤ c1) (r_1 : List SStep) (r_4 : List Int) (h : spec_plKeep.f a0_0 l0_1 l0_2 l1 = some (r_1, r_4)) :
    Calls Try.prog 111 #[.agg #[.int .i64 a0_0, .slice A0_1 n0_1 c0_1, .slice A0_2 n0_2 c0_2], .slice A1 n1 c1] ws (Post1 w0 ws P0 (fun ((q_2, q_3, q_5, q_6) : (Option Addr) × Nat × (Option Addr) × Nat) => .agg #[.int .i64 a0_0, .slice q_2 r_1.length q_3, .slice q_5 r_4.length q_6]) (fun ((q_2, q_3, q_5, q_6) : (Option Addr) × Nat × (Option Addr) × Nat) => [row kStep 89 (.slice q_2 r_1.length q_3) r_1, row (Kd.int .i64) 3 (.slice q_5 r_4.length q_6) r_4])) := by
  unfold spec_plKeep.f at h
  obtain rfl := (R0_1 ws (KeptB.refl _ _)).1
  obtain rfl := (R0_2 ws (KeptB.refl _ _)).1
  obtain rfl := (R1 ws (KeptB.refl _ _)).1
  refine enter Try.func111 rfl Try.ntmps111 rfl hF ?_
  refine c_seq ?_
  refine za0 ?_
  refine o_e rfl (e_box rfl) (fun g1 => ?_)
  refine o_e rfl (e_alloc V27 rfl) (fun g3 => ?_)
  refine o_end ?_
  refine za1 ?_
  refine c_seq ?_
  refine za0 ?_
  refine o_q rfl rfl (q_f F27_0 rfl) ?_
  refine o_q rfl rfl (q_ldb Y3 rfl (fun w h => h.zab (i := 1) rfl) rfl) ?_
  refine o_q rfl rfl (q_build (vs := [(0, .int .i64 a0_0)]) (cs := [.int .i64 a0_0, .slice none 0 0, .slice none 0 0]) rfl rfl) ?_
  refine o_e rfl (e_alloc V27 rfl) (fun g5 => ?_)
  refine o_e rfl (zax (i := 0) rfl rfl rfl Z27 rfl rfl) (fun _ => ?_)
  refine o_end ?_
  refine za1 ?_
  refine c_seq ?_
  refine c_seq ?_
  refine za0 ?_
  refine o_q rfl rfl (za2 rfl) ?_
  refine o_q rfl rfl (q_len Try.underlying25 rfl) ?_
  refine o_q rfl rfl (za2 rfl) ?_
  refine o_end ?_
  refine za1 ?_
  refine zaj ?_
  refine c_nil kStep 89 ?_
  refine zaa h (fun o19 hl18 hR17 => ?_) rfl
  clear h
  refine c_fact (p := l1.length ≤ 9223372036854775807) (fun w h => (R1.now Z h).2.1) (fun hm16 => ?_)
  refine zaw (σ := (List Int) × (List SStep) × Int × (Option Addr) × Nat) (fun k14 ((ys13, l8, i11, A9, c10) : (List Int) × (List SStep) × Int × (Option Addr) × Nat) => Rg l1 i11 ys13 ∧ ys13.length = k14 ∧ spec_plKeep.l0 a0_0 l0_1 l0_2 l1 ys13 l8 i11 = some o19) [7, 8, 16, 17, 18, 19, 20, 21, 22, 23, 24, 25, 26, 27, 28, 29, 30, 31, 32, 33, 34, 35, 36, 37, 38, 39, 40, 41] (fun ((ys13, l8, i11, A9, c10) : (List Int) × (List SStep) × Int × (Option Addr) × Nat) => [(16, .int .i64 i11)]) (fun ((ys13, l8, i11, A9, c10) : (List Int) × (List SStep) × Int × (Option Addr) × Nat) => [row kStep 89 (.slice A9 l8.length c10) l8, box g5 27 #[.int .i64 a0_0, .slice A9 l8.length c10, .slice none 0 0], box g3 27 #[.int .i64 0, .slice none 0 0, .slice none 0 0], box g1 27 #[.int .i64 a0_0, .slice A0_1 l0_1.length c0_1, .slice A0_2 l0_2.length c0_2]]) l1.length (l1, ([] : List SStep), 0, none, 0) ⟨Rg.start _, rfl, hl18⟩ ⟨rfl, trivial⟩ (fun w h => h) ?_
  refine fun k14 => cur5 (listC (fun l8 i11 A9 c10 U20 hJ_ => ?_) (fun y12 ys13 l8 i11 A9 c10 U20 hJ_ => ?_))
  · skip
    clear hl18
    have hr15 := hJ_.1; have hk21 := hJ_.2.1; have h := hJ_.2.2; clear hJ_
    replace h : spec_plKeep.l0 a0_0 l0_1 l0_2 l1 [] l8 i11 = some o19 := h
    rw [spec_plKeep.l0] at h
    refine c_seq ?_
    refine za0 ?_
    refine o_q rfl rfl (q_lss rfl rfl) ?_
    refine o_end ?_
    refine za1 ?_
    refine c_seq ?_
    refine c_false (congrArg Value.bool hr15.ge) ?_
    refine c_exit ?_
    refine za6 ?_
    refine za6 ?_
    have e_ := Option.some.inj h; replace h := hR17; rw [← e_] at h; clear e_
    refine x_hit ?_
    refine za1 ?_
    refine c_seq ?_
    refine c_seq ?_
    refine za0 ?_
    refine o_q rfl rfl (q_f F27_2 rfl) ?_
    refine o_q rfl rfl (q_ldb Y25 rfl (fun w h => h.zab (i := 3) rfl) rfl) ?_
    refine o_q rfl rfl (q_len Try.underlying25 rfl) ?_
    refine o_q rfl rfl (za2 rfl) ?_
    refine o_end ?_
    refine za1 ?_
    refine zaj ?_
    refine c_nil (Kd.int .i64) 3 ?_
    refine zaa h (fun o34 hl33 hR32 => ?_) rfl
    clear h
    refine c_fact (p := l0_2.length ≤ 9223372036854775807) (fun w h => (R0_2.now Z h).2.1) (fun hm31 => ?_)
    refine zaw (σ := (List Int) × (List Int) × Int × (Option Addr) × Nat) (fun k29 ((ys28, l23, i26, A24, c25) : (List Int) × (List Int) × Int × (Option Addr) × Nat) => Rg l0_2 i26 ys28 ∧ ys28.length = k29 ∧ spec_plKeep.l1 a0_0 l0_1 l0_2 l1 ys28 l23 i26 = some o34) [10, 45, 46, 47, 48, 49, 50, 51, 52, 53, 54, 55, 56, 57, 58] (fun ((ys28, l23, i26, A24, c25) : (List Int) × (List Int) × Int × (Option Addr) × Nat) => [(45, .int .i64 i26)]) (fun ((ys28, l23, i26, A24, c25) : (List Int) × (List Int) × Int × (Option Addr) × Nat) => [row (Kd.int .i64) 3 (.slice A24 l23.length c25) l23, row kStep 89 (.slice A9 l8.length c10) l8, box g5 27 #[.int .i64 a0_0, .slice A9 l8.length c10, .slice A24 l23.length c25], box g3 27 #[.int .i64 0, .slice none 0 0, .slice none 0 0], box g1 27 #[.int .i64 a0_0, .slice A0_1 l0_1.length c0_1, .slice A0_2 l0_2.length c0_2]]) l0_2.length (l0_2, ([] : List Int), 0, none, 0) ⟨Rg.start _, rfl, hl33⟩ ⟨rfl, trivial⟩ (fun w h => h) ?_
    refine fun k29 => cur5 (listC (fun l23 i26 A24 c25 U35 hJ_ => ?_) (fun y27 ys28 l23 i26 A24 c25 U35 hJ_ => ?_))
    · skip
      clear hl33
      have hr30 := hJ_.1; have hk36 := hJ_.2.1; have h := hJ_.2.2; clear hJ_
      replace h : spec_plKeep.l1 a0_0 l0_1 l0_2 l1 [] l23 i26 = some o34 := h
      rw [spec_plKeep.l1] at h
      refine c_seq ?_
      refine za0 ?_
      refine o_q rfl rfl (q_lss rfl rfl) ?_
      refine o_end ?_
      refine za1 ?_
      refine c_seq ?_
      refine c_false (congrArg Value.bool hr30.ge) ?_
      refine c_exit ?_
      refine za6 ?_
      refine za6 ?_
      have e_ := Option.some.inj h; replace h := hR32; rw [← e_] at h; clear e_
      refine x_hit ?_
      refine za1 ?_
      refine c_seq ?_
      refine za0 ?_
      refine o_q rfl rfl (q_ldB G27 Z27 rfl (fun w h => h.zab (i := 2) rfl) rfl) ?_
      refine o_e rfl (zax (i := 3) rfl rfl rfl Z27 rfl rfl) (fun _ => ?_)
      refine o_end ?_
      refine za1 ?_
      refine c_ret ?_
      have e0_ := Option.some.inj h; clear h
      have d0_ := (Prod.mk.inj e0_).1; have e1_ := (Prod.mk.inj e0_).2; clear e0_; subst d0_
      subst e1_
      exact x_r1 (A9, c10, A24, c25) Try.results111 (rv_cell rfl G27 Z27 (fun w h => h.zab (i := 3) rfl) rfl) rfl (fun w h => za8 [1, 0] (by decide) rfl w h)
    · skip
      clear hl33
      have hr30 := hJ_.1; have hk36 := hJ_.2.1; have h := hJ_.2.2; clear hJ_
      replace h : spec_plKeep.l1 a0_0 l0_1 l0_2 l1 (y27 :: ys28) l23 i26 = some o34 := h
      rw [spec_plKeep.l1] at h
      refine c_seq ?_
      refine za0 ?_
      refine o_q rfl rfl (q_lss rfl rfl) ?_
      refine o_end ?_
      refine za1 ?_
      refine c_seq ?_
      refine c_true (congrArg Value.bool hr30.lt) ?_
      refine zan ?_
      refine za1 ?_
      refine c_seq ?_
      refine zaj ?_
      refine c_seq ?_
      refine za0 ?_
      refine zaz (p := Sh A0_2 l0_2.length l0_2.length) (fun w h => f_sh (dk := (Kd.int .i64)) h (fun w h => R0_2.now Z h)) (fun hq37 => ?_)
      refine o_q rfl rfl (q_ix Try.underlying25 Z3 rfl rfl hq37 hr30.get) ?_
      refine o_q rfl rfl (q_lde (off := 0) Y3 rfl rfl (fun w h => R0_2.now Z h) hr30.get (fun _ _ h => h) rfl) ?_
      refine o_q rfl rfl (q_asg rfl) ?_
      refine o_end ?_
      refine za1 ?_
      refine zaa h (fun i340 hx339 h => ?_) rfl
      refine zaa h (fun l459 ha460 h => ?_) rfl
      refine a_startS (ds := []) [none, some 1, none, some 3, some 4] MO rfl ?_
      refine za5 0 rfl rfl rfl (by kernel_rfl) (fun _ _ _ h => h) (q_f F27_2 rfl) ?_
      refine zat 2 rfl rfl rfl (by kernel_rfl) (fun _ _ _ h => h) (fun w h => za7 [none, some 1, none, some 3, some 4] (by decide) w h rfl) (q_ldB G27 Z27 rfl (fun w h => h.zab (i := 4) rfl) rfl) ?_
      refine za5 3 rfl rfl rfl (by kernel_rfl) (fun _ _ _ h => h) (za2 rfl) ?_
      refine za5 4 rfl rfl rfl (by kernel_rfl) (fun _ _ _ h => h) (za2 rfl) ?_
      refine a_two 1 5 rfl rfl rfl rfl (by kernel_rfl) rfl rfl (ev_q rfl (q_ldb Y25 rfl (fun w h => h.zab (i := 2) rfl) rfl)) (fun s w h => za7 [none, some 1, none, some 3, some 4] (by decide) w h rfl) (zac 0 Z Try.func188 N188 rfl rfl rfl (fun w P1 hF hB hS hT => spec_plNumber.calls a0_0 A0_1 c0_1 l0_1.length l0_1 A0_2 c0_2 l0_2.length l0_2 A1 c1 l1.length l1 y27 hB hF (hS _ R0_1) hc0_1 (hS _ R0_2) hc0_2 (hS _ R1) hc1 _ hx339)) (fun s w h => za7 [none, some 1, none, some 3, some 4] (by decide) w h rfl) (fun _ => ?_) (fun _ => ?_)
      · skip
        refine a_one 5 rfl rfl (by kernel_rfl) rfl (zac 0 Z Try.func188 N188 rfl rfl rfl (fun w P1 hF hB hS hT => spec_plNumber.calls a0_0 A0_1 c0_1 l0_1.length l0_1 A0_2 c0_2 l0_2.length l0_2 A1 c1 l1.length l1 y27 hB hF (hS _ R0_1) hc0_1 (hS _ R0_2) hc0_2 (hS _ R1) hc1 _ hx339)) (fun s w h => za7 [none, some 1, none, some 3, some 4] (by decide) w h rfl) (fun _ => ?_)
        refine a_one 6 rfl rfl (by kernel_rfl) rfl (e_lit (vs := [(0, .int .i64 i340)]) (cs := [.int .i64 i340]) (Kd.int .i64) ([i340] : List Int) Try.underlying25 I3 (by decide) rfl (by decide) rfl rfl (fun _ _ => Kd.zao _)) (fun s w h => za7 [none, some 2, none, some 4, some 5] (by decide) w h rfl) (cur2 (fun A399 c400 => ?_))
        refine a_one 7 rfl rfl (by kernel_rfl) rfl (e_app (i := 1) (j := 0) Try.underlying25 I3 rfl (by decide) (by decide) rfl rfl rfl rfl rfl ha460) (fun s w h => za7 [none, some 2, none, some 4, some 5] (by decide) w h rfl) (cur2 (fun A461 c462 => ?_))
        refine za5 8 rfl rfl rfl (by kernel_rfl) (fun _ _ _ h => h) (q_f F27_2 rfl) ?_
        refine a_one 9 rfl rfl (by kernel_rfl) rfl (zay (i := 3) rfl rfl rfl rfl Z25 rfl rfl) (fun s w h => za7 [none, some 2, none, some 4, some 5] (by decide) w h rfl) (fun _ => ?_)
        refine zav (by kernel_rfl) ?_
        refine zal ?_
        refine za1 ?_
        refine za0 ?_
        refine o_q rfl rfl (q_up rfl rfl (hr30.up hm31)) ?_
        refine o_q rfl rfl (za2 rfl) ?_
        refine o_end ?_
        refine zak ys28.length (ys28, l459, i26 + 1, A461, c462) (by rw [← hk36]; exact Nat.lt_succ_self _) ⟨hr30.step, rfl, h⟩ ⟨rfl, trivial⟩ (fun w h => za8 [1, 2, 3, 4, 5] (by decide) rfl w h) ?_
        repeat (first | exact zad _ _ | refine zah rfl ?_ | refine zae rfl ?_ | refine zai rfl ?_)
      · skip
        refine a_two 1 6 rfl rfl rfl rfl (by kernel_rfl) rfl rfl (ev_q rfl (q_ldb Y25 rfl (fun w h => h.zab (i := 2) rfl) rfl)) (fun s w h => za7 [none, some 1, none, some 3, some 4] (by decide) w h rfl) (e_lit (vs := [(0, .int .i64 i340)]) (cs := [.int .i64 i340]) (Kd.int .i64) ([i340] : List Int) Try.underlying25 I3 (by decide) rfl (by decide) rfl rfl (fun _ _ => Kd.zao _)) (fun s w h => za7 [none, some 2, none, some 4, some 5] (by decide) w h rfl) (fun _ => ?_) (cur2 (fun A399 c400 => ?_))
        · skip
          refine a_one 6 rfl rfl (by kernel_rfl) rfl (e_lit (vs := [(0, .int .i64 i340)]) (cs := [.int .i64 i340]) (Kd.int .i64) ([i340] : List Int) Try.underlying25 I3 (by decide) rfl (by decide) rfl rfl (fun _ _ => Kd.zao _)) (fun s w h => za7 [none, some 2, none, some 4, some 5] (by decide) w h rfl) (cur2 (fun A399 c400 => ?_))
          refine a_one 7 rfl rfl (by kernel_rfl) rfl (e_app (i := 1) (j := 0) Try.underlying25 I3 rfl (by decide) (by decide) rfl rfl rfl rfl rfl ha460) (fun s w h => za7 [none, some 2, none, some 4, some 5] (by decide) w h rfl) (cur2 (fun A461 c462 => ?_))
          refine za5 8 rfl rfl rfl (by kernel_rfl) (fun _ _ _ h => h) (q_f F27_2 rfl) ?_
          refine a_one 9 rfl rfl (by kernel_rfl) rfl (zay (i := 3) rfl rfl rfl rfl Z25 rfl rfl) (fun s w h => za7 [none, some 2, none, some 4, some 5] (by decide) w h rfl) (fun _ => ?_)
          refine zav (by kernel_rfl) ?_
          refine zal ?_
          refine za1 ?_
          refine za0 ?_
          refine o_q rfl rfl (q_up rfl rfl (hr30.up hm31)) ?_
          refine o_q rfl rfl (za2 rfl) ?_
          refine o_end ?_
          refine zak ys28.length (ys28, l459, i26 + 1, A461, c462) (by rw [← hk36]; exact Nat.lt_succ_self _) ⟨hr30.step, rfl, h⟩ ⟨rfl, trivial⟩ (fun w h => za8 [1, 2, 3, 4, 5] (by decide) rfl w h) ?_
          repeat (first | exact zad _ _ | refine zah rfl ?_ | refine zae rfl ?_ | refine zai rfl ?_)
        · skip
          refine a_one 1 rfl rfl (by kernel_rfl) rfl (ev_q rfl (q_ldb Y25 rfl (fun w h => h.zab (i := 3) rfl) rfl)) (fun s w h => za7 [none, some 2, none, some 4, some 5] (by decide) w h rfl) (fun _ => ?_)
          refine a_one 7 rfl rfl (by kernel_rfl) rfl (e_app (i := 1) (j := 0) Try.underlying25 I3 rfl (by decide) (by decide) rfl rfl rfl rfl rfl ha460) (fun s w h => za7 [none, some 2, none, some 4, some 5] (by decide) w h rfl) (cur2 (fun A461 c462 => ?_))
          refine za5 8 rfl rfl rfl (by kernel_rfl) (fun _ _ _ h => h) (q_f F27_2 rfl) ?_
          refine a_one 9 rfl rfl (by kernel_rfl) rfl (zay (i := 3) rfl rfl rfl rfl Z25 rfl rfl) (fun s w h => za7 [none, some 2, none, some 4, some 5] (by decide) w h rfl) (fun _ => ?_)
          refine zav (by kernel_rfl) ?_
          refine zal ?_
          refine za1 ?_
          refine za0 ?_
          refine o_q rfl rfl (q_up rfl rfl (hr30.up hm31)) ?_
          refine o_q rfl rfl (za2 rfl) ?_
          refine o_end ?_
          refine zak ys28.length (ys28, l459, i26 + 1, A461, c462) (by rw [← hk36]; exact Nat.lt_succ_self _) ⟨hr30.step, rfl, h⟩ ⟨rfl, trivial⟩ (fun w h => za8 [1, 2, 3, 4, 5] (by decide) rfl w h) ?_
          repeat (first | exact zad _ _ | refine zah rfl ?_ | refine zae rfl ?_ | refine zai rfl ?_)
  · skip
    clear hl18
    have hr15 := hJ_.1; have hk21 := hJ_.2.1; have h := hJ_.2.2; clear hJ_
    replace h : spec_plKeep.l0 a0_0 l0_1 l0_2 l1 (y12 :: ys13) l8 i11 = some o19 := h
    rw [spec_plKeep.l0] at h
    refine c_seq ?_
    refine za0 ?_
    refine o_q rfl rfl (q_lss rfl rfl) ?_
    refine o_end ?_
    refine za1 ?_
    refine c_seq ?_
    refine c_true (congrArg Value.bool hr15.lt) ?_
    refine zan ?_
    refine za1 ?_
    refine c_seq ?_
    refine zaj ?_
    refine c_seq ?_
    refine za0 ?_
    refine zaz (p := Sh A1 l1.length l1.length) (fun w h => f_sh (dk := (Kd.int .i64)) h (fun w h => R1.now Z h)) (fun hq699 => ?_)
    refine o_q rfl rfl (q_ix Try.underlying25 Z3 rfl rfl hq699 hr15.get) ?_
    refine o_q rfl rfl (q_lde (off := 0) Y3 rfl rfl (fun w h => R1.now Z h) hr15.get (fun _ _ h => h) rfl) ?_
    refine o_q rfl rfl (q_asg rfl) ?_
    refine o_end ?_
    refine za1 ?_
    refine c_seq ?_
    refine za0 ?_
    refine o_q rfl rfl (q_f F27_1 rfl) ?_
    refine o_q rfl rfl (q_ldb Y24 rfl (fun w h => h.zab (i := 3) rfl) rfl) ?_
    refine o_q rfl rfl (za2 rfl) ?_
    refine zaz (p := Sh A0_1 l0_1.length l0_1.length) (fun w h => f_sh (dk := kStep) h (fun w h => R0_1.now Z h)) (fun hq700 => ?_)
    refine zaa h (fun y702 hg701 h => ?_) rfl
    refine o_q rfl rfl (q_ix Try.underlying24 Z89 rfl rfl hq700 hg701) ?_
    refine o_q rfl rfl (q_ldE G89 Z89 rfl rfl (fun w h => R0_1.now Z h) hg701 (fun _ _ h => h) rfl) ?_
    refine o_e rfl (e_alloc V89 rfl) (fun g703 => ?_)
    refine o_e rfl (zax (i := 0) rfl rfl rfl Z89 rfl rfl) (fun _ => ?_)
    refine o_end ?_
    refine za1 ?_
    refine zaa h (fun i1067 hx1066 h => ?_) rfl
    refine zaa h (fun i1367 hx1366 h => ?_) rfl
    refine zaa h (fun z1427 hx1426 h => ?_) rfl
    refine zaa h (fun l1546 ha1547 h => ?_) rfl
    refine a_startS (ds := []) [some 0, none, none, some 3, some 4] MO rfl ?_
    refine za5 0 rfl rfl rfl (by kernel_rfl) (fun _ _ _ h => h) (q_f F27_1 rfl) ?_
    refine zat 2 rfl rfl rfl (by kernel_rfl) (fun _ _ _ h => h) (fun w h => za7 [some 0, none, none, some 3, some 4] (by decide) w h rfl) (q_ldB G27 Z27 rfl (fun w h => h.zab (i := 4) rfl) rfl) ?_
    refine za5 3 rfl rfl rfl (by kernel_rfl) (fun _ _ _ h => h) (za2 rfl) ?_
    refine za5 4 rfl rfl rfl (by kernel_rfl) (fun _ _ _ h => h) (q_f F89_0 rfl) ?_
    refine zat 5 rfl rfl rfl (by kernel_rfl) (fun _ _ _ h => h) (fun w h => za7 [some 0, none, none, some 3, some 4] (by decide) w h rfl) (q_ldb Y3 rfl (fun w h => h.zab (i := 0) rfl) rfl) ?_
    refine zat 7 rfl rfl rfl (by kernel_rfl) (fun _ _ _ h => h) (fun w h => za7 [some 0, none, none, some 3, some 4] (by decide) w h rfl) (q_ldB G27 Z27 rfl (fun w h => h.zab (i := 4) rfl) rfl) ?_
    refine za5 8 rfl rfl rfl (by kernel_rfl) (fun _ _ _ h => h) (za2 rfl) ?_
    refine za5 9 rfl rfl rfl (by kernel_rfl) (fun _ _ _ h => h) (q_f F89_1 rfl) ?_
    refine zat 10 rfl rfl rfl (by kernel_rfl) (fun _ _ _ h => h) (fun w h => za7 [some 0, none, none, some 3, some 4] (by decide) w h rfl) (q_ldb Y3 rfl (fun w h => h.zab (i := 0) rfl) rfl) ?_
    refine a_two 1 6 rfl rfl rfl rfl (by kernel_rfl) rfl rfl (ev_q rfl (q_ldb Y24 rfl (fun w h => h.zab (i := 2) rfl) rfl)) (fun s w h => za7 [some 0, none, none, some 3, some 4] (by decide) w h rfl) (zac 0 Z Try.func188 N188 rfl rfl rfl (fun w P1 hF hB hS hT => spec_plNumber.calls a0_0 A0_1 c0_1 l0_1.length l0_1 A0_2 c0_2 l0_2.length l0_2 A1 c1 l1.length l1 y702.f0 hB hF (hS _ R0_1) hc0_1 (hS _ R0_2) hc0_2 (hS _ R1) hc1 _ hx1066)) (fun s w h => za7 [some 0, none, none, some 3, some 4] (by decide) w h rfl) (fun _ => ?_) (fun _ => ?_)
    · skip
      refine a_one 6 rfl rfl (by kernel_rfl) rfl (zac 0 Z Try.func188 N188 rfl rfl rfl (fun w P1 hF hB hS hT => spec_plNumber.calls a0_0 A0_1 c0_1 l0_1.length l0_1 A0_2 c0_2 l0_2.length l0_2 A1 c1 l1.length l1 y702.f0 hB hF (hS _ R0_1) hc0_1 (hS _ R0_2) hc0_2 (hS _ R1) hc1 _ hx1066)) (fun s w h => za7 [some 0, none, none, some 3, some 4] (by decide) w h rfl) (fun _ => ?_)
      refine a_one 11 rfl rfl (by kernel_rfl) rfl (zac 0 Z Try.func188 N188 rfl rfl rfl (fun w P1 hF hB hS hT => spec_plNumber.calls a0_0 A0_1 c0_1 l0_1.length l0_1 A0_2 c0_2 l0_2.length l0_2 A1 c1 l1.length l1 y702.f1 hB hF (hS _ R0_1) hc0_1 (hS _ R0_2) hc0_2 (hS _ R1) hc1 _ hx1366)) (fun s w h => za7 [some 0, none, none, some 3, some 4] (by decide) w h rfl) (fun _ => ?_)
      refine a_one 12 rfl rfl (by kernel_rfl) rfl (zac 0 Z Try.func97 N97 rfl rfl rfl (fun w P1 hF hB hS hT => spec_plStep.calls i1067 i1367 hB hF _ hx1426)) (fun s w h => za7 [some 0, none, none, some 3, some 4] (by decide) w h rfl) (fun _ => ?_)
      refine a_one 13 rfl rfl (by kernel_rfl) rfl (e_lit (vs := [(0, .agg #[.int .i64 z1427.f0, .int .i64 z1427.f1])]) (cs := [.int .i64 z1427.f0, .int .i64 z1427.f1]) kStep ([z1427] : List SStep) Try.underlying24 I89 (by decide) rfl (by decide) rfl rfl (fun _ _ => reps_flat _)) (fun s w h => za7 [some 1, none, none, some 4, some 5] (by decide) w h rfl) (cur2 (fun A1486 c1487 => ?_))
      refine a_one 14 rfl rfl (by kernel_rfl) rfl (e_app (i := 2) (j := 0) Try.underlying24 I89 rfl (by decide) (by decide) rfl rfl rfl rfl rfl ha1547) (fun s w h => za7 [some 1, none, none, some 4, some 5] (by decide) w h rfl) (cur2 (fun A1548 c1549 => ?_))
      refine za5 15 rfl rfl rfl (by kernel_rfl) (fun _ _ _ h => h) (q_f F27_1 rfl) ?_
      refine a_one 16 rfl rfl (by kernel_rfl) rfl (zay (i := 3) rfl rfl rfl rfl Z24 rfl rfl) (fun s w h => za7 [some 1, none, none, some 4, some 5] (by decide) w h rfl) (fun _ => ?_)
      refine zav (by kernel_rfl) ?_
      refine zal ?_
      refine za1 ?_
      refine za0 ?_
      refine o_q rfl rfl (q_up rfl rfl (hr15.up hm16)) ?_
      refine o_q rfl rfl (za2 rfl) ?_
      refine o_end ?_
      refine zak ys13.length (ys13, l1546, i11 + 1, A1548, c1549) (by rw [← hk21]; exact Nat.lt_succ_self _) ⟨hr15.step, rfl, h⟩ ⟨rfl, trivial⟩ (fun w h => za8 [2, 3, 4, 5] (by decide) rfl w h) ?_
      repeat (first | exact zad _ _ | refine zah rfl ?_ | refine zae rfl ?_ | refine zai rfl ?_)
    · skip
      refine a_two 1 11 rfl rfl rfl rfl (by kernel_rfl) rfl rfl (ev_q rfl (q_ldb Y24 rfl (fun w h => h.zab (i := 2) rfl) rfl)) (fun s w h => za7 [some 0, none, none, some 3, some 4] (by decide) w h rfl) (zac 0 Z Try.func188 N188 rfl rfl rfl (fun w P1 hF hB hS hT => spec_plNumber.calls a0_0 A0_1 c0_1 l0_1.length l0_1 A0_2 c0_2 l0_2.length l0_2 A1 c1 l1.length l1 y702.f1 hB hF (hS _ R0_1) hc0_1 (hS _ R0_2) hc0_2 (hS _ R1) hc1 _ hx1366)) (fun s w h => za7 [some 0, none, none, some 3, some 4] (by decide) w h rfl) (fun _ => ?_) (fun _ => ?_)
      · skip
        refine a_one 11 rfl rfl (by kernel_rfl) rfl (zac 0 Z Try.func188 N188 rfl rfl rfl (fun w P1 hF hB hS hT => spec_plNumber.calls a0_0 A0_1 c0_1 l0_1.length l0_1 A0_2 c0_2 l0_2.length l0_2 A1 c1 l1.length l1 y702.f1 hB hF (hS _ R0_1) hc0_1 (hS _ R0_2) hc0_2 (hS _ R1) hc1 _ hx1366)) (fun s w h => za7 [some 0, none, none, some 3, some 4] (by decide) w h rfl) (fun _ => ?_)
        refine a_one 12 rfl rfl (by kernel_rfl) rfl (zac 0 Z Try.func97 N97 rfl rfl rfl (fun w P1 hF hB hS hT => spec_plStep.calls i1067 i1367 hB hF _ hx1426)) (fun s w h => za7 [some 0, none, none, some 3, some 4] (by decide) w h rfl) (fun _ => ?_)
        refine a_one 13 rfl rfl (by kernel_rfl) rfl (e_lit (vs := [(0, .agg #[.int .i64 z1427.f0, .int .i64 z1427.f1])]) (cs := [.int .i64 z1427.f0, .int .i64 z1427.f1]) kStep ([z1427] : List SStep) Try.underlying24 I89 (by decide) rfl (by decide) rfl rfl (fun _ _ => reps_flat _)) (fun s w h => za7 [some 1, none, none, some 4, some 5] (by decide) w h rfl) (cur2 (fun A1486 c1487 => ?_))
        refine a_one 14 rfl rfl (by kernel_rfl) rfl (e_app (i := 2) (j := 0) Try.underlying24 I89 rfl (by decide) (by decide) rfl rfl rfl rfl rfl ha1547) (fun s w h => za7 [some 1, none, none, some 4, some 5] (by decide) w h rfl) (cur2 (fun A1548 c1549 => ?_))
        refine za5 15 rfl rfl rfl (by kernel_rfl) (fun _ _ _ h => h) (q_f F27_1 rfl) ?_
        refine a_one 16 rfl rfl (by kernel_rfl) rfl (zay (i := 3) rfl rfl rfl rfl Z24 rfl rfl) (fun s w h => za7 [some 1, none, none, some 4, some 5] (by decide) w h rfl) (fun _ => ?_)
        refine zav (by kernel_rfl) ?_
        refine zal ?_
        refine za1 ?_
        refine za0 ?_
        refine o_q rfl rfl (q_up rfl rfl (hr15.up hm16)) ?_
        refine o_q rfl rfl (za2 rfl) ?_
        refine o_end ?_
        refine zak ys13.length (ys13, l1546, i11 + 1, A1548, c1549) (by rw [← hk21]; exact Nat.lt_succ_self _) ⟨hr15.step, rfl, h⟩ ⟨rfl, trivial⟩ (fun w h => za8 [2, 3, 4, 5] (by decide) rfl w h) ?_
        repeat (first | exact zad _ _ | refine zah rfl ?_ | refine zae rfl ?_ | refine zai rfl ?_)
      · skip
        refine a_two 1 12 rfl rfl rfl rfl (by kernel_rfl) rfl rfl (ev_q rfl (q_ldb Y24 rfl (fun w h => h.zab (i := 2) rfl) rfl)) (fun s w h => za7 [some 0, none, none, some 3, some 4] (by decide) w h rfl) (zac 0 Z Try.func97 N97 rfl rfl rfl (fun w P1 hF hB hS hT => spec_plStep.calls i1067 i1367 hB hF _ hx1426)) (fun s w h => za7 [some 0, none, none, some 3, some 4] (by decide) w h rfl) (fun _ => ?_) (fun _ => ?_)
        · skip
          refine a_one 12 rfl rfl (by kernel_rfl) rfl (zac 0 Z Try.func97 N97 rfl rfl rfl (fun w P1 hF hB hS hT => spec_plStep.calls i1067 i1367 hB hF _ hx1426)) (fun s w h => za7 [some 0, none, none, some 3, some 4] (by decide) w h rfl) (fun _ => ?_)
          refine a_one 13 rfl rfl (by kernel_rfl) rfl (e_lit (vs := [(0, .agg #[.int .i64 z1427.f0, .int .i64 z1427.f1])]) (cs := [.int .i64 z1427.f0, .int .i64 z1427.f1]) kStep ([z1427] : List SStep) Try.underlying24 I89 (by decide) rfl (by decide) rfl rfl (fun _ _ => reps_flat _)) (fun s w h => za7 [some 1, none, none, some 4, some 5] (by decide) w h rfl) (cur2 (fun A1486 c1487 => ?_))
          refine a_one 14 rfl rfl (by kernel_rfl) rfl (e_app (i := 2) (j := 0) Try.underlying24 I89 rfl (by decide) (by decide) rfl rfl rfl rfl rfl ha1547) (fun s w h => za7 [some 1, none, none, some 4, some 5] (by decide) w h rfl) (cur2 (fun A1548 c1549 => ?_))
          refine za5 15 rfl rfl rfl (by kernel_rfl) (fun _ _ _ h => h) (q_f F27_1 rfl) ?_
          refine a_one 16 rfl rfl (by kernel_rfl) rfl (zay (i := 3) rfl rfl rfl rfl Z24 rfl rfl) (fun s w h => za7 [some 1, none, none, some 4, some 5] (by decide) w h rfl) (fun _ => ?_)
          refine zav (by kernel_rfl) ?_
          refine zal ?_
          refine za1 ?_
          refine za0 ?_
          refine o_q rfl rfl (q_up rfl rfl (hr15.up hm16)) ?_
          refine o_q rfl rfl (za2 rfl) ?_
          refine o_end ?_
          refine zak ys13.length (ys13, l1546, i11 + 1, A1548, c1549) (by rw [← hk21]; exact Nat.lt_succ_self _) ⟨hr15.step, rfl, h⟩ ⟨rfl, trivial⟩ (fun w h => za8 [2, 3, 4, 5] (by decide) rfl w h) ?_
          repeat (first | exact zad _ _ | refine zah rfl ?_ | refine zae rfl ?_ | refine zai rfl ?_)
        · skip
          refine a_two 1 13 rfl rfl rfl rfl (by kernel_rfl) rfl rfl (ev_q rfl (q_ldb Y24 rfl (fun w h => h.zab (i := 2) rfl) rfl)) (fun s w h => za7 [some 0, none, none, some 3, some 4] (by decide) w h rfl) (e_lit (vs := [(0, .agg #[.int .i64 z1427.f0, .int .i64 z1427.f1])]) (cs := [.int .i64 z1427.f0, .int .i64 z1427.f1]) kStep ([z1427] : List SStep) Try.underlying24 I89 (by decide) rfl (by decide) rfl rfl (fun _ _ => reps_flat _)) (fun s w h => za7 [some 1, none, none, some 4, some 5] (by decide) w h rfl) (fun _ => ?_) (cur2 (fun A1486 c1487 => ?_))
          · skip
            refine a_one 13 rfl rfl (by kernel_rfl) rfl (e_lit (vs := [(0, .agg #[.int .i64 z1427.f0, .int .i64 z1427.f1])]) (cs := [.int .i64 z1427.f0, .int .i64 z1427.f1]) kStep ([z1427] : List SStep) Try.underlying24 I89 (by decide) rfl (by decide) rfl rfl (fun _ _ => reps_flat _)) (fun s w h => za7 [some 1, none, none, some 4, some 5] (by decide) w h rfl) (cur2 (fun A1486 c1487 => ?_))
            refine a_one 14 rfl rfl (by kernel_rfl) rfl (e_app (i := 2) (j := 0) Try.underlying24 I89 rfl (by decide) (by decide) rfl rfl rfl rfl rfl ha1547) (fun s w h => za7 [some 1, none, none, some 4, some 5] (by decide) w h rfl) (cur2 (fun A1548 c1549 => ?_))
            refine za5 15 rfl rfl rfl (by kernel_rfl) (fun _ _ _ h => h) (q_f F27_1 rfl) ?_
            refine a_one 16 rfl rfl (by kernel_rfl) rfl (zay (i := 3) rfl rfl rfl rfl Z24 rfl rfl) (fun s w h => za7 [some 1, none, none, some 4, some 5] (by decide) w h rfl) (fun _ => ?_)
            refine zav (by kernel_rfl) ?_
            refine zal ?_
            refine za1 ?_
            refine za0 ?_
            refine o_q rfl rfl (q_up rfl rfl (hr15.up hm16)) ?_
            refine o_q rfl rfl (za2 rfl) ?_
            refine o_end ?_
            refine zak ys13.length (ys13, l1546, i11 + 1, A1548, c1549) (by rw [← hk21]; exact Nat.lt_succ_self _) ⟨hr15.step, rfl, h⟩ ⟨rfl, trivial⟩ (fun w h => za8 [2, 3, 4, 5] (by decide) rfl w h) ?_
            repeat (first | exact zad _ _ | refine zah rfl ?_ | refine zae rfl ?_ | refine zai rfl ?_)
          · skip
            refine a_one 1 rfl rfl (by kernel_rfl) rfl (ev_q rfl (q_ldb Y24 rfl (fun w h => h.zab (i := 3) rfl) rfl)) (fun s w h => za7 [some 1, none, none, some 4, some 5] (by decide) w h rfl) (fun _ => ?_)
            refine a_one 14 rfl rfl (by kernel_rfl) rfl (e_app (i := 2) (j := 0) Try.underlying24 I89 rfl (by decide) (by decide) rfl rfl rfl rfl rfl ha1547) (fun s w h => za7 [some 1, none, none, some 4, some 5] (by decide) w h rfl) (cur2 (fun A1548 c1549 => ?_))
            refine za5 15 rfl rfl rfl (by kernel_rfl) (fun _ _ _ h => h) (q_f F27_1 rfl) ?_
            refine a_one 16 rfl rfl (by kernel_rfl) rfl (zay (i := 3) rfl rfl rfl rfl Z24 rfl rfl) (fun s w h => za7 [some 1, none, none, some 4, some 5] (by decide) w h rfl) (fun _ => ?_)
            refine zav (by kernel_rfl) ?_
            refine zal ?_
            refine za1 ?_
            refine za0 ?_
            refine o_q rfl rfl (q_up rfl rfl (hr15.up hm16)) ?_
            refine o_q rfl rfl (za2 rfl) ?_
            refine o_end ?_
            refine zak ys13.length (ys13, l1546, i11 + 1, A1548, c1549) (by rw [← hk21]; exact Nat.lt_succ_self _) ⟨hr15.step, rfl, h⟩ ⟨rfl, trivial⟩ (fun w h => za8 [2, 3, 4, 5] (by decide) rfl w h) ?_
            repeat (first | exact zad _ _ | refine zah rfl ?_ | refine zae rfl ?_ | refine zai rfl ?_)

/-! ### loop.example/g01098/spec.SharePlan: function 36 -/
def spec_SharePlan.l1 (l9 : List Int) : (List Int) → (List Int) → Int → Option (List Int)
  | [], l30, i33 => some l30
  | y34 :: ys35, l30, i33 => (gt l9 y34).bind fun y299 => (ap l30 ([y299] : List Int)).bind fun l477 => spec_SharePlan.l1 l9 ys35 l477 (i33 + 1)
def spec_SharePlan.l0 (l9 : List Int) : (List SStep) → (List SStep) → Int → Option (List SStep)
  | [], l15, i18 => some l15
  | y19 :: ys20, l15, i18 => (gt l9 y19.f0).bind fun y1023 => (gt l9 y19.f1).bind fun y1322 => (spec_plStep.f y1023 y1322).bind fun z1442 => (ap l15 ([z1442] : List SStep)).bind fun l1561 => spec_SharePlan.l0 l9 ys20 l1561 (i18 + 1)
def spec_SharePlan.f (k : Nat) (a0_0 : Int) (l0_1 : List SStep) (l0_2 : List Int) : Option (Int × (List SStep) × (List Int) × Bool) := (spec_plGood.f k a0_0 l0_1 l0_2).bind fun b6 => if b6 = true then ((spec_plFirst.f k a0_0 l0_1 l0_2).bind fun l9 => (spec_SharePlan.l0 l9 l0_1 ([] : List SStep) 0).bind fun l15 => (spec_SharePlan.l1 l9 l0_2 ([] : List Int) 0).bind fun l30 => (spec_plUsed.f k a0_0 l15 l30).bind fun l45 => (spec_plKeep.f a0_0 l15 l30 l45).bind fun (l49, l50) => some (a0_0, l49, l50, true)) else (some (0, ([] : List SStep), ([] : List Int), false))
set_option maxHeartbeats 600000 in
set_option maxRecDepth 100000 in
theorem spec_SharePlan.calls (k : Nat) {w0 ws : World} {P0 : Nat → Prop} (a0_0 : Int) (A0_1 : Option Addr) (c0_1 : Nat) (n0_1 : Nat) (l0_1 : List SStep) (A0_2 : Option Addr) (c0_2 : Nat) (n0_2 : Nat) (l0_2 : List Int) (Z : Below w0.heap.size w0 ws) (hF : Fr w0 ws P0 [] ws) (R0_1 : Stable ws P0 (fun w => Kd.C kStep w A0_1 n0_1 l0_1)) (hc0_1 : n0_1 ≤ c0_1) (R0_2 : Stable ws P0 (fun w => Kd.C (Kd.int .i64) w A0_2 n0_2 l0_2)) (hc0_2 : n0_2 ≤ c0_2) (r_1 : Int) (r_2 : List SStep) (r_5 : List Int) (r_8 : Bool) (h : spec_SharePlan.f k a0_0 l0_1 l0_2 = some (r_1, r_2, r_5, r_8)) :
    Calls Try.prog 36 #[.agg #[.int .i64 a0_0, .slice A0_1 n0_1 c0_1, .slice A0_2 n0_2 c0_2]] ws (Post1 w0 ws P0 (fun ((q_3, q_4, q_6, q_7) : (Option Addr) × Nat × (Option Addr) × Nat) => .tuple #[.agg #[.int .i64 r_1, .slice q_3 r_2.length q_4, .slice q_6 r_5.length q_7], .bool r_8]) (fun ((q_3, q_4, q_6, q_7) : (Option Addr) × Nat × (Option Addr) × Nat) => [row kStep 89 (.slice q_3 r_2.length q_4) r_2, row (Kd.int .i64) 3 (.slice q_6 r_5.length q_7) r_5])) := by
  unfold spec_SharePlan.f at h
  obtain rfl := (R0_1 ws (KeptB.refl _ _)).1
  obtain rfl := (R0_2 ws (KeptB.refl _ _)).1
  refine enter Try.func36 rfl Try.ntmps36 rfl hF ?_
  refine c_seq ?_
  refine za0 ?_
  refine o_e rfl (e_box rfl) (fun g1 => ?_)
  refine o_e rfl (e_alloc V27 rfl) (fun g3 => ?_)
  refine o_q rfl rfl (q_asg rfl) ?_
  refine o_end ?_
  refine za1 ?_
  refine c_seq ?_
  refine c_seq ?_
  refine za0 ?_
  refine o_q rfl rfl (q_ldB G27 Z27 rfl (fun w h => h.zab (i := 1) rfl) rfl) ?_
  refine zaa h (fun b6 hx5 h => ?_) rfl
  refine o_e rfl (zac 0 Z Try.func93 N93 rfl rfl rfl (fun w P1 hF hB hS hT => spec_plGood.calls k a0_0 A0_1 c0_1 l0_1.length l0_1 A0_2 c0_2 l0_2.length l0_2 hB hF (hS _ R0_1) hc0_1 (hS _ R0_2) hc0_2 _ hx5)) (fun _ => ?_)
  refine o_q rfl rfl (q_not rfl) ?_
  refine o_end ?_
  refine za1 ?_
  refine zau _ rfl (fun hb7 => ?_) (fun hb7 => ?_)
  · replace hb7 := nt_t hb7
    replace h := bb_f hb7 h
    refine c_seq ?_
    refine za0 ?_
    refine o_q rfl rfl (q_build (vs := []) (cs := [.int .i64 0, .slice none 0 0, .slice none 0 0]) rfl rfl) ?_
    refine o_e rfl (zax (i := 0) rfl rfl rfl Z27 rfl rfl) (fun _ => ?_)
    refine o_q rfl rfl (q_asg rfl) ?_
    refine o_end ?_
    refine za1 ?_
    refine c_ret ?_
    refine za9 ?_
    refine x_nil kStep 89 ?_
    refine x_nil (Kd.int .i64) 3 ?_
    have e0_ := Option.some.inj h; clear h
    have d0_ := (Prod.mk.inj e0_).1; have e1_ := (Prod.mk.inj e0_).2; clear e0_; subst d0_
    have d1_ := (Prod.mk.inj e1_).1; have e2_ := (Prod.mk.inj e1_).2; clear e1_; subst d1_
    have d2_ := (Prod.mk.inj e2_).1; have e3_ := (Prod.mk.inj e2_).2; clear e2_; subst d2_
    subst e3_
    exact x_r2 (none, 0, none, 0) Try.results36 (rv_cell rfl G27 Z27 (fun w h => h.zab (i := 2) rfl) rfl) (zaf rfl) rfl (fun w h => za8 [1, 0] (by decide) rfl w h)
  · replace hb7 := nt_f hb7
    replace h := bb_t hb7 h
    refine zan ?_
    refine za1 ?_
    refine c_seq ?_
    refine za0 ?_
    refine o_q rfl rfl (q_ldB G27 Z27 rfl (fun w h => h.zab (i := 1) rfl) rfl) ?_
    refine zaa h (fun l9 hx8 h => ?_) rfl
    refine o_e rfl (zac 0 Z Try.func116 N116 rfl rfl rfl (fun w P1 hF hB hS hT => spec_plFirst.calls k a0_0 A0_1 c0_1 l0_1.length l0_1 A0_2 c0_2 l0_2.length l0_2 hB hF (hS _ R0_1) hc0_1 (hS _ R0_2) hc0_2 _ hx8)) (cur2 (fun A10 c11 => ?_))
    refine o_q rfl rfl (q_asg rfl) ?_
    refine o_end ?_
    refine za1 ?_
    refine c_seq ?_
    refine za0 ?_
    refine o_q rfl rfl (q_f F27_0 rfl) ?_
    refine o_q rfl rfl (q_ldb Y3 rfl (fun w h => h.zab (i := 2) rfl) rfl) ?_
    refine o_q rfl rfl (q_build (vs := [(0, .int .i64 a0_0)]) (cs := [.int .i64 a0_0, .slice none 0 0, .slice none 0 0]) rfl rfl) ?_
    refine o_e rfl (e_alloc V27 rfl) (fun g12 => ?_)
    refine o_e rfl (zax (i := 0) rfl rfl rfl Z27 rfl rfl) (fun _ => ?_)
    refine o_end ?_
    refine za1 ?_
    refine c_seq ?_
    refine c_seq ?_
    refine za0 ?_
    refine o_q rfl rfl (q_f F27_1 rfl) ?_
    refine o_q rfl rfl (q_ldb Y24 rfl (fun w h => h.zab (i := 3) rfl) rfl) ?_
    refine o_q rfl rfl (q_len Try.underlying24 rfl) ?_
    refine o_q rfl rfl (za2 rfl) ?_
    refine o_end ?_
    refine za1 ?_
    refine zaj ?_
    refine c_nil kStep 89 ?_
    refine zaa h (fun o26 hl25 hR24 => ?_) rfl
    clear h
    refine c_fact (p := l0_1.length ≤ 9223372036854775807) (fun w h => (R0_1.now Z h).2.1) (fun hm23 => ?_)
    refine zaw (σ := (List SStep) × (List SStep) × Int × (Option Addr) × Nat) (fun k21 ((ys20, l15, i18, A16, c17) : (List SStep) × (List SStep) × Int × (Option Addr) × Nat) => Rg l0_1 i18 ys20 ∧ ys20.length = k21 ∧ spec_SharePlan.l0 l9 ys20 l15 i18 = some o26) [7, 22, 23, 24, 25, 26, 27, 28, 29, 30, 31, 32, 33, 34, 35, 36, 37, 38, 39, 40, 41, 42] (fun ((ys20, l15, i18, A16, c17) : (List SStep) × (List SStep) × Int × (Option Addr) × Nat) => [(22, .int .i64 i18)]) (fun ((ys20, l15, i18, A16, c17) : (List SStep) × (List SStep) × Int × (Option Addr) × Nat) => [row kStep 89 (.slice A16 l15.length c17) l15, box g12 27 #[.int .i64 a0_0, .slice A16 l15.length c17, .slice none 0 0], row (Kd.int .i64) 3 (.slice A10 l9.length c11) l9, box g3 27 #[.int .i64 0, .slice none 0 0, .slice none 0 0], box g1 27 #[.int .i64 a0_0, .slice A0_1 l0_1.length c0_1, .slice A0_2 l0_2.length c0_2]]) l0_1.length (l0_1, ([] : List SStep), 0, none, 0) ⟨Rg.start _, rfl, hl25⟩ ⟨rfl, trivial⟩ (fun w h => h) ?_
    refine fun k21 => cur5 (listC (fun l15 i18 A16 c17 U27 hJ_ => ?_) (fun y19 ys20 l15 i18 A16 c17 U27 hJ_ => ?_))
    · skip
      clear hl25
      have hr22 := hJ_.1; have hk28 := hJ_.2.1; have h := hJ_.2.2; clear hJ_
      replace h : spec_SharePlan.l0 l9 [] l15 i18 = some o26 := h
      rw [spec_SharePlan.l0] at h
      refine c_seq ?_
      refine za0 ?_
      refine o_q rfl rfl (q_lss rfl rfl) ?_
      refine o_end ?_
      refine za1 ?_
      refine c_seq ?_
      refine c_false (congrArg Value.bool hr22.ge) ?_
      refine c_exit ?_
      refine za6 ?_
      refine za6 ?_
      have e_ := Option.some.inj h; replace h := hR24; rw [← e_] at h; clear e_
      refine x_hit ?_
      refine za1 ?_
      refine c_seq ?_
      refine c_seq ?_
      refine za0 ?_
      refine o_q rfl rfl (q_f F27_2 rfl) ?_
      refine o_q rfl rfl (q_ldb Y25 rfl (fun w h => h.zab (i := 4) rfl) rfl) ?_
      refine o_q rfl rfl (q_len Try.underlying25 rfl) ?_
      refine o_q rfl rfl (za2 rfl) ?_
      refine o_end ?_
      refine za1 ?_
      refine zaj ?_
      refine c_nil (Kd.int .i64) 3 ?_
      refine zaa h (fun o41 hl40 hR39 => ?_) rfl
      clear h
      refine c_fact (p := l0_2.length ≤ 9223372036854775807) (fun w h => (R0_2.now Z h).2.1) (fun hm38 => ?_)
      refine zaw (σ := (List Int) × (List Int) × Int × (Option Addr) × Nat) (fun k36 ((ys35, l30, i33, A31, c32) : (List Int) × (List Int) × Int × (Option Addr) × Nat) => Rg l0_2 i33 ys35 ∧ ys35.length = k36 ∧ spec_SharePlan.l1 l9 ys35 l30 i33 = some o41) [9, 46, 47, 48, 49, 50, 51, 52, 53, 54, 55, 56, 57, 58, 59] (fun ((ys35, l30, i33, A31, c32) : (List Int) × (List Int) × Int × (Option Addr) × Nat) => [(46, .int .i64 i33)]) (fun ((ys35, l30, i33, A31, c32) : (List Int) × (List Int) × Int × (Option Addr) × Nat) => [row (Kd.int .i64) 3 (.slice A31 l30.length c32) l30, row kStep 89 (.slice A16 l15.length c17) l15, box g12 27 #[.int .i64 a0_0, .slice A16 l15.length c17, .slice A31 l30.length c32], row (Kd.int .i64) 3 (.slice A10 l9.length c11) l9, box g3 27 #[.int .i64 0, .slice none 0 0, .slice none 0 0], box g1 27 #[.int .i64 a0_0, .slice A0_1 l0_1.length c0_1, .slice A0_2 l0_2.length c0_2]]) l0_2.length (l0_2, ([] : List Int), 0, none, 0) ⟨Rg.start _, rfl, hl40⟩ ⟨rfl, trivial⟩ (fun w h => h) ?_
      refine fun k36 => cur5 (listC (fun l30 i33 A31 c32 U42 hJ_ => ?_) (fun y34 ys35 l30 i33 A31 c32 U42 hJ_ => ?_))
      · skip
        clear hl40
        have hr37 := hJ_.1; have hk43 := hJ_.2.1; have h := hJ_.2.2; clear hJ_
        replace h : spec_SharePlan.l1 l9 [] l30 i33 = some o41 := h
        rw [spec_SharePlan.l1] at h
        refine c_seq ?_
        refine za0 ?_
        refine o_q rfl rfl (q_lss rfl rfl) ?_
        refine o_end ?_
        refine za1 ?_
        refine c_seq ?_
        refine c_false (congrArg Value.bool hr37.ge) ?_
        refine c_exit ?_
        refine za6 ?_
        refine za6 ?_
        have e_ := Option.some.inj h; replace h := hR39; rw [← e_] at h; clear e_
        refine x_hit ?_
        refine za1 ?_
        refine c_seq ?_
        refine a_startS (ds := []) [some 0, some 1, some 2, some 3, none, some 5] MO rfl ?_
        refine zat 0 rfl rfl rfl (by kernel_rfl) (fun _ _ _ h => h) (fun w h => za7 [some 0, some 1, some 2, some 3, none, some 5] (by decide) w h rfl) (q_ldB G27 Z27 rfl (fun w h => h.zab (i := 2) rfl) rfl) ?_
        refine zat 1 rfl rfl rfl (by kernel_rfl) (fun _ _ _ h => h) (fun w h => za7 [some 0, some 1, some 2, some 3, none, some 5] (by decide) w h rfl) (q_ldB G27 Z27 rfl (fun w h => h.zab (i := 2) rfl) rfl) ?_
        refine zaa h (fun l45 hx44 h => ?_) rfl
        refine a_one 2 rfl rfl (by kernel_rfl) rfl (zac 0 Z Try.func112 N112 rfl rfl rfl (fun w P1 hF hB hS hT => spec_plUsed.calls k a0_0 A16 c17 l15.length l15 A31 c32 l30.length l30 hB hF (hT 1 _ rfl).row (hT 1 _ rfl).cap (hT 0 _ rfl).row (hT 0 _ rfl).cap _ hx44)) (fun s w h => za7 [some 1, some 2, some 3, some 4, none, some 6] (by decide) w h rfl) (cur2 (fun A46 c47 => ?_))
        refine bindE2 h (fun l49 l50 hx48 h => ?_) rfl
        refine a_one 3 rfl rfl (by kernel_rfl) rfl (zac 0 Z Try.func111 N111 rfl rfl rfl (fun w P1 hF hB hS hT => spec_plKeep.calls a0_0 A16 c17 l15.length l15 A31 c32 l30.length l30 A46 c47 l45.length l45 hB hF (hT 2 _ rfl).row (hT 2 _ rfl).cap (hT 1 _ rfl).row (hT 1 _ rfl).cap (hT 0 _ rfl).row (hT 0 _ rfl).cap _ _ hx48)) (fun s w h => za7 [some 3, some 4, some 5, some 6, none, some 8] (by decide) w h rfl) (cur4 (fun A51 c52 A53 c54 => ?_))
        refine a_one 4 rfl rfl (by kernel_rfl) rfl (zax (i := 7) rfl rfl rfl Z27 rfl rfl) (fun s w h => za7 [some 3, some 4, some 5, some 6, none, some 8] (by decide) w h rfl) (fun _ => ?_)
        refine za5 5 rfl rfl rfl (by kernel_rfl) (fun _ _ _ h => h) (q_asg rfl) ?_
        refine zav (by kernel_rfl) ?_
        refine za1 ?_
        refine c_ret ?_
        have e0_ := Option.some.inj h; clear h
        have d0_ := (Prod.mk.inj e0_).1; have e1_ := (Prod.mk.inj e0_).2; clear e0_; subst d0_
        have d1_ := (Prod.mk.inj e1_).1; have e2_ := (Prod.mk.inj e1_).2; clear e1_; subst d1_
        have d2_ := (Prod.mk.inj e2_).1; have e3_ := (Prod.mk.inj e2_).2; clear e2_; subst d2_
        subst e3_
        exact x_r2 (A51, c52, A53, c54) Try.results36 (rv_cell rfl G27 Z27 (fun w h => h.zab (i := 7) rfl) rfl) (zaf rfl) rfl (fun w h => za8 [0, 1] (by decide) rfl w h)
      · skip
        clear hl40
        have hr37 := hJ_.1; have hk43 := hJ_.2.1; have h := hJ_.2.2; clear hJ_
        replace h : spec_SharePlan.l1 l9 (y34 :: ys35) l30 i33 = some o41 := h
        rw [spec_SharePlan.l1] at h
        refine c_seq ?_
        refine za0 ?_
        refine o_q rfl rfl (q_lss rfl rfl) ?_
        refine o_end ?_
        refine za1 ?_
        refine c_seq ?_
        refine c_true (congrArg Value.bool hr37.lt) ?_
        refine zan ?_
        refine za1 ?_
        refine c_seq ?_
        refine zaj ?_
        refine c_seq ?_
        refine za0 ?_
        refine zaz (p := Sh A0_2 l0_2.length l0_2.length) (fun w h => f_sh (dk := (Kd.int .i64)) h (fun w h => R0_2.now Z h)) (fun hq55 => ?_)
        refine o_q rfl rfl (q_ix Try.underlying25 Z3 rfl rfl hq55 hr37.get) ?_
        refine o_q rfl rfl (q_lde (off := 0) Y3 rfl rfl (fun w h => R0_2.now Z h) hr37.get (fun _ _ h => h) rfl) ?_
        refine o_q rfl rfl (q_asg rfl) ?_
        refine o_end ?_
        refine za1 ?_
        refine zaa h (fun y299 hg298 h => ?_) rfl
        refine zaa h (fun l477 ha478 h => ?_) rfl
        refine a_startS (ds := []) [none, some 1, none, some 3, some 4, some 5] MO rfl ?_
        refine za5 0 rfl rfl rfl (by kernel_rfl) (fun _ _ _ h => h) (q_f F27_2 rfl) ?_
        refine za5 2 rfl rfl rfl (by kernel_rfl) (fun _ _ _ h => h) (za2 rfl) ?_
        refine za5 3 rfl rfl rfl (by kernel_rfl) (fun _ _ _ h => h) (za2 rfl) ?_
        refine a_fact (p := Sh A10 l9.length l9.length) (fun w h => f_sh (dk := (Kd.int .i64)) h (fun w h => h.zas (i := 3) rfl)) (fun hq297 => ?_)
        refine za5 4 rfl rfl rfl (by kernel_rfl) (fun _ _ _ h => h) (q_ix Try.underlying25 Z3 rfl rfl hq297 hg298) ?_
        refine zat 5 rfl rfl rfl (by kernel_rfl) (fun _ _ _ h => h) (fun w h => za7 [none, some 1, none, some 3, some 4, some 5] (by decide) w h rfl) (q_lde (off := 0) Y3 rfl rfl (fun w h => h.zas (i := 3) rfl) hg298 (fun _ _ h => h) rfl) ?_
        refine a_two 1 6 rfl rfl rfl rfl (by kernel_rfl) rfl rfl (ev_q rfl (q_ldb Y25 rfl (fun w h => h.zab (i := 2) rfl) rfl)) (fun s w h => za7 [none, some 1, none, some 3, some 4, some 5] (by decide) w h rfl) (e_lit (vs := [(0, .int .i64 y299)]) (cs := [.int .i64 y299]) (Kd.int .i64) ([y299] : List Int) Try.underlying25 I3 (by decide) rfl (by decide) rfl rfl (fun _ _ => Kd.zao _)) (fun s w h => za7 [none, some 2, none, some 4, some 5, some 6] (by decide) w h rfl) (fun _ => ?_) (cur2 (fun A417 c418 => ?_))
        · skip
          refine a_one 6 rfl rfl (by kernel_rfl) rfl (e_lit (vs := [(0, .int .i64 y299)]) (cs := [.int .i64 y299]) (Kd.int .i64) ([y299] : List Int) Try.underlying25 I3 (by decide) rfl (by decide) rfl rfl (fun _ _ => Kd.zao _)) (fun s w h => za7 [none, some 2, none, some 4, some 5, some 6] (by decide) w h rfl) (cur2 (fun A417 c418 => ?_))
          refine a_one 7 rfl rfl (by kernel_rfl) rfl (e_app (i := 1) (j := 0) Try.underlying25 I3 rfl (by decide) (by decide) rfl rfl rfl rfl rfl ha478) (fun s w h => za7 [none, some 2, none, some 4, some 5, some 6] (by decide) w h rfl) (cur2 (fun A479 c480 => ?_))
          refine za5 8 rfl rfl rfl (by kernel_rfl) (fun _ _ _ h => h) (q_f F27_2 rfl) ?_
          refine a_one 9 rfl rfl (by kernel_rfl) rfl (zay (i := 3) rfl rfl rfl rfl Z25 rfl rfl) (fun s w h => za7 [none, some 2, none, some 4, some 5, some 6] (by decide) w h rfl) (fun _ => ?_)
          refine zav (by kernel_rfl) ?_
          refine zal ?_
          refine za1 ?_
          refine za0 ?_
          refine o_q rfl rfl (q_up rfl rfl (hr37.up hm38)) ?_
          refine o_q rfl rfl (za2 rfl) ?_
          refine o_end ?_
          refine zak ys35.length (ys35, l477, i33 + 1, A479, c480) (by rw [← hk43]; exact Nat.lt_succ_self _) ⟨hr37.step, rfl, h⟩ ⟨rfl, trivial⟩ (fun w h => za8 [1, 2, 3, 4, 5, 6] (by decide) rfl w h) ?_
          repeat (first | exact zad _ _ | refine zah rfl ?_ | refine zae rfl ?_ | refine zai rfl ?_)
        · skip
          refine a_one 1 rfl rfl (by kernel_rfl) rfl (ev_q rfl (q_ldb Y25 rfl (fun w h => h.zab (i := 3) rfl) rfl)) (fun s w h => za7 [none, some 2, none, some 4, some 5, some 6] (by decide) w h rfl) (fun _ => ?_)
          refine a_one 7 rfl rfl (by kernel_rfl) rfl (e_app (i := 1) (j := 0) Try.underlying25 I3 rfl (by decide) (by decide) rfl rfl rfl rfl rfl ha478) (fun s w h => za7 [none, some 2, none, some 4, some 5, some 6] (by decide) w h rfl) (cur2 (fun A479 c480 => ?_))
          refine za5 8 rfl rfl rfl (by kernel_rfl) (fun _ _ _ h => h) (q_f F27_2 rfl) ?_
          refine a_one 9 rfl rfl (by kernel_rfl) rfl (zay (i := 3) rfl rfl rfl rfl Z25 rfl rfl) (fun s w h => za7 [none, some 2, none, some 4, some 5, some 6] (by decide) w h rfl) (fun _ => ?_)
          refine zav (by kernel_rfl) ?_
          refine zal ?_
          refine za1 ?_
          refine za0 ?_
          refine o_q rfl rfl (q_up rfl rfl (hr37.up hm38)) ?_
          refine o_q rfl rfl (za2 rfl) ?_
          refine o_end ?_
          refine zak ys35.length (ys35, l477, i33 + 1, A479, c480) (by rw [← hk43]; exact Nat.lt_succ_self _) ⟨hr37.step, rfl, h⟩ ⟨rfl, trivial⟩ (fun w h => za8 [1, 2, 3, 4, 5, 6] (by decide) rfl w h) ?_
          repeat (first | exact zad _ _ | refine zah rfl ?_ | refine zae rfl ?_ | refine zai rfl ?_)
    · skip
      clear hl25
      have hr22 := hJ_.1; have hk28 := hJ_.2.1; have h := hJ_.2.2; clear hJ_
      replace h : spec_SharePlan.l0 l9 (y19 :: ys20) l15 i18 = some o26 := h
      rw [spec_SharePlan.l0] at h
      refine c_seq ?_
      refine za0 ?_
      refine o_q rfl rfl (q_lss rfl rfl) ?_
      refine o_end ?_
      refine za1 ?_
      refine c_seq ?_
      refine c_true (congrArg Value.bool hr22.lt) ?_
      refine zan ?_
      refine za1 ?_
      refine c_seq ?_
      refine zaj ?_
      refine c_seq ?_
      refine za0 ?_
      refine zaz (p := Sh A0_1 l0_1.length l0_1.length) (fun w h => f_sh (dk := kStep) h (fun w h => R0_1.now Z h)) (fun hq717 => ?_)
      refine o_q rfl rfl (q_ix Try.underlying24 Z89 rfl rfl hq717 hr22.get) ?_
      refine o_q rfl rfl (q_ldE G89 Z89 rfl rfl (fun w h => R0_1.now Z h) hr22.get (fun _ _ h => h) rfl) ?_
      refine o_e rfl (e_alloc V89 rfl) (fun g718 => ?_)
      refine o_e rfl (zax (i := 0) rfl rfl rfl Z89 rfl rfl) (fun _ => ?_)
      refine o_end ?_
      refine za1 ?_
      refine zaa h (fun y1023 hg1022 h => ?_) rfl
      refine zaa h (fun y1322 hg1321 h => ?_) rfl
      refine zaa h (fun z1442 hx1441 h => ?_) rfl
      refine zaa h (fun l1561 ha1562 h => ?_) rfl
      refine a_startS (ds := []) [some 0, none, none, some 3, some 4, some 5] MO rfl ?_
      refine za5 0 rfl rfl rfl (by kernel_rfl) (fun _ _ _ h => h) (q_f F27_1 rfl) ?_
      refine za5 2 rfl rfl rfl (by kernel_rfl) (fun _ _ _ h => h) (za2 rfl) ?_
      refine za5 3 rfl rfl rfl (by kernel_rfl) (fun _ _ _ h => h) (q_f F89_0 rfl) ?_
      refine zat 4 rfl rfl rfl (by kernel_rfl) (fun _ _ _ h => h) (fun w h => za7 [some 0, none, none, some 3, some 4, some 5] (by decide) w h rfl) (q_ldb Y3 rfl (fun w h => h.zab (i := 0) rfl) rfl) ?_
      refine a_fact (p := Sh A10 l9.length l9.length) (fun w h => f_sh (dk := (Kd.int .i64)) h (fun w h => h.zas (i := 3) rfl)) (fun hq1021 => ?_)
      refine za5 5 rfl rfl rfl (by kernel_rfl) (fun _ _ _ h => h) (q_ix Try.underlying25 Z3 rfl rfl hq1021 hg1022) ?_
      refine zat 6 rfl rfl rfl (by kernel_rfl) (fun _ _ _ h => h) (fun w h => za7 [some 0, none, none, some 3, some 4, some 5] (by decide) w h rfl) (q_lde (off := 0) Y3 rfl rfl (fun w h => h.zas (i := 3) rfl) hg1022 (fun _ _ h => h) rfl) ?_
      refine za5 7 rfl rfl rfl (by kernel_rfl) (fun _ _ _ h => h) (za2 rfl) ?_
      refine za5 8 rfl rfl rfl (by kernel_rfl) (fun _ _ _ h => h) (q_f F89_1 rfl) ?_
      refine zat 9 rfl rfl rfl (by kernel_rfl) (fun _ _ _ h => h) (fun w h => za7 [some 0, none, none, some 3, some 4, some 5] (by decide) w h rfl) (q_ldb Y3 rfl (fun w h => h.zab (i := 0) rfl) rfl) ?_
      refine za5 10 rfl rfl rfl (by kernel_rfl) (fun _ _ _ h => h) (q_ix Try.underlying25 Z3 rfl rfl hq1021 hg1321) ?_
      refine zat 11 rfl rfl rfl (by kernel_rfl) (fun _ _ _ h => h) (fun w h => za7 [some 0, none, none, some 3, some 4, some 5] (by decide) w h rfl) (q_lde (off := 0) Y3 rfl rfl (fun w h => h.zas (i := 3) rfl) hg1321 (fun _ _ h => h) rfl) ?_
      refine a_two 1 12 rfl rfl rfl rfl (by kernel_rfl) rfl rfl (ev_q rfl (q_ldb Y24 rfl (fun w h => h.zab (i := 2) rfl) rfl)) (fun s w h => za7 [some 0, none, none, some 3, some 4, some 5] (by decide) w h rfl) (zac 0 Z Try.func97 N97 rfl rfl rfl (fun w P1 hF hB hS hT => spec_plStep.calls y1023 y1322 hB hF _ hx1441)) (fun s w h => za7 [some 0, none, none, some 3, some 4, some 5] (by decide) w h rfl) (fun _ => ?_) (fun _ => ?_)
      · skip
        refine a_one 12 rfl rfl (by kernel_rfl) rfl (zac 0 Z Try.func97 N97 rfl rfl rfl (fun w P1 hF hB hS hT => spec_plStep.calls y1023 y1322 hB hF _ hx1441)) (fun s w h => za7 [some 0, none, none, some 3, some 4, some 5] (by decide) w h rfl) (fun _ => ?_)
        refine a_one 13 rfl rfl (by kernel_rfl) rfl (e_lit (vs := [(0, .agg #[.int .i64 z1442.f0, .int .i64 z1442.f1])]) (cs := [.int .i64 z1442.f0, .int .i64 z1442.f1]) kStep ([z1442] : List SStep) Try.underlying24 I89 (by decide) rfl (by decide) rfl rfl (fun _ _ => reps_flat _)) (fun s w h => za7 [some 1, none, none, some 4, some 5, some 6] (by decide) w h rfl) (cur2 (fun A1501 c1502 => ?_))
        refine a_one 14 rfl rfl (by kernel_rfl) rfl (e_app (i := 2) (j := 0) Try.underlying24 I89 rfl (by decide) (by decide) rfl rfl rfl rfl rfl ha1562) (fun s w h => za7 [some 1, none, none, some 4, some 5, some 6] (by decide) w h rfl) (cur2 (fun A1563 c1564 => ?_))
        refine za5 15 rfl rfl rfl (by kernel_rfl) (fun _ _ _ h => h) (q_f F27_1 rfl) ?_
        refine a_one 16 rfl rfl (by kernel_rfl) rfl (zay (i := 3) rfl rfl rfl rfl Z24 rfl rfl) (fun s w h => za7 [some 1, none, none, some 4, some 5, some 6] (by decide) w h rfl) (fun _ => ?_)
        refine zav (by kernel_rfl) ?_
        refine zal ?_
        refine za1 ?_
        refine za0 ?_
        refine o_q rfl rfl (q_up rfl rfl (hr22.up hm23)) ?_
        refine o_q rfl rfl (za2 rfl) ?_
        refine o_end ?_
        refine zak ys20.length (ys20, l1561, i18 + 1, A1563, c1564) (by rw [← hk28]; exact Nat.lt_succ_self _) ⟨hr22.step, rfl, h⟩ ⟨rfl, trivial⟩ (fun w h => za8 [2, 3, 4, 5, 6] (by decide) rfl w h) ?_
        repeat (first | exact zad _ _ | refine zah rfl ?_ | refine zae rfl ?_ | refine zai rfl ?_)
      · skip
        refine a_two 1 13 rfl rfl rfl rfl (by kernel_rfl) rfl rfl (ev_q rfl (q_ldb Y24 rfl (fun w h => h.zab (i := 2) rfl) rfl)) (fun s w h => za7 [some 0, none, none, some 3, some 4, some 5] (by decide) w h rfl) (e_lit (vs := [(0, .agg #[.int .i64 z1442.f0, .int .i64 z1442.f1])]) (cs := [.int .i64 z1442.f0, .int .i64 z1442.f1]) kStep ([z1442] : List SStep) Try.underlying24 I89 (by decide) rfl (by decide) rfl rfl (fun _ _ => reps_flat _)) (fun s w h => za7 [some 1, none, none, some 4, some 5, some 6] (by decide) w h rfl) (fun _ => ?_) (cur2 (fun A1501 c1502 => ?_))
        · skip
          refine a_one 13 rfl rfl (by kernel_rfl) rfl (e_lit (vs := [(0, .agg #[.int .i64 z1442.f0, .int .i64 z1442.f1])]) (cs := [.int .i64 z1442.f0, .int .i64 z1442.f1]) kStep ([z1442] : List SStep) Try.underlying24 I89 (by decide) rfl (by decide) rfl rfl (fun _ _ => reps_flat _)) (fun s w h => za7 [some 1, none, none, some 4, some 5, some 6] (by decide) w h rfl) (cur2 (fun A1501 c1502 => ?_))
          refine a_one 14 rfl rfl (by kernel_rfl) rfl (e_app (i := 2) (j := 0) Try.underlying24 I89 rfl (by decide) (by decide) rfl rfl rfl rfl rfl ha1562) (fun s w h => za7 [some 1, none, none, some 4, some 5, some 6] (by decide) w h rfl) (cur2 (fun A1563 c1564 => ?_))
          refine za5 15 rfl rfl rfl (by kernel_rfl) (fun _ _ _ h => h) (q_f F27_1 rfl) ?_
          refine a_one 16 rfl rfl (by kernel_rfl) rfl (zay (i := 3) rfl rfl rfl rfl Z24 rfl rfl) (fun s w h => za7 [some 1, none, none, some 4, some 5, some 6] (by decide) w h rfl) (fun _ => ?_)
          refine zav (by kernel_rfl) ?_
          refine zal ?_
          refine za1 ?_
          refine za0 ?_
          refine o_q rfl rfl (q_up rfl rfl (hr22.up hm23)) ?_
          refine o_q rfl rfl (za2 rfl) ?_
          refine o_end ?_
          refine zak ys20.length (ys20, l1561, i18 + 1, A1563, c1564) (by rw [← hk28]; exact Nat.lt_succ_self _) ⟨hr22.step, rfl, h⟩ ⟨rfl, trivial⟩ (fun w h => za8 [2, 3, 4, 5, 6] (by decide) rfl w h) ?_
          repeat (first | exact zad _ _ | refine zah rfl ?_ | refine zae rfl ?_ | refine zai rfl ?_)
        · skip
          refine a_one 1 rfl rfl (by kernel_rfl) rfl (ev_q rfl (q_ldb Y24 rfl (fun w h => h.zab (i := 3) rfl) rfl)) (fun s w h => za7 [some 1, none, none, some 4, some 5, some 6] (by decide) w h rfl) (fun _ => ?_)
          refine a_one 14 rfl rfl (by kernel_rfl) rfl (e_app (i := 2) (j := 0) Try.underlying24 I89 rfl (by decide) (by decide) rfl rfl rfl rfl rfl ha1562) (fun s w h => za7 [some 1, none, none, some 4, some 5, some 6] (by decide) w h rfl) (cur2 (fun A1563 c1564 => ?_))
          refine za5 15 rfl rfl rfl (by kernel_rfl) (fun _ _ _ h => h) (q_f F27_1 rfl) ?_
          refine a_one 16 rfl rfl (by kernel_rfl) rfl (zay (i := 3) rfl rfl rfl rfl Z24 rfl rfl) (fun s w h => za7 [some 1, none, none, some 4, some 5, some 6] (by decide) w h rfl) (fun _ => ?_)
          refine zav (by kernel_rfl) ?_
          refine zal ?_
          refine za1 ?_
          refine za0 ?_
          refine o_q rfl rfl (q_up rfl rfl (hr22.up hm23)) ?_
          refine o_q rfl rfl (za2 rfl) ?_
          refine o_end ?_
          refine zak ys20.length (ys20, l1561, i18 + 1, A1563, c1564) (by rw [← hk28]; exact Nat.lt_succ_self _) ⟨hr22.step, rfl, h⟩ ⟨rfl, trivial⟩ (fun w h => za8 [2, 3, 4, 5, 6] (by decide) rfl w h) ?_
          repeat (first | exact zad _ _ | refine zah rfl ?_ | refine zae rfl ?_ | refine zai rfl ?_)

/-! ### loop.example/g01098/laws.pSameSteps: function 99 -/
def laws_pSameSteps.l0 (l1 : List SStep) : (List SStep) → Int → Option ((Bool) ⊕ (Unit))
  | [], i2 => some (.inr ())
  | y3 :: ys4, i2 => (gt l1 i2).bind fun y16 => if (y3.f0 == y16.f0 && (y3.f1 == y16.f1 && true)) = true then (laws_pSameSteps.l0 l1 ys4 (i2 + 1)) else (some (.inl false))
def laws_pSameSteps.f (l0 : List SStep) (l1 : List SStep) : Option Bool := if (l0.length : Int) ≠ (l1.length : Int) then (some false) else ((laws_pSameSteps.l0 l1 l0 0).bind fun o_ => match o_ with | .inl r_ => some r_ | .inr _ => some true)
set_option maxHeartbeats 600000 in
set_option maxRecDepth 100000 in
theorem laws_pSameSteps.calls {w0 ws : World} {P0 : Nat → Prop} (A0 : Option Addr) (c0 : Nat) (n0 : Nat) (l0 : List SStep) (A1 : Option Addr) (c1 : Nat) (n1 : Nat) (l1 : List SStep) (Z : Below w0.heap.size w0 ws) (hF : Fr w0 ws P0 [] ws) (R0 : Stable ws P0 (fun w => Kd.C kStep w A0 n0 l0)) (hc0 : n0 ≤ c0) (R1 : Stable ws P0 (fun w => Kd.C kStep w A1 n1 l1)) (hc1 : n1 ≤ c1) (r_1 : Bool) (h : laws_pSameSteps.f l0 l1 = some r_1) :
    Calls Try.prog 99 #[.slice A0 n0 c0, .slice A1 n1 c1] ws (Post1 w0 ws P0 (fun (_ : Unit) => .bool r_1) (fun (_ : Unit) => [])) := by
  unfold laws_pSameSteps.f at h
  obtain rfl := (R0 ws (KeptB.refl _ _)).1
  obtain rfl := (R1 ws (KeptB.refl _ _)).1
  refine enter Try.func99 rfl Try.ntmps99 rfl hF ?_
  refine c_seq ?_
  refine za0 ?_
  refine o_q rfl rfl (q_asg rfl) ?_
  refine o_end ?_
  refine za1 ?_
  refine c_seq ?_
  refine c_seq ?_
  refine za0 ?_
  refine o_q rfl rfl (za2 rfl) ?_
  refine o_q rfl rfl (q_len Try.underlying24 rfl) ?_
  refine o_q rfl rfl (za2 rfl) ?_
  refine o_q rfl rfl (q_len Try.underlying24 rfl) ?_
  refine o_q rfl rfl (q_neq rfl rfl) ?_
  refine o_end ?_
  refine za1 ?_
  refine zau _ rfl (fun hb1 => ?_) (fun hb1 => ?_)
  · skip
    replace h := br_t hb1 h
    refine c_seq ?_
    refine za0 ?_
    refine o_q rfl rfl (q_asg rfl) ?_
    refine o_end ?_
    refine za1 ?_
    refine c_ret ?_
    refine za9 ?_
    have e0_ := Option.some.inj h; clear h
    subst e0_
    exact x_r1 () Try.results99 (zaf rfl) rfl (fun w h => za8 [] (by decide) rfl w h)
  · skip
    replace h := br_f hb1 h
    refine zan ?_
    refine za1 ?_
    refine c_seq ?_
    refine c_seq ?_
    refine za0 ?_
    refine o_q rfl rfl (za2 rfl) ?_
    refine o_q rfl rfl (q_len Try.underlying24 rfl) ?_
    refine o_q rfl rfl (za2 rfl) ?_
    refine o_end ?_
    refine za1 ?_
    refine zaj ?_
    refine zaa h (fun o10 hl9 hR8 => ?_) rfl
    clear h
    refine c_fact (p := l0.length ≤ 9223372036854775807) (fun w h => (R0.now Z h).2.1) (fun hm7 => ?_)
    refine zaw (σ := (List SStep) × Int) (fun k5 ((ys4, i2) : (List SStep) × Int) => Rg l0 i2 ys4 ∧ ys4.length = k5 ∧ laws_pSameSteps.l0 l1 ys4 i2 = some o10) [4, 5, 13, 14, 15, 16, 17, 18, 19, 20, 21, 22, 23, 24, 25] (fun ((ys4, i2) : (List SStep) × Int) => [(13, .int .i64 i2)]) (fun ((ys4, i2) : (List SStep) × Int) => []) l0.length (l0, 0) ⟨Rg.start _, rfl, hl9⟩ ⟨rfl, trivial⟩ (fun w h => h) ?_
    refine fun k5 => cur2 (listC (fun i2 U11 hJ_ => ?_) (fun y3 ys4 i2 U11 hJ_ => ?_))
    · skip
      clear hl9
      have hr6 := hJ_.1; have hk12 := hJ_.2.1; have h := hJ_.2.2; clear hJ_
      replace h : laws_pSameSteps.l0 l1 [] i2 = some o10 := h
      rw [laws_pSameSteps.l0] at h
      refine c_seq ?_
      refine za0 ?_
      refine o_q rfl rfl (q_lss rfl rfl) ?_
      refine o_end ?_
      refine za1 ?_
      refine c_seq ?_
      refine c_false (congrArg Value.bool hr6.ge) ?_
      refine c_exit ?_
      refine za6 ?_
      refine za6 ?_
      have e_ := Option.some.inj h; replace h := hR8; rw [← e_] at h; clear e_
      refine x_hit ?_
      refine za1 ?_
      refine c_seq ?_
      refine za0 ?_
      refine o_q rfl rfl (q_asg rfl) ?_
      refine o_end ?_
      refine za1 ?_
      refine c_ret ?_
      have e0_ := Option.some.inj h; clear h
      subst e0_
      exact x_r1 () Try.results99 (zaf rfl) rfl (fun w h => za8 [] (by decide) rfl w h)
    · skip
      clear hl9
      have hr6 := hJ_.1; have hk12 := hJ_.2.1; have h := hJ_.2.2; clear hJ_
      replace h : laws_pSameSteps.l0 l1 (y3 :: ys4) i2 = some o10 := h
      rw [laws_pSameSteps.l0] at h
      refine c_seq ?_
      refine za0 ?_
      refine o_q rfl rfl (q_lss rfl rfl) ?_
      refine o_end ?_
      refine za1 ?_
      refine c_seq ?_
      refine c_true (congrArg Value.bool hr6.lt) ?_
      refine zan ?_
      refine za1 ?_
      refine c_seq ?_
      refine zaj ?_
      refine c_seq ?_
      refine za0 ?_
      refine o_q rfl rfl (za2 rfl) ?_
      refine o_q rfl rfl (q_asg rfl) ?_
      refine o_end ?_
      refine za1 ?_
      refine c_seq ?_
      refine a_start (ds := []) MO rfl ?_
      refine za5 0 rfl rfl rfl (by kernel_rfl) (fun _ _ _ h => h) (za2 rfl) ?_
      refine za5 1 rfl rfl rfl (by kernel_rfl) (fun _ _ _ h => h) (za2 rfl) ?_
      refine a_fact (p := Sh A0 l0.length l0.length) (fun w h => f_sh (dk := kStep) h (fun w h => R0.now Z h)) (fun hq13 => ?_)
      refine za5 2 rfl rfl rfl (by kernel_rfl) (fun _ _ _ h => h) (q_ix Try.underlying24 Z89 rfl rfl hq13 hr6.get) ?_
      refine zat 3 rfl rfl rfl (by kernel_rfl) (fun _ _ _ h => h) (fun w h => h) (q_ldE G89 Z89 rfl rfl (fun w h => R0.now Z h) hr6.get (fun _ _ h => h) rfl) ?_
      refine za5 4 rfl rfl rfl (by kernel_rfl) (fun _ _ _ h => h) (za2 rfl) ?_
      refine za5 5 rfl rfl rfl (by kernel_rfl) (fun _ _ _ h => h) (za2 rfl) ?_
      refine a_fact (p := Sh A1 l1.length l1.length) (fun w h => f_sh (dk := kStep) h (fun w h => R1.now Z h)) (fun hq14 => ?_)
      refine zaa h (fun y16 hg15 h => ?_) rfl
      refine za5 6 rfl rfl rfl (by kernel_rfl) (fun _ _ _ h => h) (q_ix Try.underlying24 Z89 rfl rfl hq14 hg15) ?_
      refine zat 7 rfl rfl rfl (by kernel_rfl) (fun _ _ _ h => h) (fun w h => h) (q_ldE G89 Z89 rfl rfl (fun w h => R1.now Z h) hg15 (fun _ _ h => h) rfl) ?_
      refine za5 8 rfl rfl rfl (by kernel_rfl) (fun _ _ _ h => h) (q_aneq E89 O89 P89 (Q89 y3.f0 y3.f1 y16.f0 y16.f1) rfl rfl) ?_
      refine zav (by kernel_rfl) ?_
      refine za1 ?_
      refine zau _ rfl (fun hb17 => ?_) (fun hb17 => ?_)
      · replace hb17 := nt_t hb17
        replace h := bb_f hb17 h
        refine c_seq ?_
        refine za0 ?_
        refine o_q rfl rfl (q_asg rfl) ?_
        refine o_end ?_
        refine za1 ?_
        refine c_ret ?_
        refine zam ?_
        refine za9 ?_
        refine za9 ?_
        have e_ := Option.some.inj h; replace h := hR8; rw [← e_] at h; clear e_
        refine zam ?_
        refine za9 ?_
        have e0_ := Option.some.inj h; clear h
        subst e0_
        exact x_r1 () Try.results99 (zaf rfl) rfl (fun w h => za8 [] (by decide) rfl w h)
      · replace hb17 := nt_f hb17
        replace h := bb_t hb17 h
        refine zan ?_
        refine zal ?_
        refine za1 ?_
        refine za0 ?_
        refine o_q rfl rfl (q_up rfl rfl (hr6.up hm7)) ?_
        refine o_q rfl rfl (za2 rfl) ?_
        refine o_end ?_
        refine zak ys4.length (ys4, i2 + 1) (by rw [← hk12]; exact Nat.lt_succ_self _) ⟨hr6.step, rfl, h⟩ ⟨rfl, trivial⟩ (fun w h => za8 [] (by decide) rfl w h) ?_
        repeat (first | exact zad _ _ | refine zah rfl ?_ | refine zae rfl ?_ | refine zai rfl ?_)

/-! ### loop.example/g01098/laws.pSameInts: function 21 -/
def laws_pSameInts.l0 (l1 : List Int) : (List Int) → Int → Option ((Bool) ⊕ (Unit))
  | [], i2 => some (.inr ())
  | y3 :: ys4, i2 => (gt l1 i2).bind fun y16 => if y3 ≠ y16 then (some (.inl false)) else (laws_pSameInts.l0 l1 ys4 (i2 + 1))
def laws_pSameInts.f (l0 : List Int) (l1 : List Int) : Option Bool := if (l0.length : Int) ≠ (l1.length : Int) then (some false) else ((laws_pSameInts.l0 l1 l0 0).bind fun o_ => match o_ with | .inl r_ => some r_ | .inr _ => some true)
set_option maxHeartbeats 600000 in
set_option maxRecDepth 100000 in
theorem laws_pSameInts.calls {w0 ws : World} {P0 : Nat → Prop} (A0 : Option Addr) (c0 : Nat) (n0 : Nat) (l0 : List Int) (A1 : Option Addr) (c1 : Nat) (n1 : Nat) (l1 : List Int) (Z : Below w0.heap.size w0 ws) (hF : Fr w0 ws P0 [] ws) (R0 : Stable ws P0 (fun w => Kd.C (Kd.int .i64) w A0 n0 l0)) (hc0 : n0 ≤ c0) (R1 : Stable ws P0 (fun w => Kd.C (Kd.int .i64) w A1 n1 l1)) (hc1 : n1 ≤ c1) (r_1 : Bool) (h : laws_pSameInts.f l0 l1 = some r_1) :
    Calls Try.prog 21 #[.slice A0 n0 c0, .slice A1 n1 c1] ws (Post1 w0 ws P0 (fun (_ : Unit) => .bool r_1) (fun (_ : Unit) => [])) := by
  unfold laws_pSameInts.f at h
  obtain rfl := (R0 ws (KeptB.refl _ _)).1
  obtain rfl := (R1 ws (KeptB.refl _ _)).1
  refine enter Try.func21 rfl Try.ntmps21 rfl hF ?_
  refine c_seq ?_
  refine za0 ?_
  refine o_q rfl rfl (q_asg rfl) ?_
  refine o_end ?_
  refine za1 ?_
  refine c_seq ?_
  refine c_seq ?_
  refine za0 ?_
  refine o_q rfl rfl (za2 rfl) ?_
  refine o_q rfl rfl (q_len Try.underlying25 rfl) ?_
  refine o_q rfl rfl (za2 rfl) ?_
  refine o_q rfl rfl (q_len Try.underlying25 rfl) ?_
  refine o_q rfl rfl (q_neq rfl rfl) ?_
  refine o_end ?_
  refine za1 ?_
  refine zau _ rfl (fun hb1 => ?_) (fun hb1 => ?_)
  · skip
    replace h := br_t hb1 h
    refine c_seq ?_
    refine za0 ?_
    refine o_q rfl rfl (q_asg rfl) ?_
    refine o_end ?_
    refine za1 ?_
    refine c_ret ?_
    refine za9 ?_
    have e0_ := Option.some.inj h; clear h
    subst e0_
    exact x_r1 () Try.results21 (zaf rfl) rfl (fun w h => za8 [] (by decide) rfl w h)
  · skip
    replace h := br_f hb1 h
    refine zan ?_
    refine za1 ?_
    refine c_seq ?_
    refine c_seq ?_
    refine za0 ?_
    refine o_q rfl rfl (za2 rfl) ?_
    refine o_q rfl rfl (q_len Try.underlying25 rfl) ?_
    refine o_q rfl rfl (za2 rfl) ?_
    refine o_end ?_
    refine za1 ?_
    refine zaj ?_
    refine zaa h (fun o10 hl9 hR8 => ?_) rfl
    clear h
    refine c_fact (p := l0.length ≤ 9223372036854775807) (fun w h => (R0.now Z h).2.1) (fun hm7 => ?_)
    refine zaw (σ := (List Int) × Int) (fun k5 ((ys4, i2) : (List Int) × Int) => Rg l0 i2 ys4 ∧ ys4.length = k5 ∧ laws_pSameInts.l0 l1 ys4 i2 = some o10) [4, 5, 13, 14, 15, 16, 17, 18, 19, 20, 21, 22, 23, 24, 25] (fun ((ys4, i2) : (List Int) × Int) => [(13, .int .i64 i2)]) (fun ((ys4, i2) : (List Int) × Int) => []) l0.length (l0, 0) ⟨Rg.start _, rfl, hl9⟩ ⟨rfl, trivial⟩ (fun w h => h) ?_
    refine fun k5 => cur2 (listC (fun i2 U11 hJ_ => ?_) (fun y3 ys4 i2 U11 hJ_ => ?_))
    · skip
      clear hl9
      have hr6 := hJ_.1; have hk12 := hJ_.2.1; have h := hJ_.2.2; clear hJ_
      replace h : laws_pSameInts.l0 l1 [] i2 = some o10 := h
      rw [laws_pSameInts.l0] at h
      refine c_seq ?_
      refine za0 ?_
      refine o_q rfl rfl (q_lss rfl rfl) ?_
      refine o_end ?_
      refine za1 ?_
      refine c_seq ?_
      refine c_false (congrArg Value.bool hr6.ge) ?_
      refine c_exit ?_
      refine za6 ?_
      refine za6 ?_
      have e_ := Option.some.inj h; replace h := hR8; rw [← e_] at h; clear e_
      refine x_hit ?_
      refine za1 ?_
      refine c_seq ?_
      refine za0 ?_
      refine o_q rfl rfl (q_asg rfl) ?_
      refine o_end ?_
      refine za1 ?_
      refine c_ret ?_
      have e0_ := Option.some.inj h; clear h
      subst e0_
      exact x_r1 () Try.results21 (zaf rfl) rfl (fun w h => za8 [] (by decide) rfl w h)
    · skip
      clear hl9
      have hr6 := hJ_.1; have hk12 := hJ_.2.1; have h := hJ_.2.2; clear hJ_
      replace h : laws_pSameInts.l0 l1 (y3 :: ys4) i2 = some o10 := h
      rw [laws_pSameInts.l0] at h
      refine c_seq ?_
      refine za0 ?_
      refine o_q rfl rfl (q_lss rfl rfl) ?_
      refine o_end ?_
      refine za1 ?_
      refine c_seq ?_
      refine c_true (congrArg Value.bool hr6.lt) ?_
      refine zan ?_
      refine za1 ?_
      refine c_seq ?_
      refine zaj ?_
      refine c_seq ?_
      refine za0 ?_
      refine o_q rfl rfl (za2 rfl) ?_
      refine o_q rfl rfl (q_asg rfl) ?_
      refine o_end ?_
      refine za1 ?_
      refine c_seq ?_
      refine a_start (ds := []) MO rfl ?_
      refine za5 0 rfl rfl rfl (by kernel_rfl) (fun _ _ _ h => h) (za2 rfl) ?_
      refine za5 1 rfl rfl rfl (by kernel_rfl) (fun _ _ _ h => h) (za2 rfl) ?_
      refine a_fact (p := Sh A0 l0.length l0.length) (fun w h => f_sh (dk := (Kd.int .i64)) h (fun w h => R0.now Z h)) (fun hq13 => ?_)
      refine za5 2 rfl rfl rfl (by kernel_rfl) (fun _ _ _ h => h) (q_ix Try.underlying25 Z3 rfl rfl hq13 hr6.get) ?_
      refine zat 3 rfl rfl rfl (by kernel_rfl) (fun _ _ _ h => h) (fun w h => h) (q_lde (off := 0) Y3 rfl rfl (fun w h => R0.now Z h) hr6.get (fun _ _ h => h) rfl) ?_
      refine za5 4 rfl rfl rfl (by kernel_rfl) (fun _ _ _ h => h) (za2 rfl) ?_
      refine za5 5 rfl rfl rfl (by kernel_rfl) (fun _ _ _ h => h) (za2 rfl) ?_
      refine a_fact (p := Sh A1 l1.length l1.length) (fun w h => f_sh (dk := (Kd.int .i64)) h (fun w h => R1.now Z h)) (fun hq14 => ?_)
      refine zaa h (fun y16 hg15 h => ?_) rfl
      refine za5 6 rfl rfl rfl (by kernel_rfl) (fun _ _ _ h => h) (q_ix Try.underlying25 Z3 rfl rfl hq14 hg15) ?_
      refine zat 7 rfl rfl rfl (by kernel_rfl) (fun _ _ _ h => h) (fun w h => h) (q_lde (off := 0) Y3 rfl rfl (fun w h => R1.now Z h) hg15 (fun _ _ h => h) rfl) ?_
      refine za5 8 rfl rfl rfl (by kernel_rfl) (fun _ _ _ h => h) (q_neq rfl rfl) ?_
      refine zav (by kernel_rfl) ?_
      refine za1 ?_
      refine zau _ rfl (fun hb17 => ?_) (fun hb17 => ?_)
      · skip
        replace h := br_t hb17 h
        refine c_seq ?_
        refine za0 ?_
        refine o_q rfl rfl (q_asg rfl) ?_
        refine o_end ?_
        refine za1 ?_
        refine c_ret ?_
        refine zam ?_
        refine za9 ?_
        refine za9 ?_
        have e_ := Option.some.inj h; replace h := hR8; rw [← e_] at h; clear e_
        refine zam ?_
        refine za9 ?_
        have e0_ := Option.some.inj h; clear h
        subst e0_
        exact x_r1 () Try.results21 (zaf rfl) rfl (fun w h => za8 [] (by decide) rfl w h)
      · skip
        replace h := br_f hb17 h
        refine zan ?_
        refine zal ?_
        refine za1 ?_
        refine za0 ?_
        refine o_q rfl rfl (q_up rfl rfl (hr6.up hm7)) ?_
        refine o_q rfl rfl (za2 rfl) ?_
        refine o_end ?_
        refine zak ys4.length (ys4, i2 + 1) (by rw [← hk12]; exact Nat.lt_succ_self _) ⟨hr6.step, rfl, h⟩ ⟨rfl, trivial⟩ (fun w h => za8 [] (by decide) rfl w h) ?_
        repeat (first | exact zad _ _ | refine zah rfl ?_ | refine zae rfl ?_ | refine zai rfl ?_)

/-! ### loop.example/g01098/laws.pSamePlan: function 17 -/
def laws_pSamePlan.f (a0_0 : Int) (l0_1 : List SStep) (l0_2 : List Int) (a1_0 : Int) (l1_1 : List SStep) (l1_2 : List Int) : Option Bool := if a0_0 = a1_0 then ((laws_pSameSteps.f l0_1 l1_1).bind fun b7 => if b7 = true then ((laws_pSameInts.f l0_2 l1_2).bind fun b10 => some b10) else (some false)) else (some false)
set_option maxHeartbeats 600000 in
set_option maxRecDepth 100000 in
theorem laws_pSamePlan.calls {w0 ws : World} {P0 : Nat → Prop} (a0_0 : Int) (A0_1 : Option Addr) (c0_1 : Nat) (n0_1 : Nat) (l0_1 : List SStep) (A0_2 : Option Addr) (c0_2 : Nat) (n0_2 : Nat) (l0_2 : List Int) (a1_0 : Int) (A1_1 : Option Addr) (c1_1 : Nat) (n1_1 : Nat) (l1_1 : List SStep) (A1_2 : Option Addr) (c1_2 : Nat) (n1_2 : Nat) (l1_2 : List Int) (Z : Below w0.heap.size w0 ws) (hF : Fr w0 ws P0 [] ws) (R0_1 : Stable ws P0 (fun w => Kd.C kStep w A0_1 n0_1 l0_1)) (hc0_1 : n0_1 ≤ c0_1) (R0_2 : Stable ws P0 (fun w => Kd.C (Kd.int .i64) w A0_2 n0_2 l0_2)) (hc0_2 : n0_2 ≤ c0_2) (R1_1 : Stable ws P0 (fun w => Kd.C kStep w A1_1 n1_1 l1_1)) (hc1_1 : n1_1 ≤ c1_1) (R1_2 : Stable ws P0 (fun w => Kd.C (Kd.int .i64) w A1_2 n1_2 l1_2)) (hc1_2 : n1_2 ≤ c1_2) (r_1 : Bool) (h : laws_pSamePlan.f a0_0 l0_1 l0_2 a1_0 l1_1 l1_2 = some r_1) :
    Calls Try.prog 17 #[.agg #[.int .i64 a0_0, .slice A0_1 n0_1 c0_1, .slice A0_2 n0_2 c0_2], .agg #[.int .i64 a1_0, .slice A1_1 n1_1 c1_1, .slice A1_2 n1_2 c1_2]] ws (Post1 w0 ws P0 (fun (_ : Unit) => .bool r_1) (fun (_ : Unit) => [])) := by
  unfold laws_pSamePlan.f at h
  obtain rfl := (R0_1 ws (KeptB.refl _ _)).1
  obtain rfl := (R0_2 ws (KeptB.refl _ _)).1
  obtain rfl := (R1_1 ws (KeptB.refl _ _)).1
  obtain rfl := (R1_2 ws (KeptB.refl _ _)).1
  refine enter Try.func17 rfl Try.ntmps17 rfl hF ?_
  refine c_seq ?_
  refine za0 ?_
  refine o_e rfl (e_box rfl) (fun g1 => ?_)
  refine o_e rfl (e_box rfl) (fun g3 => ?_)
  refine o_q rfl rfl (q_asg rfl) ?_
  refine o_end ?_
  refine za1 ?_
  refine c_seq ?_
  refine za0 ?_
  refine o_q rfl rfl (q_f F27_0 rfl) ?_
  refine o_q rfl rfl (q_ldb Y3 rfl (fun w h => h.zab (i := 1) rfl) rfl) ?_
  refine o_q rfl rfl (q_f F27_0 rfl) ?_
  refine o_q rfl rfl (q_ldb Y3 rfl (fun w h => h.zab (i := 0) rfl) rfl) ?_
  refine o_q rfl rfl (q_eql rfl rfl) ?_
  refine o_q rfl rfl (za2 rfl) ?_
  refine byB (decide (a0_0 = a1_0)) (fun hb5 => ?_) (fun hb5 => ?_)
  · replace h := br_t hb5 h
    refine o_w (za4 rfl rfl rfl (congrArg Value.bool hb5)) rfl (q_f F27_1 rfl) ?_
    refine o_w (za4 rfl rfl rfl (congrArg Value.bool hb5)) rfl (q_ldb Y24 rfl (fun w h => h.zab (i := 1) rfl) rfl) ?_
    refine o_w (za4 rfl rfl rfl (congrArg Value.bool hb5)) rfl (q_f F27_1 rfl) ?_
    refine o_w (za4 rfl rfl rfl (congrArg Value.bool hb5)) rfl (q_ldb Y24 rfl (fun w h => h.zab (i := 0) rfl) rfl) ?_
    refine zaa h (fun b7 hx6 h => ?_) rfl
    refine o_ew (za4 rfl rfl rfl (congrArg Value.bool hb5)) (zac 0 Z Try.func99 N99 rfl rfl rfl (fun w P1 hF hB hS hT => laws_pSameSteps.calls A0_1 c0_1 l0_1.length l0_1 A1_1 c1_1 l1_1.length l1_1 hB hF (hS _ R0_1) hc0_1 (hS _ R1_1) hc1_1 _ hx6)) (fun _ => ?_)
    refine o_q rfl rfl (zar true (congrArg Value.bool hb5) rfl) ?_
    refine o_q rfl rfl (za2 rfl) ?_
    refine byB b7 (fun hb8 => ?_) (fun hb8 => ?_)
    · replace h := bb_t hb8 h
      refine o_w (za4 rfl rfl rfl (congrArg Value.bool hb8)) rfl (q_f F27_2 rfl) ?_
      refine o_w (za4 rfl rfl rfl (congrArg Value.bool hb8)) rfl (q_ldb Y25 rfl (fun w h => h.zab (i := 1) rfl) rfl) ?_
      refine o_w (za4 rfl rfl rfl (congrArg Value.bool hb8)) rfl (q_f F27_2 rfl) ?_
      refine o_w (za4 rfl rfl rfl (congrArg Value.bool hb8)) rfl (q_ldb Y25 rfl (fun w h => h.zab (i := 0) rfl) rfl) ?_
      refine zaa h (fun b10 hx9 h => ?_) rfl
      refine o_ew (za4 rfl rfl rfl (congrArg Value.bool hb8)) (zac 0 Z Try.func21 N21 rfl rfl rfl (fun w P1 hF hB hS hT => laws_pSameInts.calls A0_2 c0_2 l0_2.length l0_2 A1_2 c1_2 l1_2.length l1_2 hB hF (hS _ R0_2) hc0_2 (hS _ R1_2) hc1_2 _ hx9)) (fun _ => ?_)
      refine o_q rfl rfl (zar true (congrArg Value.bool hb8) rfl) ?_
      refine o_q rfl rfl (q_asg rfl) ?_
      refine o_end ?_
      refine za1 ?_
      refine c_ret ?_
      have e0_ := Option.some.inj h; clear h
      subst e0_
      exact x_r1 () Try.results17 (zaf rfl) rfl (fun w h => za8 [] (by decide) rfl w h)
    · replace h := bb_f hb8 h
      refine @o_n _ _ _ _ _ _ _ _ _ _ _ 18 (za3 rfl rfl rfl (congrArg Value.bool hb8) rfl) (Eq.refl (some 18)) ?_
      refine @o_n _ _ _ _ _ _ _ _ _ _ _ 19 (za3 rfl rfl rfl (congrArg Value.bool hb8) rfl) (Eq.refl (some 19)) ?_
      refine @o_n _ _ _ _ _ _ _ _ _ _ _ 20 (za3 rfl rfl rfl (congrArg Value.bool hb8) rfl) (Eq.refl (some 20)) ?_
      refine @o_n _ _ _ _ _ _ _ _ _ _ _ 21 (za3 rfl rfl rfl (congrArg Value.bool hb8) rfl) (Eq.refl (some 21)) ?_
      refine @o_n _ _ _ _ _ _ _ _ _ _ _ 22 (za3 rfl rfl rfl (congrArg Value.bool hb8) rfl) (Eq.refl (some 22)) ?_
      refine o_q rfl rfl (zar false (congrArg Value.bool hb8) rfl) ?_
      refine o_q rfl rfl (q_asg rfl) ?_
      refine o_end ?_
      refine za1 ?_
      refine c_ret ?_
      have e0_ := Option.some.inj h; clear h
      subst e0_
      exact x_r1 () Try.results17 (zaf rfl) rfl (fun w h => za8 [] (by decide) rfl w h)
  · replace h := br_f hb5 h
    refine @o_n _ _ _ _ _ _ _ _ _ _ _ 11 (za3 rfl rfl rfl (congrArg Value.bool hb5) rfl) (Eq.refl (some 11)) ?_
    refine @o_n _ _ _ _ _ _ _ _ _ _ _ 12 (za3 rfl rfl rfl (congrArg Value.bool hb5) rfl) (Eq.refl (some 12)) ?_
    refine @o_n _ _ _ _ _ _ _ _ _ _ _ 13 (za3 rfl rfl rfl (congrArg Value.bool hb5) rfl) (Eq.refl (some 13)) ?_
    refine @o_n _ _ _ _ _ _ _ _ _ _ _ 14 (za3 rfl rfl rfl (congrArg Value.bool hb5) rfl) (Eq.refl (some 14)) ?_
    refine @o_n _ _ _ _ _ _ _ _ _ _ _ 15 (za3 rfl rfl rfl (congrArg Value.bool hb5) rfl) (Eq.refl (some 15)) ?_
    refine o_q rfl rfl (zar false (congrArg Value.bool hb5) rfl) ?_
    refine o_q rfl rfl (za2 rfl) ?_
    refine @o_n _ _ _ _ _ _ _ _ _ _ _ 18 (za3 rfl rfl rfl rfl rfl) (Eq.refl (some 18)) ?_
    refine @o_n _ _ _ _ _ _ _ _ _ _ _ 19 (za3 rfl rfl rfl rfl rfl) (Eq.refl (some 19)) ?_
    refine @o_n _ _ _ _ _ _ _ _ _ _ _ 20 (za3 rfl rfl rfl rfl rfl) (Eq.refl (some 20)) ?_
    refine @o_n _ _ _ _ _ _ _ _ _ _ _ 21 (za3 rfl rfl rfl rfl rfl) (Eq.refl (some 21)) ?_
    refine @o_n _ _ _ _ _ _ _ _ _ _ _ 22 (za3 rfl rfl rfl rfl rfl) (Eq.refl (some 22)) ?_
    refine o_q rfl rfl (zar false rfl rfl) ?_
    refine o_q rfl rfl (q_asg rfl) ?_
    refine o_end ?_
    refine za1 ?_
    refine c_ret ?_
    have e0_ := Option.some.inj h; clear h
    subst e0_
    exact x_r1 () Try.results17 (zaf rfl) rfl (fun w h => za8 [] (by decide) rfl w h)

/-! ### slices.Clone[[]int,int]: function 141 -/
def slices_Clone_int_int.f (l0 : List Int) : Option (List Int) := (ap ([] : List Int) l0).bind fun l5 => some l5
set_option maxHeartbeats 600000 in
set_option maxRecDepth 100000 in
theorem slices_Clone_int_int.calls {w0 ws : World} {P0 : Nat → Prop} (A0 : Option Addr) (c0 : Nat) (n0 : Nat) (l0 : List Int) (Z : Below w0.heap.size w0 ws) (hF : Fr w0 ws P0 [] ws) (R0 : Stable ws P0 (fun w => Kd.C (Kd.int .i64) w A0 n0 l0)) (hc0 : n0 ≤ c0) (r_1 : List Int) (h : slices_Clone_int_int.f l0 = some r_1) :
    Calls Try.prog 141 #[.slice A0 n0 c0] ws (Post1 w0 ws P0 (fun ((q_2, q_3) : (Option Addr) × Nat) => .slice q_2 r_1.length q_3) (fun ((q_2, q_3) : (Option Addr) × Nat) => [row (Kd.int .i64) 3 (.slice q_2 r_1.length q_3) r_1])) := by
  unfold slices_Clone_int_int.f at h
  obtain rfl := (R0 ws (KeptB.refl _ _)).1
  refine enter Try.func141 rfl Try.ntmps141 rfl hF ?_
  refine c_seq ?_
  refine za0 ?_
  refine o_q rfl rfl (q_asg rfl) ?_
  refine o_end ?_
  refine za1 ?_
  refine c_seq ?_
  refine c_seq ?_
  refine za0 ?_
  refine o_q rfl rfl (za2 rfl) ?_
  refine o_q rfl rfl (q_snil Try.underlying25 rfl rfl) ?_
  refine o_end ?_
  refine za1 ?_
  refine zau _ rfl (fun hb1 => ?_) (fun hb1 => ?_)
  · skip
    have hl_ := nil_of hb1 (R0 ws (KeptB.refl _ _)); subst hl_
    replace h : some ([] : List Int) = some r_1 := h
    refine c_seq ?_
    refine za0 ?_
    refine o_q rfl rfl (q_asg rfl) ?_
    refine o_end ?_
    refine za1 ?_
    refine c_ret ?_
    refine za9 ?_
    refine x_nil (Kd.int .i64) 3 ?_
    have e0_ := Option.some.inj h; clear h
    subst e0_
    exact x_r1 (none, 0) Try.results141 (zaf rfl) rfl (fun w h => za8 [0] (by decide) rfl w h)
  · skip
    refine zan ?_
    refine za1 ?_
    refine c_seq ?_
    refine za0 ?_
    refine o_e rfl (e_lit0 (Kd.int .i64) Try.underlying25 I3) (cur2 (fun A2 c3 => ?_))
    refine o_q rfl rfl (za2 rfl) ?_
    refine zaa h (fun l5 ha6 h => ?_) rfl
    refine o_e rfl (e_appr (i := 0) Try.underlying25 I3 rfl (by decide) (by decide) (fun _ _ _ _ h => h) rfl (fun w h => R0.now Z h) rfl rfl ha6) (cur2 (fun A7 c8 => ?_))
    refine o_q rfl rfl (q_asg rfl) ?_
    refine o_end ?_
    refine za1 ?_
    refine c_ret ?_
    have e0_ := Option.some.inj h; clear h
    subst e0_
    exact x_r1 (A7, c8) Try.results141 (zaf rfl) rfl (fun w h => za8 [0] (by decide) rfl w h)

/-! ### (*loop.example/g01098/impl.Plan).outputExponents: function 135 -/
def impl_Plan_outputExponents.l0 (l2 : List (List Int)) : (List Int) → (List (List Int)) → Int → Option (List (List Int))
  | [], l9, i13 => some l9
  | y14 :: ys15, l9, i13 => (gt l2 y14).bind fun y27 => (slices_Clone_int_int.f y27).bind fun l30 => (ap l9 ([l30] : List (List Int))).bind fun l37 => impl_Plan_outputExponents.l0 l2 ys15 l37 (i13 + 1)
def impl_Plan_outputExponents.f (a0_0 : Int) (l0_1 : List SStep) (l0_2 : List Int) : Option (List (List Int)) := (impl_Plan_exponents.f a0_0 l0_1 l0_2).bind fun l2 => (impl_Plan_outputExponents.l0 l2 l0_2 ([] : List (List Int)) 0).bind fun l9 => some l9
set_option maxHeartbeats 600000 in
set_option maxRecDepth 100000 in
theorem impl_Plan_outputExponents.calls {w0 ws : World} {P0 : Nat → Prop} (g0 : Nat) (a0_0 : Int) (A0_1 : Option Addr) (c0_1 : Nat) (n0_1 : Nat) (l0_1 : List SStep) (A0_2 : Option Addr) (c0_2 : Nat) (n0_2 : Nat) (l0_2 : List Int) (Z : Below w0.heap.size w0 ws) (hF : Fr w0 ws P0 [] ws) (R0_1 : Stable ws P0 (fun w => Kd.C kStep w A0_1 n0_1 l0_1)) (hc0_1 : n0_1 ≤ c0_1) (R0_2 : Stable ws P0 (fun w => Kd.C (Kd.int .i64) w A0_2 n0_2 l0_2)) (hc0_2 : n0_2 ≤ c0_2) (B0 : Stable ws P0 (fun w => w.heap[g0]? = some (.cells #[.int .i64 a0_0, .slice A0_1 n0_1 c0_1, .slice A0_2 n0_2 c0_2] 27 (0, 0)))) (r_1 : List (List Int)) (h : impl_Plan_outputExponents.f a0_0 l0_1 l0_2 = some r_1) :
    Calls Try.prog 135 #[.pointer (some ⟨g0, 0, none⟩)] ws (Post1 w0 ws P0 (fun ((q_2, q_3, q_4) : (Option Addr) × Nat × Hd) => .slice q_2 r_1.length q_3) (fun ((q_2, q_3, q_4) : (Option Addr) × Nat × Hd) => [row (gk 3 (Kd.int .i64)) 25 (.slice q_2 r_1.length q_3) (zp q_4 r_1)])) := by
  unfold impl_Plan_outputExponents.f at h
  obtain rfl := (R0_1 ws (KeptB.refl _ _)).1
  obtain rfl := (R0_2 ws (KeptB.refl _ _)).1
  refine enter Try.func135 rfl Try.ntmps135 rfl hF ?_
  refine c_seq ?_
  refine za0 ?_
  refine o_q rfl rfl (q_asg rfl) ?_
  refine o_end ?_
  refine za1 ?_
  refine c_seq ?_
  refine za0 ?_
  refine o_q rfl rfl (za2 rfl) ?_
  refine zaa h (fun l2 hx1 h => ?_) rfl
  refine o_e rfl (zac 0 Z Try.func120 N120 rfl rfl rfl (fun w P1 hF hB hS hT => impl_Plan_exponents.calls g0 a0_0 A0_1 c0_1 l0_1.length l0_1 A0_2 c0_2 l0_2.length l0_2 hB hF (hS _ R0_1) hc0_1 (hS _ R0_2) hc0_2 (hS _ B0) _ hx1)) (cur3 (fun A3 c4 H5 => ?_))
  refine o_e rfl (e_lit0 (gk 3 (Kd.int .i64)) Try.underlying60 I25) (cur2 (fun A6 c7 => ?_))
  refine o_q rfl rfl (q_asg rfl) ?_
  refine o_q rfl rfl (q_asg rfl) ?_
  refine o_end ?_
  refine za1 ?_
  refine c_seq ?_
  refine c_seq ?_
  refine za0 ?_
  refine o_q rfl rfl (za2 rfl) ?_
  refine o_q rfl rfl (q_nil rfl) ?_
  refine o_q rfl rfl (q_f F27_2 rfl) ?_
  refine o_q rfl rfl (q_ldb Y25 rfl (fun w h => B0.now Z h) rfl) ?_
  refine o_q rfl rfl (q_len Try.underlying25 rfl) ?_
  refine o_q rfl rfl (za2 rfl) ?_
  refine o_end ?_
  refine za1 ?_
  refine zaj ?_
  refine zaa h (fun o21 hl20 hR19 => ?_) rfl
  clear h
  refine c_fact (p := l0_2.length ≤ 9223372036854775807) (fun w h => (R0_2.now Z h).2.1) (fun hm18 => ?_)
  refine zaw (σ := (List Int) × (List (List Int)) × Int × (Option Addr) × Nat × Hd) (fun k16 ((ys15, l9, i13, A10, c11, H12) : (List Int) × (List (List Int)) × Int × (Option Addr) × Nat × Hd) => Rg l0_2 i13 ys15 ∧ ys15.length = k16 ∧ impl_Plan_outputExponents.l0 l2 ys15 l9 i13 = some o21) [4, 6, 15, 16, 17, 18, 19, 20, 21, 22, 23, 24, 25, 26, 27] (fun ((ys15, l9, i13, A10, c11, H12) : (List Int) × (List (List Int)) × Int × (Option Addr) × Nat × Hd) => [(4, .slice A10 l9.length c11), (15, .int .i64 i13)]) (fun ((ys15, l9, i13, A10, c11, H12) : (List Int) × (List (List Int)) × Int × (Option Addr) × Nat × Hd) => [row (gk 3 (Kd.int .i64)) 25 (.slice A10 l9.length c11) (zp H12 l9), row (gk 3 (Kd.int .i64)) 25 (.slice A3 l2.length c4) (zp H5 l2)]) l0_2.length (l0_2, ([] : List (List Int)), 0, A6, c7, ([] : Hd)) ⟨Rg.start _, rfl, hl20⟩ ⟨rfl, rfl, trivial⟩ (fun w h => h) ?_
  refine fun k16 => cur6 (listC (fun l9 i13 A10 c11 H12 U22 hJ_ => ?_) (fun y14 ys15 l9 i13 A10 c11 H12 U22 hJ_ => ?_))
  · skip
    clear hl20
    have hr17 := hJ_.1; have hk23 := hJ_.2.1; have h := hJ_.2.2; clear hJ_
    replace h : impl_Plan_outputExponents.l0 l2 [] l9 i13 = some o21 := h
    rw [impl_Plan_outputExponents.l0] at h
    refine c_seq ?_
    refine za0 ?_
    refine o_q rfl rfl (q_lss rfl rfl) ?_
    refine o_end ?_
    refine za1 ?_
    refine c_seq ?_
    refine c_false (congrArg Value.bool hr17.ge) ?_
    refine c_exit ?_
    refine za6 ?_
    refine za6 ?_
    have e_ := Option.some.inj h; replace h := hR19; rw [← e_] at h; clear e_
    refine x_hit ?_
    refine za1 ?_
    refine c_seq ?_
    refine za0 ?_
    refine o_q rfl rfl (za2 rfl) ?_
    refine o_q rfl rfl (q_asg rfl) ?_
    refine o_end ?_
    refine za1 ?_
    refine c_ret ?_
    have e0_ := Option.some.inj h; clear h
    subst e0_
    exact x_r1 (A10, c11, H12) Try.results135 (zaf rfl) rfl (fun w h => za8 [0] (by decide) rfl w h)
  · skip
    clear hl20
    have hr17 := hJ_.1; have hk23 := hJ_.2.1; have h := hJ_.2.2; clear hJ_
    replace h : impl_Plan_outputExponents.l0 l2 (y14 :: ys15) l9 i13 = some o21 := h
    rw [impl_Plan_outputExponents.l0] at h
    refine c_seq ?_
    refine za0 ?_
    refine o_q rfl rfl (q_lss rfl rfl) ?_
    refine o_end ?_
    refine za1 ?_
    refine c_seq ?_
    refine c_true (congrArg Value.bool hr17.lt) ?_
    refine zan ?_
    refine za1 ?_
    refine c_seq ?_
    refine zaj ?_
    refine c_seq ?_
    refine za0 ?_
    refine zaz (p := Sh A0_2 l0_2.length l0_2.length) (fun w h => f_sh (dk := (Kd.int .i64)) h (fun w h => R0_2.now Z h)) (fun hq24 => ?_)
    refine o_q rfl rfl (q_ix Try.underlying25 Z3 rfl rfl hq24 hr17.get) ?_
    refine o_q rfl rfl (q_lde (off := 0) Y3 rfl rfl (fun w h => R0_2.now Z h) hr17.get (fun _ _ h => h) rfl) ?_
    refine o_q rfl rfl (q_asg rfl) ?_
    refine o_end ?_
    refine za1 ?_
    refine za0 ?_
    refine o_q rfl rfl (za2 rfl) ?_
    refine o_q rfl rfl (za2 rfl) ?_
    refine o_q rfl rfl (za2 rfl) ?_
    refine zaz (p := Sh A3 l2.length (zp H5 l2).length) (fun w h => f_sh (dk := (gk 3 (Kd.int .i64))) h (fun w h => h.zas (i := 1) rfl)) (fun hq25 => ?_)
    refine zaa h (fun y27 hg26 h => ?_) rfl
    refine o_q rfl rfl (q_ix Try.underlying60 Z25 rfl rfl hq25 (gt_zp hg26)) ?_
    refine zaz (p := y27.length ≤ hC H5 y14) (fun w h => (K_in (h.zas (i := 1) rfl) hg26).1) (fun hc28 => ?_)
    refine o_q rfl rfl (q_lde (off := 0) Y25 rfl rfl (fun w h => h.zas (i := 1) rfl) (gt_zp hg26) (fun _ _ h => h.1) rfl) ?_
    refine zaa h (fun l30 hx29 h => ?_) rfl
    refine o_e rfl (zac 0 Z Try.func141 N141 rfl rfl rfl (fun w P1 hF hB hS hT => slices_Clone_int_int.calls (hA H5 y14) (hC H5 y14) y27.length y27 hB hF (stab_in (hT 1 _ rfl).row hg26) hc28 _ hx29)) (cur2 (fun A31 c32 => ?_))
    refine o_e rfl (e_litG (j := 0) (ue := 3) (dk := (Kd.int .i64)) (ys := l30) Try.underlying60 I25 rfl rfl rfl) (cur3 (fun A33 c34 H36 => ?_))
    refine zaa h (fun l37 ha38 h => ?_) rfl
    refine o_e rfl (e_appG (i := 2) (j := 0) Try.underlying60 I25 rfl (by decide) rfl rfl rfl rfl rfl ha38) (cur3 (fun A39 c40 H41 => ?_))
    refine o_q rfl rfl (q_asg rfl) ?_
    refine o_end ?_
    refine zal ?_
    refine za1 ?_
    refine za0 ?_
    refine o_q rfl rfl (q_up rfl rfl (hr17.up hm18)) ?_
    refine o_q rfl rfl (za2 rfl) ?_
    refine o_end ?_
    refine zak ys15.length (ys15, l37, i13 + 1, A39, c40, H41) (by rw [← hk23]; exact Nat.lt_succ_self _) ⟨hr17.step, rfl, h⟩ ⟨rfl, rfl, trivial⟩ (fun w h => za8 [2, 3] (by decide) rfl w h) ?_
    repeat (first | exact zad _ _ | refine zah rfl ?_ | refine zae rfl ?_ | refine zai rfl ?_)

/-! ### slices.EqualFunc[[][]int,[][]int,[]int,[]int]: function 187 -/
def slices_EqualFunc_int_int_int_int.l0 (l1 : List (List Int)) : (List (List Int)) → Int → Option ((Bool) ⊕ (Unit))
  | [], i2 => some (.inr ())
  | y3 :: ys4, i2 => (gt l1 i2).bind fun y17 => (slices_Equal_int_int.f y3 y17).bind fun b20 => if b20 = true then (slices_EqualFunc_int_int_int_int.l0 l1 ys4 (i2 + 1)) else (some (.inl false))
def slices_EqualFunc_int_int_int_int.f (l0 : List (List Int)) (l1 : List (List Int)) : Option Bool := if (l0.length : Int) ≠ (l1.length : Int) then (some false) else ((slices_EqualFunc_int_int_int_int.l0 l1 l0 0).bind fun o_ => match o_ with | .inl r_ => some r_ | .inr _ => some true)
set_option maxHeartbeats 600000 in
set_option maxRecDepth 100000 in
theorem slices_EqualFunc_int_int_int_int.calls {w0 ws : World} {P0 : Nat → Prop} (A0 : Option Addr) (c0 : Nat) (n0 : Nat) (H0 : Hd) (l0 : List (List Int)) (A1 : Option Addr) (c1 : Nat) (n1 : Nat) (H1 : Hd) (l1 : List (List Int)) (Z : Below w0.heap.size w0 ws) (hF : Fr w0 ws P0 [] ws) (R0 : Stable ws P0 (fun w => Kd.C (gk 3 (Kd.int .i64)) w A0 n0 (zp H0 l0))) (hc0 : n0 ≤ c0) (R1 : Stable ws P0 (fun w => Kd.C (gk 3 (Kd.int .i64)) w A1 n1 (zp H1 l1))) (hc1 : n1 ≤ c1) (r_1 : Bool) (h : slices_EqualFunc_int_int_int_int.f l0 l1 = some r_1) :
    Calls Try.prog 187 #[.slice A0 n0 c0, .slice A1 n1 c1, .func (.func 144) #[] #[]] ws (Post1 w0 ws P0 (fun (_ : Unit) => .bool r_1) (fun (_ : Unit) => [])) := by
  unfold slices_EqualFunc_int_int_int_int.f at h
  obtain rfl := (zp_len _ _).symm.trans (R0 ws (KeptB.refl _ _)).1
  obtain rfl := (zp_len _ _).symm.trans (R1 ws (KeptB.refl _ _)).1
  refine enter Try.func187 rfl Try.ntmps187 rfl hF ?_
  refine c_seq ?_
  refine za0 ?_
  refine o_q rfl rfl (q_asg rfl) ?_
  refine o_end ?_
  refine za1 ?_
  refine c_seq ?_
  refine c_seq ?_
  refine za0 ?_
  refine o_q rfl rfl (za2 rfl) ?_
  refine o_q rfl rfl (q_len Try.underlying60 rfl) ?_
  refine o_q rfl rfl (za2 rfl) ?_
  refine o_q rfl rfl (q_len Try.underlying60 rfl) ?_
  refine o_q rfl rfl (q_neq rfl rfl) ?_
  refine o_end ?_
  refine za1 ?_
  refine zau _ rfl (fun hb1 => ?_) (fun hb1 => ?_)
  · skip
    replace h := br_t hb1 h
    refine c_seq ?_
    refine za0 ?_
    refine o_q rfl rfl (q_asg rfl) ?_
    refine o_end ?_
    refine za1 ?_
    refine c_ret ?_
    refine za9 ?_
    have e0_ := Option.some.inj h; clear h
    subst e0_
    exact x_r1 () Try.results187 (zaf rfl) rfl (fun w h => za8 [] (by decide) rfl w h)
  · skip
    replace h := br_f hb1 h
    refine zan ?_
    refine za1 ?_
    refine c_seq ?_
    refine c_seq ?_
    refine za0 ?_
    refine o_q rfl rfl (za2 rfl) ?_
    refine o_q rfl rfl (q_len Try.underlying60 rfl) ?_
    refine o_q rfl rfl (za2 rfl) ?_
    refine o_end ?_
    refine za1 ?_
    refine zaj ?_
    refine zaa h (fun o10 hl9 hR8 => ?_) rfl
    clear h
    refine c_fact (p := l0.length ≤ 9223372036854775807) (fun w h => (R0.now Z h).2.1) (fun hm7 => ?_)
    refine zaw (σ := (List (List Int)) × Int) (fun k5 ((ys4, i2) : (List (List Int)) × Int) => Rg l0 i2 ys4 ∧ ys4.length = k5 ∧ slices_EqualFunc_int_int_int_int.l0 l1 ys4 i2 = some o10) [6, 7, 8, 9, 17, 18, 19, 20, 21, 22, 23, 24, 25, 26, 27, 28, 29, 30, 31] (fun ((ys4, i2) : (List (List Int)) × Int) => [(17, .int .i64 i2)]) (fun ((ys4, i2) : (List (List Int)) × Int) => []) l0.length (l0, 0) ⟨Rg.start _, rfl, hl9⟩ ⟨rfl, trivial⟩ (fun w h => h) ?_
    refine fun k5 => cur2 (listC (fun i2 U11 hJ_ => ?_) (fun y3 ys4 i2 U11 hJ_ => ?_))
    · skip
      clear hl9
      have hr6 := hJ_.1; have hk12 := hJ_.2.1; have h := hJ_.2.2; clear hJ_
      replace h : slices_EqualFunc_int_int_int_int.l0 l1 [] i2 = some o10 := h
      rw [slices_EqualFunc_int_int_int_int.l0] at h
      refine c_seq ?_
      refine za0 ?_
      refine o_q rfl rfl (q_lss rfl rfl) ?_
      refine o_end ?_
      refine za1 ?_
      refine c_seq ?_
      refine c_false (congrArg Value.bool hr6.ge) ?_
      refine c_exit ?_
      refine za6 ?_
      refine za6 ?_
      have e_ := Option.some.inj h; replace h := hR8; rw [← e_] at h; clear e_
      refine x_hit ?_
      refine za1 ?_
      refine c_seq ?_
      refine za0 ?_
      refine o_q rfl rfl (q_asg rfl) ?_
      refine o_end ?_
      refine za1 ?_
      refine c_ret ?_
      have e0_ := Option.some.inj h; clear h
      subst e0_
      exact x_r1 () Try.results187 (zaf rfl) rfl (fun w h => za8 [] (by decide) rfl w h)
    · skip
      clear hl9
      have hr6 := hJ_.1; have hk12 := hJ_.2.1; have h := hJ_.2.2; clear hJ_
      replace h : slices_EqualFunc_int_int_int_int.l0 l1 (y3 :: ys4) i2 = some o10 := h
      rw [slices_EqualFunc_int_int_int_int.l0] at h
      refine c_seq ?_
      refine za0 ?_
      refine o_q rfl rfl (q_lss rfl rfl) ?_
      refine o_end ?_
      refine za1 ?_
      refine c_seq ?_
      refine c_true (congrArg Value.bool hr6.lt) ?_
      refine zan ?_
      refine za1 ?_
      refine c_seq ?_
      refine zaj ?_
      refine c_seq ?_
      refine za0 ?_
      refine o_q rfl rfl (za2 rfl) ?_
      refine zaz (p := Sh A0 l0.length (zp H0 l0).length) (fun w h => f_sh (dk := (gk 3 (Kd.int .i64))) h (fun w h => R0.now Z h)) (fun hq13 => ?_)
      refine o_q rfl rfl (q_ix Try.underlying60 Z25 rfl rfl hq13 (gt_zp hr6.get)) ?_
      refine zaz (p := y3.length ≤ hC H0 i2) (fun w h => (K_in (R0.now Z h) hr6.get).1) (fun hc14 => ?_)
      refine o_q rfl rfl (q_lde (off := 0) Y25 rfl rfl (fun w h => R0.now Z h) (gt_zp hr6.get) (fun _ _ h => h.1) rfl) ?_
      refine o_q rfl rfl (q_asg rfl) ?_
      refine o_q rfl rfl (q_asg rfl) ?_
      refine o_end ?_
      refine za1 ?_
      refine c_seq ?_
      refine za0 ?_
      refine o_q rfl rfl (za2 rfl) ?_
      refine o_q rfl rfl (za2 rfl) ?_
      refine zaz (p := Sh A1 l1.length (zp H1 l1).length) (fun w h => f_sh (dk := (gk 3 (Kd.int .i64))) h (fun w h => R1.now Z h)) (fun hq15 => ?_)
      refine zaa h (fun y17 hg16 h => ?_) rfl
      refine o_q rfl rfl (q_ix Try.underlying60 Z25 rfl rfl hq15 (gt_zp hg16)) ?_
      refine zaz (p := y17.length ≤ hC H1 i2) (fun w h => (K_in (R1.now Z h) hg16).1) (fun hc18 => ?_)
      refine o_q rfl rfl (q_lde (off := 0) Y25 rfl rfl (fun w h => R1.now Z h) (gt_zp hg16) (fun _ _ h => h.1) rfl) ?_
      refine o_q rfl rfl (q_asg rfl) ?_
      refine o_end ?_
      refine za1 ?_
      refine c_seq ?_
      refine za0 ?_
      refine o_q rfl rfl (za2 rfl) ?_
      refine o_q rfl rfl (za2 rfl) ?_
      refine o_q rfl rfl (za2 rfl) ?_
      refine zaa h (fun b20 hx19 h => ?_) rfl
      refine o_e rfl (zac 0 Z Try.func144 N144 rfl rfl rfl (fun w P1 hF hB hS hT => slices_Equal_int_int.calls (hA H0 i2) (hC H0 i2) y3.length y3 (hA H1 i2) (hC H1 i2) y17.length y17 hB hF (stab_in (hS _ R0) hr6.get) hc14 (stab_in (hS _ R1) hg16) hc18 _ hx19)) (fun _ => ?_)
      refine o_q rfl rfl (q_not rfl) ?_
      refine o_end ?_
      refine za1 ?_
      refine zau _ rfl (fun hb21 => ?_) (fun hb21 => ?_)
      · replace hb21 := nt_t hb21
        replace h := bb_f hb21 h
        refine c_seq ?_
        refine za0 ?_
        refine o_q rfl rfl (q_asg rfl) ?_
        refine o_end ?_
        refine za1 ?_
        refine c_ret ?_
        refine zam ?_
        refine za9 ?_
        refine za9 ?_
        have e_ := Option.some.inj h; replace h := hR8; rw [← e_] at h; clear e_
        refine zam ?_
        refine za9 ?_
        have e0_ := Option.some.inj h; clear h
        subst e0_
        exact x_r1 () Try.results187 (zaf rfl) rfl (fun w h => za8 [] (by decide) rfl w h)
      · replace hb21 := nt_f hb21
        replace h := bb_t hb21 h
        refine zan ?_
        refine zal ?_
        refine za1 ?_
        refine za0 ?_
        refine o_q rfl rfl (q_up rfl rfl (hr6.up hm7)) ?_
        refine o_q rfl rfl (za2 rfl) ?_
        refine o_end ?_
        refine zak ys4.length (ys4, i2 + 1) (by rw [← hk12]; exact Nat.lt_succ_self _) ⟨hr6.step, rfl, h⟩ ⟨rfl, trivial⟩ (fun w h => za8 [] (by decide) rfl w h) ?_
        repeat (first | exact zad _ _ | refine zah rfl ?_ | refine zae rfl ?_ | refine zai rfl ?_)

end Go.Proofs.Ytoegbcbdiggbjaa.HP
