import Derived.Test.YtoegbcbdiggbjaaKFnTurnedPlansTUp2
namespace Go.Proofs.Ytoegbcbdiggbjaa.TU
open Go.RowKit Go.Proofs.Ytoegbcbdiggbjaa.Frame Go.Proofs.YtoegbcbdiggbjaaW.PrintLast Go.Proofs.Ytoegbcbdiggbjaa.Hand
open Go.Proofs.YtoegbcbdiggbjaaW.PrintWords hiding mn mx
set_option linter.unusedVariables false
/-! ### loop.example/g01098/spec.duUses: function 209 -/
def spec_duUses.l1 : (List Int) → (List Int) → Int → Option (List Int)
  | [], l20, i21 => some l20
  | y22 :: ys23, l20, i21 => (gt l20 y22).bind fun y36 => (gt l20 y22).bind fun y38 => (st l20 y22 (w64 (y36 + 1))).bind fun l39 => spec_duUses.l1 ys23 l39 (i21 + 1)
def spec_duUses.l0 : (List SStep) → (List Int) → Int → Option (List Int)
  | [], l8, i9 => some l8
  | y10 :: ys11, l8, i9 => (gt l8 y10.f0).bind fun y46 => (gt l8 y10.f0).bind fun y48 => (st l8 y10.f0 (w64 (y46 + 1))).bind fun l49 => (gt l49 y10.f1).bind fun y53 => (gt l49 y10.f1).bind fun y55 => (st l49 y10.f1 (w64 (y53 + 1))).bind fun l56 => spec_duUses.l0 ys11 l56 (i9 + 1)
def spec_duUses.f (a0_0 : Int) (l0_1 : List SStep) (l0_2 : List Int) : Option (List Int) := (mk0 (w64 (a0_0 + (l0_1.length : Int))) (0 : Int)).bind fun l3 => (spec_duUses.l0 l0_1 l3 0).bind fun l8 => (spec_duUses.l1 l0_2 l8 0).bind fun l20 => some l20
set_option maxHeartbeats 600000 in
set_option maxRecDepth 100000 in
theorem spec_duUses.calls {w0 ws : World} {P0 : Nat → Prop} (a0_0 : Int) (A0_1 : Option Addr) (c0_1 : Nat) (n0_1 : Nat) (l0_1 : List SStep) (A0_2 : Option Addr) (c0_2 : Nat) (n0_2 : Nat) (l0_2 : List Int) (Z : Below w0.heap.size w0 ws) (hF : Fr w0 ws P0 [] ws) (R0_1 : Stable ws P0 (fun w => Kd.C kStep w A0_1 n0_1 l0_1)) (hc0_1 : n0_1 ≤ c0_1) (R0_2 : Stable ws P0 (fun w => Kd.C (Kd.int .i64) w A0_2 n0_2 l0_2)) (hc0_2 : n0_2 ≤ c0_2) (r_1 : List Int) (h : spec_duUses.f a0_0 l0_1 l0_2 = some r_1) :
    Calls Try.prog 209 #[.agg #[.int .i64 a0_0, .slice A0_1 n0_1 c0_1, .slice A0_2 n0_2 c0_2]] ws (Post1 w0 ws P0 (fun ((q_2, q_3) : (Option Addr) × Nat) => .slice q_2 r_1.length q_3) (fun ((q_2, q_3) : (Option Addr) × Nat) => [row (Kd.int .i64) 3 (.slice q_2 r_1.length q_3) r_1])) := by
  unfold spec_duUses.f at h
  obtain rfl := (R0_1 ws (KeptB.refl _ _)).1
  obtain rfl := (R0_2 ws (KeptB.refl _ _)).1
  refine enter Try.func209 rfl Try.ntmps209 rfl hF ?_
  refine c_seq ?_
  refine za0 ?_
  refine o_e rfl (e_box rfl) (fun g1 => ?_)
  refine o_q rfl rfl (q_asg rfl) ?_
  refine o_end ?_
  refine za1 ?_
  refine c_seq ?_
  refine za0 ?_
  refine o_q rfl rfl (q_f F27_0 rfl) ?_
  refine o_q rfl rfl (q_ldb Y3 rfl (fun w h => h.zaa (i := 0) rfl) rfl) ?_
  refine o_q rfl rfl (q_f F27_1 rfl) ?_
  refine o_q rfl rfl (q_ldb Y24 rfl (fun w h => h.zaa (i := 0) rfl) rfl) ?_
  refine o_q rfl rfl (q_len Try.underlying24 rfl) ?_
  refine o_q rfl rfl (q_add64 rfl rfl) ?_
  refine za7 h (fun l3 hm4 h => ?_) rfl
  refine o_e rfl (e_make (Kd.int .i64) (0 : Int) Try.underlying25 I3 rfl (by decide) (by decide) (fun _ _ => rfl) rfl rfl hm4) (cur2 (fun A5 c6 => ?_))
  refine o_q rfl rfl (q_asg rfl) ?_
  refine o_end ?_
  refine za1 ?_
  refine c_seq ?_
  refine c_seq ?_
  refine za0 ?_
  refine o_q rfl rfl (q_f F27_1 rfl) ?_
  refine o_q rfl rfl (q_ldb Y24 rfl (fun w h => h.zaa (i := 1) rfl) rfl) ?_
  refine o_q rfl rfl (q_len Try.underlying24 rfl) ?_
  refine o_q rfl rfl (za2 rfl) ?_
  refine o_end ?_
  refine za1 ?_
  refine zaj ?_
  refine za7 h (fun o17 hl16 hR15 => ?_) rfl
  clear h
  refine c_fact (p := l0_1.length ≤ 9223372036854775807) (fun w h => (R0_1.now Z h).2.1) (fun hm14 => ?_)
  refine zav (σ := (List SStep) × (List Int) × Int) (fun k12 ((ys11, l8, i9) : (List SStep) × (List Int) × Int) => Rg l0_1 i9 ys11 ∧ ys11.length = k12 ∧ spec_duUses.l0 ys11 l8 i9 = some o17) [5, 18, 19, 20, 21, 22, 23, 24, 25, 26, 27, 28, 29, 30, 31, 32, 33, 34, 35, 36] (fun ((ys11, l8, i9) : (List SStep) × (List Int) × Int) => [(18, .int .i64 i9)]) (fun ((ys11, l8, i9) : (List SStep) × (List Int) × Int) => [row (Kd.int .i64) 3 (.slice A5 l3.length c6) l8, box g1 27 #[.int .i64 a0_0, .slice A0_1 l0_1.length c0_1, .slice A0_2 l0_2.length c0_2]]) l0_1.length (l0_1, l3, 0) ⟨Rg.start _, rfl, hl16⟩ ⟨rfl, trivial⟩ (fun w h => h) ?_
  refine fun k12 => cur3 (listC (fun l8 i9 U18 hJ_ => ?_) (fun y10 ys11 l8 i9 U18 hJ_ => ?_))
  · skip
    clear hl16
    have hr13 := hJ_.1; have hk19 := hJ_.2.1; have h := hJ_.2.2; clear hJ_
    replace h : spec_duUses.l0 [] l8 i9 = some o17 := h
    rw [spec_duUses.l0] at h
    refine c_seq ?_
    refine za0 ?_
    refine o_q rfl rfl (q_lss rfl rfl) ?_
    refine o_end ?_
    refine za1 ?_
    refine c_seq ?_
    refine zb2 (congrArg Value.bool hr13.ge) ?_
    refine c_exit ?_
    refine za6 ?_
    refine za6 ?_
    have e_ := Option.some.inj h; replace h := hR15; rw [← e_] at h; clear e_
    refine x_hit ?_
    refine za1 ?_
    refine c_seq ?_
    refine c_seq ?_
    refine za0 ?_
    refine o_q rfl rfl (q_f F27_2 rfl) ?_
    refine o_q rfl rfl (q_ldb Y25 rfl (fun w h => h.zaa (i := 1) rfl) rfl) ?_
    refine o_q rfl rfl (q_len Try.underlying25 rfl) ?_
    refine o_q rfl rfl (za2 rfl) ?_
    refine o_end ?_
    refine za1 ?_
    refine zaj ?_
    refine za7 h (fun o29 hl28 hR27 => ?_) rfl
    clear h
    refine c_fact (p := l0_2.length ≤ 9223372036854775807) (fun w h => (R0_2.now Z h).2.1) (fun hm26 => ?_)
    refine zav (σ := (List Int) × (List Int) × Int) (fun k24 ((ys23, l20, i21) : (List Int) × (List Int) × Int) => Rg l0_2 i21 ys23 ∧ ys23.length = k24 ∧ spec_duUses.l1 ys23 l20 i21 = some o29) [7, 40, 41, 42, 43, 44, 45, 46, 47, 48, 49, 50] (fun ((ys23, l20, i21) : (List Int) × (List Int) × Int) => [(40, .int .i64 i21)]) (fun ((ys23, l20, i21) : (List Int) × (List Int) × Int) => [row (Kd.int .i64) 3 (.slice A5 l3.length c6) l20, box g1 27 #[.int .i64 a0_0, .slice A0_1 l0_1.length c0_1, .slice A0_2 l0_2.length c0_2]]) l0_2.length (l0_2, l8, 0) ⟨Rg.start _, rfl, hl28⟩ ⟨rfl, trivial⟩ (fun w h => h) ?_
    refine fun k24 => cur3 (listC (fun l20 i21 U30 hJ_ => ?_) (fun y22 ys23 l20 i21 U30 hJ_ => ?_))
    · skip
      clear hl28
      have hr25 := hJ_.1; have hk31 := hJ_.2.1; have h := hJ_.2.2; clear hJ_
      replace h : spec_duUses.l1 [] l20 i21 = some o29 := h
      rw [spec_duUses.l1] at h
      refine c_seq ?_
      refine za0 ?_
      refine o_q rfl rfl (q_lss rfl rfl) ?_
      refine o_end ?_
      refine za1 ?_
      refine c_seq ?_
      refine zb2 (congrArg Value.bool hr25.ge) ?_
      refine c_exit ?_
      refine za6 ?_
      refine za6 ?_
      have e_ := Option.some.inj h; replace h := hR27; rw [← e_] at h; clear e_
      refine x_hit ?_
      refine za1 ?_
      refine c_seq ?_
      refine za0 ?_
      refine o_q rfl rfl (za2 rfl) ?_
      refine o_q rfl rfl (q_asg rfl) ?_
      refine o_end ?_
      refine za1 ?_
      refine c_ret ?_
      refine x_fact (p := l3.length = l20.length) (fun w h => (h.row_C (i := 0) rfl).2.1) (fun hn32 => ?_)
      have e0_ := Option.some.inj h; clear h
      subst e0_
      exact x_r1 (A5, c6) Try.results209 (zaf (v := .slice A5 l3.length c6) rfl) (by (try rw [hn32]); first | done | rfl) (f_pickE (L1 := [row (Kd.int .i64) 3 (.slice A5 l3.length c6) l20, box g1 27 #[.int .i64 a0_0, .slice A0_1 l0_1.length c0_1, .slice A0_2 l0_2.length c0_2]]) rfl [0] (by decide) rfl (by (try rw [hn32]); first | done | rfl))
    · skip
      clear hl28
      have hr25 := hJ_.1; have hk31 := hJ_.2.1; have h := hJ_.2.2; clear hJ_
      replace h : spec_duUses.l1 (y22 :: ys23) l20 i21 = some o29 := h
      rw [spec_duUses.l1] at h
      refine c_seq ?_
      refine za0 ?_
      refine o_q rfl rfl (q_lss rfl rfl) ?_
      refine o_end ?_
      refine za1 ?_
      refine c_seq ?_
      refine zb3 (congrArg Value.bool hr25.lt) ?_
      refine zam ?_
      refine za1 ?_
      refine c_seq ?_
      refine zaj ?_
      refine c_seq ?_
      refine za0 ?_
      refine zas (p := Sh A0_2 l0_2.length l0_2.length) (fun w h => f_sh (dk := (Kd.int .i64)) h (fun w h => R0_2.now Z h)) (fun hq33 => ?_)
      refine o_q rfl rfl (q_ix Try.underlying25 Z3 rfl rfl hq33 hr25.get) ?_
      refine o_q rfl rfl (q_lde (off := 0) Y3 rfl rfl (fun w h => R0_2.now Z h) hr25.get (fun _ _ h => h) rfl) ?_
      refine o_q rfl rfl (q_asg rfl) ?_
      refine o_end ?_
      refine za1 ?_
      refine za0 ?_
      refine o_q rfl rfl (za2 rfl) ?_
      refine o_q rfl rfl (za2 rfl) ?_
      refine zas (p := Sh A5 l3.length l20.length) (fun w h => f_sh (dk := (Kd.int .i64)) h (fun w h => h.zaw (i := 0) rfl)) (fun hq34 => ?_)
      refine za7 h (fun y36 hg35 h => ?_) rfl
      refine o_q rfl rfl (q_ix Try.underlying25 Z3 rfl rfl hq34 hg35) ?_
      refine o_q rfl rfl (q_lde (off := 0) Y3 rfl rfl (fun w h => h.zaw (i := 0) rfl) hg35 (fun _ _ h => h) rfl) ?_
      refine o_q rfl rfl (q_add64 rfl rfl) ?_
      refine za7 h (fun y38 hg37 h => ?_) rfl
      refine o_q rfl rfl (q_ix Try.underlying25 Z3 rfl rfl hq34 hg37) ?_
      refine za7 h (fun l39 hs40 h => ?_) rfl
      refine o_e rfl (e_set (i := 0) rfl rfl rfl Z3 hs40) (fun _ => ?_)
      refine o_end ?_
      refine zan ?_
      refine za1 ?_
      refine za0 ?_
      refine o_q rfl rfl (q_up rfl rfl (hr25.up hm26)) ?_
      refine o_q rfl rfl (za2 rfl) ?_
      refine o_end ?_
      refine zak ys23.length (ys23, l39, i21 + 1) (by rw [← hk31]; exact Nat.lt_succ_self _) ⟨hr25.step, rfl, h⟩ ⟨rfl, trivial⟩ (fun w h => za5 [0, 1] (by decide) rfl w h) ?_
      repeat (first | exact zad _ _ | refine zah rfl ?_ | refine zae rfl ?_ | refine zai rfl ?_)
  · skip
    clear hl16
    have hr13 := hJ_.1; have hk19 := hJ_.2.1; have h := hJ_.2.2; clear hJ_
    replace h : spec_duUses.l0 (y10 :: ys11) l8 i9 = some o17 := h
    rw [spec_duUses.l0] at h
    refine c_seq ?_
    refine za0 ?_
    refine o_q rfl rfl (q_lss rfl rfl) ?_
    refine o_end ?_
    refine za1 ?_
    refine c_seq ?_
    refine zb3 (congrArg Value.bool hr13.lt) ?_
    refine zam ?_
    refine za1 ?_
    refine c_seq ?_
    refine zaj ?_
    refine c_seq ?_
    refine za0 ?_
    refine zas (p := Sh A0_1 l0_1.length l0_1.length) (fun w h => f_sh (dk := kStep) h (fun w h => R0_1.now Z h)) (fun hq41 => ?_)
    refine o_q rfl rfl (q_ix Try.underlying24 Z89 rfl rfl hq41 hr13.get) ?_
    refine o_q rfl rfl (q_ldE G89 Z89 rfl rfl (fun w h => R0_1.now Z h) hr13.get (fun _ _ h => h) rfl) ?_
    refine o_e rfl (zaz V89 rfl) (fun g42 => ?_)
    refine o_e rfl (zaq (i := 0) rfl rfl rfl Z89 rfl rfl) (fun _ => ?_)
    refine o_end ?_
    refine za1 ?_
    refine c_seq ?_
    refine za0 ?_
    refine o_q rfl rfl (za2 rfl) ?_
    refine o_q rfl rfl (q_f F89_0 rfl) ?_
    refine o_q rfl rfl (q_ldb Y3 rfl (fun w h => h.zaa (i := 0) rfl) rfl) ?_
    refine zas (p := Sh A5 l3.length l8.length) (fun w h => f_sh (dk := (Kd.int .i64)) h (fun w h => h.zaw (i := 1) rfl)) (fun hq44 => ?_)
    refine za7 h (fun y46 hg45 h => ?_) rfl
    refine o_q rfl rfl (q_ix Try.underlying25 Z3 rfl rfl hq44 hg45) ?_
    refine o_q rfl rfl (q_lde (off := 0) Y3 rfl rfl (fun w h => h.zaw (i := 1) rfl) hg45 (fun _ _ h => h) rfl) ?_
    refine o_q rfl rfl (q_add64 rfl rfl) ?_
    refine za7 h (fun y48 hg47 h => ?_) rfl
    refine o_q rfl rfl (q_ix Try.underlying25 Z3 rfl rfl hq44 hg47) ?_
    refine za7 h (fun l49 hs50 h => ?_) rfl
    refine o_e rfl (e_set (i := 1) rfl rfl rfl Z3 hs50) (fun _ => ?_)
    refine o_end ?_
    refine za1 ?_
    refine za0 ?_
    refine o_q rfl rfl (za2 rfl) ?_
    refine o_q rfl rfl (q_f F89_1 rfl) ?_
    refine o_q rfl rfl (q_ldb Y3 rfl (fun w h => h.zaa (i := 0) rfl) rfl) ?_
    refine zas (p := Sh A5 l3.length l49.length) (fun w h => f_sh (dk := (Kd.int .i64)) h (fun w h => h.zaw (i := 1) rfl)) (fun hq51 => ?_)
    refine za7 h (fun y53 hg52 h => ?_) rfl
    refine o_q rfl rfl (q_ix Try.underlying25 Z3 rfl rfl hq51 hg52) ?_
    refine o_q rfl rfl (q_lde (off := 0) Y3 rfl rfl (fun w h => h.zaw (i := 1) rfl) hg52 (fun _ _ h => h) rfl) ?_
    refine o_q rfl rfl (q_add64 rfl rfl) ?_
    refine za7 h (fun y55 hg54 h => ?_) rfl
    refine o_q rfl rfl (q_ix Try.underlying25 Z3 rfl rfl hq51 hg54) ?_
    refine za7 h (fun l56 hs57 h => ?_) rfl
    refine o_e rfl (e_set (i := 1) rfl rfl rfl Z3 hs57) (fun _ => ?_)
    refine o_end ?_
    refine zan ?_
    refine za1 ?_
    refine za0 ?_
    refine o_q rfl rfl (q_up rfl rfl (hr13.up hm14)) ?_
    refine o_q rfl rfl (za2 rfl) ?_
    refine o_end ?_
    refine zak ys11.length (ys11, l56, i9 + 1) (by rw [← hk19]; exact Nat.lt_succ_self _) ⟨hr13.step, rfl, h⟩ ⟨rfl, trivial⟩ (fun w h => za5 [1, 2] (by decide) rfl w h) ?_
    repeat (first | exact zad _ _ | refine zah rfl ?_ | refine zae rfl ?_ | refine zai rfl ?_)

/-! ### (*loop.example/g01098/spec.l1Cur).turnable: function 149 -/
def spec_l1Cur_turnable.l0 : (List Int) → (List Int) → Int → Option (List Int)
  | [], l775, i778 => some l775
  | y779 :: ys780, l775, i778 => (if y779 = 0 then (some (decide ((l775.length : Int) < 6))) else (some false)).bind fun b791 => if b791 = true then ((ap l775 ([i778] : List Int)).bind fun l802 => spec_l1Cur_turnable.l0 ys780 l802 (i778 + 1)) else (spec_l1Cur_turnable.l0 ys780 l775 (i778 + 1))
def spec_l1Cur_turnable.f (k : Nat) (l0_0 : List Int) (a0_1 : Int) (a0_2 : Int) : Option (Int × (List SStep) × (List Int) × Int × Int) := (spec_l1Cur_anyPlan.f k l0_0 a0_1 a0_2 3 7).bind fun (i4, l5, l6, i7, i8) => ((spec_plGood.f k i4 l5 l6).bind fun b31 => if b31 = true then ((spec_l1Cur_one.f l0_0 i7 i8 4).bind fun (b34, i35, i36) => some (b34, i35, i36)) else (some (true, i7, i8))).bind fun (b22, i23, i24) => if b22 = true then (some (i4, l5, l6, i23, i24)) else (((spec_plUsed.f k i4 l5 l6).bind fun l532 => (spec_plKeep.f i4 l5 l6 l532).bind fun (l592, l593) => some (l592, l593)).bind fun (l399, l402) => (spec_duUses.f i4 l399 l402).bind fun l772 => (spec_l1Cur_turnable.l0 l772 l402 0).bind fun l775 => some (i4, l399, l775, i23, i24))
set_option maxHeartbeats 600000 in
set_option maxRecDepth 100000 in
theorem spec_l1Cur_turnable.calls (k : Nat) {w0 ws : World} {P0 : Nat → Prop} (g0 : Nat) (A0_0 : Option Addr) (c0_0 : Nat) (n0_0 : Nat) (l0_0 : List Int) (a0_1 : Int) (a0_2 : Int) (Z : Below w0.heap.size w0 ws) (hF : Fr w0 ws P0 [box g0 81 #[.slice A0_0 n0_0 c0_0, .int .i64 a0_1, .int .u64 a0_2]] ws) (R0_0 : Stable ws P0 (fun w => Kd.C (Kd.int .u8) w A0_0 n0_0 l0_0)) (hc0_0 : n0_0 ≤ c0_0) (r_1 : Int) (r_2 : List SStep) (r_5 : List Int) (r_8 : Int) (r_9 : Int) (h : spec_l1Cur_turnable.f k l0_0 a0_1 a0_2 = some (r_1, r_2, r_5, r_8, r_9)) :
    Calls Try.prog 149 #[.pointer (some ⟨g0, 0, none⟩)] ws (Post1 w0 ws P0 (fun ((q_3, q_4, q_6, q_7) : (Option Addr) × Nat × (Option Addr) × Nat) => .agg #[.int .i64 r_1, .slice q_3 r_2.length q_4, .slice q_6 r_5.length q_7]) (fun ((q_3, q_4, q_6, q_7) : (Option Addr) × Nat × (Option Addr) × Nat) => [row kStep 89 (.slice q_3 r_2.length q_4) r_2, row (Kd.int .i64) 3 (.slice q_6 r_5.length q_7) r_5, box g0 81 #[.slice A0_0 n0_0 c0_0, .int .i64 r_8, .int .u64 r_9]])) := by
  unfold spec_l1Cur_turnable.f at h
  obtain rfl := (R0_0 ws (KeptB.refl _ _)).1
  refine enter Try.func149 rfl Try.ntmps149 rfl hF ?_
  refine c_seq ?_
  refine za0 ?_
  refine o_e rfl (zaz V27 rfl) (fun g1 => ?_)
  refine o_end ?_
  refine za1 ?_
  refine c_seq ?_
  refine za0 ?_
  refine o_q rfl rfl (za2 rfl) ?_
  refine o_pick [1, 0] (by decide) rfl ?_
  refine bindE5 h (fun i4 l5 l6 i7 i8 hx3 h => ?_) rfl
  refine o_e rfl (zac 1 Z Try.func84 N84 rfl rfl rfl (fun w P1 hF hB hS hT => spec_l1Cur_anyPlan.calls k g0 A0_0 c0_0 l0_0.length l0_0 a0_1 a0_2 3 7 hB hF (hS _ R0_0) hc0_0 _ _ _ _ _ hx3)) (cur4 (fun A9 c10 A11 c12 => ?_))
  refine o_e rfl (zaz V27 rfl) (fun g13 => ?_)
  refine o_e rfl (zaq (i := 0) rfl rfl rfl Z27 rfl rfl) (fun _ => ?_)
  refine o_end ?_
  refine za1 ?_
  refine c_seq ?_
  refine za7 h (fun o25 hl26 hR27 => ?_) rfl
  clear h
  refine c_cutJ (σ := Bool × Int × Int) (fun (b22, i23, i24) => some (b22, i23, i24) = some o25) [8, 9, 10, 11, 12, 13, 14] (fun (b22, i23, i24) => [(14, .bool b22)]) (fun (b22, i23, i24) => [box g1 27 #[.int .i64 0, .slice none 0 0, .slice none 0 0], box g13 27 #[.int .i64 i4, .slice A9 l5.length c10, .slice A11 l6.length c12], row kStep 89 (.slice A9 l5.length c10) l5, row (Kd.int .i64) 3 (.slice A11 l6.length c12) l6, box g0 81 #[.slice A0_0 l0_0.length c0_0, .int .i64 i23, .int .u64 i24]]) ?_ ?_
  · skip
    have h := hl26; clear hl26
    clear hR27
    refine za0 ?_
    refine o_q rfl rfl (q_ldB G27 Z27 rfl (fun w h => h.zaa (i := 0) rfl) rfl) ?_
    refine za7 h (fun b31 hx30 h => ?_) rfl
    refine o_e rfl (zac 0 Z Try.func93 N93 rfl rfl rfl (fun w P1 hF hB hS hT => spec_plGood.calls k i4 A9 c10 l5.length l5 A11 c12 l6.length l6 hB hF (hT 1 _ rfl).row (hT 1 _ rfl).cap (hT 2 _ rfl).row (hT 2 _ rfl).cap _ hx30)) (fun _ => ?_)
    refine o_q rfl rfl (q_not rfl) ?_
    refine o_q rfl rfl (za2 rfl) ?_
    refine byB b31 (fun hb32 => ?_) (fun hb32 => ?_)
    · replace h := bb_t hb32 h
      refine o_w (za4 rfl rfl rfl (congrArg (fun b => Value.bool (!(b))) hb32)) rfl (za2 rfl) ?_
      refine o_pick [3, 0, 1, 2, 4] (by decide) rfl ?_
      refine bindE3 h (fun b34 i35 i36 hx33 h => ?_) rfl
      refine o_ew (za4 rfl rfl rfl (congrArg (fun b => Value.bool (!(b))) hb32)) (zac 1 Z Try.func117 N117 rfl rfl rfl (fun w P1 hF hB hS hT => spec_l1Cur_one.calls g0 A0_0 c0_0 l0_0.length l0_0 i7 i8 4 hB hF (hS _ R0_0) hc0_0 _ _ _ hx33)) (fun _ => ?_)
      refine o_q rfl rfl (zal false (congrArg (fun b => Value.bool (!(b))) hb32) rfl) ?_
      refine o_end ?_
      refine zay (b34, i35, i36) h ⟨rfl, trivial⟩ (fun w h => za5 [4, 1, 2, 3, 0] (by decide) rfl w h) ?_
      repeat (first | exact zad _ _ | refine zah rfl ?_ | refine zae rfl ?_ | refine zai rfl ?_)
    · replace h := bb_f hb32 h
      refine @o_n _ _ _ _ _ _ _ _ _ _ _ 12 (za3 rfl rfl rfl (congrArg (fun b => Value.bool (!(b))) hb32) rfl) (Eq.refl (some 12)) ?_
      refine @o_n _ _ _ _ _ _ _ _ _ _ _ 13 (za3 rfl rfl rfl (congrArg (fun b => Value.bool (!(b))) hb32) rfl) (Eq.refl (some 13)) ?_
      refine o_q rfl rfl (zal true (congrArg (fun b => Value.bool (!(b))) hb32) rfl) ?_
      refine o_end ?_
      refine zay (true, i7, i8) h ⟨rfl, trivial⟩ (fun w h => za5 [4, 0, 1, 2, 3] (by decide) rfl w h) ?_
      repeat (first | exact zad _ _ | refine zah rfl ?_ | refine zae rfl ?_ | refine zai rfl ?_)
  · skip
    refine (cur3 (fun b22 i23 i24 => fun U28 hJ29 => ?_))
    have e_ := Option.some.inj hJ29; have h := hR27; rw [← e_] at h; clear e_ hJ29 hR27 hl26
    refine zar _ rfl (fun hb37 => ?_) (fun hb37 => ?_)
    · skip
      replace h := bb_t hb37 h
      refine c_seq ?_
      refine za0 ?_
      refine o_q rfl rfl (q_ldB G27 Z27 rfl (fun w h => h.zaa (i := 1) rfl) rfl) ?_
      refine o_e rfl (zaq (i := 0) rfl rfl rfl Z27 rfl rfl) (fun _ => ?_)
      refine o_end ?_
      refine za1 ?_
      refine c_ret ?_
      refine za9 ?_
      have e0_ := Option.some.inj h; clear h
      have d0_ := (Prod.mk.inj e0_).1; have e1_ := (Prod.mk.inj e0_).2; clear e0_; subst d0_
      have d1_ := (Prod.mk.inj e1_).1; have e2_ := (Prod.mk.inj e1_).2; clear e1_; subst d1_
      have d2_ := (Prod.mk.inj e2_).1; have e3_ := (Prod.mk.inj e2_).2; clear e2_; subst d2_
      have d3_ := (Prod.mk.inj e3_).1; have e4_ := (Prod.mk.inj e3_).2; clear e3_; subst d3_
      subst e4_
      exact x_r1 (A9, c10, A11, c12) Try.results149 (rv_cell rfl G27 Z27 (fun w h => h.zaa (i := 0) rfl) rfl) rfl (fun w h => za5 [2, 3, 4] (by decide) rfl w h)
    · skip
      replace h := bb_f hb37 h
      refine zam ?_
      refine za1 ?_
      refine za7 h (fun o405 hl406 hR407 => ?_) rfl
      clear h
      refine c_cutJ (σ := (List SStep) × (List Int) × (Option Addr) × Nat × (Option Addr) × Nat) (fun (l399, l402, A400, c401, A403, c404) => some (l399, l402) = some o405) [16, 17, 18, 19] (fun (l399, l402, A400, c401, A403, c404) => []) (fun (l399, l402, A400, c401, A403, c404) => [box g1 27 #[.int .i64 0, .slice none 0 0, .slice none 0 0], box g13 27 #[.int .i64 i4, .slice A400 l399.length c401, .slice A403 l402.length c404], row kStep 89 (.slice A400 l399.length c401) l399, row (Kd.int .i64) 3 (.slice A403 l402.length c404) l402, row kStep 89 (.slice A9 l5.length c10) l5, row (Kd.int .i64) 3 (.slice A11 l6.length c12) l6, box g0 81 #[.slice A0_0 l0_0.length c0_0, .int .i64 i23, .int .u64 i24]]) ?_ ?_
      · skip
        have h := hl406; clear hl406
        clear hR407
        refine za7 h (fun l532 hx531 h => ?_) rfl
        refine bindE2 h (fun l592 l593 hx591 h => ?_) rfl
        refine a_startS (ds := []) [some 0, none, some 2, some 3, some 4] MO rfl ?_
        refine a_two 0 1 rfl rfl rfl rfl (by kernel_rfl) rfl rfl (ev_q rfl (q_ldB G27 Z27 rfl (fun w h => h.zaa (i := 1) rfl) rfl)) (fun s w h => zab [some 0, none, some 2, some 3, some 4] (by decide) w h rfl) (ev_q rfl (q_ldB G27 Z27 rfl (fun w h => h.zaa (i := 1) rfl) rfl)) (fun s w h => zab [some 0, none, some 2, some 3, some 4] (by decide) w h rfl) (fun _ => ?_) (fun _ => ?_)
        · skip
          refine a_one 1 rfl rfl (by kernel_rfl) rfl (ev_q rfl (q_ldB G27 Z27 rfl (fun w h => h.zaa (i := 1) rfl) rfl)) (fun s w h => zab [some 0, none, some 2, some 3, some 4] (by decide) w h rfl) (fun _ => ?_)
          refine a_one 2 rfl rfl (by kernel_rfl) rfl (zac 0 Z Try.func112 N112 rfl rfl rfl (fun w P1 hF hB hS hT => spec_plUsed.calls k i4 A9 c10 l5.length l5 A11 c12 l6.length l6 hB hF (hT 2 _ rfl).row (hT 2 _ rfl).cap (hT 3 _ rfl).row (hT 3 _ rfl).cap _ hx531)) (fun s w h => zab [some 1, none, some 3, some 4, some 5] (by decide) w h rfl) (cur2 (fun A533 c534 => ?_))
          refine a_one 3 rfl rfl (by kernel_rfl) rfl (zac 0 Z Try.func111 N111 rfl rfl rfl (fun w P1 hF hB hS hT => spec_plKeep.calls i4 A9 c10 l5.length l5 A11 c12 l6.length l6 A533 c534 l532.length l532 hB hF (hT 3 _ rfl).row (hT 3 _ rfl).cap (hT 4 _ rfl).row (hT 4 _ rfl).cap (hT 0 _ rfl).row (hT 0 _ rfl).cap _ _ hx591)) (fun s w h => zab [some 3, none, some 5, some 6, some 7] (by decide) w h rfl) (cur4 (fun A594 c595 A596 c597 => ?_))
          refine a_one 4 rfl rfl (by kernel_rfl) rfl (zaq (i := 4) rfl rfl rfl Z27 rfl rfl) (fun s w h => zab [some 3, none, some 5, some 6, some 7] (by decide) w h rfl) (fun _ => ?_)
          refine zb0 (by kernel_rfl) ?_
          refine zay (l592, l593, A594, c595, A596, c597) h trivial (fun w h => za5 [3, 4, 0, 1, 5, 6, 7] (by decide) rfl w h) ?_
          repeat (first | exact zad _ _ | refine zah rfl ?_ | refine zae rfl ?_ | refine zai rfl ?_)
        · skip
          refine a_two 0 2 rfl rfl rfl rfl (by kernel_rfl) rfl rfl (ev_q rfl (q_ldB G27 Z27 rfl (fun w h => h.zaa (i := 1) rfl) rfl)) (fun s w h => zab [some 0, none, some 2, some 3, some 4] (by decide) w h rfl) (zac 0 Z Try.func112 N112 rfl rfl rfl (fun w P1 hF hB hS hT => spec_plUsed.calls k i4 A9 c10 l5.length l5 A11 c12 l6.length l6 hB hF (hT 2 _ rfl).row (hT 2 _ rfl).cap (hT 3 _ rfl).row (hT 3 _ rfl).cap _ hx531)) (fun s w h => zab [some 1, none, some 3, some 4, some 5] (by decide) w h rfl) (fun _ => ?_) (cur2 (fun A533 c534 => ?_))
          · skip
            refine a_one 2 rfl rfl (by kernel_rfl) rfl (zac 0 Z Try.func112 N112 rfl rfl rfl (fun w P1 hF hB hS hT => spec_plUsed.calls k i4 A9 c10 l5.length l5 A11 c12 l6.length l6 hB hF (hT 2 _ rfl).row (hT 2 _ rfl).cap (hT 3 _ rfl).row (hT 3 _ rfl).cap _ hx531)) (fun s w h => zab [some 1, none, some 3, some 4, some 5] (by decide) w h rfl) (cur2 (fun A533 c534 => ?_))
            refine a_one 3 rfl rfl (by kernel_rfl) rfl (zac 0 Z Try.func111 N111 rfl rfl rfl (fun w P1 hF hB hS hT => spec_plKeep.calls i4 A9 c10 l5.length l5 A11 c12 l6.length l6 A533 c534 l532.length l532 hB hF (hT 3 _ rfl).row (hT 3 _ rfl).cap (hT 4 _ rfl).row (hT 4 _ rfl).cap (hT 0 _ rfl).row (hT 0 _ rfl).cap _ _ hx591)) (fun s w h => zab [some 3, none, some 5, some 6, some 7] (by decide) w h rfl) (cur4 (fun A594 c595 A596 c597 => ?_))
            refine a_one 4 rfl rfl (by kernel_rfl) rfl (zaq (i := 4) rfl rfl rfl Z27 rfl rfl) (fun s w h => zab [some 3, none, some 5, some 6, some 7] (by decide) w h rfl) (fun _ => ?_)
            refine zb0 (by kernel_rfl) ?_
            refine zay (l592, l593, A594, c595, A596, c597) h trivial (fun w h => za5 [3, 4, 0, 1, 5, 6, 7] (by decide) rfl w h) ?_
            repeat (first | exact zad _ _ | refine zah rfl ?_ | refine zae rfl ?_ | refine zai rfl ?_)
          · skip
            refine a_one 0 rfl rfl (by kernel_rfl) rfl (ev_q rfl (q_ldB G27 Z27 rfl (fun w h => h.zaa (i := 2) rfl) rfl)) (fun s w h => zab [some 1, none, some 3, some 4, some 5] (by decide) w h rfl) (fun _ => ?_)
            refine a_one 3 rfl rfl (by kernel_rfl) rfl (zac 0 Z Try.func111 N111 rfl rfl rfl (fun w P1 hF hB hS hT => spec_plKeep.calls i4 A9 c10 l5.length l5 A11 c12 l6.length l6 A533 c534 l532.length l532 hB hF (hT 3 _ rfl).row (hT 3 _ rfl).cap (hT 4 _ rfl).row (hT 4 _ rfl).cap (hT 0 _ rfl).row (hT 0 _ rfl).cap _ _ hx591)) (fun s w h => zab [some 3, none, some 5, some 6, some 7] (by decide) w h rfl) (cur4 (fun A594 c595 A596 c597 => ?_))
            refine a_one 4 rfl rfl (by kernel_rfl) rfl (zaq (i := 4) rfl rfl rfl Z27 rfl rfl) (fun s w h => zab [some 3, none, some 5, some 6, some 7] (by decide) w h rfl) (fun _ => ?_)
            refine zb0 (by kernel_rfl) ?_
            refine zay (l592, l593, A594, c595, A596, c597) h trivial (fun w h => za5 [3, 4, 0, 1, 5, 6, 7] (by decide) rfl w h) ?_
            repeat (first | exact zad _ _ | refine zah rfl ?_ | refine zae rfl ?_ | refine zai rfl ?_)
      · skip
        refine (cur6 (fun l399 l402 A400 c401 A403 c404 => fun U408 hJ409 => ?_))
        have e_ := Option.some.inj hJ409; have h := hR407; rw [← e_] at h; clear e_ hJ409 hR407 hl406
        refine c_seq ?_
        refine c_seq ?_
        refine za0 ?_
        refine o_q rfl rfl (q_ldB G27 Z27 rfl (fun w h => h.zaa (i := 1) rfl) rfl) ?_
        refine za7 h (fun l772 hx771 h => ?_) rfl
        refine o_e rfl (zac 0 Z Try.func209 N209 rfl rfl rfl (fun w P1 hF hB hS hT => spec_duUses.calls i4 A400 c401 l399.length l399 A403 c404 l402.length l402 hB hF (hT 2 _ rfl).row (hT 2 _ rfl).cap (hT 3 _ rfl).row (hT 3 _ rfl).cap _ hx771)) (cur2 (fun A773 c774 => ?_))
        refine o_q rfl rfl (q_len Try.underlying25 rfl) ?_
        refine o_q rfl rfl (za2 rfl) ?_
        refine o_end ?_
        refine za1 ?_
        refine zaj ?_
        refine za7 h (fun o786 hl785 hR784 => ?_) rfl
        clear h
        refine c_fact (p := l772.length ≤ 9223372036854775807) (fun w h => (h.zaw (i := 0) rfl).2.1) (fun hm783 => ?_)
        refine zav (σ := (List Int) × (List Int) × Int × (Option Addr) × Nat) (fun k781 ((ys780, l775, i778, A776, c777) : (List Int) × (List Int) × Int × (Option Addr) × Nat) => Rg l772 i778 ys780 ∧ ys780.length = k781 ∧ spec_l1Cur_turnable.l0 ys780 l775 i778 = some o786) [4, 5, 23, 24, 25, 26, 27, 28, 29, 30, 31, 32, 33, 34, 35, 36, 37, 38, 39, 40, 41, 42] (fun ((ys780, l775, i778, A776, c777) : (List Int) × (List Int) × Int × (Option Addr) × Nat) => [(23, .int .i64 i778)]) (fun ((ys780, l775, i778, A776, c777) : (List Int) × (List Int) × Int × (Option Addr) × Nat) => [row (Kd.int .i64) 3 (.slice A773 l772.length c774) l772, box g1 27 #[.int .i64 0, .slice none 0 0, .slice none 0 0], box g13 27 #[.int .i64 i4, .slice A400 l399.length c401, .slice A776 l775.length c777], row kStep 89 (.slice A400 l399.length c401) l399, row (Kd.int .i64) 3 (.slice A776 l775.length c777) l775, row kStep 89 (.slice A9 l5.length c10) l5, row (Kd.int .i64) 3 (.slice A11 l6.length c12) l6, box g0 81 #[.slice A0_0 l0_0.length c0_0, .int .i64 i23, .int .u64 i24]]) l772.length (l772, l402, 0, A403, c404) ⟨Rg.start _, rfl, hl785⟩ ⟨rfl, trivial⟩ (fun w h => h) ?_
        refine fun k781 => cur5 (listC (fun l775 i778 A776 c777 U787 hJ_ => ?_) (fun y779 ys780 l775 i778 A776 c777 U787 hJ_ => ?_))
        · skip
          clear hl785
          have hr782 := hJ_.1; have hk788 := hJ_.2.1; have h := hJ_.2.2; clear hJ_
          replace h : spec_l1Cur_turnable.l0 [] l775 i778 = some o786 := h
          rw [spec_l1Cur_turnable.l0] at h
          refine c_seq ?_
          refine za0 ?_
          refine o_q rfl rfl (q_lss rfl rfl) ?_
          refine o_end ?_
          refine za1 ?_
          refine c_seq ?_
          refine zb2 (congrArg Value.bool hr782.ge) ?_
          refine c_exit ?_
          refine za6 ?_
          refine za6 ?_
          have e_ := Option.some.inj h; replace h := hR784; rw [← e_] at h; clear e_
          refine x_hit ?_
          refine za1 ?_
          refine c_seq ?_
          refine za0 ?_
          refine o_q rfl rfl (q_ldB G27 Z27 rfl (fun w h => h.zaa (i := 2) rfl) rfl) ?_
          refine o_e rfl (zaq (i := 1) rfl rfl rfl Z27 rfl rfl) (fun _ => ?_)
          refine o_end ?_
          refine za1 ?_
          refine c_ret ?_
          have e0_ := Option.some.inj h; clear h
          have d0_ := (Prod.mk.inj e0_).1; have e1_ := (Prod.mk.inj e0_).2; clear e0_; subst d0_
          have d1_ := (Prod.mk.inj e1_).1; have e2_ := (Prod.mk.inj e1_).2; clear e1_; subst d1_
          have d2_ := (Prod.mk.inj e2_).1; have e3_ := (Prod.mk.inj e2_).2; clear e2_; subst d2_
          have d3_ := (Prod.mk.inj e3_).1; have e4_ := (Prod.mk.inj e3_).2; clear e3_; subst d3_
          subst e4_
          exact x_r1 (A400, c401, A776, c777) Try.results149 (rv_cell rfl G27 Z27 (fun w h => h.zaa (i := 1) rfl) rfl) rfl (fun w h => za5 [3, 4, 7] (by decide) rfl w h)
        · skip
          clear hl785
          have hr782 := hJ_.1; have hk788 := hJ_.2.1; have h := hJ_.2.2; clear hJ_
          replace h : spec_l1Cur_turnable.l0 (y779 :: ys780) l775 i778 = some o786 := h
          rw [spec_l1Cur_turnable.l0] at h
          refine c_seq ?_
          refine za0 ?_
          refine o_q rfl rfl (q_lss rfl rfl) ?_
          refine o_end ?_
          refine za1 ?_
          refine c_seq ?_
          refine zb3 (congrArg Value.bool hr782.lt) ?_
          refine zam ?_
          refine za1 ?_
          refine c_seq ?_
          refine zaj ?_
          refine c_seq ?_
          refine za0 ?_
          refine o_q rfl rfl (za2 rfl) ?_
          refine zas (p := Sh A773 l772.length l772.length) (fun w h => f_sh (dk := (Kd.int .i64)) h (fun w h => h.zaw (i := 0) rfl)) (fun hq789 => ?_)
          refine o_q rfl rfl (q_ix Try.underlying25 Z3 rfl rfl hq789 hr782.get) ?_
          refine o_q rfl rfl (q_lde (off := 0) Y3 rfl rfl (fun w h => h.zaw (i := 0) rfl) hr782.get (fun _ _ h => h) rfl) ?_
          refine o_q rfl rfl (q_asg rfl) ?_
          refine o_q rfl rfl (q_asg rfl) ?_
          refine o_end ?_
          refine za1 ?_
          refine za7 h (fun o792 hl793 hR794 => ?_) rfl
          clear h
          refine c_cutJ (σ := Bool) (fun b791 => some b791 = some o792) [28, 29, 30, 31, 32, 33, 34, 35] (fun b791 => [(35, .bool b791)]) (fun b791 => [box g1 27 #[.int .i64 0, .slice none 0 0, .slice none 0 0], box g13 27 #[.int .i64 i4, .slice A400 l399.length c401, .slice A776 l775.length c777], row kStep 89 (.slice A400 l399.length c401) l399, row (Kd.int .i64) 3 (.slice A776 l775.length c777) l775, row (Kd.int .i64) 3 (.slice A773 l772.length c774) l772, row kStep 89 (.slice A9 l5.length c10) l5, row (Kd.int .i64) 3 (.slice A11 l6.length c12) l6, box g0 81 #[.slice A0_0 l0_0.length c0_0, .int .i64 i23, .int .u64 i24]]) ?_ ?_
          · skip
            have h := hl793; clear hl793
            clear hR794
            refine za0 ?_
            refine o_q rfl rfl (za2 rfl) ?_
            refine o_q rfl rfl (q_eql rfl rfl) ?_
            refine o_q rfl rfl (za2 rfl) ?_
            refine byB (decide (y779 = 0)) (fun hb797 => ?_) (fun hb797 => ?_)
            · replace h := br_t hb797 h
              refine o_w (za4 rfl rfl rfl (congrArg Value.bool hb797)) rfl (q_f F27_2 rfl) ?_
              refine o_w (za4 rfl rfl rfl (congrArg Value.bool hb797)) rfl (q_ldb Y25 rfl (fun w h => h.zaa (i := 2) rfl) rfl) ?_
              refine o_w (za4 rfl rfl rfl (congrArg Value.bool hb797)) rfl (q_len Try.underlying25 rfl) ?_
              refine o_w (za4 rfl rfl rfl (congrArg Value.bool hb797)) rfl (q_lss rfl rfl) ?_
              refine o_q rfl rfl (zal true (congrArg Value.bool hb797) rfl) ?_
              refine o_end ?_
              refine zay (decide ((l775.length : Int) < 6)) h ⟨rfl, trivial⟩ (fun w h => za5 [1, 2, 3, 4, 0, 5, 6, 7] (by decide) rfl w h) ?_
              repeat (first | exact zad _ _ | refine zah rfl ?_ | refine zae rfl ?_ | refine zai rfl ?_)
            · replace h := br_f hb797 h
              refine @o_n _ _ _ _ _ _ _ _ _ _ _ 31 (za3 rfl rfl rfl (congrArg Value.bool hb797) rfl) (Eq.refl (some 31)) ?_
              refine @o_n _ _ _ _ _ _ _ _ _ _ _ 32 (za3 rfl rfl rfl (congrArg Value.bool hb797) rfl) (Eq.refl (some 32)) ?_
              refine @o_n _ _ _ _ _ _ _ _ _ _ _ 33 (za3 rfl rfl rfl (congrArg Value.bool hb797) rfl) (Eq.refl (some 33)) ?_
              refine @o_n _ _ _ _ _ _ _ _ _ _ _ 34 (za3 rfl rfl rfl (congrArg Value.bool hb797) rfl) (Eq.refl (some 34)) ?_
              refine o_q rfl rfl (zal false (congrArg Value.bool hb797) rfl) ?_
              refine o_end ?_
              refine zay false h ⟨rfl, trivial⟩ (fun w h => za5 [1, 2, 3, 4, 0, 5, 6, 7] (by decide) rfl w h) ?_
              repeat (first | exact zad _ _ | refine zah rfl ?_ | refine zae rfl ?_ | refine zai rfl ?_)
          · skip
            refine (fun b791 => fun U795 hJ796 => ?_)
            have e_ := Option.some.inj hJ796; have h := hR794; rw [← e_] at h; clear e_ hJ796 hR794 hl793
            refine zar _ rfl (fun hb798 => ?_) (fun hb798 => ?_)
            · skip
              replace h := bb_t hb798 h
              refine za0 ?_
              refine o_q rfl rfl (q_f F27_2 rfl) ?_
              refine o_q rfl rfl (q_ldb Y25 rfl (fun w h => h.zaa (i := 1) rfl) rfl) ?_
              refine o_q rfl rfl (za2 rfl) ?_
              refine o_e rfl (e_lit (vs := [(0, .int .i64 i778)]) (cs := [.int .i64 i778]) (Kd.int .i64) ([i778] : List Int) Try.underlying25 I3 (by decide) rfl (by decide) rfl rfl (fun _ _ => Kd.zat _)) (cur2 (fun A799 c800 => ?_))
              refine za7 h (fun l802 ha803 h => ?_) rfl
              refine o_e rfl (e_app (i := 4) (j := 0) Try.underlying25 I3 rfl (by decide) (by decide) rfl rfl rfl rfl rfl ha803) (cur2 (fun A804 c805 => ?_))
              refine o_q rfl rfl (q_f F27_2 rfl) ?_
              refine o_e rfl (e_store (i := 2) rfl rfl rfl rfl Z25 rfl rfl) (fun _ => ?_)
              refine o_end ?_
              refine zan ?_
              refine za1 ?_
              refine za0 ?_
              refine o_q rfl rfl (q_up rfl rfl (hr782.up hm783)) ?_
              refine o_q rfl rfl (za2 rfl) ?_
              refine o_end ?_
              refine zak ys780.length (ys780, l802, i778 + 1, A804, c805) (by rw [← hk788]; exact Nat.lt_succ_self _) ⟨hr782.step, rfl, h⟩ ⟨rfl, trivial⟩ (fun w h => za5 [5, 1, 2, 3, 4, 6, 7, 8] (by decide) rfl w h) ?_
              repeat (first | exact zad _ _ | refine zah rfl ?_ | refine zae rfl ?_ | refine zai rfl ?_)
            · skip
              replace h := bb_f hb798 h
              refine zam ?_
              refine zan ?_
              refine za1 ?_
              refine za0 ?_
              refine o_q rfl rfl (q_up rfl rfl (hr782.up hm783)) ?_
              refine o_q rfl rfl (za2 rfl) ?_
              refine o_end ?_
              refine zak ys780.length (ys780, l775, i778 + 1, A776, c777) (by rw [← hk788]; exact Nat.lt_succ_self _) ⟨hr782.step, rfl, h⟩ ⟨rfl, trivial⟩ (fun w h => za5 [4, 0, 1, 2, 3, 5, 6, 7] (by decide) rfl w h) ?_
              repeat (first | exact zad _ _ | refine zah rfl ?_ | refine zae rfl ?_ | refine zai rfl ?_)

/-! ### loop.example/g01098/spec.DrawTurnPlan: function 68 -/
def spec_DrawTurnPlan.l0 : Nat → (List SStep) → Int → Option (List SStep)
  | 0, _, _ => none
  | k26 + 1, l20, i23 => if 0 < i23 then ((ap l20 ([(⟨0, (l20.length : Int)⟩ : SStep)] : List SStep)).bind fun l38 => spec_DrawTurnPlan.l0 k26 l38 (w64 (i23 - 1))) else (some l20)
def spec_DrawTurnPlan.f (k : Nat) (l0 : List Int) : Option (Int × (List SStep) × (List Int)) := (spec_l1Cur_one.f l0 0 0 16).bind fun (b6, i7, i8) => if b6 = true then ((spec_l1Cur_pick.f l0 i7 i8 2).bind fun (i16, i17, i18) => (spec_DrawTurnPlan.l0 k ([] : List SStep) (w64 (40 - i16))).bind fun l20 => (gt ([39, 0] : List Int) 0).bind fun y44 => (st ([39, 0] : List Int) 0 (l20.length : Int)).bind fun l45 => some (1, l20, l45)) else ((spec_l1Cur_turnable.f k l0 i7 i8).bind fun (i49, l50, l51, i52, i53) => some (i49, l50, l51))
set_option maxHeartbeats 600000 in
set_option maxRecDepth 100000 in
theorem spec_DrawTurnPlan.calls (k : Nat) {w0 ws : World} {P0 : Nat → Prop} (A0 : Option Addr) (c0 : Nat) (n0 : Nat) (l0 : List Int) (Z : Below w0.heap.size w0 ws) (hF : Fr w0 ws P0 [] ws) (R0 : Stable ws P0 (fun w => Kd.C (Kd.int .u8) w A0 n0 l0)) (hc0 : n0 ≤ c0) (r_1 : Int) (r_2 : List SStep) (r_5 : List Int) (h : spec_DrawTurnPlan.f k l0 = some (r_1, r_2, r_5)) :
    Calls Try.prog 68 #[.slice A0 n0 c0] ws (Post1 w0 ws P0 (fun ((q_3, q_4, q_6, q_7) : (Option Addr) × Nat × (Option Addr) × Nat) => .agg #[.int .i64 r_1, .slice q_3 r_2.length q_4, .slice q_6 r_5.length q_7]) (fun ((q_3, q_4, q_6, q_7) : (Option Addr) × Nat × (Option Addr) × Nat) => [row kStep 89 (.slice q_3 r_2.length q_4) r_2, row (Kd.int .i64) 3 (.slice q_6 r_5.length q_7) r_5])) := by
  unfold spec_DrawTurnPlan.f at h
  obtain rfl := (R0 ws (KeptB.refl _ _)).1
  refine enter Try.func68 rfl Try.ntmps68 rfl hF ?_
  refine c_seq ?_
  refine za0 ?_
  refine o_e rfl (zaz V27 rfl) (fun g1 => ?_)
  refine o_end ?_
  refine za1 ?_
  refine c_seq ?_
  refine za0 ?_
  refine o_q rfl rfl (za2 rfl) ?_
  refine o_q rfl rfl (q_build (vs := [(0, .slice A0 l0.length c0)]) (cs := [.slice A0 l0.length c0, .int .i64 0, .int .u64 0]) rfl rfl) ?_
  refine o_e rfl (e_box rfl) (fun g3 => ?_)
  refine o_q rfl rfl (q_asg rfl) ?_
  refine o_end ?_
  refine za1 ?_
  refine c_seq ?_
  refine c_seq ?_
  refine za0 ?_
  refine o_q rfl rfl (za2 rfl) ?_
  refine bindE3 h (fun b6 i7 i8 hx5 h => ?_) rfl
  refine o_e rfl (zac 1 Z Try.func117 N117 rfl rfl rfl (fun w P1 hF hB hS hT => spec_l1Cur_one.calls g3 A0 c0 l0.length l0 0 0 16 hB hF (hS _ R0) hc0 _ _ _ hx5)) (fun _ => ?_)
  refine o_end ?_
  refine za1 ?_
  refine zar _ rfl (fun hb9 => ?_) (fun hb9 => ?_)
  · skip
    replace h := bb_t hb9 h
    refine c_seq ?_
    refine za0 ?_
    refine o_e rfl (e_lit (vs := [(0, .int .i64 39), (1, .int .i64 0)]) (cs := [.int .i64 39, .int .i64 0]) (Kd.int .i64) ([39, 0] : List Int) Try.underlying25 I3 (by decide) rfl (by decide) rfl rfl (fun _ _ => Kd.zat _)) (cur2 (fun A10 c11 => ?_))
    refine o_q rfl rfl (q_build (vs := [(0, .int .i64 1), (2, .slice A10 (([39, 0] : List Int).length) c11)]) (cs := [.int .i64 1, .slice none 0 0, .slice A10 (([39, 0] : List Int).length) c11]) rfl rfl) ?_
    refine o_e rfl (zaz V27 rfl) (fun g13 => ?_)
    refine o_e rfl (zaq (i := 0) rfl rfl rfl Z27 rfl rfl) (fun _ => ?_)
    refine o_end ?_
    refine za1 ?_
    refine c_seq ?_
    refine c_seq ?_
    refine za0 ?_
    refine o_q rfl rfl (za2 rfl) ?_
    refine o_pick [2, 0, 1, 3] (by decide) rfl ?_
    refine bindE3 h (fun i16 i17 i18 hx15 h => ?_) rfl
    refine o_e rfl (zac 1 Z Try.func85 N85 rfl rfl rfl (fun w P1 hF hB hS hT => spec_l1Cur_pick.calls g3 A0 c0 l0.length l0 i7 i8 2 hB hF (hS _ R0) hc0 _ _ _ hx15)) (fun _ => ?_)
    refine o_q rfl rfl (q_sub64 rfl rfl) ?_
    refine o_q rfl rfl (q_asg rfl) ?_
    refine o_end ?_
    refine za1 ?_
    refine zaj ?_
    refine c_nil kStep 89 ?_
    refine za7 h (fun o31 hl30 hR29 => ?_) rfl
    clear h
    refine zav (σ := (List SStep) × Int × (Option Addr) × Nat) (fun k26 ((l20, i23, A21, c22) : (List SStep) × Int × (Option Addr) × Nat) => spec_DrawTurnPlan.l0 k26 l20 i23 = some o31) [5, 16, 17, 18, 19, 20, 21, 22, 23, 24, 25, 26, 27, 28] (fun ((l20, i23, A21, c22) : (List SStep) × Int × (Option Addr) × Nat) => [(5, .int .i64 i23)]) (fun ((l20, i23, A21, c22) : (List SStep) × Int × (Option Addr) × Nat) => [row kStep 89 (.slice A21 l20.length c22) l20, box g3 81 #[.slice A0 l0.length c0, .int .i64 i17, .int .u64 i18], box g13 27 #[.int .i64 1, .slice A21 l20.length c22, .slice A10 (([39, 0] : List Int).length) c11], row (Kd.int .i64) 3 (.slice A10 (([39, 0] : List Int).length) c11) ([39, 0] : List Int), box g1 27 #[.int .i64 0, .slice none 0 0, .slice none 0 0]]) k (([] : List SStep), w64 (40 - i16), none, 0) hl30 ⟨rfl, trivial⟩ (fun w h => h) ?_
    refine natC (cur4 (fun l20 i23 A21 c22 => fun U32 hJ_ => ?_)) (fun k26 => (cur4 (fun l20 i23 A21 c22 => fun U32 hJ_ => ?_)))
    · skip
      replace hJ_ : spec_DrawTurnPlan.l0 0 l20 i23 = some o31 := hJ_
      rw [spec_DrawTurnPlan.l0] at hJ_
      exact noneE hJ_
    · skip
      clear hl30
      have h := hJ_; clear hJ_
      replace h : spec_DrawTurnPlan.l0 (k26 + 1) l20 i23 = some o31 := h
      rw [spec_DrawTurnPlan.l0] at h
      refine c_seq ?_
      refine c_seq ?_
      refine za0 ?_
      refine o_q rfl rfl (za2 rfl) ?_
      refine o_q rfl rfl (q_gtr rfl rfl) ?_
      refine o_end ?_
      refine za1 ?_
      refine zar _ rfl (fun hb34 => ?_) (fun hb34 => ?_)
      · skip
        replace h := br_t hb34 h
        refine zam ?_
        refine za1 ?_
        refine c_seq ?_
        refine zaj ?_
        refine za0 ?_
        refine o_q rfl rfl (q_f F27_1 rfl) ?_
        refine o_q rfl rfl (q_ldb Y24 rfl (fun w h => h.zaa (i := 2) rfl) rfl) ?_
        refine o_q rfl rfl (q_f F27_1 rfl) ?_
        refine o_q rfl rfl (q_ldb Y24 rfl (fun w h => h.zaa (i := 2) rfl) rfl) ?_
        refine o_q rfl rfl (q_len Try.underlying24 rfl) ?_
        refine o_q rfl rfl (q_build (vs := [(0, .int .i64 0), (1, .int .i64 (l20.length : Int))]) (cs := [.int .i64 0, .int .i64 (l20.length : Int)]) rfl rfl) ?_
        refine o_e rfl (e_lit (vs := [(0, .agg #[.int .i64 0, .int .i64 (l20.length : Int)])]) (cs := [.int .i64 0, .int .i64 (l20.length : Int)]) kStep ([(⟨0, (l20.length : Int)⟩ : SStep)] : List SStep) Try.underlying24 I89 (by decide) rfl (by decide) rfl rfl (fun _ _ => reps_flat _)) (cur2 (fun A35 c36 => ?_))
        refine za7 h (fun l38 ha39 h => ?_) rfl
        refine o_e rfl (e_app (i := 1) (j := 0) Try.underlying24 I89 rfl (by decide) (by decide) rfl rfl rfl rfl rfl ha39) (cur2 (fun A40 c41 => ?_))
        refine o_q rfl rfl (q_f F27_1 rfl) ?_
        refine o_e rfl (e_store (i := 3) rfl rfl rfl rfl Z24 rfl rfl) (fun _ => ?_)
        refine o_end ?_
        refine zan ?_
        refine za1 ?_
        refine za0 ?_
        refine o_q rfl rfl (za2 rfl) ?_
        refine o_q rfl rfl (q_sub64 rfl rfl) ?_
        refine o_q rfl rfl (q_asg rfl) ?_
        refine o_end ?_
        refine zak k26 (l38, w64 (i23 - 1), A40, c41) (Nat.lt_succ_self _) h ⟨rfl, trivial⟩ (fun w h => za5 [1, 2, 3, 4, 5] (by decide) rfl w h) ?_
        repeat (first | exact zad _ _ | refine zah rfl ?_ | refine zae rfl ?_ | refine zai rfl ?_)
      · skip
        replace h := br_f hb34 h
        refine c_exit ?_
        refine za6 ?_
        refine za6 ?_
        have e_ := Option.some.inj h; replace h := hR29; rw [← e_] at h; clear e_
        refine x_hit ?_
        refine za1 ?_
        refine c_seq ?_
        refine za0 ?_
        refine o_q rfl rfl (q_f F27_2 rfl) ?_
        refine o_q rfl rfl (q_ldb Y25 rfl (fun w h => h.zaa (i := 2) rfl) rfl) ?_
        refine o_q rfl rfl (q_f F27_1 rfl) ?_
        refine o_q rfl rfl (q_ldb Y24 rfl (fun w h => h.zaa (i := 2) rfl) rfl) ?_
        refine o_q rfl rfl (q_len Try.underlying24 rfl) ?_
        refine zas (p := Sh A10 (([39, 0] : List Int).length) ([39, 0] : List Int).length) (fun w h => f_sh (dk := (Kd.int .i64)) h (fun w h => h.zaw (i := 3) rfl)) (fun hq42 => ?_)
        refine za7 h (fun y44 hg43 h => ?_) rfl
        refine o_q rfl rfl (q_ix Try.underlying25 Z3 rfl rfl hq42 hg43) ?_
        refine za7 h (fun l45 hs46 h => ?_) rfl
        refine o_e rfl (e_set (i := 3) rfl rfl rfl Z3 hs46) (fun _ => ?_)
        refine o_end ?_
        refine za1 ?_
        refine c_seq ?_
        refine za0 ?_
        refine o_q rfl rfl (q_ldB G27 Z27 rfl (fun w h => h.zaa (i := 2) rfl) rfl) ?_
        refine o_e rfl (zaq (i := 4) rfl rfl rfl Z27 rfl rfl) (fun _ => ?_)
        refine o_end ?_
        refine za1 ?_
        refine c_ret ?_
        refine za9 ?_
        refine x_fact (p := ([39, 0] : List Int).length = l45.length) (fun w h => (h.row_C (i := 3) rfl).2.1) (fun hn47 => ?_)
        have e0_ := Option.some.inj h; clear h
        have d0_ := (Prod.mk.inj e0_).1; have e1_ := (Prod.mk.inj e0_).2; clear e0_; subst d0_
        have d1_ := (Prod.mk.inj e1_).1; have e2_ := (Prod.mk.inj e1_).2; clear e1_; subst d1_
        subst e2_
        exact x_r1 (A21, c22, A10, c11) Try.results68 (rv_cell (cs := #[.int .i64 1, .slice A21 l20.length c22, .slice A10 (([39, 0] : List Int).length) c11]) rfl G27 Z27 (fun w h => h.zaa (i := 4) rfl) rfl) (by (try rw [hn47]); first | done | rfl) (f_pickE (L1 := [row kStep 89 (.slice A21 l20.length c22) l20, box g3 81 #[.slice A0 l0.length c0, .int .i64 i17, .int .u64 i18], box g13 27 #[.int .i64 1, .slice A21 l20.length c22, .slice A10 (([39, 0] : List Int).length) c11], row (Kd.int .i64) 3 (.slice A10 (([39, 0] : List Int).length) c11) l45, box g1 27 #[.int .i64 1, .slice A21 l20.length c22, .slice A10 (([39, 0] : List Int).length) c11]]) rfl [0, 3] (by decide) rfl (by (try rw [hn47]); first | done | rfl))
  · skip
    replace h := bb_f hb9 h
    refine zam ?_
    refine za1 ?_
    refine c_seq ?_
    refine za0 ?_
    refine o_q rfl rfl (za2 rfl) ?_
    refine bindE5 h (fun i49 l50 l51 i52 i53 hx48 h => ?_) rfl
    refine o_e rfl (zac 1 Z Try.func149 N149 rfl rfl rfl (fun w P1 hF hB hS hT => spec_l1Cur_turnable.calls k g3 A0 c0 l0.length l0 i7 i8 hB hF (hS _ R0) hc0 _ _ _ _ _ hx48)) (cur4 (fun A54 c55 A56 c57 => ?_))
    refine o_e rfl (zaq (i := 3) rfl rfl rfl Z27 rfl rfl) (fun _ => ?_)
    refine o_end ?_
    refine za1 ?_
    refine c_ret ?_
    have e0_ := Option.some.inj h; clear h
    have d0_ := (Prod.mk.inj e0_).1; have e1_ := (Prod.mk.inj e0_).2; clear e0_; subst d0_
    have d1_ := (Prod.mk.inj e1_).1; have e2_ := (Prod.mk.inj e1_).2; clear e1_; subst d1_
    subst e2_
    exact x_r1 (A54, c55, A56, c57) Try.results68 (rv_cell rfl G27 Z27 (fun w h => h.zaa (i := 3) rfl) rfl) rfl (fun w h => za5 [0, 1] (by decide) rfl w h)

/-! ### (*loop.example/g01098/impl.Plan).uses: function 114 -/
def impl_Plan_uses.l1 : (List Int) → (List Int) → Int → Option (List Int)
  | [], l19, i20 => some l19
  | y21 :: ys22, l19, i20 => (gt l19 y21).bind fun y35 => (gt l19 y21).bind fun y37 => (st l19 y21 (w64 (y35 + 1))).bind fun l38 => impl_Plan_uses.l1 ys22 l38 (i20 + 1)
def impl_Plan_uses.l0 : (List SStep) → (List Int) → Int → Option (List Int)
  | [], l7, i8 => some l7
  | y9 :: ys10, l7, i8 => (gt l7 y9.f0).bind fun y45 => (gt l7 y9.f0).bind fun y47 => (st l7 y9.f0 (w64 (y45 + 1))).bind fun l48 => (gt l48 y9.f1).bind fun y52 => (gt l48 y9.f1).bind fun y54 => (st l48 y9.f1 (w64 (y52 + 1))).bind fun l55 => impl_Plan_uses.l0 ys10 l55 (i8 + 1)
def impl_Plan_uses.f (a0_0 : Int) (l0_1 : List SStep) (l0_2 : List Int) : Option (List Int) := (impl_Plan_many.f a0_0 l0_1 l0_2).bind fun _ => (mk0 (w64 (a0_0 + (l0_1.length : Int))) (0 : Int)).bind fun l2 => (impl_Plan_uses.l0 l0_1 l2 0).bind fun l7 => (impl_Plan_uses.l1 l0_2 l7 0).bind fun l19 => some l19
set_option maxHeartbeats 600000 in
set_option maxRecDepth 100000 in
theorem impl_Plan_uses.calls {w0 ws : World} {P0 : Nat → Prop} (g0 : Nat) (a0_0 : Int) (A0_1 : Option Addr) (c0_1 : Nat) (n0_1 : Nat) (l0_1 : List SStep) (A0_2 : Option Addr) (c0_2 : Nat) (n0_2 : Nat) (l0_2 : List Int) (Z : Below w0.heap.size w0 ws) (hF : Fr w0 ws P0 [] ws) (R0_1 : Stable ws P0 (fun w => Kd.C kStep w A0_1 n0_1 l0_1)) (hc0_1 : n0_1 ≤ c0_1) (R0_2 : Stable ws P0 (fun w => Kd.C (Kd.int .i64) w A0_2 n0_2 l0_2)) (hc0_2 : n0_2 ≤ c0_2) (B0 : Stable ws P0 (fun w => w.heap[g0]? = some (.cells #[.int .i64 a0_0, .slice A0_1 n0_1 c0_1, .slice A0_2 n0_2 c0_2] 27 (0, 0)))) (r_1 : List Int) (h : impl_Plan_uses.f a0_0 l0_1 l0_2 = some r_1) :
    Calls Try.prog 114 #[.pointer (some ⟨g0, 0, none⟩)] ws (Post1 w0 ws P0 (fun ((q_2, q_3) : (Option Addr) × Nat) => .slice q_2 r_1.length q_3) (fun ((q_2, q_3) : (Option Addr) × Nat) => [row (Kd.int .i64) 3 (.slice q_2 r_1.length q_3) r_1])) := by
  unfold impl_Plan_uses.f at h
  obtain rfl := (R0_1 ws (KeptB.refl _ _)).1
  obtain rfl := (R0_2 ws (KeptB.refl _ _)).1
  refine enter Try.func114 rfl Try.ntmps114 rfl hF ?_
  refine c_seq ?_
  refine za0 ?_
  refine o_q rfl rfl (q_asg rfl) ?_
  refine o_end ?_
  refine za1 ?_
  refine c_seq ?_
  refine za0 ?_
  refine o_q rfl rfl (za2 rfl) ?_
  refine za7 h (fun _ hx1 h => ?_) rfl
  refine o_e rfl (zac 0 Z Try.func90 N90 rfl rfl rfl (fun w P1 hF hB hS hT => impl_Plan_many.calls g0 a0_0 A0_1 c0_1 l0_1.length l0_1 A0_2 c0_2 l0_2.length l0_2 hB hF (hS _ R0_1) hc0_1 (hS _ R0_2) hc0_2 (hS _ B0) hx1)) (fun _ => ?_)
  refine za7 h (fun l2 hm3 h => ?_) rfl
  refine o_e rfl (e_make (Kd.int .i64) (0 : Int) Try.underlying25 I3 rfl (by decide) (by decide) (fun _ _ => rfl) rfl rfl hm3) (cur2 (fun A4 c5 => ?_))
  refine o_q rfl rfl (q_asg rfl) ?_
  refine o_end ?_
  refine za1 ?_
  refine c_seq ?_
  refine c_seq ?_
  refine za0 ?_
  refine o_q rfl rfl (za2 rfl) ?_
  refine o_q rfl rfl (q_nil rfl) ?_
  refine o_q rfl rfl (q_f F27_1 rfl) ?_
  refine o_q rfl rfl (q_ldb Y24 rfl (fun w h => B0.now Z h) rfl) ?_
  refine o_q rfl rfl (q_len Try.underlying24 rfl) ?_
  refine o_q rfl rfl (za2 rfl) ?_
  refine o_end ?_
  refine za1 ?_
  refine zaj ?_
  refine za7 h (fun o16 hl15 hR14 => ?_) rfl
  clear h
  refine c_fact (p := l0_1.length ≤ 9223372036854775807) (fun w h => (R0_1.now Z h).2.1) (fun hm13 => ?_)
  refine zav (σ := (List SStep) × (List Int) × Int) (fun k11 ((ys10, l7, i8) : (List SStep) × (List Int) × Int) => Rg l0_1 i8 ys10 ∧ ys10.length = k11 ∧ impl_Plan_uses.l0 ys10 l7 i8 = some o16) [5, 16, 17, 18, 19, 20, 21, 22, 23, 24, 25, 26, 27, 28, 29, 30, 31, 32, 33, 34] (fun ((ys10, l7, i8) : (List SStep) × (List Int) × Int) => [(16, .int .i64 i8)]) (fun ((ys10, l7, i8) : (List SStep) × (List Int) × Int) => [row (Kd.int .i64) 3 (.slice A4 l2.length c5) l7]) l0_1.length (l0_1, l2, 0) ⟨Rg.start _, rfl, hl15⟩ ⟨rfl, trivial⟩ (fun w h => h) ?_
  refine fun k11 => cur3 (listC (fun l7 i8 U17 hJ_ => ?_) (fun y9 ys10 l7 i8 U17 hJ_ => ?_))
  · skip
    clear hl15
    have hr12 := hJ_.1; have hk18 := hJ_.2.1; have h := hJ_.2.2; clear hJ_
    replace h : impl_Plan_uses.l0 [] l7 i8 = some o16 := h
    rw [impl_Plan_uses.l0] at h
    refine c_seq ?_
    refine za0 ?_
    refine o_q rfl rfl (q_lss rfl rfl) ?_
    refine o_end ?_
    refine za1 ?_
    refine c_seq ?_
    refine zb2 (congrArg Value.bool hr12.ge) ?_
    refine c_exit ?_
    refine za6 ?_
    refine za6 ?_
    have e_ := Option.some.inj h; replace h := hR14; rw [← e_] at h; clear e_
    refine x_hit ?_
    refine za1 ?_
    refine c_seq ?_
    refine c_seq ?_
    refine za0 ?_
    refine o_q rfl rfl (za2 rfl) ?_
    refine o_q rfl rfl (q_nil rfl) ?_
    refine o_q rfl rfl (q_f F27_2 rfl) ?_
    refine o_q rfl rfl (q_ldb Y25 rfl (fun w h => B0.now Z h) rfl) ?_
    refine o_q rfl rfl (q_len Try.underlying25 rfl) ?_
    refine o_q rfl rfl (za2 rfl) ?_
    refine o_end ?_
    refine za1 ?_
    refine zaj ?_
    refine za7 h (fun o28 hl27 hR26 => ?_) rfl
    clear h
    refine c_fact (p := l0_2.length ≤ 9223372036854775807) (fun w h => (R0_2.now Z h).2.1) (fun hm25 => ?_)
    refine zav (σ := (List Int) × (List Int) × Int) (fun k23 ((ys22, l19, i20) : (List Int) × (List Int) × Int) => Rg l0_2 i20 ys22 ∧ ys22.length = k23 ∧ impl_Plan_uses.l1 ys22 l19 i20 = some o28) [7, 40, 41, 42, 43, 44, 45, 46, 47, 48, 49, 50] (fun ((ys22, l19, i20) : (List Int) × (List Int) × Int) => [(40, .int .i64 i20)]) (fun ((ys22, l19, i20) : (List Int) × (List Int) × Int) => [row (Kd.int .i64) 3 (.slice A4 l2.length c5) l19]) l0_2.length (l0_2, l7, 0) ⟨Rg.start _, rfl, hl27⟩ ⟨rfl, trivial⟩ (fun w h => h) ?_
    refine fun k23 => cur3 (listC (fun l19 i20 U29 hJ_ => ?_) (fun y21 ys22 l19 i20 U29 hJ_ => ?_))
    · skip
      clear hl27
      have hr24 := hJ_.1; have hk30 := hJ_.2.1; have h := hJ_.2.2; clear hJ_
      replace h : impl_Plan_uses.l1 [] l19 i20 = some o28 := h
      rw [impl_Plan_uses.l1] at h
      refine c_seq ?_
      refine za0 ?_
      refine o_q rfl rfl (q_lss rfl rfl) ?_
      refine o_end ?_
      refine za1 ?_
      refine c_seq ?_
      refine zb2 (congrArg Value.bool hr24.ge) ?_
      refine c_exit ?_
      refine za6 ?_
      refine za6 ?_
      have e_ := Option.some.inj h; replace h := hR26; rw [← e_] at h; clear e_
      refine x_hit ?_
      refine za1 ?_
      refine c_seq ?_
      refine za0 ?_
      refine o_q rfl rfl (za2 rfl) ?_
      refine o_q rfl rfl (q_asg rfl) ?_
      refine o_end ?_
      refine za1 ?_
      refine c_ret ?_
      refine x_fact (p := l2.length = l19.length) (fun w h => (h.row_C (i := 0) rfl).2.1) (fun hn31 => ?_)
      have e0_ := Option.some.inj h; clear h
      subst e0_
      exact x_r1 (A4, c5) Try.results114 (zaf (v := .slice A4 l2.length c5) rfl) (by (try rw [hn31]); first | done | rfl) (f_pickE (L1 := [row (Kd.int .i64) 3 (.slice A4 l2.length c5) l19]) rfl [0] (by decide) rfl (by (try rw [hn31]); first | done | rfl))
    · skip
      clear hl27
      have hr24 := hJ_.1; have hk30 := hJ_.2.1; have h := hJ_.2.2; clear hJ_
      replace h : impl_Plan_uses.l1 (y21 :: ys22) l19 i20 = some o28 := h
      rw [impl_Plan_uses.l1] at h
      refine c_seq ?_
      refine za0 ?_
      refine o_q rfl rfl (q_lss rfl rfl) ?_
      refine o_end ?_
      refine za1 ?_
      refine c_seq ?_
      refine zb3 (congrArg Value.bool hr24.lt) ?_
      refine zam ?_
      refine za1 ?_
      refine c_seq ?_
      refine zaj ?_
      refine c_seq ?_
      refine za0 ?_
      refine zas (p := Sh A0_2 l0_2.length l0_2.length) (fun w h => f_sh (dk := (Kd.int .i64)) h (fun w h => R0_2.now Z h)) (fun hq32 => ?_)
      refine o_q rfl rfl (q_ix Try.underlying25 Z3 rfl rfl hq32 hr24.get) ?_
      refine o_q rfl rfl (q_lde (off := 0) Y3 rfl rfl (fun w h => R0_2.now Z h) hr24.get (fun _ _ h => h) rfl) ?_
      refine o_q rfl rfl (q_asg rfl) ?_
      refine o_end ?_
      refine za1 ?_
      refine za0 ?_
      refine o_q rfl rfl (za2 rfl) ?_
      refine o_q rfl rfl (za2 rfl) ?_
      refine zas (p := Sh A4 l2.length l19.length) (fun w h => f_sh (dk := (Kd.int .i64)) h (fun w h => h.zaw (i := 0) rfl)) (fun hq33 => ?_)
      refine za7 h (fun y35 hg34 h => ?_) rfl
      refine o_q rfl rfl (q_ix Try.underlying25 Z3 rfl rfl hq33 hg34) ?_
      refine o_q rfl rfl (q_lde (off := 0) Y3 rfl rfl (fun w h => h.zaw (i := 0) rfl) hg34 (fun _ _ h => h) rfl) ?_
      refine o_q rfl rfl (q_add64 rfl rfl) ?_
      refine za7 h (fun y37 hg36 h => ?_) rfl
      refine o_q rfl rfl (q_ix Try.underlying25 Z3 rfl rfl hq33 hg36) ?_
      refine za7 h (fun l38 hs39 h => ?_) rfl
      refine o_e rfl (e_set (i := 0) rfl rfl rfl Z3 hs39) (fun _ => ?_)
      refine o_end ?_
      refine zan ?_
      refine za1 ?_
      refine za0 ?_
      refine o_q rfl rfl (q_up rfl rfl (hr24.up hm25)) ?_
      refine o_q rfl rfl (za2 rfl) ?_
      refine o_end ?_
      refine zak ys22.length (ys22, l38, i20 + 1) (by rw [← hk30]; exact Nat.lt_succ_self _) ⟨hr24.step, rfl, h⟩ ⟨rfl, trivial⟩ (fun w h => za5 [0] (by decide) rfl w h) ?_
      repeat (first | exact zad _ _ | refine zah rfl ?_ | refine zae rfl ?_ | refine zai rfl ?_)
  · skip
    clear hl15
    have hr12 := hJ_.1; have hk18 := hJ_.2.1; have h := hJ_.2.2; clear hJ_
    replace h : impl_Plan_uses.l0 (y9 :: ys10) l7 i8 = some o16 := h
    rw [impl_Plan_uses.l0] at h
    refine c_seq ?_
    refine za0 ?_
    refine o_q rfl rfl (q_lss rfl rfl) ?_
    refine o_end ?_
    refine za1 ?_
    refine c_seq ?_
    refine zb3 (congrArg Value.bool hr12.lt) ?_
    refine zam ?_
    refine za1 ?_
    refine c_seq ?_
    refine zaj ?_
    refine c_seq ?_
    refine za0 ?_
    refine zas (p := Sh A0_1 l0_1.length l0_1.length) (fun w h => f_sh (dk := kStep) h (fun w h => R0_1.now Z h)) (fun hq40 => ?_)
    refine o_q rfl rfl (q_ix Try.underlying24 Z89 rfl rfl hq40 hr12.get) ?_
    refine o_q rfl rfl (q_ldE G89 Z89 rfl rfl (fun w h => R0_1.now Z h) hr12.get (fun _ _ h => h) rfl) ?_
    refine o_e rfl (zaz V89 rfl) (fun g41 => ?_)
    refine o_e rfl (zaq (i := 0) rfl rfl rfl Z89 rfl rfl) (fun _ => ?_)
    refine o_end ?_
    refine za1 ?_
    refine c_seq ?_
    refine za0 ?_
    refine o_q rfl rfl (za2 rfl) ?_
    refine o_q rfl rfl (q_f F89_0 rfl) ?_
    refine o_q rfl rfl (q_ldb Y3 rfl (fun w h => h.zaa (i := 0) rfl) rfl) ?_
    refine zas (p := Sh A4 l2.length l7.length) (fun w h => f_sh (dk := (Kd.int .i64)) h (fun w h => h.zaw (i := 1) rfl)) (fun hq43 => ?_)
    refine za7 h (fun y45 hg44 h => ?_) rfl
    refine o_q rfl rfl (q_ix Try.underlying25 Z3 rfl rfl hq43 hg44) ?_
    refine o_q rfl rfl (q_lde (off := 0) Y3 rfl rfl (fun w h => h.zaw (i := 1) rfl) hg44 (fun _ _ h => h) rfl) ?_
    refine o_q rfl rfl (q_add64 rfl rfl) ?_
    refine za7 h (fun y47 hg46 h => ?_) rfl
    refine o_q rfl rfl (q_ix Try.underlying25 Z3 rfl rfl hq43 hg46) ?_
    refine za7 h (fun l48 hs49 h => ?_) rfl
    refine o_e rfl (e_set (i := 1) rfl rfl rfl Z3 hs49) (fun _ => ?_)
    refine o_end ?_
    refine za1 ?_
    refine za0 ?_
    refine o_q rfl rfl (za2 rfl) ?_
    refine o_q rfl rfl (q_f F89_1 rfl) ?_
    refine o_q rfl rfl (q_ldb Y3 rfl (fun w h => h.zaa (i := 0) rfl) rfl) ?_
    refine zas (p := Sh A4 l2.length l48.length) (fun w h => f_sh (dk := (Kd.int .i64)) h (fun w h => h.zaw (i := 1) rfl)) (fun hq50 => ?_)
    refine za7 h (fun y52 hg51 h => ?_) rfl
    refine o_q rfl rfl (q_ix Try.underlying25 Z3 rfl rfl hq50 hg51) ?_
    refine o_q rfl rfl (q_lde (off := 0) Y3 rfl rfl (fun w h => h.zaw (i := 1) rfl) hg51 (fun _ _ h => h) rfl) ?_
    refine o_q rfl rfl (q_add64 rfl rfl) ?_
    refine za7 h (fun y54 hg53 h => ?_) rfl
    refine o_q rfl rfl (q_ix Try.underlying25 Z3 rfl rfl hq50 hg53) ?_
    refine za7 h (fun l55 hs56 h => ?_) rfl
    refine o_e rfl (e_set (i := 1) rfl rfl rfl Z3 hs56) (fun _ => ?_)
    refine o_end ?_
    refine zan ?_
    refine za1 ?_
    refine za0 ?_
    refine o_q rfl rfl (q_up rfl rfl (hr12.up hm13)) ?_
    refine o_q rfl rfl (za2 rfl) ?_
    refine o_end ?_
    refine zak ys10.length (ys10, l55, i8 + 1) (by rw [← hk18]; exact Nat.lt_succ_self _) ⟨hr12.step, rfl, h⟩ ⟨rfl, trivial⟩ (fun w h => za5 [1] (by decide) rfl w h) ?_
    repeat (first | exact zad _ _ | refine zah rfl ?_ | refine zae rfl ?_ | refine zai rfl ?_)

/-! ### slices.Index[[]int,int]: function 229 -/
def slices_Index_int_int.l0 (a1 : Int) : (List Int) → Int → Option ((Int) ⊕ (Unit))
  | [], i1 => some (.inr ())
  | y2 :: ys3, i1 => if a1 = y2 then (some (.inl i1)) else (slices_Index_int_int.l0 a1 ys3 (i1 + 1))
def slices_Index_int_int.f (l0 : List Int) (a1 : Int) : Option Int := (slices_Index_int_int.l0 a1 l0 0).bind fun o_ => match o_ with | .inl r_ => some r_ | .inr _ => some (-1)
set_option maxHeartbeats 600000 in
set_option maxRecDepth 100000 in
theorem slices_Index_int_int.calls {w0 ws : World} {P0 : Nat → Prop} (A0 : Option Addr) (c0 : Nat) (n0 : Nat) (l0 : List Int) (a1 : Int) (Z : Below w0.heap.size w0 ws) (hF : Fr w0 ws P0 [] ws) (R0 : Stable ws P0 (fun w => Kd.C (Kd.int .i64) w A0 n0 l0)) (hc0 : n0 ≤ c0) (r_1 : Int) (h : slices_Index_int_int.f l0 a1 = some r_1) :
    Calls Try.prog 229 #[.slice A0 n0 c0, .int .i64 a1] ws (Post1 w0 ws P0 (fun (_ : Unit) => .int .i64 r_1) (fun (_ : Unit) => [])) := by
  unfold slices_Index_int_int.f at h
  obtain rfl := (R0 ws (KeptB.refl _ _)).1
  refine enter Try.func229 rfl Try.ntmps229 rfl hF ?_
  refine c_seq ?_
  refine za0 ?_
  refine o_q rfl rfl (q_asg rfl) ?_
  refine o_end ?_
  refine za1 ?_
  refine c_seq ?_
  refine c_seq ?_
  refine za0 ?_
  refine o_q rfl rfl (za2 rfl) ?_
  refine o_q rfl rfl (q_len Try.underlying25 rfl) ?_
  refine o_q rfl rfl (za2 rfl) ?_
  refine o_end ?_
  refine za1 ?_
  refine zaj ?_
  refine za7 h (fun o9 hl8 hR7 => ?_) rfl
  clear h
  refine c_fact (p := l0.length ≤ 9223372036854775807) (fun w h => (R0.now Z h).2.1) (fun hm6 => ?_)
  refine zav (σ := (List Int) × Int) (fun k4 ((ys3, i1) : (List Int) × Int) => Rg l0 i1 ys3 ∧ ys3.length = k4 ∧ slices_Index_int_int.l0 a1 ys3 i1 = some o9) [4, 5, 8, 9, 10, 11, 12, 13, 14, 15, 16, 17, 18] (fun ((ys3, i1) : (List Int) × Int) => [(8, .int .i64 i1)]) (fun ((ys3, i1) : (List Int) × Int) => []) l0.length (l0, 0) ⟨Rg.start _, rfl, hl8⟩ ⟨rfl, trivial⟩ (fun w h => h) ?_
  refine fun k4 => cur2 (listC (fun i1 U10 hJ_ => ?_) (fun y2 ys3 i1 U10 hJ_ => ?_))
  · skip
    clear hl8
    have hr5 := hJ_.1; have hk11 := hJ_.2.1; have h := hJ_.2.2; clear hJ_
    replace h : slices_Index_int_int.l0 a1 [] i1 = some o9 := h
    rw [slices_Index_int_int.l0] at h
    refine c_seq ?_
    refine za0 ?_
    refine o_q rfl rfl (q_lss rfl rfl) ?_
    refine o_end ?_
    refine za1 ?_
    refine c_seq ?_
    refine zb2 (congrArg Value.bool hr5.ge) ?_
    refine c_exit ?_
    refine za6 ?_
    refine za6 ?_
    have e_ := Option.some.inj h; replace h := hR7; rw [← e_] at h; clear e_
    refine x_hit ?_
    refine za1 ?_
    refine c_seq ?_
    refine za0 ?_
    refine o_q rfl rfl (q_asg rfl) ?_
    refine o_end ?_
    refine za1 ?_
    refine c_ret ?_
    have e0_ := Option.some.inj h; clear h
    subst e0_
    exact x_r1 () Try.results229 (zaf rfl) rfl (fun w h => za5 [] (by decide) rfl w h)
  · skip
    clear hl8
    have hr5 := hJ_.1; have hk11 := hJ_.2.1; have h := hJ_.2.2; clear hJ_
    replace h : slices_Index_int_int.l0 a1 (y2 :: ys3) i1 = some o9 := h
    rw [slices_Index_int_int.l0] at h
    refine c_seq ?_
    refine za0 ?_
    refine o_q rfl rfl (q_lss rfl rfl) ?_
    refine o_end ?_
    refine za1 ?_
    refine c_seq ?_
    refine zb3 (congrArg Value.bool hr5.lt) ?_
    refine zam ?_
    refine za1 ?_
    refine c_seq ?_
    refine zaj ?_
    refine c_seq ?_
    refine za0 ?_
    refine o_q rfl rfl (za2 rfl) ?_
    refine o_q rfl rfl (q_asg rfl) ?_
    refine o_end ?_
    refine za1 ?_
    refine c_seq ?_
    refine za0 ?_
    refine o_q rfl rfl (za2 rfl) ?_
    refine o_q rfl rfl (za2 rfl) ?_
    refine o_q rfl rfl (za2 rfl) ?_
    refine zas (p := Sh A0 l0.length l0.length) (fun w h => f_sh (dk := (Kd.int .i64)) h (fun w h => R0.now Z h)) (fun hq12 => ?_)
    refine o_q rfl rfl (q_ix Try.underlying25 Z3 rfl rfl hq12 hr5.get) ?_
    refine o_q rfl rfl (q_lde (off := 0) Y3 rfl rfl (fun w h => R0.now Z h) hr5.get (fun _ _ h => h) rfl) ?_
    refine o_q rfl rfl (q_eql rfl rfl) ?_
    refine o_end ?_
    refine za1 ?_
    refine zar _ rfl (fun hb13 => ?_) (fun hb13 => ?_)
    · skip
      replace h := br_t hb13 h
      refine c_seq ?_
      refine za0 ?_
      refine o_q rfl rfl (za2 rfl) ?_
      refine o_q rfl rfl (q_asg rfl) ?_
      refine o_end ?_
      refine za1 ?_
      refine c_ret ?_
      refine zao ?_
      refine za9 ?_
      refine za9 ?_
      have e_ := Option.some.inj h; replace h := hR7; rw [← e_] at h; clear e_
      refine zao ?_
      refine za9 ?_
      have e0_ := Option.some.inj h; clear h
      subst e0_
      exact x_r1 () Try.results229 (zaf rfl) rfl (fun w h => za5 [] (by decide) rfl w h)
    · skip
      replace h := br_f hb13 h
      refine zam ?_
      refine zan ?_
      refine za1 ?_
      refine za0 ?_
      refine o_q rfl rfl (q_up rfl rfl (hr5.up hm6)) ?_
      refine o_q rfl rfl (za2 rfl) ?_
      refine o_end ?_
      refine zak ys3.length (ys3, i1 + 1) (by rw [← hk11]; exact Nat.lt_succ_self _) ⟨hr5.step, rfl, h⟩ ⟨rfl, trivial⟩ (fun w h => za5 [] (by decide) rfl w h) ?_
      repeat (first | exact zad _ _ | refine zah rfl ?_ | refine zae rfl ?_ | refine zai rfl ?_)

/-! ### slices.Contains[[]int,int]: function 210 -/
def slices_Contains_int_int.f (l0 : List Int) (a1 : Int) : Option Bool := (slices_Index_int_int.f l0 a1).bind fun i2 => some (decide (0 ≤ i2))
set_option maxHeartbeats 600000 in
set_option maxRecDepth 100000 in
theorem slices_Contains_int_int.calls {w0 ws : World} {P0 : Nat → Prop} (A0 : Option Addr) (c0 : Nat) (n0 : Nat) (l0 : List Int) (a1 : Int) (Z : Below w0.heap.size w0 ws) (hF : Fr w0 ws P0 [] ws) (R0 : Stable ws P0 (fun w => Kd.C (Kd.int .i64) w A0 n0 l0)) (hc0 : n0 ≤ c0) (r_1 : Bool) (h : slices_Contains_int_int.f l0 a1 = some r_1) :
    Calls Try.prog 210 #[.slice A0 n0 c0, .int .i64 a1] ws (Post1 w0 ws P0 (fun (_ : Unit) => .bool r_1) (fun (_ : Unit) => [])) := by
  unfold slices_Contains_int_int.f at h
  obtain rfl := (R0 ws (KeptB.refl _ _)).1
  refine enter Try.func210 rfl Try.ntmps210 rfl hF ?_
  refine c_seq ?_
  refine za0 ?_
  refine o_q rfl rfl (q_asg rfl) ?_
  refine o_end ?_
  refine za1 ?_
  refine c_seq ?_
  refine za0 ?_
  refine o_q rfl rfl (za2 rfl) ?_
  refine o_q rfl rfl (za2 rfl) ?_
  refine za7 h (fun i2 hx1 h => ?_) rfl
  refine o_e rfl (zac 0 Z Try.func229 N229 rfl rfl rfl (fun w P1 hF hB hS hT => slices_Index_int_int.calls A0 c0 l0.length l0 a1 hB hF (hS _ R0) hc0 _ hx1)) (fun _ => ?_)
  refine o_q rfl rfl (q_geq rfl rfl) ?_
  refine o_q rfl rfl (q_asg rfl) ?_
  refine o_end ?_
  refine za1 ?_
  refine c_ret ?_
  have e0_ := Option.some.inj h; clear h
  subst e0_
  exact x_r1 () Try.results210 (zaf rfl) rfl (fun w h => za5 [] (by decide) rfl w h)

/-! ### (*loop.example/g01098/impl.Plan).canTurn: function 155 -/
def impl_Plan_canTurn.f (a0_0 : Int) (l0_1 : List SStep) (l0_2 : List Int) : Option Bool := if 0 < (l0_2.length : Int) then ((impl_Plan_uses.f a0_0 l0_1 l0_2).bind fun l3 => (slices_Contains_int_int.f l3 0).bind fun b7 => some (!b7)) else (some false)
set_option maxHeartbeats 600000 in
set_option maxRecDepth 100000 in
theorem impl_Plan_canTurn.calls {w0 ws : World} {P0 : Nat → Prop} (g0 : Nat) (a0_0 : Int) (A0_1 : Option Addr) (c0_1 : Nat) (n0_1 : Nat) (l0_1 : List SStep) (A0_2 : Option Addr) (c0_2 : Nat) (n0_2 : Nat) (l0_2 : List Int) (Z : Below w0.heap.size w0 ws) (hF : Fr w0 ws P0 [] ws) (R0_1 : Stable ws P0 (fun w => Kd.C kStep w A0_1 n0_1 l0_1)) (hc0_1 : n0_1 ≤ c0_1) (R0_2 : Stable ws P0 (fun w => Kd.C (Kd.int .i64) w A0_2 n0_2 l0_2)) (hc0_2 : n0_2 ≤ c0_2) (B0 : Stable ws P0 (fun w => w.heap[g0]? = some (.cells #[.int .i64 a0_0, .slice A0_1 n0_1 c0_1, .slice A0_2 n0_2 c0_2] 27 (0, 0)))) (r_1 : Bool) (h : impl_Plan_canTurn.f a0_0 l0_1 l0_2 = some r_1) :
    Calls Try.prog 155 #[.pointer (some ⟨g0, 0, none⟩)] ws (Post1 w0 ws P0 (fun (_ : Unit) => .bool r_1) (fun (_ : Unit) => [])) := by
  unfold impl_Plan_canTurn.f at h
  obtain rfl := (R0_1 ws (KeptB.refl _ _)).1
  obtain rfl := (R0_2 ws (KeptB.refl _ _)).1
  refine enter Try.func155 rfl Try.ntmps155 rfl hF ?_
  refine c_seq ?_
  refine za0 ?_
  refine o_q rfl rfl (q_asg rfl) ?_
  refine o_end ?_
  refine za1 ?_
  refine c_seq ?_
  refine za0 ?_
  refine o_q rfl rfl (za2 rfl) ?_
  refine o_q rfl rfl (q_nil rfl) ?_
  refine o_q rfl rfl (q_f F27_2 rfl) ?_
  refine o_q rfl rfl (q_ldb Y25 rfl (fun w h => B0.now Z h) rfl) ?_
  refine o_q rfl rfl (q_len Try.underlying25 rfl) ?_
  refine o_q rfl rfl (q_gtr rfl rfl) ?_
  refine o_q rfl rfl (za2 rfl) ?_
  refine byB (decide (0 < (l0_2.length : Int))) (fun hb1 => ?_) (fun hb1 => ?_)
  · replace h := br_t hb1 h
    refine o_w (za4 rfl rfl rfl (congrArg Value.bool hb1)) rfl (za2 rfl) ?_
    refine za7 h (fun l3 hx2 h => ?_) rfl
    refine o_ew (za4 rfl rfl rfl (congrArg Value.bool hb1)) (zac 0 Z Try.func114 N114 rfl rfl rfl (fun w P1 hF hB hS hT => impl_Plan_uses.calls g0 a0_0 A0_1 c0_1 l0_1.length l0_1 A0_2 c0_2 l0_2.length l0_2 hB hF (hS _ R0_1) hc0_1 (hS _ R0_2) hc0_2 (hS _ B0) _ hx2)) (cur2 (fun A4 c5 => ?_))
    refine za7 h (fun b7 hx6 h => ?_) rfl
    refine o_ew (za4 rfl rfl rfl (congrArg Value.bool hb1)) (zac 0 Z Try.func210 N210 rfl rfl rfl (fun w P1 hF hB hS hT => slices_Contains_int_int.calls A4 c5 l3.length l3 0 hB hF (hT 0 _ rfl).row (hT 0 _ rfl).cap _ hx6)) (fun _ => ?_)
    refine o_w (za4 rfl rfl rfl (congrArg Value.bool hb1)) rfl (q_not rfl) ?_
    refine o_q rfl rfl (zal true (congrArg Value.bool hb1) rfl) ?_
    refine o_q rfl rfl (q_asg rfl) ?_
    refine o_end ?_
    refine za1 ?_
    refine c_ret ?_
    have e0_ := Option.some.inj h; clear h
    subst e0_
    exact x_r1 () Try.results155 (zaf rfl) rfl (fun w h => za5 [] (by decide) rfl w h)
  · replace h := br_f hb1 h
    refine @o_n _ _ _ _ _ _ _ _ _ _ _ 10 (za3 rfl rfl rfl (congrArg Value.bool hb1) rfl) (Eq.refl (some 10)) ?_
    refine @o_n _ _ _ _ _ _ _ _ _ _ _ 11 (za3 rfl rfl rfl (congrArg Value.bool hb1) rfl) (Eq.refl (some 11)) ?_
    refine @o_n _ _ _ _ _ _ _ _ _ _ _ 12 (za3 rfl rfl rfl (congrArg Value.bool hb1) rfl) (Eq.refl (some 12)) ?_
    refine @o_n _ _ _ _ _ _ _ _ _ _ _ 13 (za3 rfl rfl rfl (congrArg Value.bool hb1) rfl) (Eq.refl (some 13)) ?_
    refine o_q rfl rfl (zal false (congrArg Value.bool hb1) rfl) ?_
    refine o_q rfl rfl (q_asg rfl) ?_
    refine o_end ?_
    refine za1 ?_
    refine c_ret ?_
    have e0_ := Option.some.inj h; clear h
    subst e0_
    exact x_r1 () Try.results155 (zaf rfl) rfl (fun w h => za5 [] (by decide) rfl w h)

/-! ### loop.example/g01098/impl.newMaker: function 163 -/
def impl_newMaker.f (a0 : Int) : Option Unit := some ()
set_option maxHeartbeats 600000 in
set_option maxRecDepth 100000 in
theorem impl_newMaker.calls {w0 ws : World} {P0 : Nat → Prop} (a0 : Int) (Z : Below w0.heap.size w0 ws) (hF : Fr w0 ws P0 [] ws)   (h : impl_newMaker.f a0 = some ()) :
    Calls Try.prog 163 #[.int .i64 a0] ws (Post1 w0 ws P0 (fun (q_1 : Nat) => .pointer (some ⟨q_1, 0, none⟩)) (fun (q_1 : Nat) => [box q_1 131 #[.int .i64 a0, .slice none 0 0, .slice none 0 0], row kStep 89 (.slice none 0 0) [], row (Kd.int .i64) 3 (.slice none 0 0) []])) := by
  unfold impl_newMaker.f at h
  refine enter Try.func163 rfl Try.ntmps163 rfl hF ?_
  refine c_seq ?_
  refine za0 ?_
  refine o_q rfl rfl (q_asg rfl) ?_
  refine o_end ?_
  refine za1 ?_
  refine c_seq ?_
  refine za0 ?_
  refine o_q rfl rfl (za2 rfl) ?_
  refine o_q rfl rfl (q_build (vs := [(0, .int .i64 a0)]) (cs := [.int .i64 a0, .slice none 0 0, .slice none 0 0]) rfl rfl) ?_
  refine o_q rfl rfl (q_build (vs := [(0, .agg #[.int .i64 a0, .slice none 0 0, .slice none 0 0])]) (cs := [.int .i64 a0, .slice none 0 0, .slice none 0 0]) rfl rfl) ?_
  refine o_e rfl (e_box rfl) (fun g1 => ?_)
  refine o_q rfl rfl (q_asg rfl) ?_
  refine o_end ?_
  refine za1 ?_
  refine c_ret ?_
  refine x_nil kStep 89 ?_
  refine x_nil (Kd.int .i64) 3 ?_
  exact x_r1 g1 Try.results163 (zaf rfl) rfl (fun w h => za5 [2, 1, 0] (by decide) rfl w h)

/-! ### loop.example/g01098/impl.step: function 91 -/
def impl_step.f (a0 : Int) (a1 : Int) : Option Unit := some ()
set_option maxHeartbeats 600000 in
set_option maxRecDepth 100000 in
theorem impl_step.calls {w0 ws : World} {P0 : Nat → Prop} (a0 : Int) (a1 : Int) (Z : Below w0.heap.size w0 ws) (hF : Fr w0 ws P0 [] ws)   (h : impl_step.f a0 a1 = some ()) :
    Calls Try.prog 91 #[.int .i64 a0, .int .i64 a1] ws (Post1 w0 ws P0 (fun (_ : Unit) => .agg #[.int .i64 (mn a0 a1), .int .i64 (mx a0 a1)]) (fun (_ : Unit) => [])) := by
  unfold impl_step.f at h
  refine enter Try.func91 rfl Try.ntmps91 rfl hF ?_
  refine c_seq ?_
  refine za0 ?_
  refine o_e rfl (zaz V89 rfl) (fun g1 => ?_)
  refine o_end ?_
  refine za1 ?_
  refine c_seq ?_
  refine za0 ?_
  refine o_q rfl rfl (za2 rfl) ?_
  refine o_q rfl rfl (za2 rfl) ?_
  refine o_q rfl rfl (q_min rfl rfl) ?_
  refine o_q rfl rfl (za2 rfl) ?_
  refine o_q rfl rfl (za2 rfl) ?_
  refine o_q rfl rfl (q_max rfl rfl) ?_
  refine o_q rfl rfl (q_build (vs := [(0, .int .i64 (mn a0 a1)), (1, .int .i64 (mx a0 a1))]) (cs := [.int .i64 (mn a0 a1), .int .i64 (mx a0 a1)]) rfl rfl) ?_
  refine o_e rfl (zaq (i := 0) rfl rfl rfl Z89 rfl rfl) (fun _ => ?_)
  refine o_end ?_
  refine za1 ?_
  refine c_ret ?_
  exact x_r1 () Try.results91 (rv_cell rfl G89 Z89 (fun w h => h.zaa (i := 0) rfl) rfl) rfl (fun w h => za5 [] (by decide) rfl w h)

/-! ### (*loop.example/g01098/impl.Plan).many: function 90 -/
def impl_Plan_many_2.f (a0_0 : Int) (l0_1 : List SStep) (l0_2 : List Int) : Option Unit := some ()
set_option maxHeartbeats 600000 in
set_option maxRecDepth 100000 in
theorem impl_Plan_many_2.calls {w0 ws : World} {P0 : Nat → Prop} (g0 : Nat) (a0_0 : Int) (A0_1 : Option Addr) (c0_1 : Nat) (n0_1 : Nat) (l0_1 : List SStep) (A0_2 : Option Addr) (c0_2 : Nat) (n0_2 : Nat) (l0_2 : List Int) (Z : Below w0.heap.size w0 ws) (hF : Fr w0 ws P0 [] ws) (R0_1 : Stable ws P0 (fun w => Kd.C kStep w A0_1 n0_1 l0_1)) (hc0_1 : n0_1 ≤ c0_1) (R0_2 : Stable ws P0 (fun w => Kd.C (Kd.int .i64) w A0_2 n0_2 l0_2)) (hc0_2 : n0_2 ≤ c0_2) (B0 : Stable ws P0 (fun w => w.heap[g0]? = some (.cells #[.int .i64 a0_0, .slice A0_1 n0_1 c0_1, .slice A0_2 n0_2 c0_2] 131 (0, 0))))  (h : impl_Plan_many_2.f a0_0 l0_1 l0_2 = some ()) :
    Calls Try.prog 90 #[.pointer (some ⟨g0, 0, none⟩)] ws (Post1 w0 ws P0 (fun (_ : Unit) => .int .i64 (w64 (a0_0 + (l0_1.length : Int)))) (fun (_ : Unit) => [])) := by
  unfold impl_Plan_many_2.f at h
  obtain rfl := (R0_1 ws (KeptB.refl _ _)).1
  obtain rfl := (R0_2 ws (KeptB.refl _ _)).1
  refine enter Try.func90 rfl Try.ntmps90 rfl hF ?_
  refine c_seq ?_
  refine za0 ?_
  refine o_q rfl rfl (q_asg rfl) ?_
  refine o_end ?_
  refine za1 ?_
  refine c_seq ?_
  refine a_start (ds := []) MO rfl ?_
  refine za8 0 rfl rfl rfl (by kernel_rfl) (fun _ _ _ h => h) (za2 rfl) ?_
  refine za8 1 rfl rfl rfl (by kernel_rfl) (fun _ _ _ h => h) (q_nil rfl) ?_
  refine za8 2 rfl rfl rfl (by kernel_rfl) (fun _ _ _ h => h) (q_f F27_0 rfl) ?_
  refine a_take 3 rfl rfl rfl (by kernel_rfl) (fun _ _ _ h => h) (fun w h => h) (q_ldb Y3 rfl (fun w h => B0.now Z h) rfl) ?_
  refine za8 4 rfl rfl rfl (by kernel_rfl) (fun _ _ _ h => h) (za2 rfl) ?_
  refine za8 5 rfl rfl rfl (by kernel_rfl) (fun _ _ _ h => h) (q_nil rfl) ?_
  refine za8 6 rfl rfl rfl (by kernel_rfl) (fun _ _ _ h => h) (q_f F27_1 rfl) ?_
  refine a_take 7 rfl rfl rfl (by kernel_rfl) (fun _ _ _ h => h) (fun w h => h) (q_ldb Y24 rfl (fun w h => B0.now Z h) rfl) ?_
  refine za8 8 rfl rfl rfl (by kernel_rfl) (fun _ _ _ h => h) (q_len Try.underlying24 rfl) ?_
  refine za8 9 rfl rfl rfl (by kernel_rfl) (fun _ _ _ h => h) (q_add64 rfl rfl) ?_
  refine za8 10 rfl rfl rfl (by kernel_rfl) (fun _ _ _ h => h) (q_asg rfl) ?_
  refine zb0 (by kernel_rfl) ?_
  refine za1 ?_
  refine c_ret ?_
  exact x_r1 () Try.results90 (zaf rfl) rfl (fun w h => za5 [] (by decide) rfl w h)

/-! ### (*loop.example/g01098/impl.maker).multiply: function 165 -/
def impl_maker_multiply.f (a0_0 : Int) (l0_1 : List SStep) (l0_2 : List Int) (a1 : Int) (a2 : Int) : Option (Int × (List SStep)) := ((impl_step.f a1 a2).bind fun _ => (ap l0_1 ([(⟨mn a1 a2, mx a1 a2⟩ : SStep)] : List SStep)).bind fun l1571 => some l1571).bind fun l962 => (impl_Plan_many_2.f a0_0 l962 l0_2).bind fun _ => some (w64 (w64 (a0_0 + (l962.length : Int)) - 1), l962)
set_option maxHeartbeats 600000 in
set_option maxRecDepth 100000 in
theorem impl_maker_multiply.calls {w0 ws : World} {P0 : Nat → Prop} (g0 : Nat) (a0_0 : Int) (A0_1 : Option Addr) (c0_1 : Nat) (n0_1 : Nat) (l0_1 : List SStep) (A0_2 : Option Addr) (c0_2 : Nat) (n0_2 : Nat) (l0_2 : List Int) (a1 : Int) (a2 : Int) (Z : Below w0.heap.size w0 ws) (hF : Fr w0 ws P0 [box g0 131 #[.int .i64 a0_0, .slice A0_1 n0_1 c0_1, .slice A0_2 n0_2 c0_2], row kStep 89 (.slice A0_1 n0_1 c0_1) l0_1] ws) (R0_2 : Stable ws P0 (fun w => Kd.C (Kd.int .i64) w A0_2 n0_2 l0_2)) (hc0_2 : n0_2 ≤ c0_2) (r_1 : Int) (r_2 : List SStep) (h : impl_maker_multiply.f a0_0 l0_1 l0_2 a1 a2 = some (r_1, r_2)) :
    Calls Try.prog 165 #[.pointer (some ⟨g0, 0, none⟩), .int .i64 a1, .int .i64 a2] ws (Post1 w0 ws P0 (fun ((q_3, q_4) : (Option Addr) × Nat) => .int .i64 r_1) (fun ((q_3, q_4) : (Option Addr) × Nat) => [box g0 131 #[.int .i64 a0_0, .slice q_3 r_2.length q_4, .slice A0_2 n0_2 c0_2], row kStep 89 (.slice q_3 r_2.length q_4) r_2])) := by
  unfold impl_maker_multiply.f at h
  obtain rfl := (hF.row_C (i := 1) rfl).2.1
  obtain rfl := (R0_2 ws (KeptB.refl _ _)).1
  refine enter Try.func165 rfl Try.ntmps165 rfl hF ?_
  refine c_seq ?_
  refine za0 ?_
  refine o_q rfl rfl (q_asg rfl) ?_
  refine o_end ?_
  refine za1 ?_
  refine za7 h (fun o965 hl966 hR967 => ?_) rfl
  clear h
  refine c_cutJ (σ := (List SStep) × (Option Addr) × Nat) (fun (l962, A963, c964) => some l962 = some o965) [7, 8, 9, 10, 11, 12, 13, 14, 15, 16, 17, 18, 19, 20] (fun (l962, A963, c964) => []) (fun (l962, A963, c964) => [box g0 131 #[.int .i64 a0_0, .slice A963 l962.length c964, .slice A0_2 l0_2.length c0_2], row kStep 89 (.slice A963 l962.length c964) l962]) ?_ ?_
  · skip
    have h := hl966; clear hl966
    clear hR967
    refine za7 h (fun _ hx1451 h => ?_) rfl
    refine za7 h (fun l1571 ha1572 h => ?_) rfl
    refine a_startS (ds := []) [none, none] MO rfl ?_
    refine za8 0 rfl rfl rfl (by kernel_rfl) (fun _ _ _ h => h) (za2 rfl) ?_
    refine za8 1 rfl rfl rfl (by kernel_rfl) (fun _ _ _ h => h) (za2 rfl) ?_
    refine za8 2 rfl rfl rfl (by kernel_rfl) (fun _ _ _ h => h) (q_nil rfl) ?_
    refine za8 3 rfl rfl rfl (by kernel_rfl) (fun _ _ _ h => h) (q_f F131_0 rfl) ?_
    refine za8 4 rfl rfl rfl (by kernel_rfl) (fun _ _ _ h => h) (q_f F27_1 rfl) ?_
    refine za8 6 rfl rfl rfl (by kernel_rfl) (fun _ _ _ h => h) (za2 rfl) ?_
    refine za8 7 rfl rfl rfl (by kernel_rfl) (fun _ _ _ h => h) (za2 rfl) ?_
    refine a_two 5 8 rfl rfl rfl rfl (by kernel_rfl) rfl rfl (ev_q rfl (q_ldb Y24 rfl (fun w h => h.zaa (i := 0) rfl) rfl)) (fun s w h => zab [none, none] (by decide) w h rfl) (zac 0 Z Try.func91 N91 rfl rfl rfl (fun w P1 hF hB hS hT => impl_step.calls a1 a2 hB hF hx1451)) (fun s w h => zab [none, none] (by decide) w h rfl) (fun _ => ?_) (fun _ => ?_)
    · skip
      refine a_one 8 rfl rfl (by kernel_rfl) rfl (zac 0 Z Try.func91 N91 rfl rfl rfl (fun w P1 hF hB hS hT => impl_step.calls a1 a2 hB hF hx1451)) (fun s w h => zab [none, none] (by decide) w h rfl) (fun _ => ?_)
      refine a_one 9 rfl rfl (by kernel_rfl) rfl (e_lit (vs := [(0, .agg #[.int .i64 (mn a1 a2), .int .i64 (mx a1 a2)])]) (cs := [.int .i64 (mn a1 a2), .int .i64 (mx a1 a2)]) kStep ([(⟨mn a1 a2, mx a1 a2⟩ : SStep)] : List SStep) Try.underlying24 I89 (by decide) rfl (by decide) rfl rfl (fun _ _ => reps_flat _)) (fun s w h => zab [none, none] (by decide) w h rfl) (cur2 (fun A1511 c1512 => ?_))
      refine a_one 10 rfl rfl (by kernel_rfl) rfl (e_app (i := 2) (j := 0) Try.underlying24 I89 rfl (by decide) (by decide) rfl rfl rfl rfl rfl ha1572) (fun s w h => zab [none, none] (by decide) w h rfl) (cur2 (fun A1573 c1574 => ?_))
      refine za8 11 rfl rfl rfl (by kernel_rfl) (fun _ _ _ h => h) (q_nil rfl) ?_
      refine za8 12 rfl rfl rfl (by kernel_rfl) (fun _ _ _ h => h) (q_f F131_0 rfl) ?_
      refine za8 13 rfl rfl rfl (by kernel_rfl) (fun _ _ _ h => h) (q_f F27_1 rfl) ?_
      refine a_one 14 rfl rfl (by kernel_rfl) rfl (e_store (i := 1) rfl rfl rfl rfl Z24 rfl rfl) (fun s w h => zab [none, none] (by decide) w h rfl) (fun _ => ?_)
      refine zb0 (by kernel_rfl) ?_
      refine zay (l1571, A1573, c1574) h trivial (fun w h => za5 [1, 2] (by decide) rfl w h) ?_
      repeat (first | exact zad _ _ | refine zah rfl ?_ | refine zae rfl ?_ | refine zai rfl ?_)
    · skip
      refine a_two 5 9 rfl rfl rfl rfl (by kernel_rfl) rfl rfl (ev_q rfl (q_ldb Y24 rfl (fun w h => h.zaa (i := 0) rfl) rfl)) (fun s w h => zab [none, none] (by decide) w h rfl) (e_lit (vs := [(0, .agg #[.int .i64 (mn a1 a2), .int .i64 (mx a1 a2)])]) (cs := [.int .i64 (mn a1 a2), .int .i64 (mx a1 a2)]) kStep ([(⟨mn a1 a2, mx a1 a2⟩ : SStep)] : List SStep) Try.underlying24 I89 (by decide) rfl (by decide) rfl rfl (fun _ _ => reps_flat _)) (fun s w h => zab [none, none] (by decide) w h rfl) (fun _ => ?_) (cur2 (fun A1511 c1512 => ?_))
      · skip
        refine a_one 9 rfl rfl (by kernel_rfl) rfl (e_lit (vs := [(0, .agg #[.int .i64 (mn a1 a2), .int .i64 (mx a1 a2)])]) (cs := [.int .i64 (mn a1 a2), .int .i64 (mx a1 a2)]) kStep ([(⟨mn a1 a2, mx a1 a2⟩ : SStep)] : List SStep) Try.underlying24 I89 (by decide) rfl (by decide) rfl rfl (fun _ _ => reps_flat _)) (fun s w h => zab [none, none] (by decide) w h rfl) (cur2 (fun A1511 c1512 => ?_))
        refine a_one 10 rfl rfl (by kernel_rfl) rfl (e_app (i := 2) (j := 0) Try.underlying24 I89 rfl (by decide) (by decide) rfl rfl rfl rfl rfl ha1572) (fun s w h => zab [none, none] (by decide) w h rfl) (cur2 (fun A1573 c1574 => ?_))
        refine za8 11 rfl rfl rfl (by kernel_rfl) (fun _ _ _ h => h) (q_nil rfl) ?_
        refine za8 12 rfl rfl rfl (by kernel_rfl) (fun _ _ _ h => h) (q_f F131_0 rfl) ?_
        refine za8 13 rfl rfl rfl (by kernel_rfl) (fun _ _ _ h => h) (q_f F27_1 rfl) ?_
        refine a_one 14 rfl rfl (by kernel_rfl) rfl (e_store (i := 1) rfl rfl rfl rfl Z24 rfl rfl) (fun s w h => zab [none, none] (by decide) w h rfl) (fun _ => ?_)
        refine zb0 (by kernel_rfl) ?_
        refine zay (l1571, A1573, c1574) h trivial (fun w h => za5 [1, 2] (by decide) rfl w h) ?_
        repeat (first | exact zad _ _ | refine zah rfl ?_ | refine zae rfl ?_ | refine zai rfl ?_)
      · skip
        refine a_one 5 rfl rfl (by kernel_rfl) rfl (ev_q rfl (q_ldb Y24 rfl (fun w h => h.zaa (i := 1) rfl) rfl)) (fun s w h => zab [none, none] (by decide) w h rfl) (fun _ => ?_)
        refine a_one 10 rfl rfl (by kernel_rfl) rfl (e_app (i := 2) (j := 0) Try.underlying24 I89 rfl (by decide) (by decide) rfl rfl rfl rfl rfl ha1572) (fun s w h => zab [none, none] (by decide) w h rfl) (cur2 (fun A1573 c1574 => ?_))
        refine za8 11 rfl rfl rfl (by kernel_rfl) (fun _ _ _ h => h) (q_nil rfl) ?_
        refine za8 12 rfl rfl rfl (by kernel_rfl) (fun _ _ _ h => h) (q_f F131_0 rfl) ?_
        refine za8 13 rfl rfl rfl (by kernel_rfl) (fun _ _ _ h => h) (q_f F27_1 rfl) ?_
        refine a_one 14 rfl rfl (by kernel_rfl) rfl (e_store (i := 1) rfl rfl rfl rfl Z24 rfl rfl) (fun s w h => zab [none, none] (by decide) w h rfl) (fun _ => ?_)
        refine zb0 (by kernel_rfl) ?_
        refine zay (l1571, A1573, c1574) h trivial (fun w h => za5 [1, 2] (by decide) rfl w h) ?_
        repeat (first | exact zad _ _ | refine zah rfl ?_ | refine zae rfl ?_ | refine zai rfl ?_)
  · skip
    refine (cur3 (fun l962 A963 c964 => fun U968 hJ969 => ?_))
    have e_ := Option.some.inj hJ969; have h := hR967; rw [← e_] at h; clear e_ hJ969 hR967 hl966
    refine c_seq ?_
    refine za0 ?_
    refine o_q rfl rfl (za2 rfl) ?_
    refine o_q rfl rfl (q_nil rfl) ?_
    refine o_q rfl rfl (q_f F131_0 rfl) ?_
    refine za7 h (fun _ hx1931 h => ?_) rfl
    refine o_e rfl (zac 0 Z Try.func90 N90 rfl rfl rfl (fun w P1 hF hB hS hT => impl_Plan_many_2.calls g0 a0_0 A963 c964 l962.length l962 A0_2 c0_2 l0_2.length l0_2 hB hF (hT 1 _ rfl).row (hT 1 _ rfl).cap (hS _ R0_2) hc0_2 (hT 0 _ rfl).box hx1931)) (fun _ => ?_)
    refine o_q rfl rfl (q_sub64 rfl rfl) ?_
    refine o_q rfl rfl (q_asg rfl) ?_
    refine o_end ?_
    refine za1 ?_
    refine c_ret ?_
    have e0_ := Option.some.inj h; clear h
    have d0_ := (Prod.mk.inj e0_).1; have e1_ := (Prod.mk.inj e0_).2; clear e0_; subst d0_
    subst e1_
    exact x_r1 (A963, c964) Try.results165 (zaf rfl) rfl (fun w h => za5 [0, 1] (by decide) rfl w h)

/-! ### (*loop.example/g01098/impl.maker).times: function 150 -/
def impl_maker_times.f (a0_0 : Int) (l0_1 : List SStep) (l0_2 : List Int) (a1 : Int) (a2 : Int) : Option (Int × (List SStep)) := if a1 < 0 then (some (a2, l0_1)) else ((impl_maker_multiply.f a0_0 l0_1 l0_2 a1 a2).bind fun (i3, l4) => some (i3, l4))
set_option maxHeartbeats 600000 in
set_option maxRecDepth 100000 in
theorem impl_maker_times.calls {w0 ws : World} {P0 : Nat → Prop} (g0 : Nat) (a0_0 : Int) (A0_1 : Option Addr) (c0_1 : Nat) (n0_1 : Nat) (l0_1 : List SStep) (A0_2 : Option Addr) (c0_2 : Nat) (n0_2 : Nat) (l0_2 : List Int) (a1 : Int) (a2 : Int) (Z : Below w0.heap.size w0 ws) (hF : Fr w0 ws P0 [box g0 131 #[.int .i64 a0_0, .slice A0_1 n0_1 c0_1, .slice A0_2 n0_2 c0_2], row kStep 89 (.slice A0_1 n0_1 c0_1) l0_1] ws) (R0_2 : Stable ws P0 (fun w => Kd.C (Kd.int .i64) w A0_2 n0_2 l0_2)) (hc0_2 : n0_2 ≤ c0_2) (r_1 : Int) (r_2 : List SStep) (h : impl_maker_times.f a0_0 l0_1 l0_2 a1 a2 = some (r_1, r_2)) :
    Calls Try.prog 150 #[.pointer (some ⟨g0, 0, none⟩), .int .i64 a1, .int .i64 a2] ws (Post1 w0 ws P0 (fun ((q_3, q_4) : (Option Addr) × Nat) => .int .i64 r_1) (fun ((q_3, q_4) : (Option Addr) × Nat) => [box g0 131 #[.int .i64 a0_0, .slice q_3 r_2.length q_4, .slice A0_2 n0_2 c0_2], row kStep 89 (.slice q_3 r_2.length q_4) r_2])) := by
  unfold impl_maker_times.f at h
  obtain rfl := (hF.row_C (i := 1) rfl).2.1
  obtain rfl := (R0_2 ws (KeptB.refl _ _)).1
  refine enter Try.func150 rfl Try.ntmps150 rfl hF ?_
  refine c_seq ?_
  refine za0 ?_
  refine o_q rfl rfl (q_asg rfl) ?_
  refine o_end ?_
  refine za1 ?_
  refine c_seq ?_
  refine c_seq ?_
  refine za0 ?_
  refine o_q rfl rfl (za2 rfl) ?_
  refine o_q rfl rfl (q_lss rfl rfl) ?_
  refine o_end ?_
  refine za1 ?_
  refine zar _ rfl (fun hb1 => ?_) (fun hb1 => ?_)
  · skip
    replace h := br_t hb1 h
    refine c_seq ?_
    refine za0 ?_
    refine o_q rfl rfl (za2 rfl) ?_
    refine o_q rfl rfl (q_asg rfl) ?_
    refine o_end ?_
    refine za1 ?_
    refine c_ret ?_
    refine za9 ?_
    have e0_ := Option.some.inj h; clear h
    have d0_ := (Prod.mk.inj e0_).1; have e1_ := (Prod.mk.inj e0_).2; clear e0_; subst d0_
    subst e1_
    exact x_r1 (A0_1, c0_1) Try.results150 (zaf rfl) rfl (fun w h => za5 [0, 1] (by decide) rfl w h)
  · skip
    replace h := br_f hb1 h
    refine zam ?_
    refine za1 ?_
    refine c_seq ?_
    refine za0 ?_
    refine o_q rfl rfl (za2 rfl) ?_
    refine o_q rfl rfl (za2 rfl) ?_
    refine o_q rfl rfl (za2 rfl) ?_
    refine bindE2 h (fun i3 l4 hx2 h => ?_) rfl
    refine o_e rfl (zac 2 Z Try.func165 N165 rfl rfl rfl (fun w P1 hF hB hS hT => impl_maker_multiply.calls g0 a0_0 A0_1 c0_1 l0_1.length l0_1 A0_2 c0_2 l0_2.length l0_2 a1 a2 hB hF (hS _ R0_2) hc0_2 _ _ hx2)) (cur2 (fun A5 c6 => ?_))
    refine o_q rfl rfl (q_asg rfl) ?_
    refine o_end ?_
    refine za1 ?_
    refine c_ret ?_
    have e0_ := Option.some.inj h; clear h
    have d0_ := (Prod.mk.inj e0_).1; have e1_ := (Prod.mk.inj e0_).2; clear e0_; subst d0_
    subst e1_
    exact x_r1 (A5, c6) Try.results150 (zaf rfl) rfl (fun w h => za5 [0, 1] (by decide) rfl w h)

/-! ### (*loop.example/g01098/impl.maker).plan: function 151 -/
def impl_maker_plan.f (a0_0 : Int) (l0_1 : List SStep) (l0_2 : List Int) (l1 : List Int) : Option Unit := some ()
set_option maxHeartbeats 600000 in
set_option maxRecDepth 100000 in
theorem impl_maker_plan.calls {w0 ws : World} {P0 : Nat → Prop} (g0 : Nat) (a0_0 : Int) (A0_1 : Option Addr) (c0_1 : Nat) (n0_1 : Nat) (l0_1 : List SStep) (A0_2 : Option Addr) (c0_2 : Nat) (n0_2 : Nat) (l0_2 : List Int) (A1 : Option Addr) (c1 : Nat) (n1 : Nat) (l1 : List Int) (Z : Below w0.heap.size w0 ws) (hF : Fr w0 ws P0 [box g0 131 #[.int .i64 a0_0, .slice A0_1 n0_1 c0_1, .slice A0_2 n0_2 c0_2], row kStep 89 (.slice A0_1 n0_1 c0_1) l0_1, row (Kd.int .i64) 3 (.slice A1 n1 c1) l1] ws) (R0_2 : Stable ws P0 (fun w => Kd.C (Kd.int .i64) w A0_2 n0_2 l0_2)) (hc0_2 : n0_2 ≤ c0_2)  (h : impl_maker_plan.f a0_0 l0_1 l0_2 l1 = some ()) :
    Calls Try.prog 151 #[.pointer (some ⟨g0, 0, none⟩), .slice A1 n1 c1] ws (Post1 w0 ws P0 (fun (_ : Unit) => .agg #[.int .i64 a0_0, .slice A0_1 n0_1 c0_1, .slice A1 n1 c1]) (fun (_ : Unit) => [row kStep 89 (.slice A0_1 n0_1 c0_1) l0_1, row (Kd.int .i64) 3 (.slice A1 n1 c1) l1, box g0 131 #[.int .i64 a0_0, .slice A0_1 n0_1 c0_1, .slice A1 n1 c1]])) := by
  unfold impl_maker_plan.f at h
  obtain rfl := (hF.row_C (i := 1) rfl).2.1
  obtain rfl := (hF.row_C (i := 2) rfl).2.1
  obtain rfl := (R0_2 ws (KeptB.refl _ _)).1
  refine enter Try.func151 rfl Try.ntmps151 rfl hF ?_
  refine c_seq ?_
  refine za0 ?_
  refine o_e rfl (zaz V27 rfl) (fun g1 => ?_)
  refine o_end ?_
  refine za1 ?_
  refine c_seq ?_
  refine za0 ?_
  refine o_q rfl rfl (za2 rfl) ?_
  refine o_q rfl rfl (za2 rfl) ?_
  refine o_q rfl rfl (q_nil rfl) ?_
  refine o_q rfl rfl (q_f F131_0 rfl) ?_
  refine o_q rfl rfl (q_f F27_2 rfl) ?_
  refine o_e rfl (e_store (i := 1) rfl rfl rfl rfl Z25 rfl rfl) (fun _ => ?_)
  refine o_end ?_
  refine za1 ?_
  refine c_seq ?_
  refine za0 ?_
  refine o_q rfl rfl (za2 rfl) ?_
  refine o_q rfl rfl (q_nil rfl) ?_
  refine o_q rfl rfl (q_f F131_0 rfl) ?_
  refine o_q rfl rfl (q_ldB G27 Z27 rfl (fun w h => h.zaa (i := 1) rfl) rfl) ?_
  refine o_e rfl (zaq (i := 0) rfl rfl rfl Z27 rfl rfl) (fun _ => ?_)
  refine o_end ?_
  refine za1 ?_
  refine c_ret ?_
  exact x_r1 () Try.results151 (rv_cell rfl G27 Z27 (fun w h => h.zaa (i := 0) rfl) rfl) rfl (fun w h => za5 [2, 3, 1] (by decide) rfl w h)

/-! ### (*loop.example/g01098/impl.maker).plan: function 151 -/
def impl_maker_plan_2.f (a0_0 : Int) (l0_1 : List SStep) (l0_2 : List Int) (l1 : List Int) (k1 : Nat) : Option Unit := some ()
set_option maxHeartbeats 600000 in
set_option maxRecDepth 100000 in
theorem impl_maker_plan_2.calls {w0 ws : World} {P0 : Nat → Prop} (g0 : Nat) (a0_0 : Int) (A0_1 : Option Addr) (c0_1 : Nat) (n0_1 : Nat) (l0_1 : List SStep) (A0_2 : Option Addr) (c0_2 : Nat) (n0_2 : Nat) (l0_2 : List Int) (A1 : Option Addr) (c1 : Nat) (n1 : Nat) (l1 : List Int) (k1 : Nat) (Z : Below w0.heap.size w0 ws) (hF : Fr w0 ws P0 [box g0 131 #[.int .i64 a0_0, .slice A0_1 n0_1 c0_1, .slice A0_2 n0_2 c0_2], row kStep 89 (.slice A0_1 n0_1 c0_1) l0_1, row (Kd.int .i64) 3 (.slice A1 n1 c1) l1] ws) (R0_2 : Stable ws P0 (fun w => Kd.C (Kd.int .i64) w A0_2 n0_2 l0_2)) (hc0_2 : n0_2 ≤ c0_2)  (h : impl_maker_plan_2.f a0_0 l0_1 l0_2 l1 k1 = some ()) :
    Calls Try.prog 151 #[.pointer (some ⟨g0, 0, none⟩), .slice A1 (tl k1 n1) (tl k1 n1)] ws (Post1 w0 ws P0 (fun (_ : Unit) => .agg #[.int .i64 a0_0, .slice A0_1 n0_1 c0_1, .slice A1 (tl k1 n1) (tl k1 n1)]) (fun (_ : Unit) => [row kStep 89 (.slice A0_1 n0_1 c0_1) l0_1, row (Kd.int .i64) 3 (.slice A1 n1 c1) l1, box g0 131 #[.int .i64 a0_0, .slice A0_1 n0_1 c0_1, .slice A1 (tl k1 n1) (tl k1 n1)]])) := by
  unfold impl_maker_plan_2.f at h
  obtain rfl := (hF.row_C (i := 1) rfl).2.1
  obtain rfl := (hF.row_C (i := 2) rfl).2.1
  obtain rfl := (R0_2 ws (KeptB.refl _ _)).1
  refine enter Try.func151 rfl Try.ntmps151 rfl hF ?_
  refine c_seq ?_
  refine za0 ?_
  refine o_e rfl (zaz V27 rfl) (fun g1 => ?_)
  refine o_end ?_
  refine za1 ?_
  refine c_seq ?_
  refine za0 ?_
  refine o_q rfl rfl (za2 rfl) ?_
  refine o_q rfl rfl (za2 rfl) ?_
  refine o_q rfl rfl (q_nil rfl) ?_
  refine o_q rfl rfl (q_f F131_0 rfl) ?_
  refine o_q rfl rfl (q_f F27_2 rfl) ?_
  refine o_e rfl (e_store (i := 1) rfl rfl rfl rfl Z25 rfl rfl) (fun _ => ?_)
  refine o_end ?_
  refine za1 ?_
  refine c_seq ?_
  refine za0 ?_
  refine o_q rfl rfl (za2 rfl) ?_
  refine o_q rfl rfl (q_nil rfl) ?_
  refine o_q rfl rfl (q_f F131_0 rfl) ?_
  refine o_q rfl rfl (q_ldB G27 Z27 rfl (fun w h => h.zaa (i := 1) rfl) rfl) ?_
  refine o_e rfl (zaq (i := 0) rfl rfl rfl Z27 rfl rfl) (fun _ => ?_)
  refine o_end ?_
  refine za1 ?_
  refine c_ret ?_
  exact x_r1 () Try.results151 (rv_cell rfl G27 Z27 (fun w h => h.zaa (i := 0) rfl) rfl) rfl (fun w h => za5 [2, 3, 1] (by decide) rfl w h)

/-! ### (*loop.example/g01098/impl.Plan).turned: function 156 -/
def impl_Plan_turned.l3 (a0_0 : Int) (l0_2 : List Int) (i16 : Int) (l15 : List Int) (i46 : Int) : (List Int) → (List SStep) → Int → Int → Option ((List SStep) × Int)
  | [], l69, i72, i73 => some (l69, i72)
  | y74 :: ys75, l69, i72, i73 => if y74 = i16 then ((gt l15 (w64 (a0_0 + i46))).bind fun y88 => (impl_maker_times.f (l0_2.length : Int) l69 [] i72 y88).bind fun (i90, l91) => impl_Plan_turned.l3 a0_0 l0_2 i16 l15 i46 ys75 l91 i90 (i73 + 1)) else (impl_Plan_turned.l3 a0_0 l0_2 i16 l15 i46 ys75 l69 i72 (i73 + 1))
def impl_Plan_turned.l2 (a0_0 : Int) (l0_2 : List Int) (i16 : Int) (l15 : List Int) : (List SStep) → (List SStep) → Int → Int → Option ((List SStep) × Int)
  | [], l43, i46, i47 => some (l43, i47)
  | y48 :: ys49, l43, i46, i47 => (impl_Plan_turned.l3 a0_0 l0_2 i16 l15 i46 ([y48.f0, y48.f1] : List Int) l43 i47 0).bind fun (l69, i72) => impl_Plan_turned.l2 a0_0 l0_2 i16 l15 ys49 l69 (i46 + 1) i72
def impl_Plan_turned.l1 (l0_2 : List Int) (i16 : Int) : (List Int) → (List SStep) → Int → Int → Option ((List SStep) × Int)
  | [], l28, i31, i32 => some (l28, i32)
  | y33 :: ys34, l28, i31, i32 => if y33 = i16 then ((impl_maker_times.f (l0_2.length : Int) l28 [] i32 i31).bind fun (i97, l98) => impl_Plan_turned.l1 l0_2 i16 ys34 l98 (i31 + 1) i97) else (impl_Plan_turned.l1 l0_2 i16 ys34 l28 (i31 + 1) i32)
def impl_Plan_turned.l0 (a0_0 : Int) (l0_1 : List SStep) (l0_2 : List Int) : Nat → (List SStep) → (List Int) → Int → Option ((List SStep) × (List Int))
  | 0, _, _, _ => none
  | k19 + 1, l12, l15, i16 => if 0 ≤ i16 then ((impl_Plan_turned.l1 l0_2 i16 l0_2 l12 0 (-1)).bind fun (l28, i32) => (impl_Plan_turned.l2 a0_0 l0_2 i16 l15 l0_1 l28 0 i32).bind fun (l43, i47) => (gt l15 i16).bind fun y60 => (st l15 i16 i47).bind fun l61 => impl_Plan_turned.l0 a0_0 l0_1 l0_2 k19 l43 l61 (w64 (i16 - 1))) else (some (l12, l15))
def impl_Plan_turned.f (k : Nat) (a0_0 : Int) (l0_1 : List SStep) (l0_2 : List Int) : Option ((List SStep) × (List Int)) := (impl_newMaker.f (l0_2.length : Int)).bind fun _ => (impl_Plan_many.f a0_0 l0_1 l0_2).bind fun _ => (mk0 (w64 (a0_0 + (l0_1.length : Int))) (0 : Int)).bind fun l6 => (impl_Plan_many.f a0_0 l0_1 l0_2).bind fun _ => (impl_Plan_turned.l0 a0_0 l0_1 l0_2 k [] l6 (w64 (w64 (a0_0 + (l0_1.length : Int)) - 1))).bind fun (l12, l15) => (ctk l15 a0_0).bind fun _ => (impl_maker_plan_2.f (l0_2.length : Int) l12 [] l15 ((a0_0 : Int).toNat)).bind fun _ => some (l12, l15)
set_option maxHeartbeats 600000 in
set_option maxRecDepth 100000 in
theorem impl_Plan_turned.calls (k : Nat) {w0 ws : World} {P0 : Nat → Prop} (g0 : Nat) (a0_0 : Int) (A0_1 : Option Addr) (c0_1 : Nat) (n0_1 : Nat) (l0_1 : List SStep) (A0_2 : Option Addr) (c0_2 : Nat) (n0_2 : Nat) (l0_2 : List Int) (Z : Below w0.heap.size w0 ws) (hF : Fr w0 ws P0 [] ws) (R0_1 : Stable ws P0 (fun w => Kd.C kStep w A0_1 n0_1 l0_1)) (hc0_1 : n0_1 ≤ c0_1) (R0_2 : Stable ws P0 (fun w => Kd.C (Kd.int .i64) w A0_2 n0_2 l0_2)) (hc0_2 : n0_2 ≤ c0_2) (B0 : Stable ws P0 (fun w => w.heap[g0]? = some (.cells #[.int .i64 a0_0, .slice A0_1 n0_1 c0_1, .slice A0_2 n0_2 c0_2] 27 (0, 0)))) (r_1 : List SStep) (r_4 : List Int) (h : impl_Plan_turned.f k a0_0 l0_1 l0_2 = some (r_1, r_4)) :
    Calls Try.prog 156 #[.pointer (some ⟨g0, 0, none⟩)] ws (Post1 w0 ws P0 (fun ((q_2, q_3, q_5, q_6) : (Option Addr) × Nat × (Option Addr) × Nat) => .agg #[.int .i64 (l0_2.length : Int), .slice q_2 r_1.length q_3, .slice q_5 (tl ((a0_0 : Int).toNat) r_4.length) (tl ((a0_0 : Int).toNat) r_4.length)]) (fun ((q_2, q_3, q_5, q_6) : (Option Addr) × Nat × (Option Addr) × Nat) => [row kStep 89 (.slice q_2 r_1.length q_3) r_1, row (Kd.int .i64) 3 (.slice q_5 r_4.length q_6) r_4])) := by
  unfold impl_Plan_turned.f at h
  obtain rfl := (R0_1 ws (KeptB.refl _ _)).1
  obtain rfl := (R0_2 ws (KeptB.refl _ _)).1
  refine enter Try.func156 rfl Try.ntmps156 rfl hF ?_
  refine c_seq ?_
  refine za0 ?_
  refine o_e rfl (zaz V27 rfl) (fun g1 => ?_)
  refine o_end ?_
  refine za1 ?_
  refine c_seq ?_
  refine a_start (ds := []) MO rfl ?_
  refine za8 0 rfl rfl rfl (by kernel_rfl) (fun _ _ _ h => h) (za2 rfl) ?_
  refine za8 1 rfl rfl rfl (by kernel_rfl) (fun _ _ _ h => h) (q_nil rfl) ?_
  refine za8 2 rfl rfl rfl (by kernel_rfl) (fun _ _ _ h => h) (q_f F27_2 rfl) ?_
  refine a_take 3 rfl rfl rfl (by kernel_rfl) (fun _ _ _ h => h) (fun w h => h) (q_ldb Y25 rfl (fun w h => B0.now Z h) rfl) ?_
  refine za8 4 rfl rfl rfl (by kernel_rfl) (fun _ _ _ h => h) (q_len Try.underlying25 rfl) ?_
  refine za8 6 rfl rfl rfl (by kernel_rfl) (fun _ _ _ h => h) (za2 rfl) ?_
  refine za7 h (fun _ hx3 h => ?_) rfl
  refine a_one 5 rfl rfl (by kernel_rfl) rfl (zac 0 Z Try.func163 N163 rfl rfl rfl (fun w P1 hF hB hS hT => impl_newMaker.calls (l0_2.length : Int) hB hF hx3)) (fun s w h => zab [some 3] (by decide) w h rfl) (fun c4 => ?_)
  refine za7 h (fun _ hx5 h => ?_) rfl
  refine a_one 7 rfl rfl (by kernel_rfl) rfl (zac 0 Z Try.func90 N90 rfl rfl rfl (fun w P1 hF hB hS hT => impl_Plan_many.calls g0 a0_0 A0_1 c0_1 l0_1.length l0_1 A0_2 c0_2 l0_2.length l0_2 hB hF (hS _ R0_1) hc0_1 (hS _ R0_2) hc0_2 (hS _ B0) hx5)) (fun s w h => zab [some 3] (by decide) w h rfl) (fun _ => ?_)
  refine za8 9 rfl rfl rfl (by kernel_rfl) (fun _ _ _ h => h) (q_asg rfl) ?_
  refine za7 h (fun l6 hm7 h => ?_) rfl
  refine a_one 8 rfl rfl (by kernel_rfl) rfl (e_make (Kd.int .i64) (0 : Int) Try.underlying25 I3 rfl (by decide) (by decide) (fun _ _ => rfl) rfl rfl hm7) (fun s w h => zab [some 4] (by decide) w h rfl) (cur2 (fun A8 c9 => ?_))
  refine za8 10 rfl rfl rfl (by kernel_rfl) (fun _ _ _ h => h) (q_asg rfl) ?_
  refine zb0 (by kernel_rfl) ?_
  refine za1 ?_
  refine c_seq ?_
  refine c_seq ?_
  refine za0 ?_
  refine o_q rfl rfl (za2 rfl) ?_
  refine za7 h (fun _ hx11 h => ?_) rfl
  refine o_e rfl (zac 0 Z Try.func90 N90 rfl rfl rfl (fun w P1 hF hB hS hT => impl_Plan_many.calls g0 a0_0 A0_1 c0_1 l0_1.length l0_1 A0_2 c0_2 l0_2.length l0_2 hB hF (hS _ R0_1) hc0_1 (hS _ R0_2) hc0_2 (hS _ B0) hx11)) (fun _ => ?_)
  refine o_q rfl rfl (q_sub64 rfl rfl) ?_
  refine o_q rfl rfl (q_asg rfl) ?_
  refine o_end ?_
  refine za1 ?_
  refine zaj ?_
  refine za7 h (fun o24 hl23 hR22 => ?_) rfl
  clear h
  refine zav (σ := (List SStep) × (List Int) × Int × (Option Addr) × Nat) (fun k19 ((l12, l15, i16, A13, c14) : (List SStep) × (List Int) × Int × (Option Addr) × Nat) => impl_Plan_turned.l0 a0_0 l0_1 l0_2 k19 l12 l15 i16 = some o24) [5, 6, 7, 8, 9, 10, 12, 25, 26, 27, 28, 29, 30, 31, 32, 33, 34, 35, 36, 37, 38, 39, 40, 41, 42, 43, 44, 45, 46, 47, 48, 49, 50, 51, 52, 53, 54, 55, 56, 57, 58, 59, 60, 61, 62, 63, 64, 65, 66, 67, 68, 69, 70, 71, 72, 73, 74, 75, 76, 77, 78, 79, 80, 81, 82, 83, 84, 85, 86, 87] (fun ((l12, l15, i16, A13, c14) : (List SStep) × (List Int) × Int × (Option Addr) × Nat) => [(5, .int .i64 i16)]) (fun ((l12, l15, i16, A13, c14) : (List SStep) × (List Int) × Int × (Option Addr) × Nat) => [row (Kd.int .i64) 3 (.slice A8 l6.length c9) l15, box c4 131 #[.int .i64 (l0_2.length : Int), .slice A13 l12.length c14, .slice none 0 0], row kStep 89 (.slice A13 l12.length c14) l12, row (Kd.int .i64) 3 (.slice none 0 0) [], box g1 27 #[.int .i64 0, .slice none 0 0, .slice none 0 0]]) k ([], l6, w64 (w64 (a0_0 + (l0_1.length : Int)) - 1), none, 0) hl23 ⟨rfl, trivial⟩ (fun w h => h) ?_
  refine natC (cur5 (fun l12 l15 i16 A13 c14 => fun U25 hJ_ => ?_)) (fun k19 => (cur5 (fun l12 l15 i16 A13 c14 => fun U25 hJ_ => ?_)))
  · skip
    replace hJ_ : impl_Plan_turned.l0 a0_0 l0_1 l0_2 0 l12 l15 i16 = some o24 := hJ_
    rw [impl_Plan_turned.l0] at hJ_
    exact noneE hJ_
  · skip
    clear hl23
    have h := hJ_; clear hJ_
    replace h : impl_Plan_turned.l0 a0_0 l0_1 l0_2 (k19 + 1) l12 l15 i16 = some o24 := h
    rw [impl_Plan_turned.l0] at h
    refine c_seq ?_
    refine c_seq ?_
    refine za0 ?_
    refine o_q rfl rfl (za2 rfl) ?_
    refine o_q rfl rfl (q_geq rfl rfl) ?_
    refine o_end ?_
    refine za1 ?_
    refine zar _ rfl (fun hb27 => ?_) (fun hb27 => ?_)
    · skip
      replace h := br_t hb27 h
      refine zam ?_
      refine za1 ?_
      refine c_seq ?_
      refine zaj ?_
      refine c_seq ?_
      refine za0 ?_
      refine o_q rfl rfl (q_asg rfl) ?_
      refine o_end ?_
      refine za1 ?_
      refine c_seq ?_
      refine c_seq ?_
      refine za0 ?_
      refine o_q rfl rfl (za2 rfl) ?_
      refine o_q rfl rfl (q_nil rfl) ?_
      refine o_q rfl rfl (q_f F27_2 rfl) ?_
      refine o_q rfl rfl (q_ldb Y25 rfl (fun w h => B0.now Z h) rfl) ?_
      refine o_q rfl rfl (q_len Try.underlying25 rfl) ?_
      refine o_q rfl rfl (za2 rfl) ?_
      refine o_end ?_
      refine za1 ?_
      refine zaj ?_
      refine za7 h (fun o40 hl39 hR38 => ?_) rfl
      clear h
      refine c_fact (p := l0_2.length ≤ 9223372036854775807) (fun w h => (R0_2.now Z h).2.1) (fun hm37 => ?_)
      refine zav (σ := (List Int) × (List SStep) × Int × Int × (Option Addr) × Nat) (fun k35 ((ys34, l28, i31, i32, A29, c30) : (List Int) × (List SStep) × Int × Int × (Option Addr) × Nat) => Rg l0_2 i31 ys34 ∧ ys34.length = k35 ∧ impl_Plan_turned.l1 l0_2 i16 ys34 l28 i31 i32 = some o40) [6, 7, 8, 34, 35, 36, 37, 38, 39, 40, 41, 42, 43, 44, 45, 46] (fun ((ys34, l28, i31, i32, A29, c30) : (List Int) × (List SStep) × Int × Int × (Option Addr) × Nat) => [(6, .int .i64 i32), (34, .int .i64 i31)]) (fun ((ys34, l28, i31, i32, A29, c30) : (List Int) × (List SStep) × Int × Int × (Option Addr) × Nat) => [row (Kd.int .i64) 3 (.slice A8 l6.length c9) l15, box c4 131 #[.int .i64 (l0_2.length : Int), .slice A29 l28.length c30, .slice none 0 0], row kStep 89 (.slice A29 l28.length c30) l28, row (Kd.int .i64) 3 (.slice none 0 0) [], box g1 27 #[.int .i64 0, .slice none 0 0, .slice none 0 0]]) l0_2.length (l0_2, l12, 0, (-1), A13, c14) ⟨Rg.start _, rfl, hl39⟩ ⟨rfl, rfl, trivial⟩ (fun w h => h) ?_
      refine fun k35 => cur6 (listC (fun l28 i31 i32 A29 c30 U41 hJ_ => ?_) (fun y33 ys34 l28 i31 i32 A29 c30 U41 hJ_ => ?_))
      · skip
        clear hl39
        have hr36 := hJ_.1; have hk42 := hJ_.2.1; have h := hJ_.2.2; clear hJ_
        replace h : impl_Plan_turned.l1 l0_2 i16 [] l28 i31 i32 = some o40 := h
        rw [impl_Plan_turned.l1] at h
        refine c_seq ?_
        refine za0 ?_
        refine o_q rfl rfl (q_lss rfl rfl) ?_
        refine o_end ?_
        refine za1 ?_
        refine c_seq ?_
        refine zb2 (congrArg Value.bool hr36.ge) ?_
        refine c_exit ?_
        refine za6 ?_
        refine za6 ?_
        have e_ := Option.some.inj h; replace h := hR38; rw [← e_] at h; clear e_
        refine x_hit ?_
        refine za1 ?_
        refine c_seq ?_
        refine c_seq ?_
        refine za0 ?_
        refine o_q rfl rfl (za2 rfl) ?_
        refine o_q rfl rfl (q_nil rfl) ?_
        refine o_q rfl rfl (q_f F27_1 rfl) ?_
        refine o_q rfl rfl (q_ldb Y24 rfl (fun w h => B0.now Z h) rfl) ?_
        refine o_q rfl rfl (q_len Try.underlying24 rfl) ?_
        refine o_q rfl rfl (za2 rfl) ?_
        refine o_end ?_
        refine za1 ?_
        refine zaj ?_
        refine za7 h (fun o55 hl54 hR53 => ?_) rfl
        clear h
        refine c_fact (p := l0_1.length ≤ 9223372036854775807) (fun w h => (R0_1.now Z h).2.1) (fun hm52 => ?_)
        refine zav (σ := (List SStep) × (List SStep) × Int × Int × (Option Addr) × Nat) (fun k50 ((ys49, l43, i46, i47, A44, c45) : (List SStep) × (List SStep) × Int × Int × (Option Addr) × Nat) => Rg l0_1 i46 ys49 ∧ ys49.length = k50 ∧ impl_Plan_turned.l2 a0_0 l0_2 i16 l15 ys49 l43 i46 i47 = some o55) [6, 9, 10, 12, 52, 53, 54, 55, 56, 57, 58, 59, 60, 61, 62, 63, 64, 65, 66, 67, 68, 69, 70, 71, 72, 73, 74, 75, 76, 77, 78, 79, 80, 81, 82, 83] (fun ((ys49, l43, i46, i47, A44, c45) : (List SStep) × (List SStep) × Int × Int × (Option Addr) × Nat) => [(6, .int .i64 i47), (52, .int .i64 i46)]) (fun ((ys49, l43, i46, i47, A44, c45) : (List SStep) × (List SStep) × Int × Int × (Option Addr) × Nat) => [row (Kd.int .i64) 3 (.slice A8 l6.length c9) l15, box c4 131 #[.int .i64 (l0_2.length : Int), .slice A44 l43.length c45, .slice none 0 0], row kStep 89 (.slice A44 l43.length c45) l43, row (Kd.int .i64) 3 (.slice none 0 0) [], box g1 27 #[.int .i64 0, .slice none 0 0, .slice none 0 0]]) l0_1.length (l0_1, l28, 0, i32, A29, c30) ⟨Rg.start _, rfl, hl54⟩ ⟨rfl, rfl, trivial⟩ (fun w h => h) ?_
        refine fun k50 => cur6 (listC (fun l43 i46 i47 A44 c45 U56 hJ_ => ?_) (fun y48 ys49 l43 i46 i47 A44 c45 U56 hJ_ => ?_))
        · skip
          clear hl54
          have hr51 := hJ_.1; have hk57 := hJ_.2.1; have h := hJ_.2.2; clear hJ_
          replace h : impl_Plan_turned.l2 a0_0 l0_2 i16 l15 [] l43 i46 i47 = some o55 := h
          rw [impl_Plan_turned.l2] at h
          refine c_seq ?_
          refine za0 ?_
          refine o_q rfl rfl (q_lss rfl rfl) ?_
          refine o_end ?_
          refine za1 ?_
          refine c_seq ?_
          refine zb2 (congrArg Value.bool hr51.ge) ?_
          refine c_exit ?_
          refine za6 ?_
          refine za6 ?_
          have e_ := Option.some.inj h; replace h := hR53; rw [← e_] at h; clear e_
          refine x_hit ?_
          refine za1 ?_
          refine za0 ?_
          refine o_q rfl rfl (za2 rfl) ?_
          refine o_q rfl rfl (za2 rfl) ?_
          refine o_q rfl rfl (za2 rfl) ?_
          refine zas (p := Sh A8 l6.length l15.length) (fun w h => f_sh (dk := (Kd.int .i64)) h (fun w h => h.zaw (i := 0) rfl)) (fun hq58 => ?_)
          refine za7 h (fun y60 hg59 h => ?_) rfl
          refine o_q rfl rfl (q_ix Try.underlying25 Z3 rfl rfl hq58 hg59) ?_
          refine za7 h (fun l61 hs62 h => ?_) rfl
          refine o_e rfl (e_set (i := 0) rfl rfl rfl Z3 hs62) (fun _ => ?_)
          refine o_end ?_
          refine zan ?_
          refine za1 ?_
          refine za0 ?_
          refine o_q rfl rfl (za2 rfl) ?_
          refine o_q rfl rfl (q_sub64 rfl rfl) ?_
          refine o_q rfl rfl (q_asg rfl) ?_
          refine o_end ?_
          refine zak k19 (l43, l61, w64 (i16 - 1), A44, c45) (Nat.lt_succ_self _) h ⟨rfl, trivial⟩ (fun w h => za5 [0, 1, 2, 3, 4] (by decide) rfl w h) ?_
          repeat (first | exact zad _ _ | refine zah rfl ?_ | refine zae rfl ?_ | refine zai rfl ?_)
        · skip
          clear hl54
          have hr51 := hJ_.1; have hk57 := hJ_.2.1; have h := hJ_.2.2; clear hJ_
          replace h : impl_Plan_turned.l2 a0_0 l0_2 i16 l15 (y48 :: ys49) l43 i46 i47 = some o55 := h
          rw [impl_Plan_turned.l2] at h
          refine c_seq ?_
          refine za0 ?_
          refine o_q rfl rfl (q_lss rfl rfl) ?_
          refine o_end ?_
          refine za1 ?_
          refine c_seq ?_
          refine zb3 (congrArg Value.bool hr51.lt) ?_
          refine zam ?_
          refine za1 ?_
          refine c_seq ?_
          refine zaj ?_
          refine c_seq ?_
          refine za0 ?_
          refine o_q rfl rfl (za2 rfl) ?_
          refine zas (p := Sh A0_1 l0_1.length l0_1.length) (fun w h => f_sh (dk := kStep) h (fun w h => R0_1.now Z h)) (fun hq63 => ?_)
          refine o_q rfl rfl (q_ix Try.underlying24 Z89 rfl rfl hq63 hr51.get) ?_
          refine o_q rfl rfl (q_ldE G89 Z89 rfl rfl (fun w h => R0_1.now Z h) hr51.get (fun _ _ h => h) rfl) ?_
          refine o_e rfl (zaz V89 rfl) (fun g64 => ?_)
          refine o_q rfl rfl (q_asg rfl) ?_
          refine o_e rfl (zaq (i := 0) rfl rfl rfl Z89 rfl rfl) (fun _ => ?_)
          refine o_end ?_
          refine za1 ?_
          refine c_seq ?_
          refine za0 ?_
          refine o_q rfl rfl (q_f F89_0 rfl) ?_
          refine o_q rfl rfl (q_ldb Y3 rfl (fun w h => h.zaa (i := 0) rfl) rfl) ?_
          refine o_q rfl rfl (q_f F89_1 rfl) ?_
          refine o_q rfl rfl (q_ldb Y3 rfl (fun w h => h.zaa (i := 0) rfl) rfl) ?_
          refine o_e rfl (e_lit (vs := [(0, .int .i64 y48.f0), (1, .int .i64 y48.f1)]) (cs := [.int .i64 y48.f0, .int .i64 y48.f1]) (Kd.int .i64) ([y48.f0, y48.f1] : List Int) Try.underlying25 I3 (by decide) rfl (by decide) rfl rfl (fun _ _ => Kd.zat _)) (cur2 (fun A66 c67 => ?_))
          refine o_q rfl rfl (q_len Try.underlying25 rfl) ?_
          refine o_q rfl rfl (za2 rfl) ?_
          refine o_end ?_
          refine za1 ?_
          refine zaj ?_
          refine za7 h (fun o81 hl80 hR79 => ?_) rfl
          clear h
          refine c_fact (p := ([y48.f0, y48.f1] : List Int).length ≤ 9223372036854775807) (fun w h => (h.zaw (i := 0) rfl).2.1) (fun hm78 => ?_)
          refine zav (σ := (List Int) × (List SStep) × Int × Int × (Option Addr) × Nat) (fun k76 ((ys75, l69, i72, i73, A70, c71) : (List Int) × (List SStep) × Int × Int × (Option Addr) × Nat) => Rg ([y48.f0, y48.f1] : List Int) i73 ys75 ∧ ys75.length = k76 ∧ impl_Plan_turned.l3 a0_0 l0_2 i16 l15 i46 ys75 l69 i72 i73 = some o81) [6, 12, 63, 64, 65, 66, 67, 68, 69, 70, 71, 72, 73, 74, 75, 76, 77, 78, 79, 80, 81, 82] (fun ((ys75, l69, i72, i73, A70, c71) : (List Int) × (List SStep) × Int × Int × (Option Addr) × Nat) => [(6, .int .i64 i72), (63, .int .i64 i73)]) (fun ((ys75, l69, i72, i73, A70, c71) : (List Int) × (List SStep) × Int × Int × (Option Addr) × Nat) => [row (Kd.int .i64) 3 (.slice A66 (([y48.f0, y48.f1] : List Int).length) c67) ([y48.f0, y48.f1] : List Int), box g64 89 #[.int .i64 y48.f0, .int .i64 y48.f1], row (Kd.int .i64) 3 (.slice A8 l6.length c9) l15, box c4 131 #[.int .i64 (l0_2.length : Int), .slice A70 l69.length c71, .slice none 0 0], row kStep 89 (.slice A70 l69.length c71) l69, row (Kd.int .i64) 3 (.slice none 0 0) [], box g1 27 #[.int .i64 0, .slice none 0 0, .slice none 0 0]]) ([y48.f0, y48.f1] : List Int).length (([y48.f0, y48.f1] : List Int), l43, i47, 0, A44, c45) ⟨Rg.start _, rfl, hl80⟩ ⟨rfl, rfl, trivial⟩ (fun w h => h) ?_
          refine fun k76 => cur6 (listC (fun l69 i72 i73 A70 c71 U82 hJ_ => ?_) (fun y74 ys75 l69 i72 i73 A70 c71 U82 hJ_ => ?_))
          · skip
            clear hl80
            have hr77 := hJ_.1; have hk83 := hJ_.2.1; have h := hJ_.2.2; clear hJ_
            replace h : impl_Plan_turned.l3 a0_0 l0_2 i16 l15 i46 [] l69 i72 i73 = some o81 := h
            rw [impl_Plan_turned.l3] at h
            refine c_seq ?_
            refine za0 ?_
            refine o_q rfl rfl (q_lss rfl rfl) ?_
            refine o_end ?_
            refine za1 ?_
            refine c_seq ?_
            refine zb2 (congrArg Value.bool hr77.ge) ?_
            refine c_exit ?_
            refine za6 ?_
            refine za6 ?_
            have e_ := Option.some.inj h; replace h := hR79; rw [← e_] at h; clear e_
            refine x_hit ?_
            refine zan ?_
            refine za1 ?_
            refine za0 ?_
            refine o_q rfl rfl (q_up rfl rfl (hr51.up hm52)) ?_
            refine o_q rfl rfl (za2 rfl) ?_
            refine o_end ?_
            refine zak ys49.length (ys49, l69, i46 + 1, i72, A70, c71) (by rw [← hk57]; exact Nat.lt_succ_self _) ⟨hr51.step, rfl, h⟩ ⟨rfl, rfl, trivial⟩ (fun w h => za5 [2, 3, 4, 5, 6] (by decide) rfl w h) ?_
            repeat (first | exact zad _ _ | refine zah rfl ?_ | refine zae rfl ?_ | refine zai rfl ?_)
          · skip
            clear hl80
            have hr77 := hJ_.1; have hk83 := hJ_.2.1; have h := hJ_.2.2; clear hJ_
            replace h : impl_Plan_turned.l3 a0_0 l0_2 i16 l15 i46 (y74 :: ys75) l69 i72 i73 = some o81 := h
            rw [impl_Plan_turned.l3] at h
            refine c_seq ?_
            refine za0 ?_
            refine o_q rfl rfl (q_lss rfl rfl) ?_
            refine o_end ?_
            refine za1 ?_
            refine c_seq ?_
            refine zb3 (congrArg Value.bool hr77.lt) ?_
            refine zam ?_
            refine za1 ?_
            refine c_seq ?_
            refine zaj ?_
            refine c_seq ?_
            refine za0 ?_
            refine zas (p := Sh A66 (([y48.f0, y48.f1] : List Int).length) ([y48.f0, y48.f1] : List Int).length) (fun w h => f_sh (dk := (Kd.int .i64)) h (fun w h => h.zaw (i := 0) rfl)) (fun hq84 => ?_)
            refine o_q rfl rfl (q_ix Try.underlying25 Z3 rfl rfl hq84 hr77.get) ?_
            refine o_q rfl rfl (q_lde (off := 0) Y3 rfl rfl (fun w h => h.zaw (i := 0) rfl) hr77.get (fun _ _ h => h) rfl) ?_
            refine o_q rfl rfl (q_asg rfl) ?_
            refine o_end ?_
            refine za1 ?_
            refine c_seq ?_
            refine za0 ?_
            refine o_q rfl rfl (za2 rfl) ?_
            refine o_q rfl rfl (za2 rfl) ?_
            refine o_q rfl rfl (q_eql rfl rfl) ?_
            refine o_end ?_
            refine za1 ?_
            refine zar _ rfl (fun hb85 => ?_) (fun hb85 => ?_)
            · skip
              replace h := br_t hb85 h
              refine za0 ?_
              refine o_q rfl rfl (za2 rfl) ?_
              refine o_q rfl rfl (za2 rfl) ?_
              refine o_q rfl rfl (za2 rfl) ?_
              refine o_q rfl rfl (za2 rfl) ?_
              refine o_q rfl rfl (q_nil rfl) ?_
              refine o_q rfl rfl (q_f F27_0 rfl) ?_
              refine o_q rfl rfl (q_ldb Y3 rfl (fun w h => B0.now Z h) rfl) ?_
              refine o_q rfl rfl (za2 rfl) ?_
              refine o_q rfl rfl (q_add64 rfl rfl) ?_
              refine zas (p := Sh A8 l6.length l15.length) (fun w h => f_sh (dk := (Kd.int .i64)) h (fun w h => h.zaw (i := 2) rfl)) (fun hq86 => ?_)
              refine za7 h (fun y88 hg87 h => ?_) rfl
              refine o_q rfl rfl (q_ix Try.underlying25 Z3 rfl rfl hq86 hg87) ?_
              refine o_q rfl rfl (q_lde (off := 0) Y3 rfl rfl (fun w h => h.zaw (i := 2) rfl) hg87 (fun _ _ h => h) rfl) ?_
              refine o_pick [3, 4, 0, 1, 2, 5, 6] (by decide) rfl ?_
              refine bindE2 h (fun i90 l91 hx89 h => ?_) rfl
              refine o_e rfl (zac 2 Z Try.func150 N150 rfl rfl rfl (fun w P1 hF hB hS hT => impl_maker_times.calls c4 (l0_2.length : Int) A70 c71 l69.length l69 none 0 0 [] i72 y88 hB hF (hT 3 _ rfl).row (hT 3 _ rfl).cap _ _ hx89)) (cur2 (fun A92 c93 => ?_))
              refine o_q rfl rfl (q_asg rfl) ?_
              refine o_end ?_
              refine zan ?_
              refine za1 ?_
              refine za0 ?_
              refine o_q rfl rfl (q_up rfl rfl (hr77.up hm78)) ?_
              refine o_q rfl rfl (za2 rfl) ?_
              refine o_end ?_
              refine zak ys75.length (ys75, l91, i90, i73 + 1, A92, c93) (by rw [← hk83]; exact Nat.lt_succ_self _) ⟨hr77.step, rfl, h⟩ ⟨rfl, rfl, trivial⟩ (fun w h => za5 [2, 3, 4, 0, 1, 5, 6] (by decide) rfl w h) ?_
              repeat (first | exact zad _ _ | refine zah rfl ?_ | refine zae rfl ?_ | refine zai rfl ?_)
            · skip
              replace h := br_f hb85 h
              refine zam ?_
              refine zan ?_
              refine za1 ?_
              refine za0 ?_
              refine o_q rfl rfl (q_up rfl rfl (hr77.up hm78)) ?_
              refine o_q rfl rfl (za2 rfl) ?_
              refine o_end ?_
              refine zak ys75.length (ys75, l69, i72, i73 + 1, A70, c71) (by rw [← hk83]; exact Nat.lt_succ_self _) ⟨hr77.step, rfl, h⟩ ⟨rfl, rfl, trivial⟩ (fun w h => za5 [0, 1, 2, 3, 4, 5, 6] (by decide) rfl w h) ?_
              repeat (first | exact zad _ _ | refine zah rfl ?_ | refine zae rfl ?_ | refine zai rfl ?_)
      · skip
        clear hl39
        have hr36 := hJ_.1; have hk42 := hJ_.2.1; have h := hJ_.2.2; clear hJ_
        replace h : impl_Plan_turned.l1 l0_2 i16 (y33 :: ys34) l28 i31 i32 = some o40 := h
        rw [impl_Plan_turned.l1] at h
        refine c_seq ?_
        refine za0 ?_
        refine o_q rfl rfl (q_lss rfl rfl) ?_
        refine o_end ?_
        refine za1 ?_
        refine c_seq ?_
        refine zb3 (congrArg Value.bool hr36.lt) ?_
        refine zam ?_
        refine za1 ?_
        refine c_seq ?_
        refine zaj ?_
        refine c_seq ?_
        refine za0 ?_
        refine o_q rfl rfl (za2 rfl) ?_
        refine zas (p := Sh A0_2 l0_2.length l0_2.length) (fun w h => f_sh (dk := (Kd.int .i64)) h (fun w h => R0_2.now Z h)) (fun hq94 => ?_)
        refine o_q rfl rfl (q_ix Try.underlying25 Z3 rfl rfl hq94 hr36.get) ?_
        refine o_q rfl rfl (q_lde (off := 0) Y3 rfl rfl (fun w h => R0_2.now Z h) hr36.get (fun _ _ h => h) rfl) ?_
        refine o_q rfl rfl (q_asg rfl) ?_
        refine o_q rfl rfl (q_asg rfl) ?_
        refine o_end ?_
        refine za1 ?_
        refine c_seq ?_
        refine za0 ?_
        refine o_q rfl rfl (za2 rfl) ?_
        refine o_q rfl rfl (za2 rfl) ?_
        refine o_q rfl rfl (q_eql rfl rfl) ?_
        refine o_end ?_
        refine za1 ?_
        refine zar _ rfl (fun hb95 => ?_) (fun hb95 => ?_)
        · skip
          replace h := br_t hb95 h
          refine za0 ?_
          refine o_q rfl rfl (za2 rfl) ?_
          refine o_q rfl rfl (za2 rfl) ?_
          refine o_q rfl rfl (za2 rfl) ?_
          refine o_pick [1, 2, 0, 3, 4] (by decide) rfl ?_
          refine bindE2 h (fun i97 l98 hx96 h => ?_) rfl
          refine o_e rfl (zac 2 Z Try.func150 N150 rfl rfl rfl (fun w P1 hF hB hS hT => impl_maker_times.calls c4 (l0_2.length : Int) A29 c30 l28.length l28 none 0 0 [] i32 i31 hB hF (hT 1 _ rfl).row (hT 1 _ rfl).cap _ _ hx96)) (cur2 (fun A99 c100 => ?_))
          refine o_q rfl rfl (q_asg rfl) ?_
          refine o_end ?_
          refine zan ?_
          refine za1 ?_
          refine za0 ?_
          refine o_q rfl rfl (q_up rfl rfl (hr36.up hm37)) ?_
          refine o_q rfl rfl (za2 rfl) ?_
          refine o_end ?_
          refine zak ys34.length (ys34, l98, i31 + 1, i97, A99, c100) (by rw [← hk42]; exact Nat.lt_succ_self _) ⟨hr36.step, rfl, h⟩ ⟨rfl, rfl, trivial⟩ (fun w h => za5 [2, 0, 1, 3, 4] (by decide) rfl w h) ?_
          repeat (first | exact zad _ _ | refine zah rfl ?_ | refine zae rfl ?_ | refine zai rfl ?_)
        · skip
          replace h := br_f hb95 h
          refine zam ?_
          refine zan ?_
          refine za1 ?_
          refine za0 ?_
          refine o_q rfl rfl (q_up rfl rfl (hr36.up hm37)) ?_
          refine o_q rfl rfl (za2 rfl) ?_
          refine o_end ?_
          refine zak ys34.length (ys34, l28, i31 + 1, i32, A29, c30) (by rw [← hk42]; exact Nat.lt_succ_self _) ⟨hr36.step, rfl, h⟩ ⟨rfl, rfl, trivial⟩ (fun w h => za5 [0, 1, 2, 3, 4] (by decide) rfl w h) ?_
          repeat (first | exact zad _ _ | refine zah rfl ?_ | refine zae rfl ?_ | refine zai rfl ?_)
    · skip
      replace h := br_f hb27 h
      refine c_exit ?_
      refine za6 ?_
      refine za6 ?_
      have e_ := Option.some.inj h; replace h := hR22; rw [← e_] at h; clear e_
      refine x_hit ?_
      refine za1 ?_
      refine c_seq ?_
      refine a_startS (ds := []) [none, none, none, some 3, none] MO rfl ?_
      refine za8 0 rfl rfl rfl (by kernel_rfl) (fun _ _ _ h => h) (za2 rfl) ?_
      refine za8 1 rfl rfl rfl (by kernel_rfl) (fun _ _ _ h => h) (za2 rfl) ?_
      refine za8 2 rfl rfl rfl (by kernel_rfl) (fun _ _ _ h => h) (za2 rfl) ?_
      refine za8 3 rfl rfl rfl (by kernel_rfl) (fun _ _ _ h => h) (q_nil rfl) ?_
      refine za8 4 rfl rfl rfl (by kernel_rfl) (fun _ _ _ h => h) (q_f F27_0 rfl) ?_
      refine a_take 5 rfl rfl rfl (by kernel_rfl) (fun _ _ _ h => h) (fun w h => zab [none, none, none, some 3, none] (by decide) w h rfl) (q_ldb Y3 rfl (fun w h => B0.now Z h) rfl) ?_
      refine za8 6 rfl rfl rfl (by kernel_rfl) (fun _ _ _ h => h) (za2 rfl) ?_
      refine za8 7 rfl rfl rfl (by kernel_rfl) (fun _ _ _ h => h) (q_nil rfl) ?_
      refine za8 8 rfl rfl rfl (by kernel_rfl) (fun _ _ _ h => h) (q_f F27_0 rfl) ?_
      refine a_take 9 rfl rfl rfl (by kernel_rfl) (fun _ _ _ h => h) (fun w h => zab [none, none, none, some 3, none] (by decide) w h rfl) (q_ldb Y3 rfl (fun w h => B0.now Z h) rfl) ?_
      refine a_fact (p := l6.length = l15.length ∧ l6.length ≤ c9) (fun w h => h.row_nc (i := 0) rfl) (fun hk101 => ?_)
      refine za7 h (fun _ hz102 h => ?_) rfl
      refine za8 10 rfl rfl rfl (by kernel_rfl) (fun _ _ _ h => h) (q_tk Try.underlying25 Z3 rfl ⟨_, rfl⟩ ⟨_, rfl⟩ hk101.1 hk101.2 hz102) ?_
      refine a_pick [1, 2, 0, 3, 4] (by decide) rfl ?_
      refine za7 h (fun _ hx103 h => ?_) rfl
      refine a_one 11 rfl rfl (by kernel_rfl) rfl (zac 3 Z Try.func151 N151 rfl rfl rfl (fun w P1 hF hB hS hT => impl_maker_plan_2.calls c4 (l0_2.length : Int) A13 c14 l12.length l12 none 0 0 [] A8 c9 l6.length l15 ((a0_0 : Int).toNat) hB hF (hT 0 _ rfl).row (hT 0 _ rfl).cap hx103)) (fun s w h => zab [none, none, none, some 3, none] (by decide) w h rfl) (fun _ => ?_)
      refine a_one 12 rfl rfl (by kernel_rfl) rfl (zaq (i := 4) rfl rfl rfl Z27 rfl rfl) (fun s w h => zab [none, none, none, some 3, none] (by decide) w h rfl) (fun _ => ?_)
      refine zb0 (by kernel_rfl) ?_
      refine za1 ?_
      refine c_ret ?_
      refine x_fact (p := l6.length = l15.length) (fun w h => (h.row_C (i := 1) rfl).2.1) (fun hn104 => ?_)
      have e0_ := Option.some.inj h; clear h
      have d0_ := (Prod.mk.inj e0_).1; have e1_ := (Prod.mk.inj e0_).2; clear e0_; subst d0_
      subst e1_
      exact x_r1 (A13, c14, A8, c9) Try.results156 (rv_cell (cs := #[.int .i64 (l0_2.length : Int), .slice A13 l12.length c14, .slice A8 (tl ((a0_0 : Int).toNat) l6.length) (tl ((a0_0 : Int).toNat) l6.length)]) rfl G27 Z27 (fun w h => h.zaa (i := 4) rfl) rfl) (by (try rw [hn104]); first | done | rfl) (f_pickE (L1 := [row kStep 89 (.slice A13 l12.length c14) l12, row (Kd.int .i64) 3 (.slice A8 l6.length c9) l15, box c4 131 #[.int .i64 (l0_2.length : Int), .slice A13 l12.length c14, .slice A8 (tl ((a0_0 : Int).toNat) l6.length) (tl ((a0_0 : Int).toNat) l6.length)], row (Kd.int .i64) 3 (.slice none 0 0) [], box g1 27 #[.int .i64 (l0_2.length : Int), .slice A13 l12.length c14, .slice A8 (tl ((a0_0 : Int).toNat) l6.length) (tl ((a0_0 : Int).toNat) l6.length)]]) rfl [0, 1] (by decide) rfl (by (try rw [hn104]); first | done | rfl))

/-! ### loop.example/g01098/impl.told: function 102 -/
def impl_told.f (k : Nat) (a0_0 : Int) (l0_1 : List SStep) (l0_2 : List Int) : Option (Int × (List SStep) × (List Int) × Bool) := (impl_IsPlan.f k a0_0 l0_1 l0_2).bind fun b6 => if b6 = true then (some (a0_0, l0_1, l0_2, true)) else (some (0, ([] : List SStep), ([] : List Int), false))
set_option maxHeartbeats 600000 in
set_option maxRecDepth 100000 in
theorem impl_told.calls (k : Nat) {w0 ws : World} {P0 : Nat → Prop} (a0_0 : Int) (A0_1 : Option Addr) (c0_1 : Nat) (n0_1 : Nat) (l0_1 : List SStep) (A0_2 : Option Addr) (c0_2 : Nat) (n0_2 : Nat) (l0_2 : List Int) (Z : Below w0.heap.size w0 ws) (hF : Fr w0 ws P0 [row kStep 89 (.slice A0_1 n0_1 c0_1) l0_1, row (Kd.int .i64) 3 (.slice A0_2 n0_2 c0_2) l0_2] ws)  (r_1 : Int) (r_2 : List SStep) (r_5 : List Int) (r_8 : Bool) (h : impl_told.f k a0_0 l0_1 l0_2 = some (r_1, r_2, r_5, r_8)) :
    Calls Try.prog 102 #[.agg #[.int .i64 a0_0, .slice A0_1 n0_1 c0_1, .slice A0_2 n0_2 c0_2]] ws (Post1 w0 ws P0 (fun ((q_3, q_4, q_6, q_7) : (Option Addr) × Nat × (Option Addr) × Nat) => .tuple #[.agg #[.int .i64 r_1, .slice q_3 r_2.length q_4, .slice q_6 r_5.length q_7], .bool r_8]) (fun ((q_3, q_4, q_6, q_7) : (Option Addr) × Nat × (Option Addr) × Nat) => [row kStep 89 (.slice q_3 r_2.length q_4) r_2, row (Kd.int .i64) 3 (.slice q_6 r_5.length q_7) r_5])) := by
  unfold impl_told.f at h
  obtain rfl := (hF.row_C (i := 0) rfl).2.1
  obtain rfl := (hF.row_C (i := 1) rfl).2.1
  refine enter Try.func102 rfl Try.ntmps102 rfl hF ?_
  refine c_seq ?_
  refine za0 ?_
  refine o_e rfl (e_box rfl) (fun g1 => ?_)
  refine o_e rfl (zaz V27 rfl) (fun g3 => ?_)
  refine o_q rfl rfl (q_asg rfl) ?_
  refine o_end ?_
  refine za1 ?_
  refine c_seq ?_
  refine c_seq ?_
  refine za0 ?_
  refine o_q rfl rfl (q_ldB G27 Z27 rfl (fun w h => h.zaa (i := 1) rfl) rfl) ?_
  refine za7 h (fun b6 hx5 h => ?_) rfl
  refine o_e rfl (zac 0 Z Try.func86 N86 rfl rfl rfl (fun w P1 hF hB hS hT => impl_IsPlan.calls k a0_0 A0_1 c0_1 l0_1.length l0_1 A0_2 c0_2 l0_2.length l0_2 hB hF (hT 2 _ rfl).row (hT 2 _ rfl).cap (hT 3 _ rfl).row (hT 3 _ rfl).cap _ hx5)) (fun _ => ?_)
  refine o_q rfl rfl (q_not rfl) ?_
  refine o_end ?_
  refine za1 ?_
  refine zar _ rfl (fun hb7 => ?_) (fun hb7 => ?_)
  · replace hb7 := nt_t hb7
    replace h := bb_f hb7 h
    refine c_seq ?_
    refine za0 ?_
    refine o_q rfl rfl (q_build (vs := []) (cs := [.int .i64 0, .slice none 0 0, .slice none 0 0]) rfl rfl) ?_
    refine o_e rfl (zaq (i := 0) rfl rfl rfl Z27 rfl rfl) (fun _ => ?_)
    refine o_q rfl rfl (q_asg rfl) ?_
    refine o_end ?_
    refine za1 ?_
    refine c_ret ?_
    refine za9 ?_
    refine x_nil kStep 89 ?_
    refine x_nil (Kd.int .i64) 3 ?_
    have e0_ := Option.some.inj h; clear h
    have d0_ := (Prod.mk.inj e0_).1; have e1_ := (Prod.mk.inj e0_).2; clear e0_; subst d0_
    have d1_ := (Prod.mk.inj e1_).1; have e2_ := (Prod.mk.inj e1_).2; clear e1_; subst d1_
    have d2_ := (Prod.mk.inj e2_).1; have e3_ := (Prod.mk.inj e2_).2; clear e2_; subst d2_
    subst e3_
    exact x_r2 (none, 0, none, 0) Try.results102 (rv_cell rfl G27 Z27 (fun w h => h.zaa (i := 2) rfl) rfl) (zaf rfl) rfl (fun w h => za5 [1, 0] (by decide) rfl w h)
  · replace hb7 := nt_f hb7
    replace h := bb_t hb7 h
    refine zam ?_
    refine za1 ?_
    refine c_seq ?_
    refine za0 ?_
    refine o_q rfl rfl (q_ldB G27 Z27 rfl (fun w h => h.zaa (i := 1) rfl) rfl) ?_
    refine o_e rfl (zaq (i := 0) rfl rfl rfl Z27 rfl rfl) (fun _ => ?_)
    refine o_q rfl rfl (q_asg rfl) ?_
    refine o_end ?_
    refine za1 ?_
    refine c_ret ?_
    have e0_ := Option.some.inj h; clear h
    have d0_ := (Prod.mk.inj e0_).1; have e1_ := (Prod.mk.inj e0_).2; clear e0_; subst d0_
    have d1_ := (Prod.mk.inj e1_).1; have e2_ := (Prod.mk.inj e1_).2; clear e1_; subst d1_
    have d2_ := (Prod.mk.inj e2_).1; have e3_ := (Prod.mk.inj e2_).2; clear e2_; subst d2_
    subst e3_
    exact x_r2 (A0_1, c0_1, A0_2, c0_2) Try.results102 (rv_cell rfl G27 Z27 (fun w h => h.zaa (i := 0) rfl) rfl) (zaf rfl) rfl (fun w h => za5 [2, 3] (by decide) rfl w h)

/-! ### loop.example/g01098/impl.told: function 102 -/
def impl_told_2.f (k : Nat) (a0_0 : Int) (l0_1 : List SStep) (l0_2 : List Int) (k0_2 : Nat) : Option (Int × (List SStep) × (List Int) × Nat × Bool) := (impl_IsPlan.f k a0_0 l0_1 (l0_2.take k0_2)).bind fun b6 => if b6 = true then (some (a0_0, l0_1, l0_2, k0_2, true)) else (some (0, ([] : List SStep), ([] : List Int), 0, false))
set_option maxHeartbeats 600000 in
set_option maxRecDepth 100000 in
theorem impl_told_2.calls (k : Nat) {w0 ws : World} {P0 : Nat → Prop} (a0_0 : Int) (A0_1 : Option Addr) (c0_1 : Nat) (n0_1 : Nat) (l0_1 : List SStep) (A0_2 : Option Addr) (c0_2 : Nat) (n0_2 : Nat) (l0_2 : List Int) (k0_2 : Nat) (Z : Below w0.heap.size w0 ws) (hF : Fr w0 ws P0 [row kStep 89 (.slice A0_1 n0_1 c0_1) l0_1, row (Kd.int .i64) 3 (.slice A0_2 n0_2 c0_2) l0_2] ws)  (r_1 : Int) (r_2 : List SStep) (r_5 : List Int) (q_8 : Nat) (r_9 : Bool) (h : impl_told_2.f k a0_0 l0_1 l0_2 k0_2 = some (r_1, r_2, r_5, q_8, r_9)) :
    Calls Try.prog 102 #[.agg #[.int .i64 a0_0, .slice A0_1 n0_1 c0_1, .slice A0_2 (tl k0_2 n0_2) (tl k0_2 n0_2)]] ws (Post1 w0 ws P0 (fun ((q_3, q_4, q_6, q_7) : (Option Addr) × Nat × (Option Addr) × Nat) => .tuple #[.agg #[.int .i64 r_1, .slice q_3 r_2.length q_4, .slice q_6 (tl q_8 r_5.length) (tl q_8 r_5.length)], .bool r_9]) (fun ((q_3, q_4, q_6, q_7) : (Option Addr) × Nat × (Option Addr) × Nat) => [row kStep 89 (.slice q_3 r_2.length q_4) r_2, row (Kd.int .i64) 3 (.slice q_6 r_5.length q_7) r_5])) := by
  unfold impl_told_2.f at h
  obtain rfl := (hF.row_C (i := 0) rfl).2.1
  obtain rfl := (hF.row_C (i := 1) rfl).2.1
  refine enter Try.func102 rfl Try.ntmps102 rfl hF ?_
  refine c_seq ?_
  refine za0 ?_
  refine o_e rfl (e_box rfl) (fun g1 => ?_)
  refine o_e rfl (zaz V27 rfl) (fun g3 => ?_)
  refine o_q rfl rfl (q_asg rfl) ?_
  refine o_end ?_
  refine za1 ?_
  refine c_seq ?_
  refine c_seq ?_
  refine za0 ?_
  refine o_q rfl rfl (q_ldB G27 Z27 rfl (fun w h => h.zaa (i := 1) rfl) rfl) ?_
  refine za7 h (fun b6 hx5 h => ?_) rfl
  refine o_e rfl (zac 0 Z Try.func86 N86 rfl rfl rfl (fun w P1 hF hB hS hT => impl_IsPlan.calls k a0_0 A0_1 c0_1 l0_1.length l0_1 A0_2 (tl k0_2 l0_2.length) (tl k0_2 l0_2.length) (l0_2.take k0_2) hB hF (hT 2 _ rfl).row (hT 2 _ rfl).cap (stab_tk k0_2 (hT 3 _ rfl).row) (Nat.le_refl _) _ hx5)) (fun _ => ?_)
  refine o_q rfl rfl (q_not rfl) ?_
  refine o_end ?_
  refine za1 ?_
  refine zar _ rfl (fun hb7 => ?_) (fun hb7 => ?_)
  · replace hb7 := nt_t hb7
    replace h := bb_f hb7 h
    refine c_seq ?_
    refine za0 ?_
    refine o_q rfl rfl (q_build (vs := []) (cs := [.int .i64 0, .slice none 0 0, .slice none 0 0]) rfl rfl) ?_
    refine o_e rfl (zaq (i := 0) rfl rfl rfl Z27 rfl rfl) (fun _ => ?_)
    refine o_q rfl rfl (q_asg rfl) ?_
    refine o_end ?_
    refine za1 ?_
    refine c_ret ?_
    refine za9 ?_
    refine x_nil kStep 89 ?_
    refine x_nil (Kd.int .i64) 3 ?_
    have e0_ := Option.some.inj h; clear h
    have d0_ := (Prod.mk.inj e0_).1; have e1_ := (Prod.mk.inj e0_).2; clear e0_; subst d0_
    have d1_ := (Prod.mk.inj e1_).1; have e2_ := (Prod.mk.inj e1_).2; clear e1_; subst d1_
    have d2_ := (Prod.mk.inj e2_).1; have e3_ := (Prod.mk.inj e2_).2; clear e2_; subst d2_
    have d3_ := (Prod.mk.inj e3_).1; have e4_ := (Prod.mk.inj e3_).2; clear e3_; subst d3_
    subst e4_
    exact x_r2 (none, 0, none, 0) Try.results102 (rv_cell rfl G27 Z27 (fun w h => h.zaa (i := 2) rfl) rfl) (zaf rfl) rfl (fun w h => za5 [1, 0] (by decide) rfl w h)
  · replace hb7 := nt_f hb7
    replace h := bb_t hb7 h
    refine zam ?_
    refine za1 ?_
    refine c_seq ?_
    refine za0 ?_
    refine o_q rfl rfl (q_ldB G27 Z27 rfl (fun w h => h.zaa (i := 1) rfl) rfl) ?_
    refine o_e rfl (zaq (i := 0) rfl rfl rfl Z27 rfl rfl) (fun _ => ?_)
    refine o_q rfl rfl (q_asg rfl) ?_
    refine o_end ?_
    refine za1 ?_
    refine c_ret ?_
    have e0_ := Option.some.inj h; clear h
    have d0_ := (Prod.mk.inj e0_).1; have e1_ := (Prod.mk.inj e0_).2; clear e0_; subst d0_
    have d1_ := (Prod.mk.inj e1_).1; have e2_ := (Prod.mk.inj e1_).2; clear e1_; subst d1_
    have d2_ := (Prod.mk.inj e2_).1; have e3_ := (Prod.mk.inj e2_).2; clear e2_; subst d2_
    have d3_ := (Prod.mk.inj e3_).1; have e4_ := (Prod.mk.inj e3_).2; clear e3_; subst d3_
    subst e4_
    exact x_r2 (A0_1, c0_1, A0_2, c0_2) Try.results102 (rv_cell rfl G27 Z27 (fun w h => h.zaa (i := 0) rfl) rfl) (zaf rfl) rfl (fun w h => za5 [2, 3] (by decide) rfl w h)

/-! ### loop.example/g01098/impl.TurnPlan: function 67 -/
def impl_TurnPlan.f (k : Nat) (a0_0 : Int) (l0_1 : List SStep) (l0_2 : List Int) : Option (Int × (List SStep) × (List Int) × Nat × Bool) := ((impl_IsPlan.f k a0_0 l0_1 l0_2).bind fun b17 => if b17 = true then ((impl_Plan_canTurn.f a0_0 l0_1 l0_2).bind fun b20 => some (!b20)) else (some true)).bind fun b10 => if b10 = true then (some (0, ([] : List SStep), ([] : List Int), 0, false)) else ((impl_Plan_turned.f k a0_0 l0_1 l0_2).bind fun (l23, l24) => (impl_told_2.f k (l0_2.length : Int) l23 l24 ((a0_0 : Int).toNat)).bind fun (i30, l31, l32, z33, b34) => some (i30, l31, l32, z33, b34))
set_option maxHeartbeats 600000 in
set_option maxRecDepth 100000 in
theorem impl_TurnPlan.calls (k : Nat) {w0 ws : World} {P0 : Nat → Prop} (a0_0 : Int) (A0_1 : Option Addr) (c0_1 : Nat) (n0_1 : Nat) (l0_1 : List SStep) (A0_2 : Option Addr) (c0_2 : Nat) (n0_2 : Nat) (l0_2 : List Int) (Z : Below w0.heap.size w0 ws) (hF : Fr w0 ws P0 [] ws) (R0_1 : Stable ws P0 (fun w => Kd.C kStep w A0_1 n0_1 l0_1)) (hc0_1 : n0_1 ≤ c0_1) (R0_2 : Stable ws P0 (fun w => Kd.C (Kd.int .i64) w A0_2 n0_2 l0_2)) (hc0_2 : n0_2 ≤ c0_2) (r_1 : Int) (r_2 : List SStep) (r_5 : List Int) (q_8 : Nat) (r_9 : Bool) (h : impl_TurnPlan.f k a0_0 l0_1 l0_2 = some (r_1, r_2, r_5, q_8, r_9)) :
    Calls Try.prog 67 #[.agg #[.int .i64 a0_0, .slice A0_1 n0_1 c0_1, .slice A0_2 n0_2 c0_2]] ws (Post1 w0 ws P0 (fun ((q_3, q_4, q_6, q_7) : (Option Addr) × Nat × (Option Addr) × Nat) => .tuple #[.agg #[.int .i64 r_1, .slice q_3 r_2.length q_4, .slice q_6 (tl q_8 r_5.length) (tl q_8 r_5.length)], .bool r_9]) (fun ((q_3, q_4, q_6, q_7) : (Option Addr) × Nat × (Option Addr) × Nat) => [row kStep 89 (.slice q_3 r_2.length q_4) r_2, row (Kd.int .i64) 3 (.slice q_6 r_5.length q_7) r_5])) := by
  unfold impl_TurnPlan.f at h
  obtain rfl := (R0_1 ws (KeptB.refl _ _)).1
  obtain rfl := (R0_2 ws (KeptB.refl _ _)).1
  refine enter Try.func67 rfl Try.ntmps67 rfl hF ?_
  refine c_seq ?_
  refine za0 ?_
  refine o_e rfl (e_box rfl) (fun g1 => ?_)
  refine o_e rfl (zaz V27 rfl) (fun g3 => ?_)
  refine o_q rfl rfl (q_asg rfl) ?_
  refine o_end ?_
  refine za1 ?_
  refine c_seq ?_
  refine za7 h (fun o11 hl12 hR13 => ?_) rfl
  clear h
  refine c_cutJ (σ := Bool) (fun b10 => some b10 = some o11) [4, 5, 6, 7, 8, 9, 10] (fun b10 => [(10, .bool b10)]) (fun b10 => [box g1 27 #[.int .i64 a0_0, .slice A0_1 l0_1.length c0_1, .slice A0_2 l0_2.length c0_2], box g3 27 #[.int .i64 0, .slice none 0 0, .slice none 0 0]]) ?_ ?_
  · skip
    have h := hl12; clear hl12
    clear hR13
    refine za0 ?_
    refine o_q rfl rfl (q_ldB G27 Z27 rfl (fun w h => h.zaa (i := 1) rfl) rfl) ?_
    refine za7 h (fun b17 hx16 h => ?_) rfl
    refine o_e rfl (zac 0 Z Try.func86 N86 rfl rfl rfl (fun w P1 hF hB hS hT => impl_IsPlan.calls k a0_0 A0_1 c0_1 l0_1.length l0_1 A0_2 c0_2 l0_2.length l0_2 hB hF (hS _ R0_1) hc0_1 (hS _ R0_2) hc0_2 _ hx16)) (fun _ => ?_)
    refine o_q rfl rfl (q_not rfl) ?_
    refine o_q rfl rfl (za2 rfl) ?_
    refine byB b17 (fun hb18 => ?_) (fun hb18 => ?_)
    · replace h := bb_t hb18 h
      refine za7 h (fun b20 hx19 h => ?_) rfl
      refine o_ew (za4 rfl rfl rfl (congrArg (fun b => Value.bool (!(b))) hb18)) (zac 0 Z Try.func155 N155 rfl rfl rfl (fun w P1 hF hB hS hT => impl_Plan_canTurn.calls g1 a0_0 A0_1 c0_1 l0_1.length l0_1 A0_2 c0_2 l0_2.length l0_2 hB hF (hS _ R0_1) hc0_1 (hS _ R0_2) hc0_2 (hT 1 _ rfl).box _ hx19)) (fun _ => ?_)
      refine o_w (za4 rfl rfl rfl (congrArg (fun b => Value.bool (!(b))) hb18)) rfl (q_not rfl) ?_
      refine o_q rfl rfl (zal false (congrArg (fun b => Value.bool (!(b))) hb18) rfl) ?_
      refine o_end ?_
      refine zay (!b20) h ⟨rfl, trivial⟩ (fun w h => za5 [1, 0] (by decide) rfl w h) ?_
      repeat (first | exact zad _ _ | refine zah rfl ?_ | refine zae rfl ?_ | refine zai rfl ?_)
    · replace h := bb_f hb18 h
      refine @o_n _ _ _ _ _ _ _ _ _ _ _ 8 (za3 rfl rfl rfl (congrArg (fun b => Value.bool (!(b))) hb18) rfl) (Eq.refl (some 8)) ?_
      refine @o_n _ _ _ _ _ _ _ _ _ _ _ 9 (za3 rfl rfl rfl (congrArg (fun b => Value.bool (!(b))) hb18) rfl) (Eq.refl (some 9)) ?_
      refine o_q rfl rfl (zal true (congrArg (fun b => Value.bool (!(b))) hb18) rfl) ?_
      refine o_end ?_
      refine zay true h ⟨rfl, trivial⟩ (fun w h => za5 [1, 0] (by decide) rfl w h) ?_
      repeat (first | exact zad _ _ | refine zah rfl ?_ | refine zae rfl ?_ | refine zai rfl ?_)
  · skip
    refine (fun b10 => fun U14 hJ15 => ?_)
    have e_ := Option.some.inj hJ15; have h := hR13; rw [← e_] at h; clear e_ hJ15 hR13 hl12
    refine zar _ rfl (fun hb21 => ?_) (fun hb21 => ?_)
    · skip
      replace h := bb_t hb21 h
      refine c_seq ?_
      refine za0 ?_
      refine o_q rfl rfl (q_build (vs := []) (cs := [.int .i64 0, .slice none 0 0, .slice none 0 0]) rfl rfl) ?_
      refine o_e rfl (zaq (i := 1) rfl rfl rfl Z27 rfl rfl) (fun _ => ?_)
      refine o_q rfl rfl (q_asg rfl) ?_
      refine o_end ?_
      refine za1 ?_
      refine c_ret ?_
      refine za9 ?_
      refine x_nil kStep 89 ?_
      refine x_nil (Kd.int .i64) 3 ?_
      have e0_ := Option.some.inj h; clear h
      have d0_ := (Prod.mk.inj e0_).1; have e1_ := (Prod.mk.inj e0_).2; clear e0_; subst d0_
      have d1_ := (Prod.mk.inj e1_).1; have e2_ := (Prod.mk.inj e1_).2; clear e1_; subst d1_
      have d2_ := (Prod.mk.inj e2_).1; have e3_ := (Prod.mk.inj e2_).2; clear e2_; subst d2_
      have d3_ := (Prod.mk.inj e3_).1; have e4_ := (Prod.mk.inj e3_).2; clear e3_; subst d3_
      subst e4_
      exact x_r2 (none, 0, none, 0) Try.results67 (rv_cell rfl G27 Z27 (fun w h => h.zaa (i := 3) rfl) rfl) (zaf rfl) rfl (fun w h => za5 [1, 0] (by decide) rfl w h)
    · skip
      replace h := bb_f hb21 h
      refine zam ?_
      refine za1 ?_
      refine c_seq ?_
      refine za0 ?_
      refine bindE2 h (fun l23 l24 hx22 h => ?_) rfl
      refine o_e rfl (zac 0 Z Try.func156 N156 rfl rfl rfl (fun w P1 hF hB hS hT => impl_Plan_turned.calls k g1 a0_0 A0_1 c0_1 l0_1.length l0_1 A0_2 c0_2 l0_2.length l0_2 hB hF (hS _ R0_1) hc0_1 (hS _ R0_2) hc0_2 (hT 0 _ rfl).box _ _ hx22)) (cur4 (fun A25 c26 A27 c28 => ?_))
      refine bindE5 h (fun i30 l31 l32 z33 b34 hx29 h => ?_) rfl
      refine o_e rfl (zac 2 Z Try.func102 N102 rfl rfl rfl (fun w P1 hF hB hS hT => impl_told_2.calls k (l0_2.length : Int) A25 c26 l23.length l23 A27 c28 l24.length l24 ((a0_0 : Int).toNat) hB hF _ _ _ _ _ hx29)) (cur4 (fun A35 c36 A37 c38 => ?_))
      refine o_q rfl rfl (q_ext rfl rfl) ?_
      refine o_q rfl rfl (q_ext rfl rfl) ?_
      refine o_e rfl (zaq (i := 3) rfl rfl rfl Z27 rfl rfl) (fun _ => ?_)
      refine o_q rfl rfl (q_asg rfl) ?_
      refine o_end ?_
      refine za1 ?_
      refine c_ret ?_
      have e0_ := Option.some.inj h; clear h
      have d0_ := (Prod.mk.inj e0_).1; have e1_ := (Prod.mk.inj e0_).2; clear e0_; subst d0_
      have d1_ := (Prod.mk.inj e1_).1; have e2_ := (Prod.mk.inj e1_).2; clear e1_; subst d1_
      have d2_ := (Prod.mk.inj e2_).1; have e3_ := (Prod.mk.inj e2_).2; clear e2_; subst d2_
      have d3_ := (Prod.mk.inj e3_).1; have e4_ := (Prod.mk.inj e3_).2; clear e3_; subst d3_
      subst e4_
      exact x_r2 (A35, c36, A37, c38) Try.results67 (rv_cell rfl G27 Z27 (fun w h => h.zaa (i := 3) rfl) rfl) (zaf rfl) rfl (fun w h => za5 [0, 1] (by decide) rfl w h)

/-! ### loop.example/g01098/spec.duCan: function 157 -/
def spec_duCan.f (a0_0 : Int) (l0_1 : List SStep) (l0_2 : List Int) : Option Bool := if 0 < (l0_2.length : Int) then ((spec_duUses.f a0_0 l0_1 l0_2).bind fun l5 => (spec_l1Has.f l5 0).bind fun b9 => some (!b9)) else (some false)
set_option maxHeartbeats 600000 in
set_option maxRecDepth 100000 in
theorem spec_duCan.calls {w0 ws : World} {P0 : Nat → Prop} (a0_0 : Int) (A0_1 : Option Addr) (c0_1 : Nat) (n0_1 : Nat) (l0_1 : List SStep) (A0_2 : Option Addr) (c0_2 : Nat) (n0_2 : Nat) (l0_2 : List Int) (Z : Below w0.heap.size w0 ws) (hF : Fr w0 ws P0 [] ws) (R0_1 : Stable ws P0 (fun w => Kd.C kStep w A0_1 n0_1 l0_1)) (hc0_1 : n0_1 ≤ c0_1) (R0_2 : Stable ws P0 (fun w => Kd.C (Kd.int .i64) w A0_2 n0_2 l0_2)) (hc0_2 : n0_2 ≤ c0_2) (r_1 : Bool) (h : spec_duCan.f a0_0 l0_1 l0_2 = some r_1) :
    Calls Try.prog 157 #[.agg #[.int .i64 a0_0, .slice A0_1 n0_1 c0_1, .slice A0_2 n0_2 c0_2]] ws (Post1 w0 ws P0 (fun (_ : Unit) => .bool r_1) (fun (_ : Unit) => [])) := by
  unfold spec_duCan.f at h
  obtain rfl := (R0_1 ws (KeptB.refl _ _)).1
  obtain rfl := (R0_2 ws (KeptB.refl _ _)).1
  refine enter Try.func157 rfl Try.ntmps157 rfl hF ?_
  refine c_seq ?_
  refine za0 ?_
  refine o_e rfl (e_box rfl) (fun g1 => ?_)
  refine o_q rfl rfl (q_asg rfl) ?_
  refine o_end ?_
  refine za1 ?_
  refine c_seq ?_
  refine za0 ?_
  refine o_q rfl rfl (q_f F27_2 rfl) ?_
  refine o_q rfl rfl (q_ldb Y25 rfl (fun w h => h.zaa (i := 0) rfl) rfl) ?_
  refine o_q rfl rfl (q_len Try.underlying25 rfl) ?_
  refine o_q rfl rfl (q_gtr rfl rfl) ?_
  refine o_q rfl rfl (za2 rfl) ?_
  refine byB (decide (0 < (l0_2.length : Int))) (fun hb3 => ?_) (fun hb3 => ?_)
  · replace h := br_t hb3 h
    refine o_w (za4 rfl rfl rfl (congrArg Value.bool hb3)) rfl (q_ldB G27 Z27 rfl (fun w h => h.zaa (i := 0) rfl) rfl) ?_
    refine za7 h (fun l5 hx4 h => ?_) rfl
    refine o_ew (za4 rfl rfl rfl (congrArg Value.bool hb3)) (zac 0 Z Try.func209 N209 rfl rfl rfl (fun w P1 hF hB hS hT => spec_duUses.calls a0_0 A0_1 c0_1 l0_1.length l0_1 A0_2 c0_2 l0_2.length l0_2 hB hF (hS _ R0_1) hc0_1 (hS _ R0_2) hc0_2 _ hx4)) (cur2 (fun A6 c7 => ?_))
    refine za7 h (fun b9 hx8 h => ?_) rfl
    refine o_ew (za4 rfl rfl rfl (congrArg Value.bool hb3)) (zac 0 Z Try.func189 N189 rfl rfl rfl (fun w P1 hF hB hS hT => spec_l1Has.calls A6 c7 l5.length l5 0 hB hF (hT 0 _ rfl).row (hT 0 _ rfl).cap _ hx8)) (fun _ => ?_)
    refine o_w (za4 rfl rfl rfl (congrArg Value.bool hb3)) rfl (q_not rfl) ?_
    refine o_q rfl rfl (zal true (congrArg Value.bool hb3) rfl) ?_
    refine o_q rfl rfl (q_asg rfl) ?_
    refine o_end ?_
    refine za1 ?_
    refine c_ret ?_
    have e0_ := Option.some.inj h; clear h
    subst e0_
    exact x_r1 () Try.results157 (zaf rfl) rfl (fun w h => za5 [] (by decide) rfl w h)
  · replace h := br_f hb3 h
    refine @o_n _ _ _ _ _ _ _ _ _ _ _ 8 (za3 rfl rfl rfl (congrArg Value.bool hb3) rfl) (Eq.refl (some 8)) ?_
    refine @o_n _ _ _ _ _ _ _ _ _ _ _ 9 (za3 rfl rfl rfl (congrArg Value.bool hb3) rfl) (Eq.refl (some 9)) ?_
    refine @o_n _ _ _ _ _ _ _ _ _ _ _ 10 (za3 rfl rfl rfl (congrArg Value.bool hb3) rfl) (Eq.refl (some 10)) ?_
    refine @o_n _ _ _ _ _ _ _ _ _ _ _ 11 (za3 rfl rfl rfl (congrArg Value.bool hb3) rfl) (Eq.refl (some 11)) ?_
    refine o_q rfl rfl (zal false (congrArg Value.bool hb3) rfl) ?_
    refine o_q rfl rfl (q_asg rfl) ?_
    refine o_end ?_
    refine za1 ?_
    refine c_ret ?_
    have e0_ := Option.some.inj h; clear h
    subst e0_
    exact x_r1 () Try.results157 (zaf rfl) rfl (fun w h => za5 [] (by decide) rfl w h)

/-! ### loop.example/g01098/spec.duFactors: function 211 -/
def spec_duFactors.l1 (a0_0 : Int) (a1 : Int) (l2 : List Int) : (List SStep) → (List Int) → Int → Option (List Int)
  | [], l18, i21 => some l18
  | y22 :: ys23, l18, i21 => (if y22.f0 = a1 then ((gt l2 (w64 (a0_0 + i21))).bind fun y57 => (ap l18 ([y57] : List Int)).bind fun l61 => some l61) else (some l18)).bind fun l46 => if y22.f1 = a1 then ((gt l2 (w64 (a0_0 + i21))).bind fun y68 => (ap l46 ([y68] : List Int)).bind fun l72 => spec_duFactors.l1 a0_0 a1 l2 ys23 l72 (i21 + 1)) else (spec_duFactors.l1 a0_0 a1 l2 ys23 l46 (i21 + 1))
def spec_duFactors.l0 (a1 : Int) : (List Int) → (List Int) → Int → Option (List Int)
  | [], l4, i7 => some l4
  | y8 :: ys9, l4, i7 => if y8 = a1 then ((ap l4 ([i7] : List Int)).bind fun l81 => spec_duFactors.l0 a1 ys9 l81 (i7 + 1)) else (spec_duFactors.l0 a1 ys9 l4 (i7 + 1))
def spec_duFactors.f (a0_0 : Int) (l0_1 : List SStep) (l0_2 : List Int) (a1 : Int) (l2 : List Int) : Option (List Int) := (spec_duFactors.l0 a1 l0_2 ([] : List Int) 0).bind fun l4 => (spec_duFactors.l1 a0_0 a1 l2 l0_1 l4 0).bind fun l18 => some l18
set_option maxHeartbeats 600000 in
set_option maxRecDepth 100000 in
theorem spec_duFactors.calls {w0 ws : World} {P0 : Nat → Prop} (a0_0 : Int) (A0_1 : Option Addr) (c0_1 : Nat) (n0_1 : Nat) (l0_1 : List SStep) (A0_2 : Option Addr) (c0_2 : Nat) (n0_2 : Nat) (l0_2 : List Int) (a1 : Int) (A2 : Option Addr) (c2 : Nat) (n2 : Nat) (l2 : List Int) (Z : Below w0.heap.size w0 ws) (hF : Fr w0 ws P0 [] ws) (R0_1 : Stable ws P0 (fun w => Kd.C kStep w A0_1 n0_1 l0_1)) (hc0_1 : n0_1 ≤ c0_1) (R0_2 : Stable ws P0 (fun w => Kd.C (Kd.int .i64) w A0_2 n0_2 l0_2)) (hc0_2 : n0_2 ≤ c0_2) (R2 : Stable ws P0 (fun w => Kd.C (Kd.int .i64) w A2 n2 l2)) (hc2 : n2 ≤ c2) (r_1 : List Int) (h : spec_duFactors.f a0_0 l0_1 l0_2 a1 l2 = some r_1) :
    Calls Try.prog 211 #[.agg #[.int .i64 a0_0, .slice A0_1 n0_1 c0_1, .slice A0_2 n0_2 c0_2], .int .i64 a1, .slice A2 n2 c2] ws (Post1 w0 ws P0 (fun ((q_2, q_3) : (Option Addr) × Nat) => .slice q_2 r_1.length q_3) (fun ((q_2, q_3) : (Option Addr) × Nat) => [row (Kd.int .i64) 3 (.slice q_2 r_1.length q_3) r_1])) := by
  unfold spec_duFactors.f at h
  obtain rfl := (R0_1 ws (KeptB.refl _ _)).1
  obtain rfl := (R0_2 ws (KeptB.refl _ _)).1
  obtain rfl := (R2 ws (KeptB.refl _ _)).1
  refine enter Try.func211 rfl Try.ntmps211 rfl hF ?_
  refine c_seq ?_
  refine za0 ?_
  refine o_e rfl (e_box rfl) (fun g1 => ?_)
  refine o_q rfl rfl (q_asg rfl) ?_
  refine o_end ?_
  refine za1 ?_
  refine c_seq ?_
  refine za0 ?_
  refine o_q rfl rfl (q_asg rfl) ?_
  refine o_end ?_
  refine za1 ?_
  refine c_seq ?_
  refine c_seq ?_
  refine za0 ?_
  refine o_q rfl rfl (q_f F27_2 rfl) ?_
  refine o_q rfl rfl (q_ldb Y25 rfl (fun w h => h.zaa (i := 0) rfl) rfl) ?_
  refine o_q rfl rfl (q_len Try.underlying25 rfl) ?_
  refine o_q rfl rfl (za2 rfl) ?_
  refine o_end ?_
  refine za1 ?_
  refine zaj ?_
  refine c_nil (Kd.int .i64) 3 ?_
  refine za7 h (fun o15 hl14 hR13 => ?_) rfl
  clear h
  refine c_fact (p := l0_2.length ≤ 9223372036854775807) (fun w h => (R0_2.now Z h).2.1) (fun hm12 => ?_)
  refine zav (σ := (List Int) × (List Int) × Int × (Option Addr) × Nat) (fun k10 ((ys9, l4, i7, A5, c6) : (List Int) × (List Int) × Int × (Option Addr) × Nat) => Rg l0_2 i7 ys9 ∧ ys9.length = k10 ∧ spec_duFactors.l0 a1 ys9 l4 i7 = some o15) [7, 8, 9, 15, 16, 17, 18, 19, 20, 21, 22, 23, 24, 25, 26, 27] (fun ((ys9, l4, i7, A5, c6) : (List Int) × (List Int) × Int × (Option Addr) × Nat) => [(7, .slice A5 l4.length c6), (15, .int .i64 i7)]) (fun ((ys9, l4, i7, A5, c6) : (List Int) × (List Int) × Int × (Option Addr) × Nat) => [row (Kd.int .i64) 3 (.slice A5 l4.length c6) l4, box g1 27 #[.int .i64 a0_0, .slice A0_1 l0_1.length c0_1, .slice A0_2 l0_2.length c0_2]]) l0_2.length (l0_2, ([] : List Int), 0, none, 0) ⟨Rg.start _, rfl, hl14⟩ ⟨rfl, rfl, trivial⟩ (fun w h => h) ?_
  refine fun k10 => cur5 (listC (fun l4 i7 A5 c6 U16 hJ_ => ?_) (fun y8 ys9 l4 i7 A5 c6 U16 hJ_ => ?_))
  · skip
    clear hl14
    have hr11 := hJ_.1; have hk17 := hJ_.2.1; have h := hJ_.2.2; clear hJ_
    replace h : spec_duFactors.l0 a1 [] l4 i7 = some o15 := h
    rw [spec_duFactors.l0] at h
    refine c_seq ?_
    refine za0 ?_
    refine o_q rfl rfl (q_lss rfl rfl) ?_
    refine o_end ?_
    refine za1 ?_
    refine c_seq ?_
    refine zb2 (congrArg Value.bool hr11.ge) ?_
    refine c_exit ?_
    refine za6 ?_
    refine za6 ?_
    have e_ := Option.some.inj h; replace h := hR13; rw [← e_] at h; clear e_
    refine x_hit ?_
    refine za1 ?_
    refine c_seq ?_
    refine c_seq ?_
    refine za0 ?_
    refine o_q rfl rfl (q_f F27_1 rfl) ?_
    refine o_q rfl rfl (q_ldb Y24 rfl (fun w h => h.zaa (i := 1) rfl) rfl) ?_
    refine o_q rfl rfl (q_len Try.underlying24 rfl) ?_
    refine o_q rfl rfl (za2 rfl) ?_
    refine o_end ?_
    refine za1 ?_
    refine zaj ?_
    refine za7 h (fun o29 hl28 hR27 => ?_) rfl
    clear h
    refine c_fact (p := l0_1.length ≤ 9223372036854775807) (fun w h => (R0_1.now Z h).2.1) (fun hm26 => ?_)
    refine zav (σ := (List SStep) × (List Int) × Int × (Option Addr) × Nat) (fun k24 ((ys23, l18, i21, A19, c20) : (List SStep) × (List Int) × Int × (Option Addr) × Nat) => Rg l0_1 i21 ys23 ∧ ys23.length = k24 ∧ spec_duFactors.l1 a0_0 a1 l2 ys23 l18 i21 = some o29) [7, 10, 11, 31, 32, 33, 34, 35, 36, 37, 38, 39, 40, 41, 42, 43, 44, 45, 46, 47, 48, 49, 50, 51, 52, 53, 54, 55, 56, 57, 58, 59, 60, 61, 62, 63, 64] (fun ((ys23, l18, i21, A19, c20) : (List SStep) × (List Int) × Int × (Option Addr) × Nat) => [(7, .slice A19 l18.length c20), (31, .int .i64 i21)]) (fun ((ys23, l18, i21, A19, c20) : (List SStep) × (List Int) × Int × (Option Addr) × Nat) => [row (Kd.int .i64) 3 (.slice A19 l18.length c20) l18, box g1 27 #[.int .i64 a0_0, .slice A0_1 l0_1.length c0_1, .slice A0_2 l0_2.length c0_2]]) l0_1.length (l0_1, l4, 0, A5, c6) ⟨Rg.start _, rfl, hl28⟩ ⟨rfl, rfl, trivial⟩ (fun w h => h) ?_
    refine fun k24 => cur5 (listC (fun l18 i21 A19 c20 U30 hJ_ => ?_) (fun y22 ys23 l18 i21 A19 c20 U30 hJ_ => ?_))
    · skip
      clear hl28
      have hr25 := hJ_.1; have hk31 := hJ_.2.1; have h := hJ_.2.2; clear hJ_
      replace h : spec_duFactors.l1 a0_0 a1 l2 [] l18 i21 = some o29 := h
      rw [spec_duFactors.l1] at h
      refine c_seq ?_
      refine za0 ?_
      refine o_q rfl rfl (q_lss rfl rfl) ?_
      refine o_end ?_
      refine za1 ?_
      refine c_seq ?_
      refine zb2 (congrArg Value.bool hr25.ge) ?_
      refine c_exit ?_
      refine za6 ?_
      refine za6 ?_
      have e_ := Option.some.inj h; replace h := hR27; rw [← e_] at h; clear e_
      refine x_hit ?_
      refine za1 ?_
      refine c_seq ?_
      refine za0 ?_
      refine o_q rfl rfl (za2 rfl) ?_
      refine o_q rfl rfl (q_asg rfl) ?_
      refine o_end ?_
      refine za1 ?_
      refine c_ret ?_
      have e0_ := Option.some.inj h; clear h
      subst e0_
      exact x_r1 (A19, c20) Try.results211 (zaf rfl) rfl (fun w h => za5 [0] (by decide) rfl w h)
    · skip
      clear hl28
      have hr25 := hJ_.1; have hk31 := hJ_.2.1; have h := hJ_.2.2; clear hJ_
      replace h : spec_duFactors.l1 a0_0 a1 l2 (y22 :: ys23) l18 i21 = some o29 := h
      rw [spec_duFactors.l1] at h
      refine c_seq ?_
      refine za0 ?_
      refine o_q rfl rfl (q_lss rfl rfl) ?_
      refine o_end ?_
      refine za1 ?_
      refine c_seq ?_
      refine zb3 (congrArg Value.bool hr25.lt) ?_
      refine zam ?_
      refine za1 ?_
      refine c_seq ?_
      refine zaj ?_
      refine c_seq ?_
      refine za0 ?_
      refine o_q rfl rfl (za2 rfl) ?_
      refine zas (p := Sh A0_1 l0_1.length l0_1.length) (fun w h => f_sh (dk := kStep) h (fun w h => R0_1.now Z h)) (fun hq32 => ?_)
      refine o_q rfl rfl (q_ix Try.underlying24 Z89 rfl rfl hq32 hr25.get) ?_
      refine o_q rfl rfl (q_ldE G89 Z89 rfl rfl (fun w h => R0_1.now Z h) hr25.get (fun _ _ h => h) rfl) ?_
      refine o_e rfl (zaz V89 rfl) (fun g33 => ?_)
      refine o_q rfl rfl (q_asg rfl) ?_
      refine o_e rfl (zaq (i := 0) rfl rfl rfl Z89 rfl rfl) (fun _ => ?_)
      refine o_end ?_
      refine za1 ?_
      refine za7 h (fun o49 hl50 hR51 => ?_) rfl
      clear h
      refine c_cutJ (σ := (List Int) × (Option Addr) × Nat) (fun (l46, A47, c48) => some l46 = some o49) [7, 36, 37, 38, 39, 40, 41, 42, 43, 44, 45, 46, 47, 48, 49] (fun (l46, A47, c48) => [(7, .slice A47 l46.length c48)]) (fun (l46, A47, c48) => [box g1 27 #[.int .i64 a0_0, .slice A0_1 l0_1.length c0_1, .slice A0_2 l0_2.length c0_2], row (Kd.int .i64) 3 (.slice A47 l46.length c48) l46, box g33 89 #[.int .i64 y22.f0, .int .i64 y22.f1]]) ?_ ?_
      · skip
        have h := hl50; clear hl50
        clear hR51
        refine c_seq ?_
        refine za0 ?_
        refine o_q rfl rfl (q_f F89_0 rfl) ?_
        refine o_q rfl rfl (q_ldb Y3 rfl (fun w h => h.zaa (i := 0) rfl) rfl) ?_
        refine o_q rfl rfl (za2 rfl) ?_
        refine o_q rfl rfl (q_eql rfl rfl) ?_
        refine o_end ?_
        refine za1 ?_
        refine zar _ rfl (fun hb54 => ?_) (fun hb54 => ?_)
        · skip
          replace h := br_t hb54 h
          refine za0 ?_
          refine o_q rfl rfl (za2 rfl) ?_
          refine o_q rfl rfl (za2 rfl) ?_
          refine o_q rfl rfl (q_f F27_0 rfl) ?_
          refine o_q rfl rfl (q_ldb Y3 rfl (fun w h => h.zaa (i := 2) rfl) rfl) ?_
          refine o_q rfl rfl (za2 rfl) ?_
          refine o_q rfl rfl (q_add64 rfl rfl) ?_
          refine zas (p := Sh A2 l2.length l2.length) (fun w h => f_sh (dk := (Kd.int .i64)) h (fun w h => R2.now Z h)) (fun hq55 => ?_)
          refine za7 h (fun y57 hg56 h => ?_) rfl
          refine o_q rfl rfl (q_ix Try.underlying25 Z3 rfl rfl hq55 hg56) ?_
          refine o_q rfl rfl (q_lde (off := 0) Y3 rfl rfl (fun w h => R2.now Z h) hg56 (fun _ _ h => h) rfl) ?_
          refine o_e rfl (e_lit (vs := [(0, .int .i64 y57)]) (cs := [.int .i64 y57]) (Kd.int .i64) ([y57] : List Int) Try.underlying25 I3 (by decide) rfl (by decide) rfl rfl (fun _ _ => Kd.zat _)) (cur2 (fun A58 c59 => ?_))
          refine za7 h (fun l61 ha62 h => ?_) rfl
          refine o_e rfl (e_app (i := 2) (j := 0) Try.underlying25 I3 rfl (by decide) (by decide) rfl rfl rfl rfl rfl ha62) (cur2 (fun A63 c64 => ?_))
          refine o_q rfl rfl (q_asg rfl) ?_
          refine o_end ?_
          refine zay (l61, A63, c64) h ⟨rfl, trivial⟩ (fun w h => za5 [3, 2, 1] (by decide) rfl w h) ?_
          repeat (first | exact zad _ _ | refine zah rfl ?_ | refine zae rfl ?_ | refine zai rfl ?_)
        · skip
          replace h := br_f hb54 h
          refine zam ?_
          refine zay (l18, A19, c20) h ⟨rfl, trivial⟩ (fun w h => za5 [2, 1, 0] (by decide) rfl w h) ?_
          repeat (first | exact zad _ _ | refine zah rfl ?_ | refine zae rfl ?_ | refine zai rfl ?_)
      · skip
        refine (cur3 (fun l46 A47 c48 => fun U52 hJ53 => ?_))
        have e_ := Option.some.inj hJ53; have h := hR51; rw [← e_] at h; clear e_ hJ53 hR51 hl50
        refine c_seq ?_
        refine za0 ?_
        refine o_q rfl rfl (q_f F89_1 rfl) ?_
        refine o_q rfl rfl (q_ldb Y3 rfl (fun w h => h.zaa (i := 2) rfl) rfl) ?_
        refine o_q rfl rfl (za2 rfl) ?_
        refine o_q rfl rfl (q_eql rfl rfl) ?_
        refine o_end ?_
        refine za1 ?_
        refine zar _ rfl (fun hb65 => ?_) (fun hb65 => ?_)
        · skip
          replace h := br_t hb65 h
          refine za0 ?_
          refine o_q rfl rfl (za2 rfl) ?_
          refine o_q rfl rfl (za2 rfl) ?_
          refine o_q rfl rfl (q_f F27_0 rfl) ?_
          refine o_q rfl rfl (q_ldb Y3 rfl (fun w h => h.zaa (i := 0) rfl) rfl) ?_
          refine o_q rfl rfl (za2 rfl) ?_
          refine o_q rfl rfl (q_add64 rfl rfl) ?_
          refine zas (p := Sh A2 l2.length l2.length) (fun w h => f_sh (dk := (Kd.int .i64)) h (fun w h => R2.now Z h)) (fun hq66 => ?_)
          refine za7 h (fun y68 hg67 h => ?_) rfl
          refine o_q rfl rfl (q_ix Try.underlying25 Z3 rfl rfl hq66 hg67) ?_
          refine o_q rfl rfl (q_lde (off := 0) Y3 rfl rfl (fun w h => R2.now Z h) hg67 (fun _ _ h => h) rfl) ?_
          refine o_e rfl (e_lit (vs := [(0, .int .i64 y68)]) (cs := [.int .i64 y68]) (Kd.int .i64) ([y68] : List Int) Try.underlying25 I3 (by decide) rfl (by decide) rfl rfl (fun _ _ => Kd.zat _)) (cur2 (fun A69 c70 => ?_))
          refine za7 h (fun l72 ha73 h => ?_) rfl
          refine o_e rfl (e_app (i := 2) (j := 0) Try.underlying25 I3 rfl (by decide) (by decide) rfl rfl rfl rfl rfl ha73) (cur2 (fun A74 c75 => ?_))
          refine o_q rfl rfl (q_asg rfl) ?_
          refine o_end ?_
          refine zan ?_
          refine za1 ?_
          refine za0 ?_
          refine o_q rfl rfl (q_up rfl rfl (hr25.up hm26)) ?_
          refine o_q rfl rfl (za2 rfl) ?_
          refine o_end ?_
          refine zak ys23.length (ys23, l72, i21 + 1, A74, c75) (by rw [← hk31]; exact Nat.lt_succ_self _) ⟨hr25.step, rfl, h⟩ ⟨rfl, rfl, trivial⟩ (fun w h => za5 [2, 1] (by decide) rfl w h) ?_
          repeat (first | exact zad _ _ | refine zah rfl ?_ | refine zae rfl ?_ | refine zai rfl ?_)
        · skip
          replace h := br_f hb65 h
          refine zam ?_
          refine zan ?_
          refine za1 ?_
          refine za0 ?_
          refine o_q rfl rfl (q_up rfl rfl (hr25.up hm26)) ?_
          refine o_q rfl rfl (za2 rfl) ?_
          refine o_end ?_
          refine zak ys23.length (ys23, l46, i21 + 1, A47, c48) (by rw [← hk31]; exact Nat.lt_succ_self _) ⟨hr25.step, rfl, h⟩ ⟨rfl, rfl, trivial⟩ (fun w h => za5 [1, 0] (by decide) rfl w h) ?_
          repeat (first | exact zad _ _ | refine zah rfl ?_ | refine zae rfl ?_ | refine zai rfl ?_)
  · skip
    clear hl14
    have hr11 := hJ_.1; have hk17 := hJ_.2.1; have h := hJ_.2.2; clear hJ_
    replace h : spec_duFactors.l0 a1 (y8 :: ys9) l4 i7 = some o15 := h
    rw [spec_duFactors.l0] at h
    refine c_seq ?_
    refine za0 ?_
    refine o_q rfl rfl (q_lss rfl rfl) ?_
    refine o_end ?_
    refine za1 ?_
    refine c_seq ?_
    refine zb3 (congrArg Value.bool hr11.lt) ?_
    refine zam ?_
    refine za1 ?_
    refine c_seq ?_
    refine zaj ?_
    refine c_seq ?_
    refine za0 ?_
    refine o_q rfl rfl (za2 rfl) ?_
    refine zas (p := Sh A0_2 l0_2.length l0_2.length) (fun w h => f_sh (dk := (Kd.int .i64)) h (fun w h => R0_2.now Z h)) (fun hq76 => ?_)
    refine o_q rfl rfl (q_ix Try.underlying25 Z3 rfl rfl hq76 hr11.get) ?_
    refine o_q rfl rfl (q_lde (off := 0) Y3 rfl rfl (fun w h => R0_2.now Z h) hr11.get (fun _ _ h => h) rfl) ?_
    refine o_q rfl rfl (q_asg rfl) ?_
    refine o_q rfl rfl (q_asg rfl) ?_
    refine o_end ?_
    refine za1 ?_
    refine c_seq ?_
    refine za0 ?_
    refine o_q rfl rfl (za2 rfl) ?_
    refine o_q rfl rfl (za2 rfl) ?_
    refine o_q rfl rfl (q_eql rfl rfl) ?_
    refine o_end ?_
    refine za1 ?_
    refine zar _ rfl (fun hb77 => ?_) (fun hb77 => ?_)
    · skip
      replace h := br_t hb77 h
      refine za0 ?_
      refine o_q rfl rfl (za2 rfl) ?_
      refine o_q rfl rfl (za2 rfl) ?_
      refine o_e rfl (e_lit (vs := [(0, .int .i64 i7)]) (cs := [.int .i64 i7]) (Kd.int .i64) ([i7] : List Int) Try.underlying25 I3 (by decide) rfl (by decide) rfl rfl (fun _ _ => Kd.zat _)) (cur2 (fun A78 c79 => ?_))
      refine za7 h (fun l81 ha82 h => ?_) rfl
      refine o_e rfl (e_app (i := 1) (j := 0) Try.underlying25 I3 rfl (by decide) (by decide) rfl rfl rfl rfl rfl ha82) (cur2 (fun A83 c84 => ?_))
      refine o_q rfl rfl (q_asg rfl) ?_
      refine o_end ?_
      refine zan ?_
      refine za1 ?_
      refine za0 ?_
      refine o_q rfl rfl (q_up rfl rfl (hr11.up hm12)) ?_
      refine o_q rfl rfl (za2 rfl) ?_
      refine o_end ?_
      refine zak ys9.length (ys9, l81, i7 + 1, A83, c84) (by rw [← hk17]; exact Nat.lt_succ_self _) ⟨hr11.step, rfl, h⟩ ⟨rfl, rfl, trivial⟩ (fun w h => za5 [1, 2] (by decide) rfl w h) ?_
      repeat (first | exact zad _ _ | refine zah rfl ?_ | refine zae rfl ?_ | refine zai rfl ?_)
    · skip
      replace h := br_f hb77 h
      refine zam ?_
      refine zan ?_
      refine za1 ?_
      refine za0 ?_
      refine o_q rfl rfl (q_up rfl rfl (hr11.up hm12)) ?_
      refine o_q rfl rfl (za2 rfl) ?_
      refine o_end ?_
      refine zak ys9.length (ys9, l4, i7 + 1, A5, c6) (by rw [← hk17]; exact Nat.lt_succ_self _) ⟨hr11.step, rfl, h⟩ ⟨rfl, rfl, trivial⟩ (fun w h => za5 [0, 1] (by decide) rfl w h) ?_
      repeat (first | exact zad _ _ | refine zah rfl ?_ | refine zae rfl ?_ | refine zai rfl ?_)

end Go.Proofs.Ytoegbcbdiggbjaa.TU
