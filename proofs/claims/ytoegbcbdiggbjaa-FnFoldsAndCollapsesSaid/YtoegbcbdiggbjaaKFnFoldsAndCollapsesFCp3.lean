import Derived.Test.YtoegbcbdiggbjaaKFnFoldsAndCollapsesFCp2
namespace Go.Proofs.Ytoegbcbdiggbjaa.FC
open Go.RowKit Go.Proofs.Ytoegbcbdiggbjaa.Frame Go.Proofs.YtoegbcbdiggbjaaW.PrintLast Go.Proofs.Ytoegbcbdiggbjaa.Hand
open Go.Proofs.YtoegbcbdiggbjaaW.PrintWords hiding mn mx
set_option linter.unusedVariables false
/-! ### loop.example/g01098/spec.duUses: function 209 -/
def spec_duUses.l1 : (List Int) → (List Int) → Int → Option (List Int)
  | [], l20, i21 => some l20
  | y22 :: ys23, l20, i21 => (gt l20 y22).bind fun y36 => (gt l20 y22).bind fun y38 => (st l20 y22 (w64 (y36 + 1))).bind fun l39 => spec_duUses.l1 ys23 l39 (i21 + 1)
def spec_duUses.l0 : (List SStep) → (List Int) → Int → Option (List Int)
  | [], l8, i9 => some l8
  | y10 :: ys11, l8, i9 => (gt l8 y10.f0).bind fun y46 => (gt l8 y10.f0).bind fun y48 => (st l8 y10.f0 (w64 (y46 + 1))).bind fun l49 => (gt l49 y10.f1).bind fun y53 => (gt l49 y10.f1).bind fun y55 => (st l49 y10.f1 (w64 (y53 + 1))).bind fun l56 => spec_duUses.l0 ys11 l56 (i9 + 1)
def spec_duUses.f (a0_0 : Int) (l0_1 : List SStep) (l0_2 : List Int) : Option (List Int) := (mk0 (w64 (a0_0 + (l0_1.length : Int))) (0 : Int)).bind fun l3 => (spec_duUses.l0 l0_1 l3 0).bind fun l8 => (spec_duUses.l1 l0_2 l8 0).bind fun l20 => some l20
set_option maxHeartbeats 600000 in
set_option maxRecDepth 100000 in
theorem spec_duUses.calls {w0 ws : World} {P0 : Nat → Prop} (a0_0 : Int) (A0_1 : Option Addr) (c0_1 : Nat) (n0_1 : Nat) (l0_1 : List SStep) (A0_2 : Option Addr) (c0_2 : Nat) (n0_2 : Nat) (l0_2 : List Int) (Z : Below w0.heap.size w0 ws) (hF : Fr w0 ws P0 [] ws) (R0_1 : Stable ws P0 (fun w => Kd.C kStep w A0_1 n0_1 l0_1)) (hc0_1 : n0_1 ≤ c0_1) (R0_2 : Stable ws P0 (fun w => Kd.C (Kd.int .i64) w A0_2 n0_2 l0_2)) (hc0_2 : n0_2 ≤ c0_2) (r_1 : List Int) (h : spec_duUses.f a0_0 l0_1 l0_2 = some r_1) :
    Calls Try.prog 209 #[.agg #[.int .i64 a0_0, .slice A0_1 n0_1 c0_1, .slice A0_2 n0_2 c0_2]] ws (Post1 w0 ws P0 (fun ((q_2, q_3) : (Option Addr) × Nat) => .slice q_2 r_1.length q_3) (fun ((q_2, q_3) : (Option Addr) × Nat) => [row (Kd.int .i64) 3 (.slice q_2 r_1.length q_3) r_1])) := by
  unfold spec_duUses.f at h
  obtain rfl := (R0_1 ws (KeptB.refl _ _)).1
  obtain rfl := (R0_2 ws (KeptB.refl _ _)).1
  refine enter Try.func209 rfl Try.ntmps209 rfl hF ?_
  refine c_seq ?_
  refine za0 ?_
  refine o_e rfl (e_box rfl) (fun g1 => ?_)
  refine o_q rfl rfl (q_asg rfl) ?_
  refine o_end ?_
  refine za1 ?_
  refine c_seq ?_
  refine za0 ?_
  refine o_q rfl rfl (q_f F27_0 rfl) ?_
  refine o_q rfl rfl (q_ldb Y3 rfl (fun w h => h.zab (i := 0) rfl) rfl) ?_
  refine o_q rfl rfl (q_f F27_1 rfl) ?_
  refine o_q rfl rfl (q_ldb Y24 rfl (fun w h => h.zab (i := 0) rfl) rfl) ?_
  refine o_q rfl rfl (q_len Try.underlying24 rfl) ?_
  refine o_q rfl rfl (q_add64 rfl rfl) ?_
  refine za8 h (fun l3 hm4 h => ?_) rfl
  refine o_e rfl (e_make (Kd.int .i64) (0 : Int) Try.underlying25 I3 rfl (by decide) (by decide) (fun _ _ => rfl) rfl rfl hm4) (cur2 (fun A5 c6 => ?_))
  refine o_q rfl rfl (q_asg rfl) ?_
  refine o_end ?_
  refine za1 ?_
  refine c_seq ?_
  refine c_seq ?_
  refine za0 ?_
  refine o_q rfl rfl (q_f F27_1 rfl) ?_
  refine o_q rfl rfl (q_ldb Y24 rfl (fun w h => h.zab (i := 1) rfl) rfl) ?_
  refine o_q rfl rfl (q_len Try.underlying24 rfl) ?_
  refine o_q rfl rfl (za2 rfl) ?_
  refine o_end ?_
  refine za1 ?_
  refine zaj ?_
  refine za8 h (fun o17 hl16 hR15 => ?_) rfl
  clear h
  refine c_fact (p := l0_1.length ≤ 9223372036854775807) (fun w h => (R0_1.now Z h).2.1) (fun hm14 => ?_)
  refine zax (σ := (List SStep) × (List Int) × Int) (fun k12 ((ys11, l8, i9) : (List SStep) × (List Int) × Int) => Rg l0_1 i9 ys11 ∧ ys11.length = k12 ∧ spec_duUses.l0 ys11 l8 i9 = some o17) [5, 18, 19, 20, 21, 22, 23, 24, 25, 26, 27, 28, 29, 30, 31, 32, 33, 34, 35, 36] (fun ((ys11, l8, i9) : (List SStep) × (List Int) × Int) => [(18, .int .i64 i9)]) (fun ((ys11, l8, i9) : (List SStep) × (List Int) × Int) => [row (Kd.int .i64) 3 (.slice A5 l3.length c6) l8, box g1 27 #[.int .i64 a0_0, .slice A0_1 l0_1.length c0_1, .slice A0_2 l0_2.length c0_2]]) l0_1.length (l0_1, l3, 0) ⟨Rg.start _, rfl, hl16⟩ ⟨rfl, trivial⟩ (fun w h => h) ?_
  refine fun k12 => cur3 (listC (fun l8 i9 U18 hJ_ => ?_) (fun y10 ys11 l8 i9 U18 hJ_ => ?_))
  · skip
    clear hl16
    have hr13 := hJ_.1; have hk19 := hJ_.2.1; have h := hJ_.2.2; clear hJ_
    replace h : spec_duUses.l0 [] l8 i9 = some o17 := h
    rw [spec_duUses.l0] at h
    refine c_seq ?_
    refine za0 ?_
    refine o_q rfl rfl (q_lss rfl rfl) ?_
    refine o_end ?_
    refine za1 ?_
    refine c_seq ?_
    refine zb3 (congrArg Value.bool hr13.ge) ?_
    refine zb6 ?_
    refine za6 ?_
    refine za6 ?_
    have e_ := Option.some.inj h; replace h := hR15; rw [← e_] at h; clear e_
    refine x_hit ?_
    refine za1 ?_
    refine c_seq ?_
    refine c_seq ?_
    refine za0 ?_
    refine o_q rfl rfl (q_f F27_2 rfl) ?_
    refine o_q rfl rfl (q_ldb Y25 rfl (fun w h => h.zab (i := 1) rfl) rfl) ?_
    refine o_q rfl rfl (q_len Try.underlying25 rfl) ?_
    refine o_q rfl rfl (za2 rfl) ?_
    refine o_end ?_
    refine za1 ?_
    refine zaj ?_
    refine za8 h (fun o29 hl28 hR27 => ?_) rfl
    clear h
    refine c_fact (p := l0_2.length ≤ 9223372036854775807) (fun w h => (R0_2.now Z h).2.1) (fun hm26 => ?_)
    refine zax (σ := (List Int) × (List Int) × Int) (fun k24 ((ys23, l20, i21) : (List Int) × (List Int) × Int) => Rg l0_2 i21 ys23 ∧ ys23.length = k24 ∧ spec_duUses.l1 ys23 l20 i21 = some o29) [7, 40, 41, 42, 43, 44, 45, 46, 47, 48, 49, 50] (fun ((ys23, l20, i21) : (List Int) × (List Int) × Int) => [(40, .int .i64 i21)]) (fun ((ys23, l20, i21) : (List Int) × (List Int) × Int) => [row (Kd.int .i64) 3 (.slice A5 l3.length c6) l20, box g1 27 #[.int .i64 a0_0, .slice A0_1 l0_1.length c0_1, .slice A0_2 l0_2.length c0_2]]) l0_2.length (l0_2, l8, 0) ⟨Rg.start _, rfl, hl28⟩ ⟨rfl, trivial⟩ (fun w h => h) ?_
    refine fun k24 => cur3 (listC (fun l20 i21 U30 hJ_ => ?_) (fun y22 ys23 l20 i21 U30 hJ_ => ?_))
    · skip
      clear hl28
      have hr25 := hJ_.1; have hk31 := hJ_.2.1; have h := hJ_.2.2; clear hJ_
      replace h : spec_duUses.l1 [] l20 i21 = some o29 := h
      rw [spec_duUses.l1] at h
      refine c_seq ?_
      refine za0 ?_
      refine o_q rfl rfl (q_lss rfl rfl) ?_
      refine o_end ?_
      refine za1 ?_
      refine c_seq ?_
      refine zb3 (congrArg Value.bool hr25.ge) ?_
      refine zb6 ?_
      refine za6 ?_
      refine za6 ?_
      have e_ := Option.some.inj h; replace h := hR27; rw [← e_] at h; clear e_
      refine x_hit ?_
      refine za1 ?_
      refine c_seq ?_
      refine za0 ?_
      refine o_q rfl rfl (za2 rfl) ?_
      refine o_q rfl rfl (q_asg rfl) ?_
      refine o_end ?_
      refine za1 ?_
      refine c_ret ?_
      refine x_fact (p := l3.length = l20.length) (fun w h => (h.row_C (i := 0) rfl).2.1) (fun hn32 => ?_)
      have e0_ := Option.some.inj h; clear h
      subst e0_
      exact x_r1 (A5, c6) Try.results209 (zai (v := .slice A5 l3.length c6) rfl) (by (try rw [hn32]); first | done | rfl) (f_pickE (L1 := [row (Kd.int .i64) 3 (.slice A5 l3.length c6) l20, box g1 27 #[.int .i64 a0_0, .slice A0_1 l0_1.length c0_1, .slice A0_2 l0_2.length c0_2]]) rfl [0] (by decide) rfl (by (try rw [hn32]); first | done | rfl))
    · skip
      clear hl28
      have hr25 := hJ_.1; have hk31 := hJ_.2.1; have h := hJ_.2.2; clear hJ_
      replace h : spec_duUses.l1 (y22 :: ys23) l20 i21 = some o29 := h
      rw [spec_duUses.l1] at h
      refine c_seq ?_
      refine za0 ?_
      refine o_q rfl rfl (q_lss rfl rfl) ?_
      refine o_end ?_
      refine za1 ?_
      refine c_seq ?_
      refine zb2 (congrArg Value.bool hr25.lt) ?_
      refine zam ?_
      refine za1 ?_
      refine c_seq ?_
      refine zaj ?_
      refine c_seq ?_
      refine za0 ?_
      refine zau (p := Sh A0_2 l0_2.length l0_2.length) (fun w h => f_sh (dk := (Kd.int .i64)) h (fun w h => R0_2.now Z h)) (fun hq33 => ?_)
      refine o_q rfl rfl (q_ix Try.underlying25 Z3 rfl rfl hq33 hr25.get) ?_
      refine o_q rfl rfl (q_lde (off := 0) Y3 rfl rfl (fun w h => R0_2.now Z h) hr25.get (fun _ _ h => h) rfl) ?_
      refine o_q rfl rfl (q_asg rfl) ?_
      refine o_end ?_
      refine za1 ?_
      refine za0 ?_
      refine o_q rfl rfl (za2 rfl) ?_
      refine o_q rfl rfl (za2 rfl) ?_
      refine zau (p := Sh A5 l3.length l20.length) (fun w h => f_sh (dk := (Kd.int .i64)) h (fun w h => h.zaq (i := 0) rfl)) (fun hq34 => ?_)
      refine za8 h (fun y36 hg35 h => ?_) rfl
      refine o_q rfl rfl (q_ix Try.underlying25 Z3 rfl rfl hq34 hg35) ?_
      refine o_q rfl rfl (q_lde (off := 0) Y3 rfl rfl (fun w h => h.zaq (i := 0) rfl) hg35 (fun _ _ h => h) rfl) ?_
      refine o_q rfl rfl (q_add64 rfl rfl) ?_
      refine za8 h (fun y38 hg37 h => ?_) rfl
      refine o_q rfl rfl (q_ix Try.underlying25 Z3 rfl rfl hq34 hg37) ?_
      refine za8 h (fun l39 hs40 h => ?_) rfl
      refine o_e rfl (e_set (i := 0) rfl rfl rfl Z3 hs40) (fun _ => ?_)
      refine o_end ?_
      refine zan ?_
      refine za1 ?_
      refine za0 ?_
      refine o_q rfl rfl (q_up rfl rfl (hr25.up hm26)) ?_
      refine o_q rfl rfl (za2 rfl) ?_
      refine o_end ?_
      refine zak ys23.length (ys23, l39, i21 + 1) (by rw [← hk31]; exact Nat.lt_succ_self _) ⟨hr25.step, rfl, h⟩ ⟨rfl, trivial⟩ (fun w h => za7 [0, 1] (by decide) rfl w h) ?_
      repeat (first | exact zad _ _ | refine zaf rfl ?_ | refine zae rfl ?_ | refine zah rfl ?_)
  · skip
    clear hl16
    have hr13 := hJ_.1; have hk19 := hJ_.2.1; have h := hJ_.2.2; clear hJ_
    replace h : spec_duUses.l0 (y10 :: ys11) l8 i9 = some o17 := h
    rw [spec_duUses.l0] at h
    refine c_seq ?_
    refine za0 ?_
    refine o_q rfl rfl (q_lss rfl rfl) ?_
    refine o_end ?_
    refine za1 ?_
    refine c_seq ?_
    refine zb2 (congrArg Value.bool hr13.lt) ?_
    refine zam ?_
    refine za1 ?_
    refine c_seq ?_
    refine zaj ?_
    refine c_seq ?_
    refine za0 ?_
    refine zau (p := Sh A0_1 l0_1.length l0_1.length) (fun w h => f_sh (dk := kStep) h (fun w h => R0_1.now Z h)) (fun hq41 => ?_)
    refine o_q rfl rfl (q_ix Try.underlying24 Z89 rfl rfl hq41 hr13.get) ?_
    refine o_q rfl rfl (q_ldE G89 Z89 rfl rfl (fun w h => R0_1.now Z h) hr13.get (fun _ _ h => h) rfl) ?_
    refine o_e rfl (zav V89 rfl) (fun g42 => ?_)
    refine o_e rfl (zal (i := 0) rfl rfl rfl Z89 rfl rfl) (fun _ => ?_)
    refine o_end ?_
    refine za1 ?_
    refine c_seq ?_
    refine za0 ?_
    refine o_q rfl rfl (za2 rfl) ?_
    refine o_q rfl rfl (q_f F89_0 rfl) ?_
    refine o_q rfl rfl (q_ldb Y3 rfl (fun w h => h.zab (i := 0) rfl) rfl) ?_
    refine zau (p := Sh A5 l3.length l8.length) (fun w h => f_sh (dk := (Kd.int .i64)) h (fun w h => h.zaq (i := 1) rfl)) (fun hq44 => ?_)
    refine za8 h (fun y46 hg45 h => ?_) rfl
    refine o_q rfl rfl (q_ix Try.underlying25 Z3 rfl rfl hq44 hg45) ?_
    refine o_q rfl rfl (q_lde (off := 0) Y3 rfl rfl (fun w h => h.zaq (i := 1) rfl) hg45 (fun _ _ h => h) rfl) ?_
    refine o_q rfl rfl (q_add64 rfl rfl) ?_
    refine za8 h (fun y48 hg47 h => ?_) rfl
    refine o_q rfl rfl (q_ix Try.underlying25 Z3 rfl rfl hq44 hg47) ?_
    refine za8 h (fun l49 hs50 h => ?_) rfl
    refine o_e rfl (e_set (i := 1) rfl rfl rfl Z3 hs50) (fun _ => ?_)
    refine o_end ?_
    refine za1 ?_
    refine za0 ?_
    refine o_q rfl rfl (za2 rfl) ?_
    refine o_q rfl rfl (q_f F89_1 rfl) ?_
    refine o_q rfl rfl (q_ldb Y3 rfl (fun w h => h.zab (i := 0) rfl) rfl) ?_
    refine zau (p := Sh A5 l3.length l49.length) (fun w h => f_sh (dk := (Kd.int .i64)) h (fun w h => h.zaq (i := 1) rfl)) (fun hq51 => ?_)
    refine za8 h (fun y53 hg52 h => ?_) rfl
    refine o_q rfl rfl (q_ix Try.underlying25 Z3 rfl rfl hq51 hg52) ?_
    refine o_q rfl rfl (q_lde (off := 0) Y3 rfl rfl (fun w h => h.zaq (i := 1) rfl) hg52 (fun _ _ h => h) rfl) ?_
    refine o_q rfl rfl (q_add64 rfl rfl) ?_
    refine za8 h (fun y55 hg54 h => ?_) rfl
    refine o_q rfl rfl (q_ix Try.underlying25 Z3 rfl rfl hq51 hg54) ?_
    refine za8 h (fun l56 hs57 h => ?_) rfl
    refine o_e rfl (e_set (i := 1) rfl rfl rfl Z3 hs57) (fun _ => ?_)
    refine o_end ?_
    refine zan ?_
    refine za1 ?_
    refine za0 ?_
    refine o_q rfl rfl (q_up rfl rfl (hr13.up hm14)) ?_
    refine o_q rfl rfl (za2 rfl) ?_
    refine o_end ?_
    refine zak ys11.length (ys11, l56, i9 + 1) (by rw [← hk19]; exact Nat.lt_succ_self _) ⟨hr13.step, rfl, h⟩ ⟨rfl, trivial⟩ (fun w h => za7 [1, 2] (by decide) rfl w h) ?_
    repeat (first | exact zad _ _ | refine zaf rfl ?_ | refine zae rfl ?_ | refine zah rfl ?_)

/-! ### (*loop.example/g01098/spec.l1Cur).turnable: function 149 -/
def spec_l1Cur_turnable.l0 : (List Int) → (List Int) → Int → Option (List Int)
  | [], l775, i778 => some l775
  | y779 :: ys780, l775, i778 => (if y779 = 0 then (some (decide ((l775.length : Int) < 6))) else (some false)).bind fun b791 => if b791 = true then ((ap l775 ([i778] : List Int)).bind fun l802 => spec_l1Cur_turnable.l0 ys780 l802 (i778 + 1)) else (spec_l1Cur_turnable.l0 ys780 l775 (i778 + 1))
def spec_l1Cur_turnable.f (k : Nat) (l0_0 : List Int) (a0_1 : Int) (a0_2 : Int) : Option (Int × (List SStep) × (List Int) × Int × Int) := (spec_l1Cur_anyPlan.f k l0_0 a0_1 a0_2 3 7).bind fun (i4, l5, l6, i7, i8) => ((spec_plGood.f k i4 l5 l6).bind fun b31 => if b31 = true then ((spec_l1Cur_one.f l0_0 i7 i8 4).bind fun (b34, i35, i36) => some (b34, i35, i36)) else (some (true, i7, i8))).bind fun (b22, i23, i24) => if b22 = true then (some (i4, l5, l6, i23, i24)) else (((spec_plUsed.f k i4 l5 l6).bind fun l532 => (spec_plKeep.f i4 l5 l6 l532).bind fun (l592, l593) => some (l592, l593)).bind fun (l399, l402) => (spec_duUses.f i4 l399 l402).bind fun l772 => (spec_l1Cur_turnable.l0 l772 l402 0).bind fun l775 => some (i4, l399, l775, i23, i24))
set_option maxHeartbeats 600000 in
set_option maxRecDepth 100000 in
theorem spec_l1Cur_turnable.calls (k : Nat) {w0 ws : World} {P0 : Nat → Prop} (g0 : Nat) (A0_0 : Option Addr) (c0_0 : Nat) (n0_0 : Nat) (l0_0 : List Int) (a0_1 : Int) (a0_2 : Int) (Z : Below w0.heap.size w0 ws) (hF : Fr w0 ws P0 [box g0 81 #[.slice A0_0 n0_0 c0_0, .int .i64 a0_1, .int .u64 a0_2]] ws) (R0_0 : Stable ws P0 (fun w => Kd.C (Kd.int .u8) w A0_0 n0_0 l0_0)) (hc0_0 : n0_0 ≤ c0_0) (r_1 : Int) (r_2 : List SStep) (r_5 : List Int) (r_8 : Int) (r_9 : Int) (h : spec_l1Cur_turnable.f k l0_0 a0_1 a0_2 = some (r_1, r_2, r_5, r_8, r_9)) :
    Calls Try.prog 149 #[.pointer (some ⟨g0, 0, none⟩)] ws (Post1 w0 ws P0 (fun ((q_3, q_4, q_6, q_7) : (Option Addr) × Nat × (Option Addr) × Nat) => .agg #[.int .i64 r_1, .slice q_3 r_2.length q_4, .slice q_6 r_5.length q_7]) (fun ((q_3, q_4, q_6, q_7) : (Option Addr) × Nat × (Option Addr) × Nat) => [row kStep 89 (.slice q_3 r_2.length q_4) r_2, row (Kd.int .i64) 3 (.slice q_6 r_5.length q_7) r_5, box g0 81 #[.slice A0_0 n0_0 c0_0, .int .i64 r_8, .int .u64 r_9]])) := by
  unfold spec_l1Cur_turnable.f at h
  obtain rfl := (R0_0 ws (KeptB.refl _ _)).1
  refine enter Try.func149 rfl Try.ntmps149 rfl hF ?_
  refine c_seq ?_
  refine za0 ?_
  refine o_e rfl (zav V27 rfl) (fun g1 => ?_)
  refine o_end ?_
  refine za1 ?_
  refine c_seq ?_
  refine za0 ?_
  refine o_q rfl rfl (za2 rfl) ?_
  refine o_pick [1, 0] (by decide) rfl ?_
  refine bindE5 h (fun i4 l5 l6 i7 i8 hx3 h => ?_) rfl
  refine o_e rfl (zac 1 Z Try.func84 N84 rfl rfl rfl (fun w P1 hF hB hS hT => spec_l1Cur_anyPlan.calls k g0 A0_0 c0_0 l0_0.length l0_0 a0_1 a0_2 3 7 hB hF (hS _ R0_0) hc0_0 _ _ _ _ _ hx3)) (cur4 (fun A9 c10 A11 c12 => ?_))
  refine o_e rfl (zav V27 rfl) (fun g13 => ?_)
  refine o_e rfl (zal (i := 0) rfl rfl rfl Z27 rfl rfl) (fun _ => ?_)
  refine o_end ?_
  refine za1 ?_
  refine c_seq ?_
  refine za8 h (fun o25 hl26 hR27 => ?_) rfl
  clear h
  refine c_cutJ (σ := Bool × Int × Int) (fun (b22, i23, i24) => some (b22, i23, i24) = some o25) [8, 9, 10, 11, 12, 13, 14] (fun (b22, i23, i24) => [(14, .bool b22)]) (fun (b22, i23, i24) => [box g1 27 #[.int .i64 0, .slice none 0 0, .slice none 0 0], box g13 27 #[.int .i64 i4, .slice A9 l5.length c10, .slice A11 l6.length c12], row kStep 89 (.slice A9 l5.length c10) l5, row (Kd.int .i64) 3 (.slice A11 l6.length c12) l6, box g0 81 #[.slice A0_0 l0_0.length c0_0, .int .i64 i23, .int .u64 i24]]) ?_ ?_
  · skip
    have h := hl26; clear hl26
    clear hR27
    refine za0 ?_
    refine o_q rfl rfl (q_ldB G27 Z27 rfl (fun w h => h.zab (i := 0) rfl) rfl) ?_
    refine za8 h (fun b31 hx30 h => ?_) rfl
    refine o_e rfl (zac 0 Z Try.func93 N93 rfl rfl rfl (fun w P1 hF hB hS hT => spec_plGood.calls k i4 A9 c10 l5.length l5 A11 c12 l6.length l6 hB hF (hT 1 _ rfl).row (hT 1 _ rfl).cap (hT 2 _ rfl).row (hT 2 _ rfl).cap _ hx30)) (fun _ => ?_)
    refine o_q rfl rfl (q_not rfl) ?_
    refine o_q rfl rfl (za2 rfl) ?_
    refine byB b31 (fun hb32 => ?_) (fun hb32 => ?_)
    · replace h := bb_t hb32 h
      refine o_w (za4 rfl rfl rfl (congrArg (fun b => Value.bool (!(b))) hb32)) rfl (za2 rfl) ?_
      refine o_pick [3, 0, 1, 2, 4] (by decide) rfl ?_
      refine bindE3 h (fun b34 i35 i36 hx33 h => ?_) rfl
      refine o_ew (za4 rfl rfl rfl (congrArg (fun b => Value.bool (!(b))) hb32)) (zac 1 Z Try.func117 N117 rfl rfl rfl (fun w P1 hF hB hS hT => spec_l1Cur_one.calls g0 A0_0 c0_0 l0_0.length l0_0 i7 i8 4 hB hF (hS _ R0_0) hc0_0 _ _ _ hx33)) (fun _ => ?_)
      refine o_q rfl rfl (zas false (congrArg (fun b => Value.bool (!(b))) hb32) rfl) ?_
      refine o_end ?_
      refine zb0 (b34, i35, i36) h ⟨rfl, trivial⟩ (fun w h => za7 [4, 1, 2, 3, 0] (by decide) rfl w h) ?_
      repeat (first | exact zad _ _ | refine zaf rfl ?_ | refine zae rfl ?_ | refine zah rfl ?_)
    · replace h := bb_f hb32 h
      refine @o_n _ _ _ _ _ _ _ _ _ _ _ 12 (za3 rfl rfl rfl (congrArg (fun b => Value.bool (!(b))) hb32) rfl) (Eq.refl (some 12)) ?_
      refine @o_n _ _ _ _ _ _ _ _ _ _ _ 13 (za3 rfl rfl rfl (congrArg (fun b => Value.bool (!(b))) hb32) rfl) (Eq.refl (some 13)) ?_
      refine o_q rfl rfl (zas true (congrArg (fun b => Value.bool (!(b))) hb32) rfl) ?_
      refine o_end ?_
      refine zb0 (true, i7, i8) h ⟨rfl, trivial⟩ (fun w h => za7 [4, 0, 1, 2, 3] (by decide) rfl w h) ?_
      repeat (first | exact zad _ _ | refine zaf rfl ?_ | refine zae rfl ?_ | refine zah rfl ?_)
  · skip
    refine (cur3 (fun b22 i23 i24 => fun U28 hJ29 => ?_))
    have e_ := Option.some.inj hJ29; have h := hR27; rw [← e_] at h; clear e_ hJ29 hR27 hl26
    refine zar _ rfl (fun hb37 => ?_) (fun hb37 => ?_)
    · skip
      replace h := bb_t hb37 h
      refine c_seq ?_
      refine za0 ?_
      refine o_q rfl rfl (q_ldB G27 Z27 rfl (fun w h => h.zab (i := 1) rfl) rfl) ?_
      refine o_e rfl (zal (i := 0) rfl rfl rfl Z27 rfl rfl) (fun _ => ?_)
      refine o_end ?_
      refine za1 ?_
      refine c_ret ?_
      refine zaa ?_
      have e0_ := Option.some.inj h; clear h
      have d0_ := (Prod.mk.inj e0_).1; have e1_ := (Prod.mk.inj e0_).2; clear e0_; subst d0_
      have d1_ := (Prod.mk.inj e1_).1; have e2_ := (Prod.mk.inj e1_).2; clear e1_; subst d1_
      have d2_ := (Prod.mk.inj e2_).1; have e3_ := (Prod.mk.inj e2_).2; clear e2_; subst d2_
      have d3_ := (Prod.mk.inj e3_).1; have e4_ := (Prod.mk.inj e3_).2; clear e3_; subst d3_
      subst e4_
      exact x_r1 (A9, c10, A11, c12) Try.results149 (rv_cell rfl G27 Z27 (fun w h => h.zab (i := 0) rfl) rfl) rfl (fun w h => za7 [2, 3, 4] (by decide) rfl w h)
    · skip
      replace h := bb_f hb37 h
      refine zam ?_
      refine za1 ?_
      refine za8 h (fun o405 hl406 hR407 => ?_) rfl
      clear h
      refine c_cutJ (σ := (List SStep) × (List Int) × (Option Addr) × Nat × (Option Addr) × Nat) (fun (l399, l402, A400, c401, A403, c404) => some (l399, l402) = some o405) [16, 17, 18, 19] (fun (l399, l402, A400, c401, A403, c404) => []) (fun (l399, l402, A400, c401, A403, c404) => [box g1 27 #[.int .i64 0, .slice none 0 0, .slice none 0 0], box g13 27 #[.int .i64 i4, .slice A400 l399.length c401, .slice A403 l402.length c404], row kStep 89 (.slice A400 l399.length c401) l399, row (Kd.int .i64) 3 (.slice A403 l402.length c404) l402, row kStep 89 (.slice A9 l5.length c10) l5, row (Kd.int .i64) 3 (.slice A11 l6.length c12) l6, box g0 81 #[.slice A0_0 l0_0.length c0_0, .int .i64 i23, .int .u64 i24]]) ?_ ?_
      · skip
        have h := hl406; clear hl406
        clear hR407
        refine za8 h (fun l532 hx531 h => ?_) rfl
        refine bindE2 h (fun l592 l593 hx591 h => ?_) rfl
        refine a_startS (ds := []) [some 0, none, some 2, some 3, some 4] MO rfl ?_
        refine a_two 0 1 rfl rfl rfl rfl (by kernel_rfl) rfl rfl (ev_q rfl (q_ldB G27 Z27 rfl (fun w h => h.zab (i := 1) rfl) rfl)) (fun s w h => za9 [some 0, none, some 2, some 3, some 4] (by decide) w h rfl) (ev_q rfl (q_ldB G27 Z27 rfl (fun w h => h.zab (i := 1) rfl) rfl)) (fun s w h => za9 [some 0, none, some 2, some 3, some 4] (by decide) w h rfl) (fun _ => ?_) (fun _ => ?_)
        · skip
          refine a_one 1 rfl rfl (by kernel_rfl) rfl (ev_q rfl (q_ldB G27 Z27 rfl (fun w h => h.zab (i := 1) rfl) rfl)) (fun s w h => za9 [some 0, none, some 2, some 3, some 4] (by decide) w h rfl) (fun _ => ?_)
          refine a_one 2 rfl rfl (by kernel_rfl) rfl (zac 0 Z Try.func112 N112 rfl rfl rfl (fun w P1 hF hB hS hT => spec_plUsed.calls k i4 A9 c10 l5.length l5 A11 c12 l6.length l6 hB hF (hT 2 _ rfl).row (hT 2 _ rfl).cap (hT 3 _ rfl).row (hT 3 _ rfl).cap _ hx531)) (fun s w h => za9 [some 1, none, some 3, some 4, some 5] (by decide) w h rfl) (cur2 (fun A533 c534 => ?_))
          refine a_one 3 rfl rfl (by kernel_rfl) rfl (zac 0 Z Try.func111 N111 rfl rfl rfl (fun w P1 hF hB hS hT => spec_plKeep.calls i4 A9 c10 l5.length l5 A11 c12 l6.length l6 A533 c534 l532.length l532 hB hF (hT 3 _ rfl).row (hT 3 _ rfl).cap (hT 4 _ rfl).row (hT 4 _ rfl).cap (hT 0 _ rfl).row (hT 0 _ rfl).cap _ _ hx591)) (fun s w h => za9 [some 3, none, some 5, some 6, some 7] (by decide) w h rfl) (cur4 (fun A594 c595 A596 c597 => ?_))
          refine a_one 4 rfl rfl (by kernel_rfl) rfl (zal (i := 4) rfl rfl rfl Z27 rfl rfl) (fun s w h => za9 [some 3, none, some 5, some 6, some 7] (by decide) w h rfl) (fun _ => ?_)
          refine zaz (by kernel_rfl) ?_
          refine zb0 (l592, l593, A594, c595, A596, c597) h trivial (fun w h => za7 [3, 4, 0, 1, 5, 6, 7] (by decide) rfl w h) ?_
          repeat (first | exact zad _ _ | refine zaf rfl ?_ | refine zae rfl ?_ | refine zah rfl ?_)
        · skip
          refine a_two 0 2 rfl rfl rfl rfl (by kernel_rfl) rfl rfl (ev_q rfl (q_ldB G27 Z27 rfl (fun w h => h.zab (i := 1) rfl) rfl)) (fun s w h => za9 [some 0, none, some 2, some 3, some 4] (by decide) w h rfl) (zac 0 Z Try.func112 N112 rfl rfl rfl (fun w P1 hF hB hS hT => spec_plUsed.calls k i4 A9 c10 l5.length l5 A11 c12 l6.length l6 hB hF (hT 2 _ rfl).row (hT 2 _ rfl).cap (hT 3 _ rfl).row (hT 3 _ rfl).cap _ hx531)) (fun s w h => za9 [some 1, none, some 3, some 4, some 5] (by decide) w h rfl) (fun _ => ?_) (cur2 (fun A533 c534 => ?_))
          · skip
            refine a_one 2 rfl rfl (by kernel_rfl) rfl (zac 0 Z Try.func112 N112 rfl rfl rfl (fun w P1 hF hB hS hT => spec_plUsed.calls k i4 A9 c10 l5.length l5 A11 c12 l6.length l6 hB hF (hT 2 _ rfl).row (hT 2 _ rfl).cap (hT 3 _ rfl).row (hT 3 _ rfl).cap _ hx531)) (fun s w h => za9 [some 1, none, some 3, some 4, some 5] (by decide) w h rfl) (cur2 (fun A533 c534 => ?_))
            refine a_one 3 rfl rfl (by kernel_rfl) rfl (zac 0 Z Try.func111 N111 rfl rfl rfl (fun w P1 hF hB hS hT => spec_plKeep.calls i4 A9 c10 l5.length l5 A11 c12 l6.length l6 A533 c534 l532.length l532 hB hF (hT 3 _ rfl).row (hT 3 _ rfl).cap (hT 4 _ rfl).row (hT 4 _ rfl).cap (hT 0 _ rfl).row (hT 0 _ rfl).cap _ _ hx591)) (fun s w h => za9 [some 3, none, some 5, some 6, some 7] (by decide) w h rfl) (cur4 (fun A594 c595 A596 c597 => ?_))
            refine a_one 4 rfl rfl (by kernel_rfl) rfl (zal (i := 4) rfl rfl rfl Z27 rfl rfl) (fun s w h => za9 [some 3, none, some 5, some 6, some 7] (by decide) w h rfl) (fun _ => ?_)
            refine zaz (by kernel_rfl) ?_
            refine zb0 (l592, l593, A594, c595, A596, c597) h trivial (fun w h => za7 [3, 4, 0, 1, 5, 6, 7] (by decide) rfl w h) ?_
            repeat (first | exact zad _ _ | refine zaf rfl ?_ | refine zae rfl ?_ | refine zah rfl ?_)
          · skip
            refine a_one 0 rfl rfl (by kernel_rfl) rfl (ev_q rfl (q_ldB G27 Z27 rfl (fun w h => h.zab (i := 2) rfl) rfl)) (fun s w h => za9 [some 1, none, some 3, some 4, some 5] (by decide) w h rfl) (fun _ => ?_)
            refine a_one 3 rfl rfl (by kernel_rfl) rfl (zac 0 Z Try.func111 N111 rfl rfl rfl (fun w P1 hF hB hS hT => spec_plKeep.calls i4 A9 c10 l5.length l5 A11 c12 l6.length l6 A533 c534 l532.length l532 hB hF (hT 3 _ rfl).row (hT 3 _ rfl).cap (hT 4 _ rfl).row (hT 4 _ rfl).cap (hT 0 _ rfl).row (hT 0 _ rfl).cap _ _ hx591)) (fun s w h => za9 [some 3, none, some 5, some 6, some 7] (by decide) w h rfl) (cur4 (fun A594 c595 A596 c597 => ?_))
            refine a_one 4 rfl rfl (by kernel_rfl) rfl (zal (i := 4) rfl rfl rfl Z27 rfl rfl) (fun s w h => za9 [some 3, none, some 5, some 6, some 7] (by decide) w h rfl) (fun _ => ?_)
            refine zaz (by kernel_rfl) ?_
            refine zb0 (l592, l593, A594, c595, A596, c597) h trivial (fun w h => za7 [3, 4, 0, 1, 5, 6, 7] (by decide) rfl w h) ?_
            repeat (first | exact zad _ _ | refine zaf rfl ?_ | refine zae rfl ?_ | refine zah rfl ?_)
      · skip
        refine (cur6 (fun l399 l402 A400 c401 A403 c404 => fun U408 hJ409 => ?_))
        have e_ := Option.some.inj hJ409; have h := hR407; rw [← e_] at h; clear e_ hJ409 hR407 hl406
        refine c_seq ?_
        refine c_seq ?_
        refine za0 ?_
        refine o_q rfl rfl (q_ldB G27 Z27 rfl (fun w h => h.zab (i := 1) rfl) rfl) ?_
        refine za8 h (fun l772 hx771 h => ?_) rfl
        refine o_e rfl (zac 0 Z Try.func209 N209 rfl rfl rfl (fun w P1 hF hB hS hT => spec_duUses.calls i4 A400 c401 l399.length l399 A403 c404 l402.length l402 hB hF (hT 2 _ rfl).row (hT 2 _ rfl).cap (hT 3 _ rfl).row (hT 3 _ rfl).cap _ hx771)) (cur2 (fun A773 c774 => ?_))
        refine o_q rfl rfl (q_len Try.underlying25 rfl) ?_
        refine o_q rfl rfl (za2 rfl) ?_
        refine o_end ?_
        refine za1 ?_
        refine zaj ?_
        refine za8 h (fun o786 hl785 hR784 => ?_) rfl
        clear h
        refine c_fact (p := l772.length ≤ 9223372036854775807) (fun w h => (h.zaq (i := 0) rfl).2.1) (fun hm783 => ?_)
        refine zax (σ := (List Int) × (List Int) × Int × (Option Addr) × Nat) (fun k781 ((ys780, l775, i778, A776, c777) : (List Int) × (List Int) × Int × (Option Addr) × Nat) => Rg l772 i778 ys780 ∧ ys780.length = k781 ∧ spec_l1Cur_turnable.l0 ys780 l775 i778 = some o786) [4, 5, 23, 24, 25, 26, 27, 28, 29, 30, 31, 32, 33, 34, 35, 36, 37, 38, 39, 40, 41, 42] (fun ((ys780, l775, i778, A776, c777) : (List Int) × (List Int) × Int × (Option Addr) × Nat) => [(23, .int .i64 i778)]) (fun ((ys780, l775, i778, A776, c777) : (List Int) × (List Int) × Int × (Option Addr) × Nat) => [row (Kd.int .i64) 3 (.slice A773 l772.length c774) l772, box g1 27 #[.int .i64 0, .slice none 0 0, .slice none 0 0], box g13 27 #[.int .i64 i4, .slice A400 l399.length c401, .slice A776 l775.length c777], row kStep 89 (.slice A400 l399.length c401) l399, row (Kd.int .i64) 3 (.slice A776 l775.length c777) l775, row kStep 89 (.slice A9 l5.length c10) l5, row (Kd.int .i64) 3 (.slice A11 l6.length c12) l6, box g0 81 #[.slice A0_0 l0_0.length c0_0, .int .i64 i23, .int .u64 i24]]) l772.length (l772, l402, 0, A403, c404) ⟨Rg.start _, rfl, hl785⟩ ⟨rfl, trivial⟩ (fun w h => h) ?_
        refine fun k781 => cur5 (listC (fun l775 i778 A776 c777 U787 hJ_ => ?_) (fun y779 ys780 l775 i778 A776 c777 U787 hJ_ => ?_))
        · skip
          clear hl785
          have hr782 := hJ_.1; have hk788 := hJ_.2.1; have h := hJ_.2.2; clear hJ_
          replace h : spec_l1Cur_turnable.l0 [] l775 i778 = some o786 := h
          rw [spec_l1Cur_turnable.l0] at h
          refine c_seq ?_
          refine za0 ?_
          refine o_q rfl rfl (q_lss rfl rfl) ?_
          refine o_end ?_
          refine za1 ?_
          refine c_seq ?_
          refine zb3 (congrArg Value.bool hr782.ge) ?_
          refine zb6 ?_
          refine za6 ?_
          refine za6 ?_
          have e_ := Option.some.inj h; replace h := hR784; rw [← e_] at h; clear e_
          refine x_hit ?_
          refine za1 ?_
          refine c_seq ?_
          refine za0 ?_
          refine o_q rfl rfl (q_ldB G27 Z27 rfl (fun w h => h.zab (i := 2) rfl) rfl) ?_
          refine o_e rfl (zal (i := 1) rfl rfl rfl Z27 rfl rfl) (fun _ => ?_)
          refine o_end ?_
          refine za1 ?_
          refine c_ret ?_
          have e0_ := Option.some.inj h; clear h
          have d0_ := (Prod.mk.inj e0_).1; have e1_ := (Prod.mk.inj e0_).2; clear e0_; subst d0_
          have d1_ := (Prod.mk.inj e1_).1; have e2_ := (Prod.mk.inj e1_).2; clear e1_; subst d1_
          have d2_ := (Prod.mk.inj e2_).1; have e3_ := (Prod.mk.inj e2_).2; clear e2_; subst d2_
          have d3_ := (Prod.mk.inj e3_).1; have e4_ := (Prod.mk.inj e3_).2; clear e3_; subst d3_
          subst e4_
          exact x_r1 (A400, c401, A776, c777) Try.results149 (rv_cell rfl G27 Z27 (fun w h => h.zab (i := 1) rfl) rfl) rfl (fun w h => za7 [3, 4, 7] (by decide) rfl w h)
        · skip
          clear hl785
          have hr782 := hJ_.1; have hk788 := hJ_.2.1; have h := hJ_.2.2; clear hJ_
          replace h : spec_l1Cur_turnable.l0 (y779 :: ys780) l775 i778 = some o786 := h
          rw [spec_l1Cur_turnable.l0] at h
          refine c_seq ?_
          refine za0 ?_
          refine o_q rfl rfl (q_lss rfl rfl) ?_
          refine o_end ?_
          refine za1 ?_
          refine c_seq ?_
          refine zb2 (congrArg Value.bool hr782.lt) ?_
          refine zam ?_
          refine za1 ?_
          refine c_seq ?_
          refine zaj ?_
          refine c_seq ?_
          refine za0 ?_
          refine o_q rfl rfl (za2 rfl) ?_
          refine zau (p := Sh A773 l772.length l772.length) (fun w h => f_sh (dk := (Kd.int .i64)) h (fun w h => h.zaq (i := 0) rfl)) (fun hq789 => ?_)
          refine o_q rfl rfl (q_ix Try.underlying25 Z3 rfl rfl hq789 hr782.get) ?_
          refine o_q rfl rfl (q_lde (off := 0) Y3 rfl rfl (fun w h => h.zaq (i := 0) rfl) hr782.get (fun _ _ h => h) rfl) ?_
          refine o_q rfl rfl (q_asg rfl) ?_
          refine o_q rfl rfl (q_asg rfl) ?_
          refine o_end ?_
          refine za1 ?_
          refine za8 h (fun o792 hl793 hR794 => ?_) rfl
          clear h
          refine c_cutJ (σ := Bool) (fun b791 => some b791 = some o792) [28, 29, 30, 31, 32, 33, 34, 35] (fun b791 => [(35, .bool b791)]) (fun b791 => [box g1 27 #[.int .i64 0, .slice none 0 0, .slice none 0 0], box g13 27 #[.int .i64 i4, .slice A400 l399.length c401, .slice A776 l775.length c777], row kStep 89 (.slice A400 l399.length c401) l399, row (Kd.int .i64) 3 (.slice A776 l775.length c777) l775, row (Kd.int .i64) 3 (.slice A773 l772.length c774) l772, row kStep 89 (.slice A9 l5.length c10) l5, row (Kd.int .i64) 3 (.slice A11 l6.length c12) l6, box g0 81 #[.slice A0_0 l0_0.length c0_0, .int .i64 i23, .int .u64 i24]]) ?_ ?_
          · skip
            have h := hl793; clear hl793
            clear hR794
            refine za0 ?_
            refine o_q rfl rfl (za2 rfl) ?_
            refine o_q rfl rfl (q_eql rfl rfl) ?_
            refine o_q rfl rfl (za2 rfl) ?_
            refine byB (decide (y779 = 0)) (fun hb797 => ?_) (fun hb797 => ?_)
            · replace h := br_t hb797 h
              refine o_w (za4 rfl rfl rfl (congrArg Value.bool hb797)) rfl (q_f F27_2 rfl) ?_
              refine o_w (za4 rfl rfl rfl (congrArg Value.bool hb797)) rfl (q_ldb Y25 rfl (fun w h => h.zab (i := 2) rfl) rfl) ?_
              refine o_w (za4 rfl rfl rfl (congrArg Value.bool hb797)) rfl (q_len Try.underlying25 rfl) ?_
              refine o_w (za4 rfl rfl rfl (congrArg Value.bool hb797)) rfl (q_lss rfl rfl) ?_
              refine o_q rfl rfl (zas true (congrArg Value.bool hb797) rfl) ?_
              refine o_end ?_
              refine zb0 (decide ((l775.length : Int) < 6)) h ⟨rfl, trivial⟩ (fun w h => za7 [1, 2, 3, 4, 0, 5, 6, 7] (by decide) rfl w h) ?_
              repeat (first | exact zad _ _ | refine zaf rfl ?_ | refine zae rfl ?_ | refine zah rfl ?_)
            · replace h := br_f hb797 h
              refine @o_n _ _ _ _ _ _ _ _ _ _ _ 31 (za3 rfl rfl rfl (congrArg Value.bool hb797) rfl) (Eq.refl (some 31)) ?_
              refine @o_n _ _ _ _ _ _ _ _ _ _ _ 32 (za3 rfl rfl rfl (congrArg Value.bool hb797) rfl) (Eq.refl (some 32)) ?_
              refine @o_n _ _ _ _ _ _ _ _ _ _ _ 33 (za3 rfl rfl rfl (congrArg Value.bool hb797) rfl) (Eq.refl (some 33)) ?_
              refine @o_n _ _ _ _ _ _ _ _ _ _ _ 34 (za3 rfl rfl rfl (congrArg Value.bool hb797) rfl) (Eq.refl (some 34)) ?_
              refine o_q rfl rfl (zas false (congrArg Value.bool hb797) rfl) ?_
              refine o_end ?_
              refine zb0 false h ⟨rfl, trivial⟩ (fun w h => za7 [1, 2, 3, 4, 0, 5, 6, 7] (by decide) rfl w h) ?_
              repeat (first | exact zad _ _ | refine zaf rfl ?_ | refine zae rfl ?_ | refine zah rfl ?_)
          · skip
            refine (fun b791 => fun U795 hJ796 => ?_)
            have e_ := Option.some.inj hJ796; have h := hR794; rw [← e_] at h; clear e_ hJ796 hR794 hl793
            refine zar _ rfl (fun hb798 => ?_) (fun hb798 => ?_)
            · skip
              replace h := bb_t hb798 h
              refine za0 ?_
              refine o_q rfl rfl (q_f F27_2 rfl) ?_
              refine o_q rfl rfl (q_ldb Y25 rfl (fun w h => h.zab (i := 1) rfl) rfl) ?_
              refine o_q rfl rfl (za2 rfl) ?_
              refine o_e rfl (e_lit (vs := [(0, .int .i64 i778)]) (cs := [.int .i64 i778]) (Kd.int .i64) ([i778] : List Int) Try.underlying25 I3 (by decide) rfl (by decide) rfl rfl (fun _ _ => Kd.zat _)) (cur2 (fun A799 c800 => ?_))
              refine za8 h (fun l802 ha803 h => ?_) rfl
              refine o_e rfl (e_app (i := 4) (j := 0) Try.underlying25 I3 rfl (by decide) (by decide) rfl rfl rfl rfl rfl ha803) (cur2 (fun A804 c805 => ?_))
              refine o_q rfl rfl (q_f F27_2 rfl) ?_
              refine o_e rfl (zb4 (i := 2) rfl rfl rfl rfl Z25 rfl rfl) (fun _ => ?_)
              refine o_end ?_
              refine zan ?_
              refine za1 ?_
              refine za0 ?_
              refine o_q rfl rfl (q_up rfl rfl (hr782.up hm783)) ?_
              refine o_q rfl rfl (za2 rfl) ?_
              refine o_end ?_
              refine zak ys780.length (ys780, l802, i778 + 1, A804, c805) (by rw [← hk788]; exact Nat.lt_succ_self _) ⟨hr782.step, rfl, h⟩ ⟨rfl, trivial⟩ (fun w h => za7 [5, 1, 2, 3, 4, 6, 7, 8] (by decide) rfl w h) ?_
              repeat (first | exact zad _ _ | refine zaf rfl ?_ | refine zae rfl ?_ | refine zah rfl ?_)
            · skip
              replace h := bb_f hb798 h
              refine zam ?_
              refine zan ?_
              refine za1 ?_
              refine za0 ?_
              refine o_q rfl rfl (q_up rfl rfl (hr782.up hm783)) ?_
              refine o_q rfl rfl (za2 rfl) ?_
              refine o_end ?_
              refine zak ys780.length (ys780, l775, i778 + 1, A776, c777) (by rw [← hk788]; exact Nat.lt_succ_self _) ⟨hr782.step, rfl, h⟩ ⟨rfl, trivial⟩ (fun w h => za7 [4, 0, 1, 2, 3, 5, 6, 7] (by decide) rfl w h) ?_
              repeat (first | exact zad _ _ | refine zaf rfl ?_ | refine zae rfl ?_ | refine zah rfl ?_)

/-! ### loop.example/g01098/spec.DrawTurnedCost: function 61 -/
def spec_DrawTurnedCost.f (k : Nat) (l0 : List Int) : Option (Int × (List SStep) × (List Int)) := (spec_l1Cur_turnable.f k l0 0 0).bind fun (i6, l7, l8, i9, i10) => some (i6, l7, l8)
set_option maxHeartbeats 600000 in
set_option maxRecDepth 100000 in
theorem spec_DrawTurnedCost.calls (k : Nat) {w0 ws : World} {P0 : Nat → Prop} (A0 : Option Addr) (c0 : Nat) (n0 : Nat) (l0 : List Int) (Z : Below w0.heap.size w0 ws) (hF : Fr w0 ws P0 [] ws) (R0 : Stable ws P0 (fun w => Kd.C (Kd.int .u8) w A0 n0 l0)) (hc0 : n0 ≤ c0) (r_1 : Int) (r_2 : List SStep) (r_5 : List Int) (h : spec_DrawTurnedCost.f k l0 = some (r_1, r_2, r_5)) :
    Calls Try.prog 61 #[.slice A0 n0 c0] ws (Post1 w0 ws P0 (fun ((q_3, q_4, q_6, q_7) : (Option Addr) × Nat × (Option Addr) × Nat) => .agg #[.int .i64 r_1, .slice q_3 r_2.length q_4, .slice q_6 r_5.length q_7]) (fun ((q_3, q_4, q_6, q_7) : (Option Addr) × Nat × (Option Addr) × Nat) => [row kStep 89 (.slice q_3 r_2.length q_4) r_2, row (Kd.int .i64) 3 (.slice q_6 r_5.length q_7) r_5])) := by
  unfold spec_DrawTurnedCost.f at h
  obtain rfl := (R0 ws (KeptB.refl _ _)).1
  refine enter Try.func61 rfl Try.ntmps61 rfl hF ?_
  refine c_seq ?_
  refine za0 ?_
  refine o_e rfl (zav V27 rfl) (fun g1 => ?_)
  refine o_end ?_
  refine za1 ?_
  refine c_seq ?_
  refine za0 ?_
  refine o_q rfl rfl (za2 rfl) ?_
  refine o_q rfl rfl (q_build (vs := [(0, .slice A0 l0.length c0)]) (cs := [.slice A0 l0.length c0, .int .i64 0, .int .u64 0]) rfl rfl) ?_
  refine o_e rfl (e_box rfl) (fun g3 => ?_)
  refine o_q rfl rfl (q_asg rfl) ?_
  refine o_end ?_
  refine za1 ?_
  refine c_seq ?_
  refine za0 ?_
  refine o_q rfl rfl (za2 rfl) ?_
  refine bindE5 h (fun i6 l7 l8 i9 i10 hx5 h => ?_) rfl
  refine o_e rfl (zac 1 Z Try.func149 N149 rfl rfl rfl (fun w P1 hF hB hS hT => spec_l1Cur_turnable.calls k g3 A0 c0 l0.length l0 0 0 hB hF (hS _ R0) hc0 _ _ _ _ _ hx5)) (cur4 (fun A11 c12 A13 c14 => ?_))
  refine o_e rfl (zal (i := 3) rfl rfl rfl Z27 rfl rfl) (fun _ => ?_)
  refine o_end ?_
  refine za1 ?_
  refine c_ret ?_
  have e0_ := Option.some.inj h; clear h
  have d0_ := (Prod.mk.inj e0_).1; have e1_ := (Prod.mk.inj e0_).2; clear e0_; subst d0_
  have d1_ := (Prod.mk.inj e1_).1; have e2_ := (Prod.mk.inj e1_).2; clear e1_; subst d1_
  subst e2_
  exact x_r1 (A11, c12, A13, c14) Try.results61 (rv_cell rfl G27 Z27 (fun w h => h.zab (i := 3) rfl) rfl) rfl (fun w h => za7 [0, 1] (by decide) rfl w h)

/-! ### slices.Clone[[]loop.example/g01098/impl.Step,loop.example/g01098/impl.Step]: function 89 -/
def slices_Clone_impl_Step_impl_Step.f (l0 : List SStep) : Option (List SStep) := (ap ([] : List SStep) l0).bind fun l5 => some l5
set_option maxHeartbeats 600000 in
set_option maxRecDepth 100000 in
theorem slices_Clone_impl_Step_impl_Step.calls {w0 ws : World} {P0 : Nat → Prop} (A0 : Option Addr) (c0 : Nat) (n0 : Nat) (l0 : List SStep) (Z : Below w0.heap.size w0 ws) (hF : Fr w0 ws P0 [] ws) (R0 : Stable ws P0 (fun w => Kd.C kStep w A0 n0 l0)) (hc0 : n0 ≤ c0) (r_1 : List SStep) (h : slices_Clone_impl_Step_impl_Step.f l0 = some r_1) :
    Calls Try.prog 89 #[.slice A0 n0 c0] ws (Post1 w0 ws P0 (fun ((q_2, q_3) : (Option Addr) × Nat) => .slice q_2 r_1.length q_3) (fun ((q_2, q_3) : (Option Addr) × Nat) => [row kStep 89 (.slice q_2 r_1.length q_3) r_1])) := by
  unfold slices_Clone_impl_Step_impl_Step.f at h
  obtain rfl := (R0 ws (KeptB.refl _ _)).1
  refine enter Try.func89 rfl Try.ntmps89 rfl hF ?_
  refine c_seq ?_
  refine za0 ?_
  refine o_q rfl rfl (q_asg rfl) ?_
  refine o_end ?_
  refine za1 ?_
  refine c_seq ?_
  refine c_seq ?_
  refine za0 ?_
  refine o_q rfl rfl (za2 rfl) ?_
  refine o_q rfl rfl (q_snil Try.underlying24 rfl rfl) ?_
  refine o_end ?_
  refine za1 ?_
  refine zar _ rfl (fun hb1 => ?_) (fun hb1 => ?_)
  · skip
    have hl_ := nil_of hb1 (R0 ws (KeptB.refl _ _)); subst hl_
    replace h : some ([] : List SStep) = some r_1 := h
    refine c_seq ?_
    refine za0 ?_
    refine o_q rfl rfl (q_asg rfl) ?_
    refine o_end ?_
    refine za1 ?_
    refine c_ret ?_
    refine zaa ?_
    refine x_nil kStep 89 ?_
    have e0_ := Option.some.inj h; clear h
    subst e0_
    exact x_r1 (none, 0) Try.results89 (zai rfl) rfl (fun w h => za7 [0] (by decide) rfl w h)
  · skip
    refine zam ?_
    refine za1 ?_
    refine c_seq ?_
    refine za0 ?_
    refine o_e rfl (e_lit0 kStep Try.underlying24 I89) (cur2 (fun A2 c3 => ?_))
    refine o_q rfl rfl (za2 rfl) ?_
    refine za8 h (fun l5 ha6 h => ?_) rfl
    refine o_e rfl (e_appr (i := 0) Try.underlying24 I89 rfl (by decide) (by decide) (fun _ _ _ _ h => h) rfl (fun w h => R0.now Z h) rfl rfl ha6) (cur2 (fun A7 c8 => ?_))
    refine o_q rfl rfl (q_asg rfl) ?_
    refine o_end ?_
    refine za1 ?_
    refine c_ret ?_
    have e0_ := Option.some.inj h; clear h
    subst e0_
    exact x_r1 (A7, c8) Try.results89 (zai rfl) rfl (fun w h => za7 [0] (by decide) rfl w h)

/-! ### slices.Clone[[]int,int]: function 141 -/
def slices_Clone_int_int.f (l0 : List Int) : Option (List Int) := (ap ([] : List Int) l0).bind fun l5 => some l5
set_option maxHeartbeats 600000 in
set_option maxRecDepth 100000 in
theorem slices_Clone_int_int.calls {w0 ws : World} {P0 : Nat → Prop} (A0 : Option Addr) (c0 : Nat) (n0 : Nat) (l0 : List Int) (Z : Below w0.heap.size w0 ws) (hF : Fr w0 ws P0 [] ws) (R0 : Stable ws P0 (fun w => Kd.C (Kd.int .i64) w A0 n0 l0)) (hc0 : n0 ≤ c0) (r_1 : List Int) (h : slices_Clone_int_int.f l0 = some r_1) :
    Calls Try.prog 141 #[.slice A0 n0 c0] ws (Post1 w0 ws P0 (fun ((q_2, q_3) : (Option Addr) × Nat) => .slice q_2 r_1.length q_3) (fun ((q_2, q_3) : (Option Addr) × Nat) => [row (Kd.int .i64) 3 (.slice q_2 r_1.length q_3) r_1])) := by
  unfold slices_Clone_int_int.f at h
  obtain rfl := (R0 ws (KeptB.refl _ _)).1
  refine enter Try.func141 rfl Try.ntmps141 rfl hF ?_
  refine c_seq ?_
  refine za0 ?_
  refine o_q rfl rfl (q_asg rfl) ?_
  refine o_end ?_
  refine za1 ?_
  refine c_seq ?_
  refine c_seq ?_
  refine za0 ?_
  refine o_q rfl rfl (za2 rfl) ?_
  refine o_q rfl rfl (q_snil Try.underlying25 rfl rfl) ?_
  refine o_end ?_
  refine za1 ?_
  refine zar _ rfl (fun hb1 => ?_) (fun hb1 => ?_)
  · skip
    have hl_ := nil_of hb1 (R0 ws (KeptB.refl _ _)); subst hl_
    replace h : some ([] : List Int) = some r_1 := h
    refine c_seq ?_
    refine za0 ?_
    refine o_q rfl rfl (q_asg rfl) ?_
    refine o_end ?_
    refine za1 ?_
    refine c_ret ?_
    refine zaa ?_
    refine x_nil (Kd.int .i64) 3 ?_
    have e0_ := Option.some.inj h; clear h
    subst e0_
    exact x_r1 (none, 0) Try.results141 (zai rfl) rfl (fun w h => za7 [0] (by decide) rfl w h)
  · skip
    refine zam ?_
    refine za1 ?_
    refine c_seq ?_
    refine za0 ?_
    refine o_e rfl (e_lit0 (Kd.int .i64) Try.underlying25 I3) (cur2 (fun A2 c3 => ?_))
    refine o_q rfl rfl (za2 rfl) ?_
    refine za8 h (fun l5 ha6 h => ?_) rfl
    refine o_e rfl (e_appr (i := 0) Try.underlying25 I3 rfl (by decide) (by decide) (fun _ _ _ _ h => h) rfl (fun w h => R0.now Z h) rfl rfl ha6) (cur2 (fun A7 c8 => ?_))
    refine o_q rfl rfl (q_asg rfl) ?_
    refine o_end ?_
    refine za1 ?_
    refine c_ret ?_
    have e0_ := Option.some.inj h; clear h
    subst e0_
    exact x_r1 (A7, c8) Try.results141 (zai rfl) rfl (fun w h => za7 [0] (by decide) rfl w h)

/-! ### loop.example/g01098/impl.clonePlan: function 100 -/
def impl_clonePlan.f (a0_0 : Int) (l0_1 : List SStep) (l0_2 : List Int) : Option ((List SStep) × (List Int)) := (slices_Clone_impl_Step_impl_Step.f l0_1).bind fun l6 => (slices_Clone_int_int.f l0_2).bind fun l10 => some (l6, l10)
set_option maxHeartbeats 600000 in
set_option maxRecDepth 100000 in
theorem impl_clonePlan.calls {w0 ws : World} {P0 : Nat → Prop} (a0_0 : Int) (A0_1 : Option Addr) (c0_1 : Nat) (n0_1 : Nat) (l0_1 : List SStep) (A0_2 : Option Addr) (c0_2 : Nat) (n0_2 : Nat) (l0_2 : List Int) (Z : Below w0.heap.size w0 ws) (hF : Fr w0 ws P0 [] ws) (R0_1 : Stable ws P0 (fun w => Kd.C kStep w A0_1 n0_1 l0_1)) (hc0_1 : n0_1 ≤ c0_1) (R0_2 : Stable ws P0 (fun w => Kd.C (Kd.int .i64) w A0_2 n0_2 l0_2)) (hc0_2 : n0_2 ≤ c0_2) (r_1 : List SStep) (r_4 : List Int) (h : impl_clonePlan.f a0_0 l0_1 l0_2 = some (r_1, r_4)) :
    Calls Try.prog 100 #[.agg #[.int .i64 a0_0, .slice A0_1 n0_1 c0_1, .slice A0_2 n0_2 c0_2]] ws (Post1 w0 ws P0 (fun ((q_2, q_3, q_5, q_6) : (Option Addr) × Nat × (Option Addr) × Nat) => .agg #[.int .i64 a0_0, .slice q_2 r_1.length q_3, .slice q_5 r_4.length q_6]) (fun ((q_2, q_3, q_5, q_6) : (Option Addr) × Nat × (Option Addr) × Nat) => [row kStep 89 (.slice q_2 r_1.length q_3) r_1, row (Kd.int .i64) 3 (.slice q_5 r_4.length q_6) r_4])) := by
  unfold impl_clonePlan.f at h
  obtain rfl := (R0_1 ws (KeptB.refl _ _)).1
  obtain rfl := (R0_2 ws (KeptB.refl _ _)).1
  refine enter Try.func100 rfl Try.ntmps100 rfl hF ?_
  refine c_seq ?_
  refine za0 ?_
  refine o_e rfl (e_box rfl) (fun g1 => ?_)
  refine o_e rfl (zav V27 rfl) (fun g3 => ?_)
  refine o_end ?_
  refine za1 ?_
  refine c_seq ?_
  refine a_startS (ds := []) [none, some 1] MO rfl ?_
  refine za5 0 rfl rfl rfl (by kernel_rfl) (fun _ _ _ h => h) (q_f F27_0 rfl) ?_
  refine zay 1 rfl rfl rfl (by kernel_rfl) (fun _ _ _ h => h) (fun w h => za9 [none, some 1] (by decide) w h rfl) (q_ldb Y3 rfl (fun w h => h.zab (i := 1) rfl) rfl) ?_
  refine za5 2 rfl rfl rfl (by kernel_rfl) (fun _ _ _ h => h) (q_f F27_1 rfl) ?_
  refine zay 3 rfl rfl rfl (by kernel_rfl) (fun _ _ _ h => h) (fun w h => za9 [none, some 1] (by decide) w h rfl) (q_ldb Y24 rfl (fun w h => h.zab (i := 1) rfl) rfl) ?_
  refine za5 5 rfl rfl rfl (by kernel_rfl) (fun _ _ _ h => h) (q_f F27_2 rfl) ?_
  refine zay 6 rfl rfl rfl (by kernel_rfl) (fun _ _ _ h => h) (fun w h => za9 [none, some 1] (by decide) w h rfl) (q_ldb Y25 rfl (fun w h => h.zab (i := 1) rfl) rfl) ?_
  refine za8 h (fun l6 hx5 h => ?_) rfl
  refine a_one 4 rfl rfl (by kernel_rfl) rfl (zac 0 Z Try.func89 N89 rfl rfl rfl (fun w P1 hF hB hS hT => slices_Clone_impl_Step_impl_Step.calls A0_1 c0_1 l0_1.length l0_1 hB hF (hS _ R0_1) hc0_1 _ hx5)) (fun s w h => za9 [none, some 2] (by decide) w h rfl) (cur2 (fun A7 c8 => ?_))
  refine za8 h (fun l10 hx9 h => ?_) rfl
  refine a_one 7 rfl rfl (by kernel_rfl) rfl (zac 0 Z Try.func141 N141 rfl rfl rfl (fun w P1 hF hB hS hT => slices_Clone_int_int.calls A0_2 c0_2 l0_2.length l0_2 hB hF (hS _ R0_2) hc0_2 _ hx9)) (fun s w h => za9 [none, some 3] (by decide) w h rfl) (cur2 (fun A11 c12 => ?_))
  refine za5 8 rfl rfl rfl (by kernel_rfl) (fun _ _ _ h => h) (q_build (vs := [(0, .int .i64 a0_0), (1, .slice A7 l6.length c8), (2, .slice A11 l10.length c12)]) (cs := [.int .i64 a0_0, .slice A7 l6.length c8, .slice A11 l10.length c12]) rfl rfl) ?_
  refine a_one 9 rfl rfl (by kernel_rfl) rfl (zal (i := 2) rfl rfl rfl Z27 rfl rfl) (fun s w h => za9 [none, some 3] (by decide) w h rfl) (fun _ => ?_)
  refine zaz (by kernel_rfl) ?_
  refine za1 ?_
  refine c_ret ?_
  have e0_ := Option.some.inj h; clear h
  have d0_ := (Prod.mk.inj e0_).1; have e1_ := (Prod.mk.inj e0_).2; clear e0_; subst d0_
  subst e1_
  exact x_r1 (A7, c8, A11, c12) Try.results100 (rv_cell rfl G27 Z27 (fun w h => h.zab (i := 2) rfl) rfl) rfl (fun w h => za7 [1, 0] (by decide) rfl w h)

/-! ### loop.example/g01098/impl.step: function 91 -/
def impl_step.f (a0 : Int) (a1 : Int) : Option Unit := some ()
set_option maxHeartbeats 600000 in
set_option maxRecDepth 100000 in
theorem impl_step.calls {w0 ws : World} {P0 : Nat → Prop} (a0 : Int) (a1 : Int) (Z : Below w0.heap.size w0 ws) (hF : Fr w0 ws P0 [] ws)   (h : impl_step.f a0 a1 = some ()) :
    Calls Try.prog 91 #[.int .i64 a0, .int .i64 a1] ws (Post1 w0 ws P0 (fun (_ : Unit) => .agg #[.int .i64 (mn a0 a1), .int .i64 (mx a0 a1)]) (fun (_ : Unit) => [])) := by
  unfold impl_step.f at h
  refine enter Try.func91 rfl Try.ntmps91 rfl hF ?_
  refine c_seq ?_
  refine za0 ?_
  refine o_e rfl (zav V89 rfl) (fun g1 => ?_)
  refine o_end ?_
  refine za1 ?_
  refine c_seq ?_
  refine za0 ?_
  refine o_q rfl rfl (za2 rfl) ?_
  refine o_q rfl rfl (za2 rfl) ?_
  refine o_q rfl rfl (q_min rfl rfl) ?_
  refine o_q rfl rfl (za2 rfl) ?_
  refine o_q rfl rfl (za2 rfl) ?_
  refine o_q rfl rfl (q_max rfl rfl) ?_
  refine o_q rfl rfl (q_build (vs := [(0, .int .i64 (mn a0 a1)), (1, .int .i64 (mx a0 a1))]) (cs := [.int .i64 (mn a0 a1), .int .i64 (mx a0 a1)]) rfl rfl) ?_
  refine o_e rfl (zal (i := 0) rfl rfl rfl Z89 rfl rfl) (fun _ => ?_)
  refine o_end ?_
  refine za1 ?_
  refine c_ret ?_
  exact x_r1 () Try.results91 (rv_cell rfl G89 Z89 (fun w h => h.zab (i := 0) rfl) rfl) rfl (fun w h => za7 [] (by decide) rfl w h)

/-! ### (*loop.example/g01098/impl.Plan).many: function 90 -/
def impl_Plan_many_2.f (a0_0 : Int) (l0_1 : List SStep) (l0_2 : List Int) : Option Unit := some ()
set_option maxHeartbeats 600000 in
set_option maxRecDepth 100000 in
theorem impl_Plan_many_2.calls {w0 ws : World} {P0 : Nat → Prop} (g0 : Nat) (a0_0 : Int) (A0_1 : Option Addr) (c0_1 : Nat) (n0_1 : Nat) (l0_1 : List SStep) (A0_2 : Option Addr) (c0_2 : Nat) (n0_2 : Nat) (l0_2 : List Int) (Z : Below w0.heap.size w0 ws) (hF : Fr w0 ws P0 [] ws) (R0_1 : Stable ws P0 (fun w => Kd.C kStep w A0_1 n0_1 l0_1)) (hc0_1 : n0_1 ≤ c0_1) (R0_2 : Stable ws P0 (fun w => Kd.C (Kd.int .i64) w A0_2 n0_2 l0_2)) (hc0_2 : n0_2 ≤ c0_2) (B0 : Stable ws P0 (fun w => w.heap[g0]? = some (.cells #[.int .i64 a0_0, .slice A0_1 n0_1 c0_1, .slice A0_2 n0_2 c0_2] 131 (0, 0))))  (h : impl_Plan_many_2.f a0_0 l0_1 l0_2 = some ()) :
    Calls Try.prog 90 #[.pointer (some ⟨g0, 0, none⟩)] ws (Post1 w0 ws P0 (fun (_ : Unit) => .int .i64 (w64 (a0_0 + (l0_1.length : Int)))) (fun (_ : Unit) => [])) := by
  unfold impl_Plan_many_2.f at h
  obtain rfl := (R0_1 ws (KeptB.refl _ _)).1
  obtain rfl := (R0_2 ws (KeptB.refl _ _)).1
  refine enter Try.func90 rfl Try.ntmps90 rfl hF ?_
  refine c_seq ?_
  refine za0 ?_
  refine o_q rfl rfl (q_asg rfl) ?_
  refine o_end ?_
  refine za1 ?_
  refine c_seq ?_
  refine a_start (ds := []) MO rfl ?_
  refine za5 0 rfl rfl rfl (by kernel_rfl) (fun _ _ _ h => h) (za2 rfl) ?_
  refine za5 1 rfl rfl rfl (by kernel_rfl) (fun _ _ _ h => h) (q_nil rfl) ?_
  refine za5 2 rfl rfl rfl (by kernel_rfl) (fun _ _ _ h => h) (q_f F27_0 rfl) ?_
  refine zay 3 rfl rfl rfl (by kernel_rfl) (fun _ _ _ h => h) (fun w h => h) (q_ldb Y3 rfl (fun w h => B0.now Z h) rfl) ?_
  refine za5 4 rfl rfl rfl (by kernel_rfl) (fun _ _ _ h => h) (za2 rfl) ?_
  refine za5 5 rfl rfl rfl (by kernel_rfl) (fun _ _ _ h => h) (q_nil rfl) ?_
  refine za5 6 rfl rfl rfl (by kernel_rfl) (fun _ _ _ h => h) (q_f F27_1 rfl) ?_
  refine zay 7 rfl rfl rfl (by kernel_rfl) (fun _ _ _ h => h) (fun w h => h) (q_ldb Y24 rfl (fun w h => B0.now Z h) rfl) ?_
  refine za5 8 rfl rfl rfl (by kernel_rfl) (fun _ _ _ h => h) (q_len Try.underlying24 rfl) ?_
  refine za5 9 rfl rfl rfl (by kernel_rfl) (fun _ _ _ h => h) (q_add64 rfl rfl) ?_
  refine za5 10 rfl rfl rfl (by kernel_rfl) (fun _ _ _ h => h) (q_asg rfl) ?_
  refine zaz (by kernel_rfl) ?_
  refine za1 ?_
  refine c_ret ?_
  exact x_r1 () Try.results90 (zai rfl) rfl (fun w h => za7 [] (by decide) rfl w h)

/-! ### (*loop.example/g01098/impl.maker).multiply: function 165 -/
def impl_maker_multiply.f (a0_0 : Int) (l0_1 : List SStep) (l0_2 : List Int) (a1 : Int) (a2 : Int) : Option (Int × (List SStep)) := ((impl_step.f a1 a2).bind fun _ => (ap l0_1 ([(⟨mn a1 a2, mx a1 a2⟩ : SStep)] : List SStep)).bind fun l1571 => some l1571).bind fun l962 => (impl_Plan_many_2.f a0_0 l962 l0_2).bind fun _ => some (w64 (w64 (a0_0 + (l962.length : Int)) - 1), l962)
set_option maxHeartbeats 600000 in
set_option maxRecDepth 100000 in
theorem impl_maker_multiply.calls {w0 ws : World} {P0 : Nat → Prop} (g0 : Nat) (a0_0 : Int) (A0_1 : Option Addr) (c0_1 : Nat) (n0_1 : Nat) (l0_1 : List SStep) (A0_2 : Option Addr) (c0_2 : Nat) (n0_2 : Nat) (l0_2 : List Int) (a1 : Int) (a2 : Int) (Z : Below w0.heap.size w0 ws) (hF : Fr w0 ws P0 [box g0 131 #[.int .i64 a0_0, .slice A0_1 n0_1 c0_1, .slice A0_2 n0_2 c0_2], row kStep 89 (.slice A0_1 n0_1 c0_1) l0_1] ws) (R0_2 : Stable ws P0 (fun w => Kd.C (Kd.int .i64) w A0_2 n0_2 l0_2)) (hc0_2 : n0_2 ≤ c0_2) (r_1 : Int) (r_2 : List SStep) (h : impl_maker_multiply.f a0_0 l0_1 l0_2 a1 a2 = some (r_1, r_2)) :
    Calls Try.prog 165 #[.pointer (some ⟨g0, 0, none⟩), .int .i64 a1, .int .i64 a2] ws (Post1 w0 ws P0 (fun ((q_3, q_4) : (Option Addr) × Nat) => .int .i64 r_1) (fun ((q_3, q_4) : (Option Addr) × Nat) => [box g0 131 #[.int .i64 a0_0, .slice q_3 r_2.length q_4, .slice A0_2 n0_2 c0_2], row kStep 89 (.slice q_3 r_2.length q_4) r_2])) := by
  unfold impl_maker_multiply.f at h
  obtain rfl := (hF.row_C (i := 1) rfl).2.1
  obtain rfl := (R0_2 ws (KeptB.refl _ _)).1
  refine enter Try.func165 rfl Try.ntmps165 rfl hF ?_
  refine c_seq ?_
  refine za0 ?_
  refine o_q rfl rfl (q_asg rfl) ?_
  refine o_end ?_
  refine za1 ?_
  refine za8 h (fun o965 hl966 hR967 => ?_) rfl
  clear h
  refine c_cutJ (σ := (List SStep) × (Option Addr) × Nat) (fun (l962, A963, c964) => some l962 = some o965) [7, 8, 9, 10, 11, 12, 13, 14, 15, 16, 17, 18, 19, 20] (fun (l962, A963, c964) => []) (fun (l962, A963, c964) => [box g0 131 #[.int .i64 a0_0, .slice A963 l962.length c964, .slice A0_2 l0_2.length c0_2], row kStep 89 (.slice A963 l962.length c964) l962]) ?_ ?_
  · skip
    have h := hl966; clear hl966
    clear hR967
    refine za8 h (fun _ hx1451 h => ?_) rfl
    refine za8 h (fun l1571 ha1572 h => ?_) rfl
    refine a_startS (ds := []) [none, none] MO rfl ?_
    refine za5 0 rfl rfl rfl (by kernel_rfl) (fun _ _ _ h => h) (za2 rfl) ?_
    refine za5 1 rfl rfl rfl (by kernel_rfl) (fun _ _ _ h => h) (za2 rfl) ?_
    refine za5 2 rfl rfl rfl (by kernel_rfl) (fun _ _ _ h => h) (q_nil rfl) ?_
    refine za5 3 rfl rfl rfl (by kernel_rfl) (fun _ _ _ h => h) (q_f F131_0 rfl) ?_
    refine za5 4 rfl rfl rfl (by kernel_rfl) (fun _ _ _ h => h) (q_f F27_1 rfl) ?_
    refine za5 6 rfl rfl rfl (by kernel_rfl) (fun _ _ _ h => h) (za2 rfl) ?_
    refine za5 7 rfl rfl rfl (by kernel_rfl) (fun _ _ _ h => h) (za2 rfl) ?_
    refine a_two 5 8 rfl rfl rfl rfl (by kernel_rfl) rfl rfl (ev_q rfl (q_ldb Y24 rfl (fun w h => h.zab (i := 0) rfl) rfl)) (fun s w h => za9 [none, none] (by decide) w h rfl) (zac 0 Z Try.func91 N91 rfl rfl rfl (fun w P1 hF hB hS hT => impl_step.calls a1 a2 hB hF hx1451)) (fun s w h => za9 [none, none] (by decide) w h rfl) (fun _ => ?_) (fun _ => ?_)
    · skip
      refine a_one 8 rfl rfl (by kernel_rfl) rfl (zac 0 Z Try.func91 N91 rfl rfl rfl (fun w P1 hF hB hS hT => impl_step.calls a1 a2 hB hF hx1451)) (fun s w h => za9 [none, none] (by decide) w h rfl) (fun _ => ?_)
      refine a_one 9 rfl rfl (by kernel_rfl) rfl (e_lit (vs := [(0, .agg #[.int .i64 (mn a1 a2), .int .i64 (mx a1 a2)])]) (cs := [.int .i64 (mn a1 a2), .int .i64 (mx a1 a2)]) kStep ([(⟨mn a1 a2, mx a1 a2⟩ : SStep)] : List SStep) Try.underlying24 I89 (by decide) rfl (by decide) rfl rfl (fun _ _ => zb5 _)) (fun s w h => za9 [none, none] (by decide) w h rfl) (cur2 (fun A1511 c1512 => ?_))
      refine a_one 10 rfl rfl (by kernel_rfl) rfl (e_app (i := 2) (j := 0) Try.underlying24 I89 rfl (by decide) (by decide) rfl rfl rfl rfl rfl ha1572) (fun s w h => za9 [none, none] (by decide) w h rfl) (cur2 (fun A1573 c1574 => ?_))
      refine za5 11 rfl rfl rfl (by kernel_rfl) (fun _ _ _ h => h) (q_nil rfl) ?_
      refine za5 12 rfl rfl rfl (by kernel_rfl) (fun _ _ _ h => h) (q_f F131_0 rfl) ?_
      refine za5 13 rfl rfl rfl (by kernel_rfl) (fun _ _ _ h => h) (q_f F27_1 rfl) ?_
      refine a_one 14 rfl rfl (by kernel_rfl) rfl (zb4 (i := 1) rfl rfl rfl rfl Z24 rfl rfl) (fun s w h => za9 [none, none] (by decide) w h rfl) (fun _ => ?_)
      refine zaz (by kernel_rfl) ?_
      refine zb0 (l1571, A1573, c1574) h trivial (fun w h => za7 [1, 2] (by decide) rfl w h) ?_
      repeat (first | exact zad _ _ | refine zaf rfl ?_ | refine zae rfl ?_ | refine zah rfl ?_)
    · skip
      refine a_two 5 9 rfl rfl rfl rfl (by kernel_rfl) rfl rfl (ev_q rfl (q_ldb Y24 rfl (fun w h => h.zab (i := 0) rfl) rfl)) (fun s w h => za9 [none, none] (by decide) w h rfl) (e_lit (vs := [(0, .agg #[.int .i64 (mn a1 a2), .int .i64 (mx a1 a2)])]) (cs := [.int .i64 (mn a1 a2), .int .i64 (mx a1 a2)]) kStep ([(⟨mn a1 a2, mx a1 a2⟩ : SStep)] : List SStep) Try.underlying24 I89 (by decide) rfl (by decide) rfl rfl (fun _ _ => zb5 _)) (fun s w h => za9 [none, none] (by decide) w h rfl) (fun _ => ?_) (cur2 (fun A1511 c1512 => ?_))
      · skip
        refine a_one 9 rfl rfl (by kernel_rfl) rfl (e_lit (vs := [(0, .agg #[.int .i64 (mn a1 a2), .int .i64 (mx a1 a2)])]) (cs := [.int .i64 (mn a1 a2), .int .i64 (mx a1 a2)]) kStep ([(⟨mn a1 a2, mx a1 a2⟩ : SStep)] : List SStep) Try.underlying24 I89 (by decide) rfl (by decide) rfl rfl (fun _ _ => zb5 _)) (fun s w h => za9 [none, none] (by decide) w h rfl) (cur2 (fun A1511 c1512 => ?_))
        refine a_one 10 rfl rfl (by kernel_rfl) rfl (e_app (i := 2) (j := 0) Try.underlying24 I89 rfl (by decide) (by decide) rfl rfl rfl rfl rfl ha1572) (fun s w h => za9 [none, none] (by decide) w h rfl) (cur2 (fun A1573 c1574 => ?_))
        refine za5 11 rfl rfl rfl (by kernel_rfl) (fun _ _ _ h => h) (q_nil rfl) ?_
        refine za5 12 rfl rfl rfl (by kernel_rfl) (fun _ _ _ h => h) (q_f F131_0 rfl) ?_
        refine za5 13 rfl rfl rfl (by kernel_rfl) (fun _ _ _ h => h) (q_f F27_1 rfl) ?_
        refine a_one 14 rfl rfl (by kernel_rfl) rfl (zb4 (i := 1) rfl rfl rfl rfl Z24 rfl rfl) (fun s w h => za9 [none, none] (by decide) w h rfl) (fun _ => ?_)
        refine zaz (by kernel_rfl) ?_
        refine zb0 (l1571, A1573, c1574) h trivial (fun w h => za7 [1, 2] (by decide) rfl w h) ?_
        repeat (first | exact zad _ _ | refine zaf rfl ?_ | refine zae rfl ?_ | refine zah rfl ?_)
      · skip
        refine a_one 5 rfl rfl (by kernel_rfl) rfl (ev_q rfl (q_ldb Y24 rfl (fun w h => h.zab (i := 1) rfl) rfl)) (fun s w h => za9 [none, none] (by decide) w h rfl) (fun _ => ?_)
        refine a_one 10 rfl rfl (by kernel_rfl) rfl (e_app (i := 2) (j := 0) Try.underlying24 I89 rfl (by decide) (by decide) rfl rfl rfl rfl rfl ha1572) (fun s w h => za9 [none, none] (by decide) w h rfl) (cur2 (fun A1573 c1574 => ?_))
        refine za5 11 rfl rfl rfl (by kernel_rfl) (fun _ _ _ h => h) (q_nil rfl) ?_
        refine za5 12 rfl rfl rfl (by kernel_rfl) (fun _ _ _ h => h) (q_f F131_0 rfl) ?_
        refine za5 13 rfl rfl rfl (by kernel_rfl) (fun _ _ _ h => h) (q_f F27_1 rfl) ?_
        refine a_one 14 rfl rfl (by kernel_rfl) rfl (zb4 (i := 1) rfl rfl rfl rfl Z24 rfl rfl) (fun s w h => za9 [none, none] (by decide) w h rfl) (fun _ => ?_)
        refine zaz (by kernel_rfl) ?_
        refine zb0 (l1571, A1573, c1574) h trivial (fun w h => za7 [1, 2] (by decide) rfl w h) ?_
        repeat (first | exact zad _ _ | refine zaf rfl ?_ | refine zae rfl ?_ | refine zah rfl ?_)
  · skip
    refine (cur3 (fun l962 A963 c964 => fun U968 hJ969 => ?_))
    have e_ := Option.some.inj hJ969; have h := hR967; rw [← e_] at h; clear e_ hJ969 hR967 hl966
    refine c_seq ?_
    refine za0 ?_
    refine o_q rfl rfl (za2 rfl) ?_
    refine o_q rfl rfl (q_nil rfl) ?_
    refine o_q rfl rfl (q_f F131_0 rfl) ?_
    refine za8 h (fun _ hx1931 h => ?_) rfl
    refine o_e rfl (zac 0 Z Try.func90 N90 rfl rfl rfl (fun w P1 hF hB hS hT => impl_Plan_many_2.calls g0 a0_0 A963 c964 l962.length l962 A0_2 c0_2 l0_2.length l0_2 hB hF (hT 1 _ rfl).row (hT 1 _ rfl).cap (hS _ R0_2) hc0_2 (hT 0 _ rfl).box hx1931)) (fun _ => ?_)
    refine o_q rfl rfl (q_sub64 rfl rfl) ?_
    refine o_q rfl rfl (q_asg rfl) ?_
    refine o_end ?_
    refine za1 ?_
    refine c_ret ?_
    have e0_ := Option.some.inj h; clear h
    have d0_ := (Prod.mk.inj e0_).1; have e1_ := (Prod.mk.inj e0_).2; clear e0_; subst d0_
    subst e1_
    exact x_r1 (A963, c964) Try.results165 (zai rfl) rfl (fun w h => za7 [0, 1] (by decide) rfl w h)

/-! ### (*loop.example/g01098/impl.maker).times: function 150 -/
def impl_maker_times.f (a0_0 : Int) (l0_1 : List SStep) (l0_2 : List Int) (a1 : Int) (a2 : Int) : Option (Int × (List SStep)) := if a1 < 0 then (some (a2, l0_1)) else ((impl_maker_multiply.f a0_0 l0_1 l0_2 a1 a2).bind fun (i3, l4) => some (i3, l4))
set_option maxHeartbeats 600000 in
set_option maxRecDepth 100000 in
theorem impl_maker_times.calls {w0 ws : World} {P0 : Nat → Prop} (g0 : Nat) (a0_0 : Int) (A0_1 : Option Addr) (c0_1 : Nat) (n0_1 : Nat) (l0_1 : List SStep) (A0_2 : Option Addr) (c0_2 : Nat) (n0_2 : Nat) (l0_2 : List Int) (a1 : Int) (a2 : Int) (Z : Below w0.heap.size w0 ws) (hF : Fr w0 ws P0 [box g0 131 #[.int .i64 a0_0, .slice A0_1 n0_1 c0_1, .slice A0_2 n0_2 c0_2], row kStep 89 (.slice A0_1 n0_1 c0_1) l0_1] ws) (R0_2 : Stable ws P0 (fun w => Kd.C (Kd.int .i64) w A0_2 n0_2 l0_2)) (hc0_2 : n0_2 ≤ c0_2) (r_1 : Int) (r_2 : List SStep) (h : impl_maker_times.f a0_0 l0_1 l0_2 a1 a2 = some (r_1, r_2)) :
    Calls Try.prog 150 #[.pointer (some ⟨g0, 0, none⟩), .int .i64 a1, .int .i64 a2] ws (Post1 w0 ws P0 (fun ((q_3, q_4) : (Option Addr) × Nat) => .int .i64 r_1) (fun ((q_3, q_4) : (Option Addr) × Nat) => [box g0 131 #[.int .i64 a0_0, .slice q_3 r_2.length q_4, .slice A0_2 n0_2 c0_2], row kStep 89 (.slice q_3 r_2.length q_4) r_2])) := by
  unfold impl_maker_times.f at h
  obtain rfl := (hF.row_C (i := 1) rfl).2.1
  obtain rfl := (R0_2 ws (KeptB.refl _ _)).1
  refine enter Try.func150 rfl Try.ntmps150 rfl hF ?_
  refine c_seq ?_
  refine za0 ?_
  refine o_q rfl rfl (q_asg rfl) ?_
  refine o_end ?_
  refine za1 ?_
  refine c_seq ?_
  refine c_seq ?_
  refine za0 ?_
  refine o_q rfl rfl (za2 rfl) ?_
  refine o_q rfl rfl (q_lss rfl rfl) ?_
  refine o_end ?_
  refine za1 ?_
  refine zar _ rfl (fun hb1 => ?_) (fun hb1 => ?_)
  · skip
    replace h := br_t hb1 h
    refine c_seq ?_
    refine za0 ?_
    refine o_q rfl rfl (za2 rfl) ?_
    refine o_q rfl rfl (q_asg rfl) ?_
    refine o_end ?_
    refine za1 ?_
    refine c_ret ?_
    refine zaa ?_
    have e0_ := Option.some.inj h; clear h
    have d0_ := (Prod.mk.inj e0_).1; have e1_ := (Prod.mk.inj e0_).2; clear e0_; subst d0_
    subst e1_
    exact x_r1 (A0_1, c0_1) Try.results150 (zai rfl) rfl (fun w h => za7 [0, 1] (by decide) rfl w h)
  · skip
    replace h := br_f hb1 h
    refine zam ?_
    refine za1 ?_
    refine c_seq ?_
    refine za0 ?_
    refine o_q rfl rfl (za2 rfl) ?_
    refine o_q rfl rfl (za2 rfl) ?_
    refine o_q rfl rfl (za2 rfl) ?_
    refine bindE2 h (fun i3 l4 hx2 h => ?_) rfl
    refine o_e rfl (zac 2 Z Try.func165 N165 rfl rfl rfl (fun w P1 hF hB hS hT => impl_maker_multiply.calls g0 a0_0 A0_1 c0_1 l0_1.length l0_1 A0_2 c0_2 l0_2.length l0_2 a1 a2 hB hF (hS _ R0_2) hc0_2 _ _ hx2)) (cur2 (fun A5 c6 => ?_))
    refine o_q rfl rfl (q_asg rfl) ?_
    refine o_end ?_
    refine za1 ?_
    refine c_ret ?_
    have e0_ := Option.some.inj h; clear h
    have d0_ := (Prod.mk.inj e0_).1; have e1_ := (Prod.mk.inj e0_).2; clear e0_; subst d0_
    subst e1_
    exact x_r1 (A5, c6) Try.results150 (zai rfl) rfl (fun w h => za7 [0, 1] (by decide) rfl w h)

/-! ### (*loop.example/g01098/impl.maker).plan: function 151 -/
def impl_maker_plan.f (a0_0 : Int) (l0_1 : List SStep) (l0_2 : List Int) (l1 : List Int) : Option Unit := some ()
set_option maxHeartbeats 600000 in
set_option maxRecDepth 100000 in
theorem impl_maker_plan.calls {w0 ws : World} {P0 : Nat → Prop} (g0 : Nat) (a0_0 : Int) (A0_1 : Option Addr) (c0_1 : Nat) (n0_1 : Nat) (l0_1 : List SStep) (A0_2 : Option Addr) (c0_2 : Nat) (n0_2 : Nat) (l0_2 : List Int) (A1 : Option Addr) (c1 : Nat) (n1 : Nat) (l1 : List Int) (Z : Below w0.heap.size w0 ws) (hF : Fr w0 ws P0 [box g0 131 #[.int .i64 a0_0, .slice A0_1 n0_1 c0_1, .slice A0_2 n0_2 c0_2], row kStep 89 (.slice A0_1 n0_1 c0_1) l0_1, row (Kd.int .i64) 3 (.slice A1 n1 c1) l1] ws) (R0_2 : Stable ws P0 (fun w => Kd.C (Kd.int .i64) w A0_2 n0_2 l0_2)) (hc0_2 : n0_2 ≤ c0_2)  (h : impl_maker_plan.f a0_0 l0_1 l0_2 l1 = some ()) :
    Calls Try.prog 151 #[.pointer (some ⟨g0, 0, none⟩), .slice A1 n1 c1] ws (Post1 w0 ws P0 (fun (_ : Unit) => .agg #[.int .i64 a0_0, .slice A0_1 n0_1 c0_1, .slice A1 n1 c1]) (fun (_ : Unit) => [row kStep 89 (.slice A0_1 n0_1 c0_1) l0_1, row (Kd.int .i64) 3 (.slice A1 n1 c1) l1, box g0 131 #[.int .i64 a0_0, .slice A0_1 n0_1 c0_1, .slice A1 n1 c1]])) := by
  unfold impl_maker_plan.f at h
  obtain rfl := (hF.row_C (i := 1) rfl).2.1
  obtain rfl := (hF.row_C (i := 2) rfl).2.1
  obtain rfl := (R0_2 ws (KeptB.refl _ _)).1
  refine enter Try.func151 rfl Try.ntmps151 rfl hF ?_
  refine c_seq ?_
  refine za0 ?_
  refine o_e rfl (zav V27 rfl) (fun g1 => ?_)
  refine o_end ?_
  refine za1 ?_
  refine c_seq ?_
  refine za0 ?_
  refine o_q rfl rfl (za2 rfl) ?_
  refine o_q rfl rfl (za2 rfl) ?_
  refine o_q rfl rfl (q_nil rfl) ?_
  refine o_q rfl rfl (q_f F131_0 rfl) ?_
  refine o_q rfl rfl (q_f F27_2 rfl) ?_
  refine o_e rfl (zb4 (i := 1) rfl rfl rfl rfl Z25 rfl rfl) (fun _ => ?_)
  refine o_end ?_
  refine za1 ?_
  refine c_seq ?_
  refine za0 ?_
  refine o_q rfl rfl (za2 rfl) ?_
  refine o_q rfl rfl (q_nil rfl) ?_
  refine o_q rfl rfl (q_f F131_0 rfl) ?_
  refine o_q rfl rfl (q_ldB G27 Z27 rfl (fun w h => h.zab (i := 1) rfl) rfl) ?_
  refine o_e rfl (zal (i := 0) rfl rfl rfl Z27 rfl rfl) (fun _ => ?_)
  refine o_end ?_
  refine za1 ?_
  refine c_ret ?_
  exact x_r1 () Try.results151 (rv_cell rfl G27 Z27 (fun w h => h.zab (i := 0) rfl) rfl) rfl (fun w h => za7 [2, 3, 1] (by decide) rfl w h)

/-! ### loop.example/g01098/impl.told: function 102 -/
def impl_told.f (k : Nat) (a0_0 : Int) (l0_1 : List SStep) (l0_2 : List Int) : Option (Int × (List SStep) × (List Int) × Bool) := (impl_IsPlan.f k a0_0 l0_1 l0_2).bind fun b6 => if b6 = true then (some (a0_0, l0_1, l0_2, true)) else (some (0, ([] : List SStep), ([] : List Int), false))
set_option maxHeartbeats 600000 in
set_option maxRecDepth 100000 in
theorem impl_told.calls (k : Nat) {w0 ws : World} {P0 : Nat → Prop} (a0_0 : Int) (A0_1 : Option Addr) (c0_1 : Nat) (n0_1 : Nat) (l0_1 : List SStep) (A0_2 : Option Addr) (c0_2 : Nat) (n0_2 : Nat) (l0_2 : List Int) (Z : Below w0.heap.size w0 ws) (hF : Fr w0 ws P0 [row kStep 89 (.slice A0_1 n0_1 c0_1) l0_1, row (Kd.int .i64) 3 (.slice A0_2 n0_2 c0_2) l0_2] ws)  (r_1 : Int) (r_2 : List SStep) (r_5 : List Int) (r_8 : Bool) (h : impl_told.f k a0_0 l0_1 l0_2 = some (r_1, r_2, r_5, r_8)) :
    Calls Try.prog 102 #[.agg #[.int .i64 a0_0, .slice A0_1 n0_1 c0_1, .slice A0_2 n0_2 c0_2]] ws (Post1 w0 ws P0 (fun ((q_3, q_4, q_6, q_7) : (Option Addr) × Nat × (Option Addr) × Nat) => .tuple #[.agg #[.int .i64 r_1, .slice q_3 r_2.length q_4, .slice q_6 r_5.length q_7], .bool r_8]) (fun ((q_3, q_4, q_6, q_7) : (Option Addr) × Nat × (Option Addr) × Nat) => [row kStep 89 (.slice q_3 r_2.length q_4) r_2, row (Kd.int .i64) 3 (.slice q_6 r_5.length q_7) r_5])) := by
  unfold impl_told.f at h
  obtain rfl := (hF.row_C (i := 0) rfl).2.1
  obtain rfl := (hF.row_C (i := 1) rfl).2.1
  refine enter Try.func102 rfl Try.ntmps102 rfl hF ?_
  refine c_seq ?_
  refine za0 ?_
  refine o_e rfl (e_box rfl) (fun g1 => ?_)
  refine o_e rfl (zav V27 rfl) (fun g3 => ?_)
  refine o_q rfl rfl (q_asg rfl) ?_
  refine o_end ?_
  refine za1 ?_
  refine c_seq ?_
  refine c_seq ?_
  refine za0 ?_
  refine o_q rfl rfl (q_ldB G27 Z27 rfl (fun w h => h.zab (i := 1) rfl) rfl) ?_
  refine za8 h (fun b6 hx5 h => ?_) rfl
  refine o_e rfl (zac 0 Z Try.func86 N86 rfl rfl rfl (fun w P1 hF hB hS hT => impl_IsPlan.calls k a0_0 A0_1 c0_1 l0_1.length l0_1 A0_2 c0_2 l0_2.length l0_2 hB hF (hT 2 _ rfl).row (hT 2 _ rfl).cap (hT 3 _ rfl).row (hT 3 _ rfl).cap _ hx5)) (fun _ => ?_)
  refine o_q rfl rfl (q_not rfl) ?_
  refine o_end ?_
  refine za1 ?_
  refine zar _ rfl (fun hb7 => ?_) (fun hb7 => ?_)
  · replace hb7 := nt_t hb7
    replace h := bb_f hb7 h
    refine c_seq ?_
    refine za0 ?_
    refine o_q rfl rfl (q_build (vs := []) (cs := [.int .i64 0, .slice none 0 0, .slice none 0 0]) rfl rfl) ?_
    refine o_e rfl (zal (i := 0) rfl rfl rfl Z27 rfl rfl) (fun _ => ?_)
    refine o_q rfl rfl (q_asg rfl) ?_
    refine o_end ?_
    refine za1 ?_
    refine c_ret ?_
    refine zaa ?_
    refine x_nil kStep 89 ?_
    refine x_nil (Kd.int .i64) 3 ?_
    have e0_ := Option.some.inj h; clear h
    have d0_ := (Prod.mk.inj e0_).1; have e1_ := (Prod.mk.inj e0_).2; clear e0_; subst d0_
    have d1_ := (Prod.mk.inj e1_).1; have e2_ := (Prod.mk.inj e1_).2; clear e1_; subst d1_
    have d2_ := (Prod.mk.inj e2_).1; have e3_ := (Prod.mk.inj e2_).2; clear e2_; subst d2_
    subst e3_
    exact x_r2 (none, 0, none, 0) Try.results102 (rv_cell rfl G27 Z27 (fun w h => h.zab (i := 2) rfl) rfl) (zai rfl) rfl (fun w h => za7 [1, 0] (by decide) rfl w h)
  · replace hb7 := nt_f hb7
    replace h := bb_t hb7 h
    refine zam ?_
    refine za1 ?_
    refine c_seq ?_
    refine za0 ?_
    refine o_q rfl rfl (q_ldB G27 Z27 rfl (fun w h => h.zab (i := 1) rfl) rfl) ?_
    refine o_e rfl (zal (i := 0) rfl rfl rfl Z27 rfl rfl) (fun _ => ?_)
    refine o_q rfl rfl (q_asg rfl) ?_
    refine o_end ?_
    refine za1 ?_
    refine c_ret ?_
    have e0_ := Option.some.inj h; clear h
    have d0_ := (Prod.mk.inj e0_).1; have e1_ := (Prod.mk.inj e0_).2; clear e0_; subst d0_
    have d1_ := (Prod.mk.inj e1_).1; have e2_ := (Prod.mk.inj e1_).2; clear e1_; subst d1_
    have d2_ := (Prod.mk.inj e2_).1; have e3_ := (Prod.mk.inj e2_).2; clear e2_; subst d2_
    subst e3_
    exact x_r2 (A0_1, c0_1, A0_2, c0_2) Try.results102 (rv_cell rfl G27 Z27 (fun w h => h.zab (i := 0) rfl) rfl) (zai rfl) rfl (fun w h => za7 [2, 3] (by decide) rfl w h)

/-! ### loop.example/g01098/impl.FoldOutputs: function 62 -/
def impl_FoldOutputs.l0 (a0_0 : Int) (l20 : List Int) : (List Int) → (List SStep) → Int → Int → Option ((List SStep) × Int)
  | [], l27, i30, i31 => some (l27, i31)
  | y32 :: ys33, l27, i30, i31 => (impl_maker_times.f a0_0 l27 l20 i31 y32).bind fun (i57, l58) => impl_FoldOutputs.l0 a0_0 l20 ys33 l58 (i30 + 1) i57
def impl_FoldOutputs.f (k : Nat) (a0_0 : Int) (l0_1 : List SStep) (l0_2 : List Int) : Option (Int × (List SStep) × (List Int) × Bool) := ((impl_IsPlan.f k a0_0 l0_1 l0_2).bind fun b15 => if b15 = true then (some (decide ((l0_2.length : Int) = 0))) else (some true)).bind fun b8 => if b8 = true then (some (0, ([] : List SStep), ([] : List Int), false)) else ((impl_clonePlan.f a0_0 l0_1 l0_2).bind fun (l19, l20) => (impl_FoldOutputs.l0 a0_0 l20 l0_2 l19 0 (-1)).bind fun (l27, i31) => (impl_maker_plan.f a0_0 l27 l20 ([i31] : List Int)).bind fun _ => (impl_told.f k a0_0 l27 ([i31] : List Int)).bind fun (i47, l48, l49, b50) => some (i47, l48, l49, b50))
set_option maxHeartbeats 600000 in
set_option maxRecDepth 100000 in
theorem impl_FoldOutputs.calls (k : Nat) {w0 ws : World} {P0 : Nat → Prop} (a0_0 : Int) (A0_1 : Option Addr) (c0_1 : Nat) (n0_1 : Nat) (l0_1 : List SStep) (A0_2 : Option Addr) (c0_2 : Nat) (n0_2 : Nat) (l0_2 : List Int) (Z : Below w0.heap.size w0 ws) (hF : Fr w0 ws P0 [] ws) (R0_1 : Stable ws P0 (fun w => Kd.C kStep w A0_1 n0_1 l0_1)) (hc0_1 : n0_1 ≤ c0_1) (R0_2 : Stable ws P0 (fun w => Kd.C (Kd.int .i64) w A0_2 n0_2 l0_2)) (hc0_2 : n0_2 ≤ c0_2) (r_1 : Int) (r_2 : List SStep) (r_5 : List Int) (r_8 : Bool) (h : impl_FoldOutputs.f k a0_0 l0_1 l0_2 = some (r_1, r_2, r_5, r_8)) :
    Calls Try.prog 62 #[.agg #[.int .i64 a0_0, .slice A0_1 n0_1 c0_1, .slice A0_2 n0_2 c0_2]] ws (Post1 w0 ws P0 (fun ((q_3, q_4, q_6, q_7) : (Option Addr) × Nat × (Option Addr) × Nat) => .tuple #[.agg #[.int .i64 r_1, .slice q_3 r_2.length q_4, .slice q_6 r_5.length q_7], .bool r_8]) (fun ((q_3, q_4, q_6, q_7) : (Option Addr) × Nat × (Option Addr) × Nat) => [row kStep 89 (.slice q_3 r_2.length q_4) r_2, row (Kd.int .i64) 3 (.slice q_6 r_5.length q_7) r_5])) := by
  unfold impl_FoldOutputs.f at h
  obtain rfl := (R0_1 ws (KeptB.refl _ _)).1
  obtain rfl := (R0_2 ws (KeptB.refl _ _)).1
  refine enter Try.func62 rfl Try.ntmps62 rfl hF ?_
  refine c_seq ?_
  refine za0 ?_
  refine o_e rfl (e_box rfl) (fun g1 => ?_)
  refine o_e rfl (zav V27 rfl) (fun g3 => ?_)
  refine o_q rfl rfl (q_asg rfl) ?_
  refine o_end ?_
  refine za1 ?_
  refine c_seq ?_
  refine za8 h (fun o9 hl10 hR11 => ?_) rfl
  clear h
  refine c_cutJ (σ := Bool) (fun b8 => some b8 = some o9) [8, 9, 10, 11, 12, 13, 14, 15, 16] (fun b8 => [(16, .bool b8)]) (fun b8 => [box g1 27 #[.int .i64 a0_0, .slice A0_1 l0_1.length c0_1, .slice A0_2 l0_2.length c0_2], box g3 27 #[.int .i64 0, .slice none 0 0, .slice none 0 0]]) ?_ ?_
  · skip
    have h := hl10; clear hl10
    clear hR11
    refine za0 ?_
    refine o_q rfl rfl (q_ldB G27 Z27 rfl (fun w h => h.zab (i := 1) rfl) rfl) ?_
    refine za8 h (fun b15 hx14 h => ?_) rfl
    refine o_e rfl (zac 0 Z Try.func86 N86 rfl rfl rfl (fun w P1 hF hB hS hT => impl_IsPlan.calls k a0_0 A0_1 c0_1 l0_1.length l0_1 A0_2 c0_2 l0_2.length l0_2 hB hF (hS _ R0_1) hc0_1 (hS _ R0_2) hc0_2 _ hx14)) (fun _ => ?_)
    refine o_q rfl rfl (q_not rfl) ?_
    refine o_q rfl rfl (za2 rfl) ?_
    refine byB b15 (fun hb16 => ?_) (fun hb16 => ?_)
    · replace h := bb_t hb16 h
      refine o_w (za4 rfl rfl rfl (congrArg (fun b => Value.bool (!(b))) hb16)) rfl (q_f F27_2 rfl) ?_
      refine o_w (za4 rfl rfl rfl (congrArg (fun b => Value.bool (!(b))) hb16)) rfl (q_ldb Y25 rfl (fun w h => h.zab (i := 1) rfl) rfl) ?_
      refine o_w (za4 rfl rfl rfl (congrArg (fun b => Value.bool (!(b))) hb16)) rfl (q_len Try.underlying25 rfl) ?_
      refine o_w (za4 rfl rfl rfl (congrArg (fun b => Value.bool (!(b))) hb16)) rfl (q_eql rfl rfl) ?_
      refine o_q rfl rfl (zas false (congrArg (fun b => Value.bool (!(b))) hb16) rfl) ?_
      refine o_end ?_
      refine zb0 (decide ((l0_2.length : Int) = 0)) h ⟨rfl, trivial⟩ (fun w h => za7 [1, 0] (by decide) rfl w h) ?_
      repeat (first | exact zad _ _ | refine zaf rfl ?_ | refine zae rfl ?_ | refine zah rfl ?_)
    · replace h := bb_f hb16 h
      refine @o_n _ _ _ _ _ _ _ _ _ _ _ 12 (za3 rfl rfl rfl (congrArg (fun b => Value.bool (!(b))) hb16) rfl) (Eq.refl (some 12)) ?_
      refine @o_n _ _ _ _ _ _ _ _ _ _ _ 13 (za3 rfl rfl rfl (congrArg (fun b => Value.bool (!(b))) hb16) rfl) (Eq.refl (some 13)) ?_
      refine @o_n _ _ _ _ _ _ _ _ _ _ _ 14 (za3 rfl rfl rfl (congrArg (fun b => Value.bool (!(b))) hb16) rfl) (Eq.refl (some 14)) ?_
      refine @o_n _ _ _ _ _ _ _ _ _ _ _ 15 (za3 rfl rfl rfl (congrArg (fun b => Value.bool (!(b))) hb16) rfl) (Eq.refl (some 15)) ?_
      refine o_q rfl rfl (zas true (congrArg (fun b => Value.bool (!(b))) hb16) rfl) ?_
      refine o_end ?_
      refine zb0 true h ⟨rfl, trivial⟩ (fun w h => za7 [1, 0] (by decide) rfl w h) ?_
      repeat (first | exact zad _ _ | refine zaf rfl ?_ | refine zae rfl ?_ | refine zah rfl ?_)
  · skip
    refine (fun b8 => fun U12 hJ13 => ?_)
    have e_ := Option.some.inj hJ13; have h := hR11; rw [← e_] at h; clear e_ hJ13 hR11 hl10
    refine zar _ rfl (fun hb17 => ?_) (fun hb17 => ?_)
    · skip
      replace h := bb_t hb17 h
      refine c_seq ?_
      refine za0 ?_
      refine o_q rfl rfl (q_build (vs := []) (cs := [.int .i64 0, .slice none 0 0, .slice none 0 0]) rfl rfl) ?_
      refine o_e rfl (zal (i := 1) rfl rfl rfl Z27 rfl rfl) (fun _ => ?_)
      refine o_q rfl rfl (q_asg rfl) ?_
      refine o_end ?_
      refine za1 ?_
      refine c_ret ?_
      refine zaa ?_
      refine x_nil kStep 89 ?_
      refine x_nil (Kd.int .i64) 3 ?_
      have e0_ := Option.some.inj h; clear h
      have d0_ := (Prod.mk.inj e0_).1; have e1_ := (Prod.mk.inj e0_).2; clear e0_; subst d0_
      have d1_ := (Prod.mk.inj e1_).1; have e2_ := (Prod.mk.inj e1_).2; clear e1_; subst d1_
      have d2_ := (Prod.mk.inj e2_).1; have e3_ := (Prod.mk.inj e2_).2; clear e2_; subst d2_
      subst e3_
      exact x_r2 (none, 0, none, 0) Try.results62 (rv_cell rfl G27 Z27 (fun w h => h.zab (i := 3) rfl) rfl) (zai rfl) rfl (fun w h => za7 [1, 0] (by decide) rfl w h)
    · skip
      replace h := bb_f hb17 h
      refine zam ?_
      refine za1 ?_
      refine c_seq ?_
      refine za0 ?_
      refine o_q rfl rfl (q_ldB G27 Z27 rfl (fun w h => h.zab (i := 0) rfl) rfl) ?_
      refine bindE2 h (fun l19 l20 hx18 h => ?_) rfl
      refine o_e rfl (zac 0 Z Try.func100 N100 rfl rfl rfl (fun w P1 hF hB hS hT => impl_clonePlan.calls a0_0 A0_1 c0_1 l0_1.length l0_1 A0_2 c0_2 l0_2.length l0_2 hB hF (hS _ R0_1) hc0_1 (hS _ R0_2) hc0_2 _ _ hx18)) (cur4 (fun A21 c22 A23 c24 => ?_))
      refine o_q rfl rfl (q_build (vs := [(0, .agg #[.int .i64 a0_0, .slice A21 l19.length c22, .slice A23 l20.length c24])]) (cs := [.int .i64 a0_0, .slice A21 l19.length c22, .slice A23 l20.length c24]) rfl rfl) ?_
      refine o_e rfl (e_box rfl) (fun g25 => ?_)
      refine o_q rfl rfl (q_asg rfl) ?_
      refine o_q rfl rfl (q_asg rfl) ?_
      refine o_end ?_
      refine za1 ?_
      refine c_seq ?_
      refine c_seq ?_
      refine za0 ?_
      refine o_q rfl rfl (q_f F27_2 rfl) ?_
      refine o_q rfl rfl (q_ldb Y25 rfl (fun w h => h.zab (i := 3) rfl) rfl) ?_
      refine o_q rfl rfl (q_len Try.underlying25 rfl) ?_
      refine o_q rfl rfl (za2 rfl) ?_
      refine o_end ?_
      refine za1 ?_
      refine zaj ?_
      refine za8 h (fun o39 hl38 hR37 => ?_) rfl
      clear h
      refine c_fact (p := l0_2.length ≤ 9223372036854775807) (fun w h => (R0_2.now Z h).2.1) (fun hm36 => ?_)
      refine zax (σ := (List Int) × (List SStep) × Int × Int × (Option Addr) × Nat) (fun k34 ((ys33, l27, i30, i31, A28, c29) : (List Int) × (List SStep) × Int × Int × (Option Addr) × Nat) => Rg l0_2 i30 ys33 ∧ ys33.length = k34 ∧ impl_FoldOutputs.l0 a0_0 l20 ys33 l27 i30 i31 = some o39) [5, 7, 25, 26, 27, 28, 29, 30, 31, 32, 33] (fun ((ys33, l27, i30, i31, A28, c29) : (List Int) × (List SStep) × Int × Int × (Option Addr) × Nat) => [(5, .int .i64 i31), (25, .int .i64 i30)]) (fun ((ys33, l27, i30, i31, A28, c29) : (List Int) × (List SStep) × Int × Int × (Option Addr) × Nat) => [box g25 131 #[.int .i64 a0_0, .slice A28 l27.length c29, .slice A23 l20.length c24], row kStep 89 (.slice A28 l27.length c29) l27, row (Kd.int .i64) 3 (.slice A23 l20.length c24) l20, box g1 27 #[.int .i64 a0_0, .slice A0_1 l0_1.length c0_1, .slice A0_2 l0_2.length c0_2], box g3 27 #[.int .i64 0, .slice none 0 0, .slice none 0 0]]) l0_2.length (l0_2, l19, 0, (-1), A21, c22) ⟨Rg.start _, rfl, hl38⟩ ⟨rfl, rfl, trivial⟩ (fun w h => h) ?_
      refine fun k34 => cur6 (listC (fun l27 i30 i31 A28 c29 U40 hJ_ => ?_) (fun y32 ys33 l27 i30 i31 A28 c29 U40 hJ_ => ?_))
      · skip
        clear hl38
        have hr35 := hJ_.1; have hk41 := hJ_.2.1; have h := hJ_.2.2; clear hJ_
        replace h : impl_FoldOutputs.l0 a0_0 l20 [] l27 i30 i31 = some o39 := h
        rw [impl_FoldOutputs.l0] at h
        refine c_seq ?_
        refine za0 ?_
        refine o_q rfl rfl (q_lss rfl rfl) ?_
        refine o_end ?_
        refine za1 ?_
        refine c_seq ?_
        refine zb3 (congrArg Value.bool hr35.ge) ?_
        refine zb6 ?_
        refine za6 ?_
        refine za6 ?_
        have e_ := Option.some.inj h; replace h := hR37; rw [← e_] at h; clear e_
        refine x_hit ?_
        refine za1 ?_
        refine c_seq ?_
        refine za0 ?_
        refine o_q rfl rfl (za2 rfl) ?_
        refine o_q rfl rfl (za2 rfl) ?_
        refine o_e rfl (e_lit (vs := [(0, .int .i64 i31)]) (cs := [.int .i64 i31]) (Kd.int .i64) ([i31] : List Int) Try.underlying25 I3 (by decide) rfl (by decide) rfl rfl (fun _ _ => Kd.zat _)) (cur2 (fun A42 c43 => ?_))
        refine o_pick [1, 2, 0, 3, 4, 5] (by decide) rfl ?_
        refine za8 h (fun _ hx45 h => ?_) rfl
        refine o_e rfl (zac 3 Z Try.func151 N151 rfl rfl rfl (fun w P1 hF hB hS hT => impl_maker_plan.calls g25 a0_0 A28 c29 l27.length l27 A23 c24 l20.length l20 A42 c43 (([i31] : List Int).length) ([i31] : List Int) hB hF (hT 0 _ rfl).row (hT 0 _ rfl).cap hx45)) (fun _ => ?_)
        refine bindE4 h (fun i47 l48 l49 b50 hx46 h => ?_) rfl
        refine o_e rfl (zac 2 Z Try.func102 N102 rfl rfl rfl (fun w P1 hF hB hS hT => impl_told.calls k a0_0 A28 c29 l27.length l27 A42 c43 (([i31] : List Int).length) ([i31] : List Int) hB hF _ _ _ _ hx46)) (cur4 (fun A51 c52 A53 c54 => ?_))
        refine o_q rfl rfl (q_ext rfl rfl) ?_
        refine o_q rfl rfl (q_ext rfl rfl) ?_
        refine o_e rfl (zal (i := 5) rfl rfl rfl Z27 rfl rfl) (fun _ => ?_)
        refine o_q rfl rfl (q_asg rfl) ?_
        refine o_end ?_
        refine za1 ?_
        refine c_ret ?_
        have e0_ := Option.some.inj h; clear h
        have d0_ := (Prod.mk.inj e0_).1; have e1_ := (Prod.mk.inj e0_).2; clear e0_; subst d0_
        have d1_ := (Prod.mk.inj e1_).1; have e2_ := (Prod.mk.inj e1_).2; clear e1_; subst d1_
        have d2_ := (Prod.mk.inj e2_).1; have e3_ := (Prod.mk.inj e2_).2; clear e2_; subst d2_
        subst e3_
        exact x_r2 (A51, c52, A53, c54) Try.results62 (rv_cell rfl G27 Z27 (fun w h => h.zab (i := 5) rfl) rfl) (zai rfl) rfl (fun w h => za7 [0, 1] (by decide) rfl w h)
      · skip
        clear hl38
        have hr35 := hJ_.1; have hk41 := hJ_.2.1; have h := hJ_.2.2; clear hJ_
        replace h : impl_FoldOutputs.l0 a0_0 l20 (y32 :: ys33) l27 i30 i31 = some o39 := h
        rw [impl_FoldOutputs.l0] at h
        refine c_seq ?_
        refine za0 ?_
        refine o_q rfl rfl (q_lss rfl rfl) ?_
        refine o_end ?_
        refine za1 ?_
        refine c_seq ?_
        refine zb2 (congrArg Value.bool hr35.lt) ?_
        refine zam ?_
        refine za1 ?_
        refine c_seq ?_
        refine zaj ?_
        refine c_seq ?_
        refine za0 ?_
        refine zau (p := Sh A0_2 l0_2.length l0_2.length) (fun w h => f_sh (dk := (Kd.int .i64)) h (fun w h => R0_2.now Z h)) (fun hq55 => ?_)
        refine o_q rfl rfl (q_ix Try.underlying25 Z3 rfl rfl hq55 hr35.get) ?_
        refine o_q rfl rfl (q_lde (off := 0) Y3 rfl rfl (fun w h => R0_2.now Z h) hr35.get (fun _ _ h => h) rfl) ?_
        refine o_q rfl rfl (q_asg rfl) ?_
        refine o_end ?_
        refine za1 ?_
        refine za0 ?_
        refine o_q rfl rfl (za2 rfl) ?_
        refine o_q rfl rfl (za2 rfl) ?_
        refine o_q rfl rfl (za2 rfl) ?_
        refine bindE2 h (fun i57 l58 hx56 h => ?_) rfl
        refine o_e rfl (zac 2 Z Try.func150 N150 rfl rfl rfl (fun w P1 hF hB hS hT => impl_maker_times.calls g25 a0_0 A28 c29 l27.length l27 A23 c24 l20.length l20 i31 y32 hB hF (hT 0 _ rfl).row (hT 0 _ rfl).cap _ _ hx56)) (cur2 (fun A59 c60 => ?_))
        refine o_q rfl rfl (q_asg rfl) ?_
        refine o_end ?_
        refine zan ?_
        refine za1 ?_
        refine za0 ?_
        refine o_q rfl rfl (q_up rfl rfl (hr35.up hm36)) ?_
        refine o_q rfl rfl (za2 rfl) ?_
        refine o_end ?_
        refine zak ys33.length (ys33, l58, i30 + 1, i57, A59, c60) (by rw [← hk41]; exact Nat.lt_succ_self _) ⟨hr35.step, rfl, h⟩ ⟨rfl, rfl, trivial⟩ (fun w h => za7 [0, 1, 2, 3, 4] (by decide) rfl w h) ?_
        repeat (first | exact zad _ _ | refine zaf rfl ?_ | refine zae rfl ?_ | refine zah rfl ?_)

/-! ### loop.example/g01098/spec.plOwn: function 152 -/
def spec_plOwn.f (a0_0 : Int) (l0_1 : List SStep) (l0_2 : List Int) : Option ((List SStep) × (List Int)) := (ap ([] : List SStep) l0_1).bind fun l8 => (spec_l1Own.f l0_2).bind fun l13 => some (l8, l13)
set_option maxHeartbeats 600000 in
set_option maxRecDepth 100000 in
theorem spec_plOwn.calls {w0 ws : World} {P0 : Nat → Prop} (a0_0 : Int) (A0_1 : Option Addr) (c0_1 : Nat) (n0_1 : Nat) (l0_1 : List SStep) (A0_2 : Option Addr) (c0_2 : Nat) (n0_2 : Nat) (l0_2 : List Int) (Z : Below w0.heap.size w0 ws) (hF : Fr w0 ws P0 [] ws) (R0_1 : Stable ws P0 (fun w => Kd.C kStep w A0_1 n0_1 l0_1)) (hc0_1 : n0_1 ≤ c0_1) (R0_2 : Stable ws P0 (fun w => Kd.C (Kd.int .i64) w A0_2 n0_2 l0_2)) (hc0_2 : n0_2 ≤ c0_2) (r_1 : List SStep) (r_4 : List Int) (h : spec_plOwn.f a0_0 l0_1 l0_2 = some (r_1, r_4)) :
    Calls Try.prog 152 #[.agg #[.int .i64 a0_0, .slice A0_1 n0_1 c0_1, .slice A0_2 n0_2 c0_2]] ws (Post1 w0 ws P0 (fun ((q_2, q_3, q_5, q_6) : (Option Addr) × Nat × (Option Addr) × Nat) => .agg #[.int .i64 a0_0, .slice q_2 r_1.length q_3, .slice q_5 r_4.length q_6]) (fun ((q_2, q_3, q_5, q_6) : (Option Addr) × Nat × (Option Addr) × Nat) => [row kStep 89 (.slice q_2 r_1.length q_3) r_1, row (Kd.int .i64) 3 (.slice q_5 r_4.length q_6) r_4])) := by
  unfold spec_plOwn.f at h
  obtain rfl := (R0_1 ws (KeptB.refl _ _)).1
  obtain rfl := (R0_2 ws (KeptB.refl _ _)).1
  refine enter Try.func152 rfl Try.ntmps152 rfl hF ?_
  refine c_seq ?_
  refine za0 ?_
  refine o_e rfl (e_box rfl) (fun g1 => ?_)
  refine o_e rfl (zav V27 rfl) (fun g3 => ?_)
  refine o_end ?_
  refine za1 ?_
  refine c_seq ?_
  refine a_startS (ds := []) [none, some 1] MO rfl ?_
  refine za5 0 rfl rfl rfl (by kernel_rfl) (fun _ _ _ h => h) (q_f F27_0 rfl) ?_
  refine zay 1 rfl rfl rfl (by kernel_rfl) (fun _ _ _ h => h) (fun w h => za9 [none, some 1] (by decide) w h rfl) (q_ldb Y3 rfl (fun w h => h.zab (i := 1) rfl) rfl) ?_
  refine za5 3 rfl rfl rfl (by kernel_rfl) (fun _ _ _ h => h) (q_f F27_1 rfl) ?_
  refine zay 4 rfl rfl rfl (by kernel_rfl) (fun _ _ _ h => h) (fun w h => za9 [none, some 1] (by decide) w h rfl) (q_ldb Y24 rfl (fun w h => h.zab (i := 1) rfl) rfl) ?_
  refine za5 6 rfl rfl rfl (by kernel_rfl) (fun _ _ _ h => h) (q_f F27_2 rfl) ?_
  refine zay 7 rfl rfl rfl (by kernel_rfl) (fun _ _ _ h => h) (fun w h => za9 [none, some 1] (by decide) w h rfl) (q_ldb Y25 rfl (fun w h => h.zab (i := 1) rfl) rfl) ?_
  refine a_one 2 rfl rfl (by kernel_rfl) rfl (e_lit0 kStep Try.underlying24 I89) (fun s w h => za9 [none, some 2] (by decide) w h rfl) (cur2 (fun A5 c6 => ?_))
  refine za8 h (fun l8 ha9 h => ?_) rfl
  refine a_one 5 rfl rfl (by kernel_rfl) rfl (e_appr (i := 0) Try.underlying24 I89 rfl (by decide) (by decide) (fun _ _ _ _ h => h) rfl (fun w h => R0_1.now Z h) rfl rfl ha9) (fun s w h => za9 [none, some 2] (by decide) w h rfl) (cur2 (fun A10 c11 => ?_))
  refine za8 h (fun l13 hx12 h => ?_) rfl
  refine a_one 8 rfl rfl (by kernel_rfl) rfl (zac 0 Z Try.func96 N96 rfl rfl rfl (fun w P1 hF hB hS hT => spec_l1Own.calls A0_2 c0_2 l0_2.length l0_2 hB hF (hS _ R0_2) hc0_2 _ hx12)) (fun s w h => za9 [none, some 3] (by decide) w h rfl) (cur2 (fun A14 c15 => ?_))
  refine za5 9 rfl rfl rfl (by kernel_rfl) (fun _ _ _ h => h) (q_build (vs := [(0, .int .i64 a0_0), (1, .slice A10 l8.length c11), (2, .slice A14 l13.length c15)]) (cs := [.int .i64 a0_0, .slice A10 l8.length c11, .slice A14 l13.length c15]) rfl rfl) ?_
  refine a_one 10 rfl rfl (by kernel_rfl) rfl (zal (i := 2) rfl rfl rfl Z27 rfl rfl) (fun s w h => za9 [none, some 3] (by decide) w h rfl) (fun _ => ?_)
  refine zaz (by kernel_rfl) ?_
  refine za1 ?_
  refine c_ret ?_
  have e0_ := Option.some.inj h; clear h
  have d0_ := (Prod.mk.inj e0_).1; have e1_ := (Prod.mk.inj e0_).2; clear e0_; subst d0_
  subst e1_
  exact x_r1 (A10, c11, A14, c15) Try.results152 (rv_cell rfl G27 Z27 (fun w h => h.zab (i := 2) rfl) rfl) rfl (fun w h => za7 [1, 0] (by decide) rfl w h)

/-! ### loop.example/g01098/spec.meTimes: function 153 -/
def spec_meTimes.f (a0_0 : Int) (l0_1 : List SStep) (l0_2 : List Int) (a1 : Int) (a2 : Int) : Option (List SStep) := ((ap ([] : List SStep) l0_1).bind fun l1216 => (spec_plStep.f a1 a2).bind fun z1397 => (ap l1216 ([z1397] : List SStep)).bind fun l1516 => some l1516).bind fun l907 => some l907
set_option maxHeartbeats 600000 in
set_option maxRecDepth 100000 in
theorem spec_meTimes.calls {w0 ws : World} {P0 : Nat → Prop} (a0_0 : Int) (A0_1 : Option Addr) (c0_1 : Nat) (n0_1 : Nat) (l0_1 : List SStep) (A0_2 : Option Addr) (c0_2 : Nat) (n0_2 : Nat) (l0_2 : List Int) (a1 : Int) (a2 : Int) (Z : Below w0.heap.size w0 ws) (hF : Fr w0 ws P0 [] ws) (R0_1 : Stable ws P0 (fun w => Kd.C kStep w A0_1 n0_1 l0_1)) (hc0_1 : n0_1 ≤ c0_1) (R0_2 : Stable ws P0 (fun w => Kd.C (Kd.int .i64) w A0_2 n0_2 l0_2)) (hc0_2 : n0_2 ≤ c0_2) (r_1 : List SStep) (h : spec_meTimes.f a0_0 l0_1 l0_2 a1 a2 = some r_1) :
    Calls Try.prog 153 #[.agg #[.int .i64 a0_0, .slice A0_1 n0_1 c0_1, .slice A0_2 n0_2 c0_2], .int .i64 a1, .int .i64 a2] ws (Post1 w0 ws P0 (fun ((q_2, q_3) : (Option Addr) × Nat) => .tuple #[.agg #[.int .i64 a0_0, .slice q_2 r_1.length q_3, .slice none 0 0], .int .i64 (w64 (a0_0 + (l0_1.length : Int)))]) (fun ((q_2, q_3) : (Option Addr) × Nat) => [row kStep 89 (.slice q_2 r_1.length q_3) r_1, row (Kd.int .i64) 3 (.slice none 0 0) []])) := by
  unfold spec_meTimes.f at h
  obtain rfl := (R0_1 ws (KeptB.refl _ _)).1
  obtain rfl := (R0_2 ws (KeptB.refl _ _)).1
  refine enter Try.func153 rfl Try.ntmps153 rfl hF ?_
  refine c_seq ?_
  refine za0 ?_
  refine o_e rfl (e_box rfl) (fun g1 => ?_)
  refine o_e rfl (zav V27 rfl) (fun g3 => ?_)
  refine o_q rfl rfl (q_asg rfl) ?_
  refine o_end ?_
  refine za1 ?_
  refine za8 h (fun o910 hl911 hR912 => ?_) rfl
  clear h
  refine c_cutJ (σ := (List SStep) × Nat × (Option Addr) × Nat) (fun (l907, g906, A908, c909) => some l907 = some o910) [8, 9, 10, 11, 12, 13, 14, 15, 16, 17, 18, 19, 20] (fun (l907, g906, A908, c909) => [(8, .pointer (some ⟨g906, 0, none⟩))]) (fun (l907, g906, A908, c909) => [box g1 27 #[.int .i64 a0_0, .slice A0_1 l0_1.length c0_1, .slice A0_2 l0_2.length c0_2], box g3 27 #[.int .i64 0, .slice none 0 0, .slice none 0 0], box g906 27 #[.int .i64 a0_0, .slice A908 l907.length c909, .slice none 0 0], row kStep 89 (.slice A908 l907.length c909) l907]) ?_ ?_
  · skip
    have h := hl911; clear hl911
    clear hR912
    refine za8 h (fun l1216 ha1217 h => ?_) rfl
    refine za8 h (fun z1397 hx1396 h => ?_) rfl
    refine za8 h (fun l1516 ha1517 h => ?_) rfl
    refine a_start (ds := []) MO rfl ?_
    refine za5 0 rfl rfl rfl (by kernel_rfl) (fun _ _ _ h => h) (q_f F27_0 rfl) ?_
    refine zay 1 rfl rfl rfl (by kernel_rfl) (fun _ _ _ h => h) (fun w h => h) (q_ldb Y3 rfl (fun w h => h.zab (i := 1) rfl) rfl) ?_
    refine za5 3 rfl rfl rfl (by kernel_rfl) (fun _ _ _ h => h) (q_f F27_1 rfl) ?_
    refine zay 4 rfl rfl rfl (by kernel_rfl) (fun _ _ _ h => h) (fun w h => h) (q_ldb Y24 rfl (fun w h => h.zab (i := 1) rfl) rfl) ?_
    refine za5 6 rfl rfl rfl (by kernel_rfl) (fun _ _ _ h => h) (za2 rfl) ?_
    refine za5 7 rfl rfl rfl (by kernel_rfl) (fun _ _ _ h => h) (za2 rfl) ?_
    refine a_two 2 12 rfl rfl rfl rfl (by kernel_rfl) rfl rfl (e_lit0 kStep Try.underlying24 I89) (fun s w h => za9 [some 1, some 2] (by decide) w h rfl) (zav V27 rfl) (fun s w h => za9 [some 1, some 2] (by decide) w h rfl) (cur2 (fun A1036 c1037 => ?_)) (fun g1636 => ?_)
    · skip
      refine a_two 5 12 rfl rfl rfl rfl (by kernel_rfl) rfl rfl (e_appr (i := 0) Try.underlying24 I89 rfl (by decide) (by decide) (fun _ _ _ _ h => h) rfl (fun w h => R0_1.now Z h) rfl rfl ha1217) (fun s w h => za9 [some 1, some 2] (by decide) w h rfl) (zav V27 rfl) (fun s w h => za9 [some 2, some 3] (by decide) w h rfl) (cur2 (fun A1218 c1219 => ?_)) (fun g1636 => ?_)
      · skip
        refine a_two 8 12 rfl rfl rfl rfl (by kernel_rfl) rfl rfl (zac 0 Z Try.func97 N97 rfl rfl rfl (fun w P1 hF hB hS hT => spec_plStep.calls a1 a2 hB hF _ hx1396)) (fun s w h => za9 [some 1, some 2] (by decide) w h rfl) (zav V27 rfl) (fun s w h => za9 [some 2, some 3] (by decide) w h rfl) (fun _ => ?_) (fun g1636 => ?_)
        · skip
          refine a_two 9 12 rfl rfl rfl rfl (by kernel_rfl) rfl rfl (e_lit (vs := [(0, .agg #[.int .i64 z1397.f0, .int .i64 z1397.f1])]) (cs := [.int .i64 z1397.f0, .int .i64 z1397.f1]) kStep ([z1397] : List SStep) Try.underlying24 I89 (by decide) rfl (by decide) rfl rfl (fun _ _ => zb5 _)) (fun s w h => za9 [some 2, some 3] (by decide) w h rfl) (zav V27 rfl) (fun s w h => za9 [some 2, some 3] (by decide) w h rfl) (cur2 (fun A1456 c1457 => ?_)) (fun g1636 => ?_)
          · skip
            refine a_two 10 12 rfl rfl rfl rfl (by kernel_rfl) rfl rfl (e_app (i := 1) (j := 0) Try.underlying24 I89 rfl (by decide) (by decide) rfl rfl rfl rfl rfl ha1517) (fun s w h => za9 [some 2, some 3] (by decide) w h rfl) (zav V27 rfl) (fun s w h => za9 [some 3, some 4] (by decide) w h rfl) (cur2 (fun A1518 c1519 => ?_)) (fun g1636 => ?_)
            · skip
              refine za5 11 rfl rfl rfl (by kernel_rfl) (fun _ _ _ h => h) (q_build (vs := [(0, .int .i64 a0_0), (1, .slice A1518 l1516.length c1519)]) (cs := [.int .i64 a0_0, .slice A1518 l1516.length c1519, .slice none 0 0]) rfl rfl) ?_
              refine a_one 12 rfl rfl (by kernel_rfl) rfl (zav V27 rfl) (fun s w h => za9 [some 3, some 4] (by decide) w h rfl) (fun g1636 => ?_)
              refine a_one 13 rfl rfl (by kernel_rfl) rfl (zal (i := 0) rfl rfl rfl Z27 rfl rfl) (fun s w h => za9 [some 3, some 4] (by decide) w h rfl) (fun _ => ?_)
              refine zaz (by kernel_rfl) ?_
              refine zb0 (l1516, g1636, A1518, c1519) h ⟨rfl, trivial⟩ (fun w h => za7 [4, 3, 0, 2] (by decide) rfl w h) ?_
              repeat (first | exact zad _ _ | refine zaf rfl ?_ | refine zae rfl ?_ | refine zah rfl ?_)
            · skip
              refine a_one 10 rfl rfl (by kernel_rfl) rfl (e_app (i := 2) (j := 1) Try.underlying24 I89 rfl (by decide) (by decide) rfl rfl rfl rfl rfl ha1517) (fun s w h => za9 [some 3, some 4] (by decide) w h rfl) (cur2 (fun A1518 c1519 => ?_))
              refine za5 11 rfl rfl rfl (by kernel_rfl) (fun _ _ _ h => h) (q_build (vs := [(0, .int .i64 a0_0), (1, .slice A1518 l1516.length c1519)]) (cs := [.int .i64 a0_0, .slice A1518 l1516.length c1519, .slice none 0 0]) rfl rfl) ?_
              refine a_one 13 rfl rfl (by kernel_rfl) rfl (zal (i := 0) rfl rfl rfl Z27 rfl rfl) (fun s w h => za9 [some 3, some 4] (by decide) w h rfl) (fun _ => ?_)
              refine zaz (by kernel_rfl) ?_
              refine zb0 (l1516, g1636, A1518, c1519) h ⟨rfl, trivial⟩ (fun w h => za7 [4, 3, 0, 2] (by decide) rfl w h) ?_
              repeat (first | exact zad _ _ | refine zaf rfl ?_ | refine zae rfl ?_ | refine zah rfl ?_)
          · skip
            refine a_one 9 rfl rfl (by kernel_rfl) rfl (e_lit (vs := [(0, .agg #[.int .i64 z1397.f0, .int .i64 z1397.f1])]) (cs := [.int .i64 z1397.f0, .int .i64 z1397.f1]) kStep ([z1397] : List SStep) Try.underlying24 I89 (by decide) rfl (by decide) rfl rfl (fun _ _ => zb5 _)) (fun s w h => za9 [some 3, some 4] (by decide) w h rfl) (cur2 (fun A1456 c1457 => ?_))
            refine a_one 10 rfl rfl (by kernel_rfl) rfl (e_app (i := 2) (j := 0) Try.underlying24 I89 rfl (by decide) (by decide) rfl rfl rfl rfl rfl ha1517) (fun s w h => za9 [some 3, some 4] (by decide) w h rfl) (cur2 (fun A1518 c1519 => ?_))
            refine za5 11 rfl rfl rfl (by kernel_rfl) (fun _ _ _ h => h) (q_build (vs := [(0, .int .i64 a0_0), (1, .slice A1518 l1516.length c1519)]) (cs := [.int .i64 a0_0, .slice A1518 l1516.length c1519, .slice none 0 0]) rfl rfl) ?_
            refine a_one 13 rfl rfl (by kernel_rfl) rfl (zal (i := 1) rfl rfl rfl Z27 rfl rfl) (fun s w h => za9 [some 3, some 4] (by decide) w h rfl) (fun _ => ?_)
            refine zaz (by kernel_rfl) ?_
            refine zb0 (l1516, g1636, A1518, c1519) h ⟨rfl, trivial⟩ (fun w h => za7 [4, 3, 1, 2] (by decide) rfl w h) ?_
            repeat (first | exact zad _ _ | refine zaf rfl ?_ | refine zae rfl ?_ | refine zah rfl ?_)
        · skip
          refine a_one 8 rfl rfl (by kernel_rfl) rfl (zac 0 Z Try.func97 N97 rfl rfl rfl (fun w P1 hF hB hS hT => spec_plStep.calls a1 a2 hB hF _ hx1396)) (fun s w h => za9 [some 2, some 3] (by decide) w h rfl) (fun _ => ?_)
          refine a_one 9 rfl rfl (by kernel_rfl) rfl (e_lit (vs := [(0, .agg #[.int .i64 z1397.f0, .int .i64 z1397.f1])]) (cs := [.int .i64 z1397.f0, .int .i64 z1397.f1]) kStep ([z1397] : List SStep) Try.underlying24 I89 (by decide) rfl (by decide) rfl rfl (fun _ _ => zb5 _)) (fun s w h => za9 [some 3, some 4] (by decide) w h rfl) (cur2 (fun A1456 c1457 => ?_))
          refine a_one 10 rfl rfl (by kernel_rfl) rfl (e_app (i := 2) (j := 0) Try.underlying24 I89 rfl (by decide) (by decide) rfl rfl rfl rfl rfl ha1517) (fun s w h => za9 [some 3, some 4] (by decide) w h rfl) (cur2 (fun A1518 c1519 => ?_))
          refine za5 11 rfl rfl rfl (by kernel_rfl) (fun _ _ _ h => h) (q_build (vs := [(0, .int .i64 a0_0), (1, .slice A1518 l1516.length c1519)]) (cs := [.int .i64 a0_0, .slice A1518 l1516.length c1519, .slice none 0 0]) rfl rfl) ?_
          refine a_one 13 rfl rfl (by kernel_rfl) rfl (zal (i := 1) rfl rfl rfl Z27 rfl rfl) (fun s w h => za9 [some 3, some 4] (by decide) w h rfl) (fun _ => ?_)
          refine zaz (by kernel_rfl) ?_
          refine zb0 (l1516, g1636, A1518, c1519) h ⟨rfl, trivial⟩ (fun w h => za7 [4, 3, 1, 2] (by decide) rfl w h) ?_
          repeat (first | exact zad _ _ | refine zaf rfl ?_ | refine zae rfl ?_ | refine zah rfl ?_)
      · skip
        refine a_one 5 rfl rfl (by kernel_rfl) rfl (e_appr (i := 1) Try.underlying24 I89 rfl (by decide) (by decide) (fun _ _ _ _ h => h) rfl (fun w h => R0_1.now Z h) rfl rfl ha1217) (fun s w h => za9 [some 2, some 3] (by decide) w h rfl) (cur2 (fun A1218 c1219 => ?_))
        refine a_one 8 rfl rfl (by kernel_rfl) rfl (zac 0 Z Try.func97 N97 rfl rfl rfl (fun w P1 hF hB hS hT => spec_plStep.calls a1 a2 hB hF _ hx1396)) (fun s w h => za9 [some 2, some 3] (by decide) w h rfl) (fun _ => ?_)
        refine a_one 9 rfl rfl (by kernel_rfl) rfl (e_lit (vs := [(0, .agg #[.int .i64 z1397.f0, .int .i64 z1397.f1])]) (cs := [.int .i64 z1397.f0, .int .i64 z1397.f1]) kStep ([z1397] : List SStep) Try.underlying24 I89 (by decide) rfl (by decide) rfl rfl (fun _ _ => zb5 _)) (fun s w h => za9 [some 3, some 4] (by decide) w h rfl) (cur2 (fun A1456 c1457 => ?_))
        refine a_one 10 rfl rfl (by kernel_rfl) rfl (e_app (i := 2) (j := 0) Try.underlying24 I89 rfl (by decide) (by decide) rfl rfl rfl rfl rfl ha1517) (fun s w h => za9 [some 3, some 4] (by decide) w h rfl) (cur2 (fun A1518 c1519 => ?_))
        refine za5 11 rfl rfl rfl (by kernel_rfl) (fun _ _ _ h => h) (q_build (vs := [(0, .int .i64 a0_0), (1, .slice A1518 l1516.length c1519)]) (cs := [.int .i64 a0_0, .slice A1518 l1516.length c1519, .slice none 0 0]) rfl rfl) ?_
        refine a_one 13 rfl rfl (by kernel_rfl) rfl (zal (i := 1) rfl rfl rfl Z27 rfl rfl) (fun s w h => za9 [some 3, some 4] (by decide) w h rfl) (fun _ => ?_)
        refine zaz (by kernel_rfl) ?_
        refine zb0 (l1516, g1636, A1518, c1519) h ⟨rfl, trivial⟩ (fun w h => za7 [4, 3, 1, 2] (by decide) rfl w h) ?_
        repeat (first | exact zad _ _ | refine zaf rfl ?_ | refine zae rfl ?_ | refine zah rfl ?_)
    · skip
      refine a_one 2 rfl rfl (by kernel_rfl) rfl (e_lit0 kStep Try.underlying24 I89) (fun s w h => za9 [some 2, some 3] (by decide) w h rfl) (cur2 (fun A1036 c1037 => ?_))
      refine a_one 5 rfl rfl (by kernel_rfl) rfl (e_appr (i := 0) Try.underlying24 I89 rfl (by decide) (by decide) (fun _ _ _ _ h => h) rfl (fun w h => R0_1.now Z h) rfl rfl ha1217) (fun s w h => za9 [some 2, some 3] (by decide) w h rfl) (cur2 (fun A1218 c1219 => ?_))
      refine a_one 8 rfl rfl (by kernel_rfl) rfl (zac 0 Z Try.func97 N97 rfl rfl rfl (fun w P1 hF hB hS hT => spec_plStep.calls a1 a2 hB hF _ hx1396)) (fun s w h => za9 [some 2, some 3] (by decide) w h rfl) (fun _ => ?_)
      refine a_one 9 rfl rfl (by kernel_rfl) rfl (e_lit (vs := [(0, .agg #[.int .i64 z1397.f0, .int .i64 z1397.f1])]) (cs := [.int .i64 z1397.f0, .int .i64 z1397.f1]) kStep ([z1397] : List SStep) Try.underlying24 I89 (by decide) rfl (by decide) rfl rfl (fun _ _ => zb5 _)) (fun s w h => za9 [some 3, some 4] (by decide) w h rfl) (cur2 (fun A1456 c1457 => ?_))
      refine a_one 10 rfl rfl (by kernel_rfl) rfl (e_app (i := 1) (j := 0) Try.underlying24 I89 rfl (by decide) (by decide) rfl rfl rfl rfl rfl ha1517) (fun s w h => za9 [some 3, some 4] (by decide) w h rfl) (cur2 (fun A1518 c1519 => ?_))
      refine za5 11 rfl rfl rfl (by kernel_rfl) (fun _ _ _ h => h) (q_build (vs := [(0, .int .i64 a0_0), (1, .slice A1518 l1516.length c1519)]) (cs := [.int .i64 a0_0, .slice A1518 l1516.length c1519, .slice none 0 0]) rfl rfl) ?_
      refine a_one 13 rfl rfl (by kernel_rfl) rfl (zal (i := 2) rfl rfl rfl Z27 rfl rfl) (fun s w h => za9 [some 3, some 4] (by decide) w h rfl) (fun _ => ?_)
      refine zaz (by kernel_rfl) ?_
      refine zb0 (l1516, g1636, A1518, c1519) h ⟨rfl, trivial⟩ (fun w h => za7 [4, 3, 2, 1] (by decide) rfl w h) ?_
      repeat (first | exact zad _ _ | refine zaf rfl ?_ | refine zae rfl ?_ | refine zah rfl ?_)
  · skip
    refine (cur4 (fun l907 g906 A908 c909 => fun U913 hJ914 => ?_))
    have e_ := Option.some.inj hJ914; have h := hR912; rw [← e_] at h; clear e_ hJ914 hR912 hl911
    refine c_seq ?_
    refine a_startS (ds := []) [some 0, none, some 2, some 3] MO rfl ?_
    refine zay 0 rfl rfl rfl (by kernel_rfl) (fun _ _ _ h => h) (fun w h => za9 [some 0, none, some 2, some 3] (by decide) w h rfl) (q_ldB G27 Z27 rfl (fun w h => h.zab (i := 2) rfl) rfl) ?_
    refine za5 1 rfl rfl rfl (by kernel_rfl) (fun _ _ _ h => h) (q_f F27_0 rfl) ?_
    refine zay 2 rfl rfl rfl (by kernel_rfl) (fun _ _ _ h => h) (fun w h => za9 [some 0, none, some 2, some 3] (by decide) w h rfl) (q_ldb Y3 rfl (fun w h => h.zab (i := 0) rfl) rfl) ?_
    refine za5 3 rfl rfl rfl (by kernel_rfl) (fun _ _ _ h => h) (q_f F27_1 rfl) ?_
    refine zay 4 rfl rfl rfl (by kernel_rfl) (fun _ _ _ h => h) (fun w h => za9 [some 0, none, some 2, some 3] (by decide) w h rfl) (q_ldb Y24 rfl (fun w h => h.zab (i := 0) rfl) rfl) ?_
    refine za5 5 rfl rfl rfl (by kernel_rfl) (fun _ _ _ h => h) (q_len Try.underlying24 rfl) ?_
    refine za5 6 rfl rfl rfl (by kernel_rfl) (fun _ _ _ h => h) (q_add64 rfl rfl) ?_
    refine a_one 7 rfl rfl (by kernel_rfl) rfl (zal (i := 1) rfl rfl rfl Z27 rfl rfl) (fun s w h => za9 [some 0, none, some 2, some 3] (by decide) w h rfl) (fun _ => ?_)
    refine za5 8 rfl rfl rfl (by kernel_rfl) (fun _ _ _ h => h) (q_asg rfl) ?_
    refine zaz (by kernel_rfl) ?_
    refine za1 ?_
    refine c_ret ?_
    refine x_nil (Kd.int .i64) 3 ?_
    have e0_ := Option.some.inj h; clear h
    subst e0_
    exact x_r2 (A908, c909) Try.results153 (rv_cell rfl G27 Z27 (fun w h => h.zab (i := 2) rfl) rfl) (zai rfl) rfl (fun w h => za7 [4, 0] (by decide) rfl w h)

/-! ### loop.example/g01098/spec.meEnd: function 154 -/
def spec_meEnd.f (a0_0 : Int) (l0_1 : List SStep) (l0_2 : List Int) (a1 : Int) : Option Unit := some ()
set_option maxHeartbeats 600000 in
set_option maxRecDepth 100000 in
theorem spec_meEnd.calls {w0 ws : World} {P0 : Nat → Prop} (a0_0 : Int) (A0_1 : Option Addr) (c0_1 : Nat) (n0_1 : Nat) (l0_1 : List SStep) (A0_2 : Option Addr) (c0_2 : Nat) (n0_2 : Nat) (l0_2 : List Int) (a1 : Int) (Z : Below w0.heap.size w0 ws) (hF : Fr w0 ws P0 [row kStep 89 (.slice A0_1 n0_1 c0_1) l0_1] ws) (R0_2 : Stable ws P0 (fun w => Kd.C (Kd.int .i64) w A0_2 n0_2 l0_2)) (hc0_2 : n0_2 ≤ c0_2)  (h : spec_meEnd.f a0_0 l0_1 l0_2 a1 = some ()) :
    Calls Try.prog 154 #[.agg #[.int .i64 a0_0, .slice A0_1 n0_1 c0_1, .slice A0_2 n0_2 c0_2], .int .i64 a1] ws (Post1 w0 ws P0 (fun ((q_1, q_2) : (Option Addr) × Nat) => .agg #[.int .i64 a0_0, .slice A0_1 n0_1 c0_1, .slice q_1 (([a1] : List Int).length) q_2]) (fun ((q_1, q_2) : (Option Addr) × Nat) => [row kStep 89 (.slice A0_1 n0_1 c0_1) l0_1, row (Kd.int .i64) 3 (.slice q_1 (([a1] : List Int).length) q_2) ([a1] : List Int)])) := by
  unfold spec_meEnd.f at h
  obtain rfl := (hF.row_C (i := 0) rfl).2.1
  obtain rfl := (R0_2 ws (KeptB.refl _ _)).1
  refine enter Try.func154 rfl Try.ntmps154 rfl hF ?_
  refine c_seq ?_
  refine za0 ?_
  refine o_e rfl (e_box rfl) (fun g1 => ?_)
  refine o_e rfl (zav V27 rfl) (fun g3 => ?_)
  refine o_end ?_
  refine za1 ?_
  refine c_seq ?_
  refine za0 ?_
  refine o_q rfl rfl (q_f F27_0 rfl) ?_
  refine o_q rfl rfl (q_ldb Y3 rfl (fun w h => h.zab (i := 1) rfl) rfl) ?_
  refine o_q rfl rfl (q_f F27_1 rfl) ?_
  refine o_q rfl rfl (q_ldb Y24 rfl (fun w h => h.zab (i := 1) rfl) rfl) ?_
  refine o_q rfl rfl (za2 rfl) ?_
  refine o_e rfl (e_lit (vs := [(0, .int .i64 a1)]) (cs := [.int .i64 a1]) (Kd.int .i64) ([a1] : List Int) Try.underlying25 I3 (by decide) rfl (by decide) rfl rfl (fun _ _ => Kd.zat _)) (cur2 (fun A5 c6 => ?_))
  refine o_q rfl rfl (q_build (vs := [(0, .int .i64 a0_0), (1, .slice A0_1 l0_1.length c0_1), (2, .slice A5 (([a1] : List Int).length) c6)]) (cs := [.int .i64 a0_0, .slice A0_1 l0_1.length c0_1, .slice A5 (([a1] : List Int).length) c6]) rfl rfl) ?_
  refine o_e rfl (zal (i := 1) rfl rfl rfl Z27 rfl rfl) (fun _ => ?_)
  refine o_end ?_
  refine za1 ?_
  refine c_ret ?_
  exact x_r1 (A5, c6) Try.results154 (rv_cell rfl G27 Z27 (fun w h => h.zab (i := 1) rfl) rfl) rfl (fun w h => za7 [3, 0] (by decide) rfl w h)

/-! ### loop.example/g01098/spec.plIf: function 106 -/
def spec_plIf.f (k : Nat) (a0_0 : Int) (l0_1 : List SStep) (l0_2 : List Int) : Option (Int × (List SStep) × (List Int) × Bool) := (spec_plGood.f k a0_0 l0_1 l0_2).bind fun b6 => if b6 = true then (some (a0_0, l0_1, l0_2, true)) else (some (0, ([] : List SStep), ([] : List Int), false))
set_option maxHeartbeats 600000 in
set_option maxRecDepth 100000 in
theorem spec_plIf.calls (k : Nat) {w0 ws : World} {P0 : Nat → Prop} (a0_0 : Int) (A0_1 : Option Addr) (c0_1 : Nat) (n0_1 : Nat) (l0_1 : List SStep) (A0_2 : Option Addr) (c0_2 : Nat) (n0_2 : Nat) (l0_2 : List Int) (Z : Below w0.heap.size w0 ws) (hF : Fr w0 ws P0 [row kStep 89 (.slice A0_1 n0_1 c0_1) l0_1, row (Kd.int .i64) 3 (.slice A0_2 n0_2 c0_2) l0_2] ws)  (r_1 : Int) (r_2 : List SStep) (r_5 : List Int) (r_8 : Bool) (h : spec_plIf.f k a0_0 l0_1 l0_2 = some (r_1, r_2, r_5, r_8)) :
    Calls Try.prog 106 #[.agg #[.int .i64 a0_0, .slice A0_1 n0_1 c0_1, .slice A0_2 n0_2 c0_2]] ws (Post1 w0 ws P0 (fun ((q_3, q_4, q_6, q_7) : (Option Addr) × Nat × (Option Addr) × Nat) => .tuple #[.agg #[.int .i64 r_1, .slice q_3 r_2.length q_4, .slice q_6 r_5.length q_7], .bool r_8]) (fun ((q_3, q_4, q_6, q_7) : (Option Addr) × Nat × (Option Addr) × Nat) => [row kStep 89 (.slice q_3 r_2.length q_4) r_2, row (Kd.int .i64) 3 (.slice q_6 r_5.length q_7) r_5])) := by
  unfold spec_plIf.f at h
  obtain rfl := (hF.row_C (i := 0) rfl).2.1
  obtain rfl := (hF.row_C (i := 1) rfl).2.1
  refine enter Try.func106 rfl Try.ntmps106 rfl hF ?_
  refine c_seq ?_
  refine za0 ?_
  refine o_e rfl (e_box rfl) (fun g1 => ?_)
  refine o_e rfl (zav V27 rfl) (fun g3 => ?_)
  refine o_q rfl rfl (q_asg rfl) ?_
  refine o_end ?_
  refine za1 ?_
  refine c_seq ?_
  refine c_seq ?_
  refine za0 ?_
  refine o_q rfl rfl (q_ldB G27 Z27 rfl (fun w h => h.zab (i := 1) rfl) rfl) ?_
  refine za8 h (fun b6 hx5 h => ?_) rfl
  refine o_e rfl (zac 0 Z Try.func93 N93 rfl rfl rfl (fun w P1 hF hB hS hT => spec_plGood.calls k a0_0 A0_1 c0_1 l0_1.length l0_1 A0_2 c0_2 l0_2.length l0_2 hB hF (hT 2 _ rfl).row (hT 2 _ rfl).cap (hT 3 _ rfl).row (hT 3 _ rfl).cap _ hx5)) (fun _ => ?_)
  refine o_q rfl rfl (q_not rfl) ?_
  refine o_end ?_
  refine za1 ?_
  refine zar _ rfl (fun hb7 => ?_) (fun hb7 => ?_)
  · replace hb7 := nt_t hb7
    replace h := bb_f hb7 h
    refine c_seq ?_
    refine za0 ?_
    refine o_q rfl rfl (q_build (vs := []) (cs := [.int .i64 0, .slice none 0 0, .slice none 0 0]) rfl rfl) ?_
    refine o_e rfl (zal (i := 0) rfl rfl rfl Z27 rfl rfl) (fun _ => ?_)
    refine o_q rfl rfl (q_asg rfl) ?_
    refine o_end ?_
    refine za1 ?_
    refine c_ret ?_
    refine zaa ?_
    refine x_nil kStep 89 ?_
    refine x_nil (Kd.int .i64) 3 ?_
    have e0_ := Option.some.inj h; clear h
    have d0_ := (Prod.mk.inj e0_).1; have e1_ := (Prod.mk.inj e0_).2; clear e0_; subst d0_
    have d1_ := (Prod.mk.inj e1_).1; have e2_ := (Prod.mk.inj e1_).2; clear e1_; subst d1_
    have d2_ := (Prod.mk.inj e2_).1; have e3_ := (Prod.mk.inj e2_).2; clear e2_; subst d2_
    subst e3_
    exact x_r2 (none, 0, none, 0) Try.results106 (rv_cell rfl G27 Z27 (fun w h => h.zab (i := 2) rfl) rfl) (zai rfl) rfl (fun w h => za7 [1, 0] (by decide) rfl w h)
  · replace hb7 := nt_f hb7
    replace h := bb_t hb7 h
    refine zam ?_
    refine za1 ?_
    refine c_seq ?_
    refine za0 ?_
    refine o_q rfl rfl (q_ldB G27 Z27 rfl (fun w h => h.zab (i := 1) rfl) rfl) ?_
    refine o_e rfl (zal (i := 0) rfl rfl rfl Z27 rfl rfl) (fun _ => ?_)
    refine o_q rfl rfl (q_asg rfl) ?_
    refine o_end ?_
    refine za1 ?_
    refine c_ret ?_
    have e0_ := Option.some.inj h; clear h
    have d0_ := (Prod.mk.inj e0_).1; have e1_ := (Prod.mk.inj e0_).2; clear e0_; subst d0_
    have d1_ := (Prod.mk.inj e1_).1; have e2_ := (Prod.mk.inj e1_).2; clear e1_; subst d1_
    have d2_ := (Prod.mk.inj e2_).1; have e3_ := (Prod.mk.inj e2_).2; clear e2_; subst d2_
    subst e3_
    exact x_r2 (A0_1, c0_1, A0_2, c0_2) Try.results106 (rv_cell rfl G27 Z27 (fun w h => h.zab (i := 0) rfl) rfl) (zai rfl) rfl (fun w h => za7 [2, 3] (by decide) rfl w h)

/-! ### loop.example/g01098/spec.FoldOutputs: function 63 -/
def spec_FoldOutputs.l0 (a0_0 : Int) : (List Int) → (List SStep) → (List Int) → Int → Int → Option ((List SStep) × (List Int) × Int)
  | [], l32, l35, i38, i39 => some (l32, l35, i39)
  | y40 :: ys41, l32, l35, i38, i39 => (spec_meTimes.f a0_0 l32 l35 i39 y40).bind fun l64 => spec_FoldOutputs.l0 a0_0 ys41 l64 [] (i38 + 1) (w64 (a0_0 + (l32.length : Int)))
def spec_FoldOutputs.f (k : Nat) (a0_0 : Int) (l0_1 : List SStep) (l0_2 : List Int) : Option (Int × (List SStep) × (List Int) × Bool) := ((spec_plGood.f k a0_0 l0_1 l0_2).bind fun b15 => if b15 = true then (some (decide ((l0_2.length : Int) = 0))) else (some true)).bind fun b8 => if b8 = true then (some (0, ([] : List SStep), ([] : List Int), false)) else ((spec_plOwn.f a0_0 l0_1 l0_2).bind fun (l19, l20) => (gt l0_2 0).bind fun y29 => (ct l0_2 (1 : Int) (l0_2.length : Int)).bind fun l30 => (spec_FoldOutputs.l0 a0_0 l30 l19 l20 0 y29).bind fun (l32, l35, i39) => (spec_meEnd.f a0_0 l32 l35 i39).bind fun _ => (spec_plIf.f k a0_0 l32 ([i39] : List Int)).bind fun (i54, l55, l56, b57) => some (i54, l55, l56, b57))
set_option maxHeartbeats 600000 in
set_option maxRecDepth 100000 in
theorem spec_FoldOutputs.calls (k : Nat) {w0 ws : World} {P0 : Nat → Prop} (a0_0 : Int) (A0_1 : Option Addr) (c0_1 : Nat) (n0_1 : Nat) (l0_1 : List SStep) (A0_2 : Option Addr) (c0_2 : Nat) (n0_2 : Nat) (l0_2 : List Int) (Z : Below w0.heap.size w0 ws) (hF : Fr w0 ws P0 [] ws) (R0_1 : Stable ws P0 (fun w => Kd.C kStep w A0_1 n0_1 l0_1)) (hc0_1 : n0_1 ≤ c0_1) (R0_2 : Stable ws P0 (fun w => Kd.C (Kd.int .i64) w A0_2 n0_2 l0_2)) (hc0_2 : n0_2 ≤ c0_2) (r_1 : Int) (r_2 : List SStep) (r_5 : List Int) (r_8 : Bool) (h : spec_FoldOutputs.f k a0_0 l0_1 l0_2 = some (r_1, r_2, r_5, r_8)) :
    Calls Try.prog 63 #[.agg #[.int .i64 a0_0, .slice A0_1 n0_1 c0_1, .slice A0_2 n0_2 c0_2]] ws (Post1 w0 ws P0 (fun ((q_3, q_4, q_6, q_7) : (Option Addr) × Nat × (Option Addr) × Nat) => .tuple #[.agg #[.int .i64 r_1, .slice q_3 r_2.length q_4, .slice q_6 r_5.length q_7], .bool r_8]) (fun ((q_3, q_4, q_6, q_7) : (Option Addr) × Nat × (Option Addr) × Nat) => [row kStep 89 (.slice q_3 r_2.length q_4) r_2, row (Kd.int .i64) 3 (.slice q_6 r_5.length q_7) r_5])) := by
  unfold spec_FoldOutputs.f at h
  obtain rfl := (R0_1 ws (KeptB.refl _ _)).1
  obtain rfl := (R0_2 ws (KeptB.refl _ _)).1
  refine enter Try.func63 rfl Try.ntmps63 rfl hF ?_
  refine c_seq ?_
  refine za0 ?_
  refine o_e rfl (e_box rfl) (fun g1 => ?_)
  refine o_e rfl (zav V27 rfl) (fun g3 => ?_)
  refine o_q rfl rfl (q_asg rfl) ?_
  refine o_end ?_
  refine za1 ?_
  refine c_seq ?_
  refine za8 h (fun o9 hl10 hR11 => ?_) rfl
  clear h
  refine c_cutJ (σ := Bool) (fun b8 => some b8 = some o9) [8, 9, 10, 11, 12, 13, 14, 15, 16] (fun b8 => [(16, .bool b8)]) (fun b8 => [box g1 27 #[.int .i64 a0_0, .slice A0_1 l0_1.length c0_1, .slice A0_2 l0_2.length c0_2], box g3 27 #[.int .i64 0, .slice none 0 0, .slice none 0 0]]) ?_ ?_
  · skip
    have h := hl10; clear hl10
    clear hR11
    refine za0 ?_
    refine o_q rfl rfl (q_ldB G27 Z27 rfl (fun w h => h.zab (i := 1) rfl) rfl) ?_
    refine za8 h (fun b15 hx14 h => ?_) rfl
    refine o_e rfl (zac 0 Z Try.func93 N93 rfl rfl rfl (fun w P1 hF hB hS hT => spec_plGood.calls k a0_0 A0_1 c0_1 l0_1.length l0_1 A0_2 c0_2 l0_2.length l0_2 hB hF (hS _ R0_1) hc0_1 (hS _ R0_2) hc0_2 _ hx14)) (fun _ => ?_)
    refine o_q rfl rfl (q_not rfl) ?_
    refine o_q rfl rfl (za2 rfl) ?_
    refine byB b15 (fun hb16 => ?_) (fun hb16 => ?_)
    · replace h := bb_t hb16 h
      refine o_w (za4 rfl rfl rfl (congrArg (fun b => Value.bool (!(b))) hb16)) rfl (q_f F27_2 rfl) ?_
      refine o_w (za4 rfl rfl rfl (congrArg (fun b => Value.bool (!(b))) hb16)) rfl (q_ldb Y25 rfl (fun w h => h.zab (i := 1) rfl) rfl) ?_
      refine o_w (za4 rfl rfl rfl (congrArg (fun b => Value.bool (!(b))) hb16)) rfl (q_len Try.underlying25 rfl) ?_
      refine o_w (za4 rfl rfl rfl (congrArg (fun b => Value.bool (!(b))) hb16)) rfl (q_eql rfl rfl) ?_
      refine o_q rfl rfl (zas false (congrArg (fun b => Value.bool (!(b))) hb16) rfl) ?_
      refine o_end ?_
      refine zb0 (decide ((l0_2.length : Int) = 0)) h ⟨rfl, trivial⟩ (fun w h => za7 [1, 0] (by decide) rfl w h) ?_
      repeat (first | exact zad _ _ | refine zaf rfl ?_ | refine zae rfl ?_ | refine zah rfl ?_)
    · replace h := bb_f hb16 h
      refine @o_n _ _ _ _ _ _ _ _ _ _ _ 12 (za3 rfl rfl rfl (congrArg (fun b => Value.bool (!(b))) hb16) rfl) (Eq.refl (some 12)) ?_
      refine @o_n _ _ _ _ _ _ _ _ _ _ _ 13 (za3 rfl rfl rfl (congrArg (fun b => Value.bool (!(b))) hb16) rfl) (Eq.refl (some 13)) ?_
      refine @o_n _ _ _ _ _ _ _ _ _ _ _ 14 (za3 rfl rfl rfl (congrArg (fun b => Value.bool (!(b))) hb16) rfl) (Eq.refl (some 14)) ?_
      refine @o_n _ _ _ _ _ _ _ _ _ _ _ 15 (za3 rfl rfl rfl (congrArg (fun b => Value.bool (!(b))) hb16) rfl) (Eq.refl (some 15)) ?_
      refine o_q rfl rfl (zas true (congrArg (fun b => Value.bool (!(b))) hb16) rfl) ?_
      refine o_end ?_
      refine zb0 true h ⟨rfl, trivial⟩ (fun w h => za7 [1, 0] (by decide) rfl w h) ?_
      repeat (first | exact zad _ _ | refine zaf rfl ?_ | refine zae rfl ?_ | refine zah rfl ?_)
  · skip
    refine (fun b8 => fun U12 hJ13 => ?_)
    have e_ := Option.some.inj hJ13; have h := hR11; rw [← e_] at h; clear e_ hJ13 hR11 hl10
    refine zar _ rfl (fun hb17 => ?_) (fun hb17 => ?_)
    · skip
      replace h := bb_t hb17 h
      refine c_seq ?_
      refine za0 ?_
      refine o_q rfl rfl (q_build (vs := []) (cs := [.int .i64 0, .slice none 0 0, .slice none 0 0]) rfl rfl) ?_
      refine o_e rfl (zal (i := 1) rfl rfl rfl Z27 rfl rfl) (fun _ => ?_)
      refine o_q rfl rfl (q_asg rfl) ?_
      refine o_end ?_
      refine za1 ?_
      refine c_ret ?_
      refine zaa ?_
      refine x_nil kStep 89 ?_
      refine x_nil (Kd.int .i64) 3 ?_
      have e0_ := Option.some.inj h; clear h
      have d0_ := (Prod.mk.inj e0_).1; have e1_ := (Prod.mk.inj e0_).2; clear e0_; subst d0_
      have d1_ := (Prod.mk.inj e1_).1; have e2_ := (Prod.mk.inj e1_).2; clear e1_; subst d1_
      have d2_ := (Prod.mk.inj e2_).1; have e3_ := (Prod.mk.inj e2_).2; clear e2_; subst d2_
      subst e3_
      exact x_r2 (none, 0, none, 0) Try.results63 (rv_cell rfl G27 Z27 (fun w h => h.zab (i := 3) rfl) rfl) (zai rfl) rfl (fun w h => za7 [1, 0] (by decide) rfl w h)
    · skip
      replace h := bb_f hb17 h
      refine zam ?_
      refine za1 ?_
      refine c_seq ?_
      refine za0 ?_
      refine o_q rfl rfl (q_ldB G27 Z27 rfl (fun w h => h.zab (i := 0) rfl) rfl) ?_
      refine bindE2 h (fun l19 l20 hx18 h => ?_) rfl
      refine o_e rfl (zac 0 Z Try.func152 N152 rfl rfl rfl (fun w P1 hF hB hS hT => spec_plOwn.calls a0_0 A0_1 c0_1 l0_1.length l0_1 A0_2 c0_2 l0_2.length l0_2 hB hF (hS _ R0_1) hc0_1 (hS _ R0_2) hc0_2 _ _ hx18)) (cur4 (fun A21 c22 A23 c24 => ?_))
      refine o_e rfl (zav V27 rfl) (fun g25 => ?_)
      refine o_e rfl (zal (i := 0) rfl rfl rfl Z27 rfl rfl) (fun _ => ?_)
      refine o_end ?_
      refine za1 ?_
      refine c_seq ?_
      refine za0 ?_
      refine o_q rfl rfl (q_f F27_2 rfl) ?_
      refine o_q rfl rfl (q_ldb Y25 rfl (fun w h => h.zab (i := 3) rfl) rfl) ?_
      refine zau (p := Sh A0_2 l0_2.length l0_2.length) (fun w h => f_sh (dk := (Kd.int .i64)) h (fun w h => R0_2.now Z h)) (fun hq27 => ?_)
      refine za8 h (fun y29 hg28 h => ?_) rfl
      refine o_q rfl rfl (q_ix Try.underlying25 Z3 rfl rfl hq27 hg28) ?_
      refine o_q rfl rfl (q_lde (off := 0) Y3 rfl rfl (fun w h => R0_2.now Z h) hg28 (fun _ _ h => h) rfl) ?_
      refine o_q rfl rfl (q_asg rfl) ?_
      refine o_end ?_
      refine za1 ?_
      refine c_seq ?_
      refine c_seq ?_
      refine za0 ?_
      refine o_q rfl rfl (q_f F27_2 rfl) ?_
      refine o_q rfl rfl (q_ldb Y25 rfl (fun w h => h.zab (i := 3) rfl) rfl) ?_
      refine za8 h (fun l30 hz31 h => ?_) rfl
      refine o_q rfl rfl (q_ctv Try.underlying25 Z3 rfl ⟨_, rfl⟩ rfl rfl hc0_2 hz31) ?_
      refine o_q rfl rfl (q_len Try.underlying25 rfl) ?_
      refine o_q rfl rfl (za2 rfl) ?_
      refine o_end ?_
      refine za1 ?_
      refine zaj ?_
      refine za8 h (fun o47 hl46 hR45 => ?_) rfl
      clear h
      refine c_fact (p := l30.length ≤ 9223372036854775807) (fun w h => (C_cut (dk := (Kd.int .i64)) rfl hz31 hc0_2 (R0_2.now Z h)).2.1) (fun hm44 => ?_)
      refine zax (σ := (List Int) × (List SStep) × (List Int) × Int × Int × (Option Addr) × Nat × (Option Addr) × Nat) (fun k42 ((ys41, l32, l35, i38, i39, A33, c34, A36, c37) : (List Int) × (List SStep) × (List Int) × Int × Int × (Option Addr) × Nat × (Option Addr) × Nat) => Rg l30 i38 ys41 ∧ ys41.length = k42 ∧ spec_FoldOutputs.l0 a0_0 ys41 l32 l35 i38 i39 = some o47) [5, 7, 28, 29, 30, 31, 32, 33, 34, 35, 36, 37, 38, 39] (fun ((ys41, l32, l35, i38, i39, A33, c34, A36, c37) : (List Int) × (List SStep) × (List Int) × Int × Int × (Option Addr) × Nat × (Option Addr) × Nat) => [(5, .int .i64 i39), (28, .int .i64 i38)]) (fun ((ys41, l32, l35, i38, i39, A33, c34, A36, c37) : (List Int) × (List SStep) × (List Int) × Int × Int × (Option Addr) × Nat × (Option Addr) × Nat) => [box g25 27 #[.int .i64 a0_0, .slice A33 l32.length c34, .slice A36 l35.length c37], row kStep 89 (.slice A33 l32.length c34) l32, row (Kd.int .i64) 3 (.slice A36 l35.length c37) l35, box g1 27 #[.int .i64 a0_0, .slice A0_1 l0_1.length c0_1, .slice A0_2 l0_2.length c0_2], box g3 27 #[.int .i64 0, .slice none 0 0, .slice none 0 0]]) l30.length (l30, l19, l20, 0, y29, A21, c22, A23, c24) ⟨Rg.start _, rfl, hl46⟩ ⟨rfl, rfl, trivial⟩ (fun w h => h) ?_
      refine fun k42 => cur9 (listC (fun l32 l35 i38 i39 A33 c34 A36 c37 U48 hJ_ => ?_) (fun y40 ys41 l32 l35 i38 i39 A33 c34 A36 c37 U48 hJ_ => ?_))
      · skip
        clear hl46
        have hr43 := hJ_.1; have hk49 := hJ_.2.1; have h := hJ_.2.2; clear hJ_
        replace h : spec_FoldOutputs.l0 a0_0 [] l32 l35 i38 i39 = some o47 := h
        rw [spec_FoldOutputs.l0] at h
        refine c_seq ?_
        refine za0 ?_
        refine o_q rfl rfl (q_lss rfl rfl) ?_
        refine o_end ?_
        refine za1 ?_
        refine c_seq ?_
        refine zb3 (congrArg Value.bool hr43.ge) ?_
        refine zb6 ?_
        refine za6 ?_
        refine za6 ?_
        have e_ := Option.some.inj h; replace h := hR45; rw [← e_] at h; clear e_
        refine x_hit ?_
        refine za1 ?_
        refine c_seq ?_
        refine za0 ?_
        refine o_q rfl rfl (q_ldB G27 Z27 rfl (fun w h => h.zab (i := 0) rfl) rfl) ?_
        refine o_q rfl rfl (za2 rfl) ?_
        refine o_pick [1, 0, 2, 3, 4] (by decide) rfl ?_
        refine za8 h (fun _ hx50 h => ?_) rfl
        refine o_e rfl (zac 1 Z Try.func154 N154 rfl rfl rfl (fun w P1 hF hB hS hT => spec_meEnd.calls a0_0 A33 c34 l32.length l32 A36 c37 l35.length l35 i39 hB hF (hT 1 _ rfl).row (hT 1 _ rfl).cap hx50)) (cur2 (fun A51 c52 => ?_))
        refine bindE4 h (fun i54 l55 l56 b57 hx53 h => ?_) rfl
        refine o_e rfl (zac 2 Z Try.func106 N106 rfl rfl rfl (fun w P1 hF hB hS hT => spec_plIf.calls k a0_0 A33 c34 l32.length l32 A51 c52 (([i39] : List Int).length) ([i39] : List Int) hB hF _ _ _ _ hx53)) (cur4 (fun A58 c59 A60 c61 => ?_))
        refine o_q rfl rfl (q_ext rfl rfl) ?_
        refine o_q rfl rfl (q_ext rfl rfl) ?_
        refine o_e rfl (zal (i := 5) rfl rfl rfl Z27 rfl rfl) (fun _ => ?_)
        refine o_q rfl rfl (q_asg rfl) ?_
        refine o_end ?_
        refine za1 ?_
        refine c_ret ?_
        have e0_ := Option.some.inj h; clear h
        have d0_ := (Prod.mk.inj e0_).1; have e1_ := (Prod.mk.inj e0_).2; clear e0_; subst d0_
        have d1_ := (Prod.mk.inj e1_).1; have e2_ := (Prod.mk.inj e1_).2; clear e1_; subst d1_
        have d2_ := (Prod.mk.inj e2_).1; have e3_ := (Prod.mk.inj e2_).2; clear e2_; subst d2_
        subst e3_
        exact x_r2 (A58, c59, A60, c61) Try.results63 (rv_cell rfl G27 Z27 (fun w h => h.zab (i := 5) rfl) rfl) (zai rfl) rfl (fun w h => za7 [0, 1] (by decide) rfl w h)
      · skip
        clear hl46
        have hr43 := hJ_.1; have hk49 := hJ_.2.1; have h := hJ_.2.2; clear hJ_
        replace h : spec_FoldOutputs.l0 a0_0 (y40 :: ys41) l32 l35 i38 i39 = some o47 := h
        rw [spec_FoldOutputs.l0] at h
        refine c_seq ?_
        refine za0 ?_
        refine o_q rfl rfl (q_lss rfl rfl) ?_
        refine o_end ?_
        refine za1 ?_
        refine c_seq ?_
        refine zb2 (congrArg Value.bool hr43.lt) ?_
        refine zam ?_
        refine za1 ?_
        refine c_seq ?_
        refine zaj ?_
        refine c_seq ?_
        refine za0 ?_
        refine zau (p := Sh (cutA A0_2 c0_2 (1 : Int).toNat 1) l30.length l30.length) (fun w h => f_sh (dk := (Kd.int .i64)) h (fun w h => C_cut (dk := (Kd.int .i64)) rfl hz31 hc0_2 (R0_2.now Z h))) (fun hq62 => ?_)
        refine o_q rfl rfl (q_ix Try.underlying25 Z3 rfl rfl hq62 hr43.get) ?_
        refine o_q rfl rfl (q_lde (off := 0) Y3 rfl rfl (fun w h => C_cut (dk := (Kd.int .i64)) rfl hz31 hc0_2 (R0_2.now Z h)) hr43.get (fun _ _ h => h) rfl) ?_
        refine o_q rfl rfl (q_asg rfl) ?_
        refine o_end ?_
        refine za1 ?_
        refine za0 ?_
        refine o_q rfl rfl (q_ldB G27 Z27 rfl (fun w h => h.zab (i := 0) rfl) rfl) ?_
        refine o_q rfl rfl (za2 rfl) ?_
        refine o_q rfl rfl (za2 rfl) ?_
        refine za8 h (fun l64 hx63 h => ?_) rfl
        refine o_e rfl (zac 0 Z Try.func153 N153 rfl rfl rfl (fun w P1 hF hB hS hT => spec_meTimes.calls a0_0 A33 c34 l32.length l32 A36 c37 l35.length l35 i39 y40 hB hF (hT 1 _ rfl).row (hT 1 _ rfl).cap (hT 2 _ rfl).row (hT 2 _ rfl).cap _ hx63)) (cur2 (fun A65 c66 => ?_))
        refine o_q rfl rfl (za2 rfl) ?_
        refine o_q rfl rfl (q_ext rfl rfl) ?_
        refine o_q rfl rfl (q_ext rfl rfl) ?_
        refine o_e rfl (zal (i := 2) rfl rfl rfl Z27 rfl rfl) (fun _ => ?_)
        refine o_q rfl rfl (q_asg rfl) ?_
        refine o_end ?_
        refine zan ?_
        refine za1 ?_
        refine za0 ?_
        refine o_q rfl rfl (q_up rfl rfl (hr43.up hm44)) ?_
        refine o_q rfl rfl (za2 rfl) ?_
        refine o_end ?_
        refine x_fact (p := 0 = [].length) (fun w h => (h.row_C (i := 1) rfl).2.1) (fun hn67 => ?_)
        refine zak ys41.length (ys41, l64, [], i38 + 1, w64 (a0_0 + (l32.length : Int)), A65, c66, none, 0) (by rw [← hk49]; exact Nat.lt_succ_self _) ⟨hr43.step, rfl, h⟩ ⟨rfl, rfl, trivial⟩ (f_pickE (L1 := [row kStep 89 (.slice A65 l64.length c66) l64, row (Kd.int .i64) 3 (.slice none 0 0) [], box g25 27 #[.int .i64 a0_0, .slice A65 l64.length c66, .slice none 0 0], row kStep 89 (.slice A33 l32.length c34) l32, row (Kd.int .i64) 3 (.slice A36 l35.length c37) l35, box g1 27 #[.int .i64 a0_0, .slice A0_1 l0_1.length c0_1, .slice A0_2 l0_2.length c0_2], box g3 27 #[.int .i64 0, .slice none 0 0, .slice none 0 0]]) rfl [2, 0, 1, 5, 6] (by decide) rfl (by (try rw [hn67]); first | done | rfl)) ?_
        repeat (first | exact zad _ _ | refine zaf rfl ?_ | refine zae rfl ?_ | refine zah rfl ?_)

/-! ### (*loop.example/g01098/impl.Plan).behind: function 101 -/
def impl_Plan_behind.l0 (a0_0 : Int) (l0_2 : List Int) : (List SStep) → (List Int) → (List SStep) → Int → Option ((List Int) × (List SStep))
  | [], l6, l9, i12 => some (l6, l9)
  | y13 :: ys14, l6, l9, i12 => (impl_Plan_many.f a0_0 l9 l0_2).bind fun _ => (ap l6 ([w64 (a0_0 + (l9.length : Int))] : List Int)).bind fun l30 => (gt l30 y13.f0).bind fun y517 => (gt l30 y13.f1).bind fun y816 => (impl_step.f y517 y816).bind fun _ => (ap l9 ([(⟨mn y517 y816, mx y517 y816⟩ : SStep)] : List SStep)).bind fun l1055 => impl_Plan_behind.l0 a0_0 l0_2 ys14 l30 l1055 (i12 + 1)
def impl_Plan_behind.f (a0_0 : Int) (l0_1 : List SStep) (l0_2 : List Int) (a1_0 : Int) (l1_1 : List SStep) (l1_2 : List Int) (l2 : List Int) : Option ((List Int) × (List SStep)) := (slices_Clone_int_int.f l2).bind fun l3 => (impl_Plan_behind.l0 a0_0 l0_2 l1_1 l3 l0_1 0).bind fun (l6, l9) => some (l6, l9)
set_option maxHeartbeats 600000 in
set_option maxRecDepth 100000 in
theorem impl_Plan_behind.calls {w0 ws : World} {P0 : Nat → Prop} (g0 : Nat) (a0_0 : Int) (A0_1 : Option Addr) (c0_1 : Nat) (n0_1 : Nat) (l0_1 : List SStep) (A0_2 : Option Addr) (c0_2 : Nat) (n0_2 : Nat) (l0_2 : List Int) (g1 : Nat) (a1_0 : Int) (A1_1 : Option Addr) (c1_1 : Nat) (n1_1 : Nat) (l1_1 : List SStep) (A1_2 : Option Addr) (c1_2 : Nat) (n1_2 : Nat) (l1_2 : List Int) (A2 : Option Addr) (c2 : Nat) (n2 : Nat) (l2 : List Int) (Z : Below w0.heap.size w0 ws) (hF : Fr w0 ws P0 [box g0 27 #[.int .i64 a0_0, .slice A0_1 n0_1 c0_1, .slice A0_2 n0_2 c0_2], row kStep 89 (.slice A0_1 n0_1 c0_1) l0_1] ws) (R0_2 : Stable ws P0 (fun w => Kd.C (Kd.int .i64) w A0_2 n0_2 l0_2)) (hc0_2 : n0_2 ≤ c0_2) (R1_1 : Stable ws P0 (fun w => Kd.C kStep w A1_1 n1_1 l1_1)) (hc1_1 : n1_1 ≤ c1_1) (R1_2 : Stable ws P0 (fun w => Kd.C (Kd.int .i64) w A1_2 n1_2 l1_2)) (hc1_2 : n1_2 ≤ c1_2) (B1 : Stable ws P0 (fun w => w.heap[g1]? = some (.cells #[.int .i64 a1_0, .slice A1_1 n1_1 c1_1, .slice A1_2 n1_2 c1_2] 27 (0, 0)))) (R2 : Stable ws P0 (fun w => Kd.C (Kd.int .i64) w A2 n2 l2)) (hc2 : n2 ≤ c2) (r_1 : List Int) (r_4 : List SStep) (h : impl_Plan_behind.f a0_0 l0_1 l0_2 a1_0 l1_1 l1_2 l2 = some (r_1, r_4)) :
    Calls Try.prog 101 #[.pointer (some ⟨g0, 0, none⟩), .pointer (some ⟨g1, 0, none⟩), .slice A2 n2 c2] ws (Post1 w0 ws P0 (fun ((q_2, q_3, q_5, q_6) : (Option Addr) × Nat × (Option Addr) × Nat) => .slice q_2 r_1.length q_3) (fun ((q_2, q_3, q_5, q_6) : (Option Addr) × Nat × (Option Addr) × Nat) => [row (Kd.int .i64) 3 (.slice q_2 r_1.length q_3) r_1, box g0 27 #[.int .i64 a0_0, .slice q_5 r_4.length q_6, .slice A0_2 n0_2 c0_2], row kStep 89 (.slice q_5 r_4.length q_6) r_4])) := by
  unfold impl_Plan_behind.f at h
  obtain rfl := (hF.row_C (i := 1) rfl).2.1
  obtain rfl := (R0_2 ws (KeptB.refl _ _)).1
  obtain rfl := (R1_1 ws (KeptB.refl _ _)).1
  obtain rfl := (R1_2 ws (KeptB.refl _ _)).1
  obtain rfl := (R2 ws (KeptB.refl _ _)).1
  refine enter Try.func101 rfl Try.ntmps101 rfl hF ?_
  refine c_seq ?_
  refine za0 ?_
  refine o_q rfl rfl (q_asg rfl) ?_
  refine o_end ?_
  refine za1 ?_
  refine c_seq ?_
  refine za0 ?_
  refine o_q rfl rfl (za2 rfl) ?_
  refine za8 h (fun l3 hx1 h => ?_) rfl
  refine o_e rfl (zac 0 Z Try.func141 N141 rfl rfl rfl (fun w P1 hF hB hS hT => slices_Clone_int_int.calls A2 c2 l2.length l2 hB hF (hS _ R2) hc2 _ hx1)) (cur2 (fun A4 c5 => ?_))
  refine o_q rfl rfl (q_asg rfl) ?_
  refine o_end ?_
  refine za1 ?_
  refine c_seq ?_
  refine c_seq ?_
  refine za0 ?_
  refine o_q rfl rfl (za2 rfl) ?_
  refine o_q rfl rfl (q_nil rfl) ?_
  refine o_q rfl rfl (q_f F27_1 rfl) ?_
  refine o_q rfl rfl (q_ldb Y24 rfl (fun w h => B1.now Z h) rfl) ?_
  refine o_q rfl rfl (q_len Try.underlying24 rfl) ?_
  refine o_q rfl rfl (za2 rfl) ?_
  refine o_end ?_
  refine za1 ?_
  refine zaj ?_
  refine za8 h (fun o20 hl19 hR18 => ?_) rfl
  clear h
  refine c_fact (p := l1_1.length ≤ 9223372036854775807) (fun w h => (R1_1.now Z h).2.1) (fun hm17 => ?_)
  refine zax (σ := (List SStep) × (List Int) × (List SStep) × Int × (Option Addr) × Nat × (Option Addr) × Nat) (fun k15 ((ys14, l6, l9, i12, A7, c8, A10, c11) : (List SStep) × (List Int) × (List SStep) × Int × (Option Addr) × Nat × (Option Addr) × Nat) => Rg l1_1 i12 ys14 ∧ ys14.length = k15 ∧ impl_Plan_behind.l0 a0_0 l0_2 ys14 l6 l9 i12 = some o20) [7, 9, 17, 18, 19, 20, 21, 22, 23, 24, 25, 26, 27, 28, 29, 30, 31, 32, 33, 34, 35, 36, 37, 38, 39, 40, 41, 42, 43, 44, 45, 46] (fun ((ys14, l6, l9, i12, A7, c8, A10, c11) : (List SStep) × (List Int) × (List SStep) × Int × (Option Addr) × Nat × (Option Addr) × Nat) => [(7, .slice A7 l6.length c8), (17, .int .i64 i12)]) (fun ((ys14, l6, l9, i12, A7, c8, A10, c11) : (List SStep) × (List Int) × (List SStep) × Int × (Option Addr) × Nat × (Option Addr) × Nat) => [row (Kd.int .i64) 3 (.slice A7 l6.length c8) l6, box g0 27 #[.int .i64 a0_0, .slice A10 l9.length c11, .slice A0_2 l0_2.length c0_2], row kStep 89 (.slice A10 l9.length c11) l9]) l1_1.length (l1_1, l3, l0_1, 0, A4, c5, A0_1, c0_1) ⟨Rg.start _, rfl, hl19⟩ ⟨rfl, rfl, trivial⟩ (fun w h => h) ?_
  refine fun k15 => cur8 (listC (fun l6 l9 i12 A7 c8 A10 c11 U21 hJ_ => ?_) (fun y13 ys14 l6 l9 i12 A7 c8 A10 c11 U21 hJ_ => ?_))
  · skip
    clear hl19
    have hr16 := hJ_.1; have hk22 := hJ_.2.1; have h := hJ_.2.2; clear hJ_
    replace h : impl_Plan_behind.l0 a0_0 l0_2 [] l6 l9 i12 = some o20 := h
    rw [impl_Plan_behind.l0] at h
    refine c_seq ?_
    refine za0 ?_
    refine o_q rfl rfl (q_lss rfl rfl) ?_
    refine o_end ?_
    refine za1 ?_
    refine c_seq ?_
    refine zb3 (congrArg Value.bool hr16.ge) ?_
    refine zb6 ?_
    refine za6 ?_
    refine za6 ?_
    have e_ := Option.some.inj h; replace h := hR18; rw [← e_] at h; clear e_
    refine x_hit ?_
    refine za1 ?_
    refine c_seq ?_
    refine za0 ?_
    refine o_q rfl rfl (za2 rfl) ?_
    refine o_q rfl rfl (q_asg rfl) ?_
    refine o_end ?_
    refine za1 ?_
    refine c_ret ?_
    have e0_ := Option.some.inj h; clear h
    have d0_ := (Prod.mk.inj e0_).1; have e1_ := (Prod.mk.inj e0_).2; clear e0_; subst d0_
    subst e1_
    exact x_r1 (A7, c8, A10, c11) Try.results101 (zai rfl) rfl (fun w h => za7 [0, 1, 2] (by decide) rfl w h)
  · skip
    clear hl19
    have hr16 := hJ_.1; have hk22 := hJ_.2.1; have h := hJ_.2.2; clear hJ_
    replace h : impl_Plan_behind.l0 a0_0 l0_2 (y13 :: ys14) l6 l9 i12 = some o20 := h
    rw [impl_Plan_behind.l0] at h
    refine c_seq ?_
    refine za0 ?_
    refine o_q rfl rfl (q_lss rfl rfl) ?_
    refine o_end ?_
    refine za1 ?_
    refine c_seq ?_
    refine zb2 (congrArg Value.bool hr16.lt) ?_
    refine zam ?_
    refine za1 ?_
    refine c_seq ?_
    refine zaj ?_
    refine c_seq ?_
    refine za0 ?_
    refine zau (p := Sh A1_1 l1_1.length l1_1.length) (fun w h => f_sh (dk := kStep) h (fun w h => R1_1.now Z h)) (fun hq23 => ?_)
    refine o_q rfl rfl (q_ix Try.underlying24 Z89 rfl rfl hq23 hr16.get) ?_
    refine o_q rfl rfl (q_ldE G89 Z89 rfl rfl (fun w h => R1_1.now Z h) hr16.get (fun _ _ h => h) rfl) ?_
    refine o_e rfl (zav V89 rfl) (fun g24 => ?_)
    refine o_e rfl (zal (i := 0) rfl rfl rfl Z89 rfl rfl) (fun _ => ?_)
    refine o_end ?_
    refine za1 ?_
    refine c_seq ?_
    refine za0 ?_
    refine o_q rfl rfl (za2 rfl) ?_
    refine o_q rfl rfl (za2 rfl) ?_
    refine za8 h (fun _ hx26 h => ?_) rfl
    refine o_e rfl (zac 0 Z Try.func90 N90 rfl rfl rfl (fun w P1 hF hB hS hT => impl_Plan_many.calls g0 a0_0 A10 c11 l9.length l9 A0_2 c0_2 l0_2.length l0_2 hB hF (hT 3 _ rfl).row (hT 3 _ rfl).cap (hS _ R0_2) hc0_2 (hT 2 _ rfl).box hx26)) (fun _ => ?_)
    refine o_e rfl (e_lit (vs := [(0, .int .i64 (w64 (a0_0 + (l9.length : Int))))]) (cs := [.int .i64 (w64 (a0_0 + (l9.length : Int)))]) (Kd.int .i64) ([w64 (a0_0 + (l9.length : Int))] : List Int) Try.underlying25 I3 (by decide) rfl (by decide) rfl rfl (fun _ _ => Kd.zat _)) (cur2 (fun A27 c28 => ?_))
    refine za8 h (fun l30 ha31 h => ?_) rfl
    refine o_e rfl (e_app (i := 2) (j := 0) Try.underlying25 I3 rfl (by decide) (by decide) rfl rfl rfl rfl rfl ha31) (cur2 (fun A32 c33 => ?_))
    refine o_q rfl rfl (q_asg rfl) ?_
    refine o_end ?_
    refine za1 ?_
    refine za8 h (fun y517 hg516 h => ?_) rfl
    refine za8 h (fun y816 hg815 h => ?_) rfl
    refine za8 h (fun _ hx935 h => ?_) rfl
    refine za8 h (fun l1055 ha1056 h => ?_) rfl
    refine a_startS (ds := []) [none, some 1, some 2, none, none] MO rfl ?_
    refine za5 0 rfl rfl rfl (by kernel_rfl) (fun _ _ _ h => h) (za2 rfl) ?_
    refine za5 1 rfl rfl rfl (by kernel_rfl) (fun _ _ _ h => h) (za2 rfl) ?_
    refine za5 2 rfl rfl rfl (by kernel_rfl) (fun _ _ _ h => h) (q_nil rfl) ?_
    refine za5 3 rfl rfl rfl (by kernel_rfl) (fun _ _ _ h => h) (q_f F27_1 rfl) ?_
    refine za5 5 rfl rfl rfl (by kernel_rfl) (fun _ _ _ h => h) (za2 rfl) ?_
    refine za5 6 rfl rfl rfl (by kernel_rfl) (fun _ _ _ h => h) (q_f F89_0 rfl) ?_
    refine zay 7 rfl rfl rfl (by kernel_rfl) (fun _ _ _ h => h) (fun w h => za9 [none, some 1, some 2, none, none] (by decide) w h rfl) (q_ldb Y3 rfl (fun w h => h.zab (i := 1) rfl) rfl) ?_
    refine a_fact (p := Sh A32 l30.length l30.length) (fun w h => f_sh (dk := (Kd.int .i64)) h (fun w h => h.zaq (i := 2) rfl)) (fun hq515 => ?_)
    refine za5 8 rfl rfl rfl (by kernel_rfl) (fun _ _ _ h => h) (q_ix Try.underlying25 Z3 rfl rfl hq515 hg516) ?_
    refine zay 9 rfl rfl rfl (by kernel_rfl) (fun _ _ _ h => h) (fun w h => za9 [none, some 1, some 2, none, none] (by decide) w h rfl) (q_lde (off := 0) Y3 rfl rfl (fun w h => h.zaq (i := 2) rfl) hg516 (fun _ _ h => h) rfl) ?_
    refine za5 10 rfl rfl rfl (by kernel_rfl) (fun _ _ _ h => h) (za2 rfl) ?_
    refine za5 11 rfl rfl rfl (by kernel_rfl) (fun _ _ _ h => h) (q_f F89_1 rfl) ?_
    refine zay 12 rfl rfl rfl (by kernel_rfl) (fun _ _ _ h => h) (fun w h => za9 [none, some 1, some 2, none, none] (by decide) w h rfl) (q_ldb Y3 rfl (fun w h => h.zab (i := 1) rfl) rfl) ?_
    refine za5 13 rfl rfl rfl (by kernel_rfl) (fun _ _ _ h => h) (q_ix Try.underlying25 Z3 rfl rfl hq515 hg815) ?_
    refine zay 14 rfl rfl rfl (by kernel_rfl) (fun _ _ _ h => h) (fun w h => za9 [none, some 1, some 2, none, none] (by decide) w h rfl) (q_lde (off := 0) Y3 rfl rfl (fun w h => h.zaq (i := 2) rfl) hg815 (fun _ _ h => h) rfl) ?_
    refine a_two 4 15 rfl rfl rfl rfl (by kernel_rfl) rfl rfl (ev_q rfl (q_ldb Y24 rfl (fun w h => h.zab (i := 3) rfl) rfl)) (fun s w h => za9 [none, some 1, some 2, none, none] (by decide) w h rfl) (zac 0 Z Try.func91 N91 rfl rfl rfl (fun w P1 hF hB hS hT => impl_step.calls y517 y816 hB hF hx935)) (fun s w h => za9 [none, some 1, some 2, none, none] (by decide) w h rfl) (fun _ => ?_) (fun _ => ?_)
    · skip
      refine a_one 15 rfl rfl (by kernel_rfl) rfl (zac 0 Z Try.func91 N91 rfl rfl rfl (fun w P1 hF hB hS hT => impl_step.calls y517 y816 hB hF hx935)) (fun s w h => za9 [none, some 1, some 2, none, none] (by decide) w h rfl) (fun _ => ?_)
      refine a_one 16 rfl rfl (by kernel_rfl) rfl (e_lit (vs := [(0, .agg #[.int .i64 (mn y517 y816), .int .i64 (mx y517 y816)])]) (cs := [.int .i64 (mn y517 y816), .int .i64 (mx y517 y816)]) kStep ([(⟨mn y517 y816, mx y517 y816⟩ : SStep)] : List SStep) Try.underlying24 I89 (by decide) rfl (by decide) rfl rfl (fun _ _ => zb5 _)) (fun s w h => za9 [none, some 2, some 3, none, none] (by decide) w h rfl) (cur2 (fun A995 c996 => ?_))
      refine a_one 17 rfl rfl (by kernel_rfl) rfl (e_app (i := 5) (j := 0) Try.underlying24 I89 rfl (by decide) (by decide) rfl rfl rfl rfl rfl ha1056) (fun s w h => za9 [none, some 2, some 3, none, none] (by decide) w h rfl) (cur2 (fun A1057 c1058 => ?_))
      refine za5 18 rfl rfl rfl (by kernel_rfl) (fun _ _ _ h => h) (q_nil rfl) ?_
      refine za5 19 rfl rfl rfl (by kernel_rfl) (fun _ _ _ h => h) (q_f F27_1 rfl) ?_
      refine a_one 20 rfl rfl (by kernel_rfl) rfl (zb4 (i := 4) rfl rfl rfl rfl Z24 rfl rfl) (fun s w h => za9 [none, some 2, some 3, none, none] (by decide) w h rfl) (fun _ => ?_)
      refine zaz (by kernel_rfl) ?_
      refine zan ?_
      refine za1 ?_
      refine za0 ?_
      refine o_q rfl rfl (q_up rfl rfl (hr16.up hm17)) ?_
      refine o_q rfl rfl (za2 rfl) ?_
      refine o_end ?_
      refine zak ys14.length (ys14, l30, l1055, i12 + 1, A32, c33, A1057, c1058) (by rw [← hk22]; exact Nat.lt_succ_self _) ⟨hr16.step, rfl, h⟩ ⟨rfl, rfl, trivial⟩ (fun w h => za7 [3, 4, 5] (by decide) rfl w h) ?_
      repeat (first | exact zad _ _ | refine zaf rfl ?_ | refine zae rfl ?_ | refine zah rfl ?_)
    · skip
      refine a_two 4 16 rfl rfl rfl rfl (by kernel_rfl) rfl rfl (ev_q rfl (q_ldb Y24 rfl (fun w h => h.zab (i := 3) rfl) rfl)) (fun s w h => za9 [none, some 1, some 2, none, none] (by decide) w h rfl) (e_lit (vs := [(0, .agg #[.int .i64 (mn y517 y816), .int .i64 (mx y517 y816)])]) (cs := [.int .i64 (mn y517 y816), .int .i64 (mx y517 y816)]) kStep ([(⟨mn y517 y816, mx y517 y816⟩ : SStep)] : List SStep) Try.underlying24 I89 (by decide) rfl (by decide) rfl rfl (fun _ _ => zb5 _)) (fun s w h => za9 [none, some 2, some 3, none, none] (by decide) w h rfl) (fun _ => ?_) (cur2 (fun A995 c996 => ?_))
      · skip
        refine a_one 16 rfl rfl (by kernel_rfl) rfl (e_lit (vs := [(0, .agg #[.int .i64 (mn y517 y816), .int .i64 (mx y517 y816)])]) (cs := [.int .i64 (mn y517 y816), .int .i64 (mx y517 y816)]) kStep ([(⟨mn y517 y816, mx y517 y816⟩ : SStep)] : List SStep) Try.underlying24 I89 (by decide) rfl (by decide) rfl rfl (fun _ _ => zb5 _)) (fun s w h => za9 [none, some 2, some 3, none, none] (by decide) w h rfl) (cur2 (fun A995 c996 => ?_))
        refine a_one 17 rfl rfl (by kernel_rfl) rfl (e_app (i := 5) (j := 0) Try.underlying24 I89 rfl (by decide) (by decide) rfl rfl rfl rfl rfl ha1056) (fun s w h => za9 [none, some 2, some 3, none, none] (by decide) w h rfl) (cur2 (fun A1057 c1058 => ?_))
        refine za5 18 rfl rfl rfl (by kernel_rfl) (fun _ _ _ h => h) (q_nil rfl) ?_
        refine za5 19 rfl rfl rfl (by kernel_rfl) (fun _ _ _ h => h) (q_f F27_1 rfl) ?_
        refine a_one 20 rfl rfl (by kernel_rfl) rfl (zb4 (i := 4) rfl rfl rfl rfl Z24 rfl rfl) (fun s w h => za9 [none, some 2, some 3, none, none] (by decide) w h rfl) (fun _ => ?_)
        refine zaz (by kernel_rfl) ?_
        refine zan ?_
        refine za1 ?_
        refine za0 ?_
        refine o_q rfl rfl (q_up rfl rfl (hr16.up hm17)) ?_
        refine o_q rfl rfl (za2 rfl) ?_
        refine o_end ?_
        refine zak ys14.length (ys14, l30, l1055, i12 + 1, A32, c33, A1057, c1058) (by rw [← hk22]; exact Nat.lt_succ_self _) ⟨hr16.step, rfl, h⟩ ⟨rfl, rfl, trivial⟩ (fun w h => za7 [3, 4, 5] (by decide) rfl w h) ?_
        repeat (first | exact zad _ _ | refine zaf rfl ?_ | refine zae rfl ?_ | refine zah rfl ?_)
      · skip
        refine a_one 4 rfl rfl (by kernel_rfl) rfl (ev_q rfl (q_ldb Y24 rfl (fun w h => h.zab (i := 4) rfl) rfl)) (fun s w h => za9 [none, some 2, some 3, none, none] (by decide) w h rfl) (fun _ => ?_)
        refine a_one 17 rfl rfl (by kernel_rfl) rfl (e_app (i := 5) (j := 0) Try.underlying24 I89 rfl (by decide) (by decide) rfl rfl rfl rfl rfl ha1056) (fun s w h => za9 [none, some 2, some 3, none, none] (by decide) w h rfl) (cur2 (fun A1057 c1058 => ?_))
        refine za5 18 rfl rfl rfl (by kernel_rfl) (fun _ _ _ h => h) (q_nil rfl) ?_
        refine za5 19 rfl rfl rfl (by kernel_rfl) (fun _ _ _ h => h) (q_f F27_1 rfl) ?_
        refine a_one 20 rfl rfl (by kernel_rfl) rfl (zb4 (i := 4) rfl rfl rfl rfl Z24 rfl rfl) (fun s w h => za9 [none, some 2, some 3, none, none] (by decide) w h rfl) (fun _ => ?_)
        refine zaz (by kernel_rfl) ?_
        refine zan ?_
        refine za1 ?_
        refine za0 ?_
        refine o_q rfl rfl (q_up rfl rfl (hr16.up hm17)) ?_
        refine o_q rfl rfl (za2 rfl) ?_
        refine o_end ?_
        refine zak ys14.length (ys14, l30, l1055, i12 + 1, A32, c33, A1057, c1058) (by rw [← hk22]; exact Nat.lt_succ_self _) ⟨hr16.step, rfl, h⟩ ⟨rfl, rfl, trivial⟩ (fun w h => za7 [3, 4, 5] (by decide) rfl w h) ?_
        repeat (first | exact zad _ _ | refine zaf rfl ?_ | refine zae rfl ?_ | refine zah rfl ?_)

/-! ### loop.example/g01098/impl.renamed: function 92 -/
def impl_renamed.l0 (l1 : List Int) : (List Int) → (List Int) → Int → Option (List Int)
  | [], l5, i8 => some l5
  | y9 :: ys10, l5, i8 => (gt l1 y9).bind fun y22 => (ap l5 ([y22] : List Int)).bind fun l26 => impl_renamed.l0 l1 ys10 l26 (i8 + 1)
def impl_renamed.f (l0 : List Int) (l1 : List Int) : Option (List Int) := (impl_renamed.l0 l1 l0 ([] : List Int) 0).bind fun l5 => some l5
set_option maxHeartbeats 600000 in
set_option maxRecDepth 100000 in
theorem impl_renamed.calls {w0 ws : World} {P0 : Nat → Prop} (A0 : Option Addr) (c0 : Nat) (n0 : Nat) (l0 : List Int) (A1 : Option Addr) (c1 : Nat) (n1 : Nat) (l1 : List Int) (Z : Below w0.heap.size w0 ws) (hF : Fr w0 ws P0 [] ws) (R0 : Stable ws P0 (fun w => Kd.C (Kd.int .i64) w A0 n0 l0)) (hc0 : n0 ≤ c0) (R1 : Stable ws P0 (fun w => Kd.C (Kd.int .i64) w A1 n1 l1)) (hc1 : n1 ≤ c1) (r_1 : List Int) (h : impl_renamed.f l0 l1 = some r_1) :
    Calls Try.prog 92 #[.slice A0 n0 c0, .slice A1 n1 c1] ws (Post1 w0 ws P0 (fun ((q_2, q_3) : (Option Addr) × Nat) => .slice q_2 r_1.length q_3) (fun ((q_2, q_3) : (Option Addr) × Nat) => [row (Kd.int .i64) 3 (.slice q_2 r_1.length q_3) r_1])) := by
  unfold impl_renamed.f at h
  obtain rfl := (R0 ws (KeptB.refl _ _)).1
  obtain rfl := (R1 ws (KeptB.refl _ _)).1
  refine enter Try.func92 rfl Try.ntmps92 rfl hF ?_
  refine c_seq ?_
  refine za0 ?_
  refine o_q rfl rfl (q_asg rfl) ?_
  refine o_end ?_
  refine za1 ?_
  refine c_seq ?_
  refine za0 ?_
  refine o_e rfl (e_lit0 (Kd.int .i64) Try.underlying25 I3) (cur2 (fun A2 c3 => ?_))
  refine o_q rfl rfl (q_asg rfl) ?_
  refine o_end ?_
  refine za1 ?_
  refine c_seq ?_
  refine c_seq ?_
  refine za0 ?_
  refine o_q rfl rfl (za2 rfl) ?_
  refine o_q rfl rfl (q_len Try.underlying25 rfl) ?_
  refine o_q rfl rfl (za2 rfl) ?_
  refine o_end ?_
  refine za1 ?_
  refine zaj ?_
  refine za8 h (fun o16 hl15 hR14 => ?_) rfl
  clear h
  refine c_fact (p := l0.length ≤ 9223372036854775807) (fun w h => (R0.now Z h).2.1) (fun hm13 => ?_)
  refine zax (σ := (List Int) × (List Int) × Int × (Option Addr) × Nat) (fun k11 ((ys10, l5, i8, A6, c7) : (List Int) × (List Int) × Int × (Option Addr) × Nat) => Rg l0 i8 ys10 ∧ ys10.length = k11 ∧ impl_renamed.l0 l1 ys10 l5 i8 = some o16) [5, 7, 11, 12, 13, 14, 15, 16, 17, 18, 19, 20, 21, 22] (fun ((ys10, l5, i8, A6, c7) : (List Int) × (List Int) × Int × (Option Addr) × Nat) => [(5, .slice A6 l5.length c7), (11, .int .i64 i8)]) (fun ((ys10, l5, i8, A6, c7) : (List Int) × (List Int) × Int × (Option Addr) × Nat) => [row (Kd.int .i64) 3 (.slice A6 l5.length c7) l5]) l0.length (l0, ([] : List Int), 0, A2, c3) ⟨Rg.start _, rfl, hl15⟩ ⟨rfl, rfl, trivial⟩ (fun w h => h) ?_
  refine fun k11 => cur5 (listC (fun l5 i8 A6 c7 U17 hJ_ => ?_) (fun y9 ys10 l5 i8 A6 c7 U17 hJ_ => ?_))
  · skip
    clear hl15
    have hr12 := hJ_.1; have hk18 := hJ_.2.1; have h := hJ_.2.2; clear hJ_
    replace h : impl_renamed.l0 l1 [] l5 i8 = some o16 := h
    rw [impl_renamed.l0] at h
    refine c_seq ?_
    refine za0 ?_
    refine o_q rfl rfl (q_lss rfl rfl) ?_
    refine o_end ?_
    refine za1 ?_
    refine c_seq ?_
    refine zb3 (congrArg Value.bool hr12.ge) ?_
    refine zb6 ?_
    refine za6 ?_
    refine za6 ?_
    have e_ := Option.some.inj h; replace h := hR14; rw [← e_] at h; clear e_
    refine x_hit ?_
    refine za1 ?_
    refine c_seq ?_
    refine za0 ?_
    refine o_q rfl rfl (za2 rfl) ?_
    refine o_q rfl rfl (q_asg rfl) ?_
    refine o_end ?_
    refine za1 ?_
    refine c_ret ?_
    have e0_ := Option.some.inj h; clear h
    subst e0_
    exact x_r1 (A6, c7) Try.results92 (zai rfl) rfl (fun w h => za7 [0] (by decide) rfl w h)
  · skip
    clear hl15
    have hr12 := hJ_.1; have hk18 := hJ_.2.1; have h := hJ_.2.2; clear hJ_
    replace h : impl_renamed.l0 l1 (y9 :: ys10) l5 i8 = some o16 := h
    rw [impl_renamed.l0] at h
    refine c_seq ?_
    refine za0 ?_
    refine o_q rfl rfl (q_lss rfl rfl) ?_
    refine o_end ?_
    refine za1 ?_
    refine c_seq ?_
    refine zb2 (congrArg Value.bool hr12.lt) ?_
    refine zam ?_
    refine za1 ?_
    refine c_seq ?_
    refine zaj ?_
    refine c_seq ?_
    refine za0 ?_
    refine zau (p := Sh A0 l0.length l0.length) (fun w h => f_sh (dk := (Kd.int .i64)) h (fun w h => R0.now Z h)) (fun hq19 => ?_)
    refine o_q rfl rfl (q_ix Try.underlying25 Z3 rfl rfl hq19 hr12.get) ?_
    refine o_q rfl rfl (q_lde (off := 0) Y3 rfl rfl (fun w h => R0.now Z h) hr12.get (fun _ _ h => h) rfl) ?_
    refine o_q rfl rfl (q_asg rfl) ?_
    refine o_end ?_
    refine za1 ?_
    refine za0 ?_
    refine o_q rfl rfl (za2 rfl) ?_
    refine o_q rfl rfl (za2 rfl) ?_
    refine o_q rfl rfl (za2 rfl) ?_
    refine zau (p := Sh A1 l1.length l1.length) (fun w h => f_sh (dk := (Kd.int .i64)) h (fun w h => R1.now Z h)) (fun hq20 => ?_)
    refine za8 h (fun y22 hg21 h => ?_) rfl
    refine o_q rfl rfl (q_ix Try.underlying25 Z3 rfl rfl hq20 hg21) ?_
    refine o_q rfl rfl (q_lde (off := 0) Y3 rfl rfl (fun w h => R1.now Z h) hg21 (fun _ _ h => h) rfl) ?_
    refine o_e rfl (e_lit (vs := [(0, .int .i64 y22)]) (cs := [.int .i64 y22]) (Kd.int .i64) ([y22] : List Int) Try.underlying25 I3 (by decide) rfl (by decide) rfl rfl (fun _ _ => Kd.zat _)) (cur2 (fun A23 c24 => ?_))
    refine za8 h (fun l26 ha27 h => ?_) rfl
    refine o_e rfl (e_app (i := 1) (j := 0) Try.underlying25 I3 rfl (by decide) (by decide) rfl rfl rfl rfl rfl ha27) (cur2 (fun A28 c29 => ?_))
    refine o_q rfl rfl (q_asg rfl) ?_
    refine o_end ?_
    refine zan ?_
    refine za1 ?_
    refine za0 ?_
    refine o_q rfl rfl (q_up rfl rfl (hr12.up hm13)) ?_
    refine o_q rfl rfl (za2 rfl) ?_
    refine o_end ?_
    refine zak ys10.length (ys10, l26, i8 + 1, A28, c29) (by rw [← hk18]; exact Nat.lt_succ_self _) ⟨hr12.step, rfl, h⟩ ⟨rfl, rfl, trivial⟩ (fun w h => za7 [1] (by decide) rfl w h) ?_
    repeat (first | exact zad _ _ | refine zaf rfl ?_ | refine zae rfl ?_ | refine zah rfl ?_)

/-! ### loop.example/g01098/impl.CollapseInputs: function 64 -/
def impl_CollapseInputs.f (k : Nat) (a0_0 : Int) (l0_1 : List SStep) (l0_2 : List Int) : Option (Int × (List SStep) × (List Int) × Bool) := (impl_IsPlan.f k a0_0 l0_1 l0_2).bind fun b6 => if b6 = true then ((mk0 a0_0 (0 : Int)).bind fun l10 => (impl_Plan_behind.f 1 ([] : List SStep) [] a0_0 l0_1 l0_2 l10).bind fun (l16, l17) => (impl_renamed.f l0_2 l16).bind fun l23 => (impl_told.f k 1 l17 l23).bind fun (i27, l28, l29, b30) => some (i27, l28, l29, b30)) else (some (0, ([] : List SStep), ([] : List Int), false))
set_option maxHeartbeats 600000 in
set_option maxRecDepth 100000 in
theorem impl_CollapseInputs.calls (k : Nat) {w0 ws : World} {P0 : Nat → Prop} (a0_0 : Int) (A0_1 : Option Addr) (c0_1 : Nat) (n0_1 : Nat) (l0_1 : List SStep) (A0_2 : Option Addr) (c0_2 : Nat) (n0_2 : Nat) (l0_2 : List Int) (Z : Below w0.heap.size w0 ws) (hF : Fr w0 ws P0 [] ws) (R0_1 : Stable ws P0 (fun w => Kd.C kStep w A0_1 n0_1 l0_1)) (hc0_1 : n0_1 ≤ c0_1) (R0_2 : Stable ws P0 (fun w => Kd.C (Kd.int .i64) w A0_2 n0_2 l0_2)) (hc0_2 : n0_2 ≤ c0_2) (r_1 : Int) (r_2 : List SStep) (r_5 : List Int) (r_8 : Bool) (h : impl_CollapseInputs.f k a0_0 l0_1 l0_2 = some (r_1, r_2, r_5, r_8)) :
    Calls Try.prog 64 #[.agg #[.int .i64 a0_0, .slice A0_1 n0_1 c0_1, .slice A0_2 n0_2 c0_2]] ws (Post1 w0 ws P0 (fun ((q_3, q_4, q_6, q_7) : (Option Addr) × Nat × (Option Addr) × Nat) => .tuple #[.agg #[.int .i64 r_1, .slice q_3 r_2.length q_4, .slice q_6 r_5.length q_7], .bool r_8]) (fun ((q_3, q_4, q_6, q_7) : (Option Addr) × Nat × (Option Addr) × Nat) => [row kStep 89 (.slice q_3 r_2.length q_4) r_2, row (Kd.int .i64) 3 (.slice q_6 r_5.length q_7) r_5])) := by
  unfold impl_CollapseInputs.f at h
  obtain rfl := (R0_1 ws (KeptB.refl _ _)).1
  obtain rfl := (R0_2 ws (KeptB.refl _ _)).1
  refine enter Try.func64 rfl Try.ntmps64 rfl hF ?_
  refine c_seq ?_
  refine za0 ?_
  refine o_e rfl (e_box rfl) (fun g1 => ?_)
  refine o_e rfl (zav V27 rfl) (fun g3 => ?_)
  refine o_q rfl rfl (q_asg rfl) ?_
  refine o_end ?_
  refine za1 ?_
  refine c_seq ?_
  refine c_seq ?_
  refine za0 ?_
  refine o_q rfl rfl (q_ldB G27 Z27 rfl (fun w h => h.zab (i := 1) rfl) rfl) ?_
  refine za8 h (fun b6 hx5 h => ?_) rfl
  refine o_e rfl (zac 0 Z Try.func86 N86 rfl rfl rfl (fun w P1 hF hB hS hT => impl_IsPlan.calls k a0_0 A0_1 c0_1 l0_1.length l0_1 A0_2 c0_2 l0_2.length l0_2 hB hF (hS _ R0_1) hc0_1 (hS _ R0_2) hc0_2 _ hx5)) (fun _ => ?_)
  refine o_q rfl rfl (q_not rfl) ?_
  refine o_end ?_
  refine za1 ?_
  refine zar _ rfl (fun hb7 => ?_) (fun hb7 => ?_)
  · replace hb7 := nt_t hb7
    replace h := bb_f hb7 h
    refine c_seq ?_
    refine za0 ?_
    refine o_q rfl rfl (q_build (vs := []) (cs := [.int .i64 0, .slice none 0 0, .slice none 0 0]) rfl rfl) ?_
    refine o_e rfl (zal (i := 0) rfl rfl rfl Z27 rfl rfl) (fun _ => ?_)
    refine o_q rfl rfl (q_asg rfl) ?_
    refine o_end ?_
    refine za1 ?_
    refine c_ret ?_
    refine zaa ?_
    refine x_nil kStep 89 ?_
    refine x_nil (Kd.int .i64) 3 ?_
    have e0_ := Option.some.inj h; clear h
    have d0_ := (Prod.mk.inj e0_).1; have e1_ := (Prod.mk.inj e0_).2; clear e0_; subst d0_
    have d1_ := (Prod.mk.inj e1_).1; have e2_ := (Prod.mk.inj e1_).2; clear e1_; subst d1_
    have d2_ := (Prod.mk.inj e2_).1; have e3_ := (Prod.mk.inj e2_).2; clear e2_; subst d2_
    subst e3_
    exact x_r2 (none, 0, none, 0) Try.results64 (rv_cell rfl G27 Z27 (fun w h => h.zab (i := 2) rfl) rfl) (zai rfl) rfl (fun w h => za7 [1, 0] (by decide) rfl w h)
  · replace hb7 := nt_f hb7
    replace h := bb_t hb7 h
    refine zam ?_
    refine za1 ?_
    refine c_seq ?_
    refine za0 ?_
    refine o_q rfl rfl (q_build (vs := [(0, .int .i64 1)]) (cs := [.int .i64 1, .slice none 0 0, .slice none 0 0]) rfl rfl) ?_
    refine o_e rfl (zav V27 rfl) (fun g8 => ?_)
    refine o_e rfl (zal (i := 0) rfl rfl rfl Z27 rfl rfl) (fun _ => ?_)
    refine o_end ?_
    refine za1 ?_
    refine c_seq ?_
    refine a_startS (ds := []) [none, some 1, some 2] MO rfl ?_
    refine za5 0 rfl rfl rfl (by kernel_rfl) (fun _ _ _ h => h) (q_f F27_2 rfl) ?_
    refine zay 1 rfl rfl rfl (by kernel_rfl) (fun _ _ _ h => h) (fun w h => za9 [none, some 1, some 2] (by decide) w h rfl) (q_ldb Y25 rfl (fun w h => h.zab (i := 2) rfl) rfl) ?_
    refine za5 2 rfl rfl rfl (by kernel_rfl) (fun _ _ _ h => h) (q_f F27_0 rfl) ?_
    refine zay 3 rfl rfl rfl (by kernel_rfl) (fun _ _ _ h => h) (fun w h => za9 [none, some 1, some 2] (by decide) w h rfl) (q_ldb Y3 rfl (fun w h => h.zab (i := 2) rfl) rfl) ?_
    refine za8 h (fun l10 hm11 h => ?_) rfl
    refine a_one 4 rfl rfl (by kernel_rfl) rfl (e_make (Kd.int .i64) (0 : Int) Try.underlying25 I3 rfl (by decide) (by decide) (fun _ _ => rfl) rfl rfl hm11) (fun s w h => za9 [none, some 2, some 3] (by decide) w h rfl) (cur2 (fun A12 c13 => ?_))
    refine a_nil kStep 89 ?_
    refine a_pick [2, 0, 1, 3, 4] (by decide) rfl ?_
    refine bindE2 h (fun l16 l17 hx15 h => ?_) rfl
    refine a_one 5 rfl rfl (by kernel_rfl) rfl (zac 2 Z Try.func101 N101 rfl rfl rfl (fun w P1 hF hB hS hT => impl_Plan_behind.calls g8 1 none 0 0 ([] : List SStep) none 0 0 [] g1 a0_0 A0_1 c0_1 l0_1.length l0_1 A0_2 c0_2 l0_2.length l0_2 A12 c13 l10.length l10 hB hF (stab_nil _) (Nat.le_refl 0) (hS _ R0_1) hc0_1 (hS _ R0_2) hc0_2 (hT 2 _ rfl).box (hT 0 _ rfl).row (hT 0 _ rfl).cap _ _ hx15)) (fun s w h => za9 [none, some 4, some 5] (by decide) w h rfl) (cur4 (fun A18 c19 A20 c21 => ?_))
    refine za8 h (fun l23 hx22 h => ?_) rfl
    refine a_one 6 rfl rfl (by kernel_rfl) rfl (zac 0 Z Try.func92 N92 rfl rfl rfl (fun w P1 hF hB hS hT => impl_renamed.calls A0_2 c0_2 l0_2.length l0_2 A18 c19 l16.length l16 hB hF (hS _ R0_2) hc0_2 (hT 0 _ rfl).row (hT 0 _ rfl).cap _ hx22)) (fun s w h => za9 [none, some 5, some 6] (by decide) w h rfl) (cur2 (fun A24 c25 => ?_))
    refine za5 7 rfl rfl rfl (by kernel_rfl) (fun _ _ _ h => h) (q_f F27_2 rfl) ?_
    refine a_one 8 rfl rfl (by kernel_rfl) rfl (zb4 (i := 2) rfl rfl rfl rfl Z25 rfl rfl) (fun s w h => za9 [none, some 5, some 6] (by decide) w h rfl) (fun _ => ?_)
    refine zaz (by kernel_rfl) ?_
    refine za1 ?_
    refine c_seq ?_
    refine za0 ?_
    refine o_q rfl rfl (q_ldB G27 Z27 rfl (fun w h => h.zab (i := 2) rfl) rfl) ?_
    refine o_pick [3, 0, 1, 2, 4, 5, 6] (by decide) rfl ?_
    refine bindE4 h (fun i27 l28 l29 b30 hx26 h => ?_) rfl
    refine o_e rfl (zac 2 Z Try.func102 N102 rfl rfl rfl (fun w P1 hF hB hS hT => impl_told.calls k 1 A20 c21 l17.length l17 A24 c25 l23.length l23 hB hF _ _ _ _ hx26)) (cur4 (fun A31 c32 A33 c34 => ?_))
    refine o_q rfl rfl (q_ext rfl rfl) ?_
    refine o_q rfl rfl (q_ext rfl rfl) ?_
    refine o_e rfl (zal (i := 5) rfl rfl rfl Z27 rfl rfl) (fun _ => ?_)
    refine o_q rfl rfl (q_asg rfl) ?_
    refine o_end ?_
    refine za1 ?_
    refine c_ret ?_
    have e0_ := Option.some.inj h; clear h
    have d0_ := (Prod.mk.inj e0_).1; have e1_ := (Prod.mk.inj e0_).2; clear e0_; subst d0_
    have d1_ := (Prod.mk.inj e1_).1; have e2_ := (Prod.mk.inj e1_).2; clear e1_; subst d1_
    have d2_ := (Prod.mk.inj e2_).1; have e3_ := (Prod.mk.inj e2_).2; clear e2_; subst d2_
    subst e3_
    exact x_r2 (A31, c32, A33, c34) Try.results64 (rv_cell rfl G27 Z27 (fun w h => h.zab (i := 5) rfl) rfl) (zai rfl) rfl (fun w h => za7 [0, 1] (by decide) rfl w h)

end Go.Proofs.Ytoegbcbdiggbjaa.FC
