import Derived.Test.YtpdpomjgfmdjfaaKFnExactFewestRegistersG1p1
namespace Go.Proofs.Ytpdpomjgfmdjfaa.G1
open Go.RowKit Go.Proofs.Ytpdpomjgfmdjfaa.Frame Go.Proofs.YtpdpomjgfmdjfaaW.PrintWords Go.Proofs.YtpdpomjgfmdjfaaW.PrintLast
set_option linter.unusedVariables false
/-! ### loop.example/g01098/spec.reNeeded: function 114 -/
def spec_reNeeded.l1 (l1 : List Int) (i7 : Int) : (List SStep) → Int → Bool → Option Bool
  | [], i25, b26 => some b26
  | y27 :: ys28, i25, b26 => if b26 = true then (spec_reNeeded.l1 l1 i7 ys28 (i25 + 1) true) else ((spec_l1Has.f l1 i25).bind fun b50 => if b50 = true then (spec_reNeeded.l1 l1 i7 ys28 (i25 + 1) false) else (if y27.f0 = i7 then (spec_reNeeded.l1 l1 i7 ys28 (i25 + 1) true) else (spec_reNeeded.l1 l1 i7 ys28 (i25 + 1) (decide (y27.f1 = i7)))))
def spec_reNeeded.l2 (l1 : List Int) (i7 : Int) : (List SStep) → Int → Bool → Option Bool
  | [], i55, b56 => some b56
  | y57 :: ys58, i55, b56 => if b56 = true then (spec_reNeeded.l2 l1 i7 ys58 (i55 + 1) true) else ((spec_l1Has.f l1 i55).bind fun b80 => if b80 = true then (spec_reNeeded.l2 l1 i7 ys58 (i55 + 1) false) else (if y57.f0 = i7 then (spec_reNeeded.l2 l1 i7 ys58 (i55 + 1) true) else (spec_reNeeded.l2 l1 i7 ys58 (i55 + 1) (decide (y57.f1 = i7)))))
def spec_reNeeded.l0 (a0_0 : Int) (l0_1 : List SStep) (l0_2 : List Int) (l1 : List Int) : Nat → (List Int) → Int → Option (List Int)
  | 0, _, _ => none
  | k10 + 1, l4, i7 => if i7 < w64 (a0_0 + (l0_1.length : Int)) then (if a0_0 ≤ i7 then ((spec_l1Has.f l1 (w64 (i7 - a0_0))).bind fun b21 => if b21 = true then ((spec_l1Has.f l0_2 i7).bind fun b24 => (spec_reNeeded.l1 l1 i7 l0_1 0 b24).bind fun b26 => if b26 = true then ((ap l4 ([i7] : List Int)).bind fun l41 => spec_reNeeded.l0 a0_0 l0_1 l0_2 l1 k10 l41 (w64 (i7 + 1))) else (spec_reNeeded.l0 a0_0 l0_1 l0_2 l1 k10 l4 (w64 (i7 + 1)))) else (spec_reNeeded.l0 a0_0 l0_1 l0_2 l1 k10 l4 (w64 (i7 + 1)))) else ((spec_l1Has.f l0_2 i7).bind fun b54 => (spec_reNeeded.l2 l1 i7 l0_1 0 b54).bind fun b56 => if b56 = true then ((ap l4 ([i7] : List Int)).bind fun l71 => spec_reNeeded.l0 a0_0 l0_1 l0_2 l1 k10 l71 (w64 (i7 + 1))) else (spec_reNeeded.l0 a0_0 l0_1 l0_2 l1 k10 l4 (w64 (i7 + 1))))) else (some l4)
def spec_reNeeded.f (k : Nat) (a0_0 : Int) (l0_1 : List SStep) (l0_2 : List Int) (l1 : List Int) : Option (List Int) := (spec_reNeeded.l0 a0_0 l0_1 l0_2 l1 k ([] : List Int) 0).bind fun l4 => some l4
set_option maxHeartbeats 600000 in
set_option maxRecDepth 100000 in
theorem spec_reNeeded.calls (k : Nat) {w0 ws : World} {P0 : Nat → Prop} (a0_0 : Int) (A0_1 : Option Addr) (c0_1 : Nat) (n0_1 : Nat) (l0_1 : List SStep) (A0_2 : Option Addr) (c0_2 : Nat) (n0_2 : Nat) (l0_2 : List Int) (A1 : Option Addr) (c1 : Nat) (n1 : Nat) (l1 : List Int) (Z : Below w0.heap.size w0 ws) (hF : Fr w0 ws P0 [] ws) (R0_1 : Stable ws P0 (fun w => Kd.C kStep w A0_1 n0_1 l0_1)) (hc0_1 : n0_1 ≤ c0_1) (R0_2 : Stable ws P0 (fun w => Kd.C (Kd.int .i64) w A0_2 n0_2 l0_2)) (hc0_2 : n0_2 ≤ c0_2) (R1 : Stable ws P0 (fun w => Kd.C (Kd.int .i64) w A1 n1 l1)) (hc1 : n1 ≤ c1) (r_1 : List Int) (h : spec_reNeeded.f k a0_0 l0_1 l0_2 l1 = some r_1) :
    Calls Try.prog 114 #[.agg #[.int .i64 a0_0, .slice A0_1 n0_1 c0_1, .slice A0_2 n0_2 c0_2], .slice A1 n1 c1] ws (Post1 w0 ws P0 (fun ((q_2, q_3) : (Option Addr) × Nat) => .slice q_2 r_1.length q_3) (fun ((q_2, q_3) : (Option Addr) × Nat) => [row (Kd.int .i64) 3 (.slice q_2 r_1.length q_3) r_1])) := by
  unfold spec_reNeeded.f at h
  obtain rfl := (R0_1 ws (KeptB.refl _ _)).1
  obtain rfl := (R0_2 ws (KeptB.refl _ _)).1
  obtain rfl := (R1 ws (KeptB.refl _ _)).1
  refine enter Try.func114 rfl Try.ntmps114 rfl hF ?_
  refine c_seq ?_
  refine za0 ?_
  refine o_e rfl (e_box rfl) (fun g1 => ?_)
  refine o_q rfl rfl (q_asg rfl) ?_
  refine o_end ?_
  refine za1 ?_
  refine c_seq ?_
  refine za0 ?_
  refine o_q rfl rfl (q_asg rfl) ?_
  refine o_end ?_
  refine za1 ?_
  refine c_seq ?_
  refine c_seq ?_
  refine za0 ?_
  refine o_q rfl rfl (q_asg rfl) ?_
  refine o_end ?_
  refine za1 ?_
  refine zan ?_
  refine c_nil (Kd.int .i64) 3 ?_
  refine za8 h (fun o15 hl14 hR13 => ?_) rfl
  clear h
  refine zax (σ := (List Int) × Int × (Option Addr) × Nat) (fun k10 ((l4, i7, A5, c6) : (List Int) × Int × (Option Addr) × Nat) => spec_reNeeded.l0 a0_0 l0_1 l0_2 l1 k10 l4 i7 = some o15) [5, 6, 7, 8, 9, 10, 11, 12, 13, 14, 15, 16, 17, 18, 19, 20, 21, 22, 23, 24, 25, 26, 27, 28, 29, 30, 31, 32, 33, 34, 35, 36, 37, 38, 39, 40, 41, 42, 43, 44, 45, 46, 47, 48, 49, 50, 51, 52, 53, 54, 55, 56, 57, 58, 59, 60, 61, 62, 63, 64, 65, 66, 67, 68, 69] (fun ((l4, i7, A5, c6) : (List Int) × Int × (Option Addr) × Nat) => [(5, .slice A5 l4.length c6), (6, .int .i64 i7)]) (fun ((l4, i7, A5, c6) : (List Int) × Int × (Option Addr) × Nat) => [row (Kd.int .i64) 3 (.slice A5 l4.length c6) l4, box g1 36 #[.int .i64 a0_0, .slice A0_1 l0_1.length c0_1, .slice A0_2 l0_2.length c0_2]]) k (([] : List Int), 0, none, 0) hl14 ⟨rfl, rfl, trivial⟩ (fun w h => h) ?_
  refine natC (cur4 (fun l4 i7 A5 c6 => fun U16 hJ_ => ?_)) (fun k10 => (cur4 (fun l4 i7 A5 c6 => fun U16 hJ_ => ?_)))
  · skip
    replace hJ_ : spec_reNeeded.l0 a0_0 l0_1 l0_2 l1 0 l4 i7 = some o15 := hJ_
    rw [spec_reNeeded.l0] at hJ_
    exact noneE hJ_
  · skip
    clear hl14
    have h := hJ_; clear hJ_
    replace h : spec_reNeeded.l0 a0_0 l0_1 l0_2 l1 (k10 + 1) l4 i7 = some o15 := h
    rw [spec_reNeeded.l0] at h
    refine c_seq ?_
    refine c_seq ?_
    refine za0 ?_
    refine o_q rfl rfl (za2 rfl) ?_
    refine o_q rfl rfl (q_f F36_0 rfl) ?_
    refine o_q rfl rfl (q_ldb Y3 rfl (fun w h => h.zaa (i := 1) rfl) rfl) ?_
    refine o_q rfl rfl (q_f F36_1 rfl) ?_
    refine o_q rfl rfl (q_ldb Y34 rfl (fun w h => h.zaa (i := 1) rfl) rfl) ?_
    refine o_q rfl rfl (q_len Try.underlying34 rfl) ?_
    refine o_q rfl rfl (q_add64 rfl rfl) ?_
    refine o_q rfl rfl (q_lss rfl rfl) ?_
    refine o_end ?_
    refine za1 ?_
    refine zar _ rfl (fun hb18 => ?_) (fun hb18 => ?_)
    · skip
      replace h := br_t hb18 h
      refine zai ?_
      refine za1 ?_
      refine c_seq ?_
      refine zan ?_
      refine c_seq ?_
      refine c_seq ?_
      refine za0 ?_
      refine o_q rfl rfl (za2 rfl) ?_
      refine o_q rfl rfl (q_f F36_0 rfl) ?_
      refine o_q rfl rfl (q_ldb Y3 rfl (fun w h => h.zaa (i := 1) rfl) rfl) ?_
      refine o_q rfl rfl (q_geq rfl rfl) ?_
      refine o_q rfl rfl (za2 rfl) ?_
      refine byB (decide (a0_0 ≤ i7)) (fun hb19 => ?_) (fun hb19 => ?_)
      · replace h := br_t hb19 h
        refine o_w (za3 rfl rfl rfl (congrArg Value.bool hb19)) rfl (za2 rfl) ?_
        refine o_w (za3 rfl rfl rfl (congrArg Value.bool hb19)) rfl (za2 rfl) ?_
        refine o_w (za3 rfl rfl rfl (congrArg Value.bool hb19)) rfl (q_f F36_0 rfl) ?_
        refine o_w (za3 rfl rfl rfl (congrArg Value.bool hb19)) rfl (q_ldb Y3 rfl (fun w h => h.zaa (i := 1) rfl) rfl) ?_
        refine o_w (za3 rfl rfl rfl (congrArg Value.bool hb19)) rfl (q_sub64 rfl rfl) ?_
        refine za8 h (fun b21 hx20 h => ?_) rfl
        refine o_ew (za3 rfl rfl rfl (congrArg Value.bool hb19)) (za9 0 Z Try.func115 N115 rfl rfl rfl (fun w P1 hF hB hS hT => spec_l1Has.calls A1 c1 l1.length l1 (w64 (i7 - a0_0)) hB hF (hS _ R1) hc1 _ hx20)) (fun _ => ?_)
        refine o_w (za3 rfl rfl rfl (congrArg Value.bool hb19)) rfl (q_not rfl) ?_
        refine o_q rfl rfl (zam true (congrArg Value.bool hb19) rfl) ?_
        refine o_end ?_
        refine za1 ?_
        refine zar _ rfl (fun hb22 => ?_) (fun hb22 => ?_)
        · replace hb22 := nt_t hb22
          replace h := bb_f hb22 h
          refine c_exit ?_
          refine za7 ?_
          refine x_hit ?_
          refine za1 ?_
          refine za0 ?_
          refine o_q rfl rfl (za2 rfl) ?_
          refine o_q rfl rfl (q_add64 rfl rfl) ?_
          refine o_q rfl rfl (q_asg rfl) ?_
          refine o_end ?_
          refine zaf k10 (l4, w64 (i7 + 1), A5, c6) (Nat.lt_succ_self _) h ⟨rfl, rfl, trivial⟩ (fun w h => za6 [0, 1] (by decide) rfl w h) ?_
          repeat (first | exact zad _ _ | refine zah rfl ?_ | refine zae rfl ?_ | refine zaj rfl ?_)
        · replace hb22 := nt_f hb22
          replace h := bb_t hb22 h
          refine zai ?_
          refine za1 ?_
          refine c_seq ?_
          refine za0 ?_
          refine o_q rfl rfl (q_f F36_2 rfl) ?_
          refine o_q rfl rfl (q_ldb Y22 rfl (fun w h => h.zaa (i := 1) rfl) rfl) ?_
          refine o_q rfl rfl (za2 rfl) ?_
          refine za8 h (fun b24 hx23 h => ?_) rfl
          refine o_e rfl (za9 0 Z Try.func115 N115 rfl rfl rfl (fun w P1 hF hB hS hT => spec_l1Has.calls A0_2 c0_2 l0_2.length l0_2 i7 hB hF (hS _ R0_2) hc0_2 _ hx23)) (fun _ => ?_)
          refine o_q rfl rfl (q_asg rfl) ?_
          refine o_end ?_
          refine za1 ?_
          refine c_seq ?_
          refine c_seq ?_
          refine za0 ?_
          refine o_q rfl rfl (q_f F36_1 rfl) ?_
          refine o_q rfl rfl (q_ldb Y34 rfl (fun w h => h.zaa (i := 1) rfl) rfl) ?_
          refine o_q rfl rfl (q_len Try.underlying34 rfl) ?_
          refine o_q rfl rfl (za2 rfl) ?_
          refine o_end ?_
          refine za1 ?_
          refine zan ?_
          refine za8 h (fun o34 hl33 hR32 => ?_) rfl
          clear h
          refine c_fact (p := l0_1.length ≤ 9223372036854775807) (fun w h => (R0_1.now Z h).2.1) (fun hm31 => ?_)
          refine zax (σ := (List SStep) × Int × Bool) (fun k29 ((ys28, i25, b26) : (List SStep) × Int × Bool) => Rg l0_1 i25 ys28 ∧ ys28.length = k29 ∧ spec_reNeeded.l1 l1 i7 ys28 i25 b26 = some o34) [7, 8, 9, 40, 41, 42, 43, 44, 45, 46, 47, 48, 49, 50, 51, 52, 53, 54, 55, 56, 57, 58, 59, 60, 61, 62, 63, 64] (fun ((ys28, i25, b26) : (List SStep) × Int × Bool) => [(7, .bool b26), (40, .int .i64 i25)]) (fun ((ys28, i25, b26) : (List SStep) × Int × Bool) => [row (Kd.int .i64) 3 (.slice A5 l4.length c6) l4, box g1 36 #[.int .i64 a0_0, .slice A0_1 l0_1.length c0_1, .slice A0_2 l0_2.length c0_2]]) l0_1.length (l0_1, 0, b24) ⟨Rg.start _, rfl, hl33⟩ ⟨rfl, rfl, trivial⟩ (fun w h => h) ?_
          refine fun k29 => cur3 (listC (fun i25 b26 U35 hJ_ => ?_) (fun y27 ys28 i25 b26 U35 hJ_ => ?_))
          · skip
            clear hl33
            have hr30 := hJ_.1; have hk36 := hJ_.2.1; have h := hJ_.2.2; clear hJ_
            replace h : spec_reNeeded.l1 l1 i7 [] i25 b26 = some o34 := h
            rw [spec_reNeeded.l1] at h
            refine c_seq ?_
            refine za0 ?_
            refine o_q rfl rfl (q_lss rfl rfl) ?_
            refine o_end ?_
            refine za1 ?_
            refine c_seq ?_
            refine c_false (congrArg Value.bool hr30.ge) ?_
            refine c_exit ?_
            refine za7 ?_
            refine za7 ?_
            have e_ := Option.some.inj h; replace h := hR32; rw [← e_] at h; clear e_
            refine x_hit ?_
            refine za1 ?_
            refine c_seq ?_
            refine za0 ?_
            refine o_q rfl rfl (za2 rfl) ?_
            refine o_end ?_
            refine za1 ?_
            refine zar _ rfl (fun hb37 => ?_) (fun hb37 => ?_)
            · skip
              replace h := bb_t hb37 h
              refine za0 ?_
              refine o_q rfl rfl (za2 rfl) ?_
              refine o_q rfl rfl (za2 rfl) ?_
              refine o_e rfl (e_lit (vs := [(0, .int .i64 i7)]) (cs := [.int .i64 i7]) (Kd.int .i64) ([i7] : List Int) Try.underlying22 I3 (by decide) rfl (by decide) rfl rfl (fun _ _ => Kd.zau _)) (cur2 (fun A38 c39 => ?_))
              refine za8 h (fun l41 ha42 h => ?_) rfl
              refine o_e rfl (e_app (i := 1) (j := 0) Try.underlying22 I3 rfl (by decide) (by decide) rfl rfl rfl rfl rfl ha42) (cur2 (fun A43 c44 => ?_))
              refine o_q rfl rfl (q_asg rfl) ?_
              refine o_end ?_
              refine zao ?_
              refine za1 ?_
              refine za0 ?_
              refine o_q rfl rfl (za2 rfl) ?_
              refine o_q rfl rfl (q_add64 rfl rfl) ?_
              refine o_q rfl rfl (q_asg rfl) ?_
              refine o_end ?_
              refine zaf k10 (l41, w64 (i7 + 1), A43, c44) (Nat.lt_succ_self _) h ⟨rfl, rfl, trivial⟩ (fun w h => za6 [1, 2] (by decide) rfl w h) ?_
              repeat (first | exact zad _ _ | refine zah rfl ?_ | refine zae rfl ?_ | refine zaj rfl ?_)
            · skip
              replace h := bb_f hb37 h
              refine zai ?_
              refine zao ?_
              refine za1 ?_
              refine za0 ?_
              refine o_q rfl rfl (za2 rfl) ?_
              refine o_q rfl rfl (q_add64 rfl rfl) ?_
              refine o_q rfl rfl (q_asg rfl) ?_
              refine o_end ?_
              refine zaf k10 (l4, w64 (i7 + 1), A5, c6) (Nat.lt_succ_self _) h ⟨rfl, rfl, trivial⟩ (fun w h => za6 [0, 1] (by decide) rfl w h) ?_
              repeat (first | exact zad _ _ | refine zah rfl ?_ | refine zae rfl ?_ | refine zaj rfl ?_)
          · skip
            clear hl33
            have hr30 := hJ_.1; have hk36 := hJ_.2.1; have h := hJ_.2.2; clear hJ_
            replace h : spec_reNeeded.l1 l1 i7 (y27 :: ys28) i25 b26 = some o34 := h
            rw [spec_reNeeded.l1] at h
            refine c_seq ?_
            refine za0 ?_
            refine o_q rfl rfl (q_lss rfl rfl) ?_
            refine o_end ?_
            refine za1 ?_
            refine c_seq ?_
            refine c_true (congrArg Value.bool hr30.lt) ?_
            refine zai ?_
            refine za1 ?_
            refine c_seq ?_
            refine zan ?_
            refine c_seq ?_
            refine za0 ?_
            refine o_q rfl rfl (za2 rfl) ?_
            refine zav (p := Sh A0_1 l0_1.length l0_1.length) (fun w h => f_sh (dk := kStep) h (fun w h => R0_1.now Z h)) (fun hq45 => ?_)
            refine o_q rfl rfl (q_ix Try.underlying34 Z117 rfl rfl hq45 hr30.get) ?_
            refine o_q rfl rfl (q_ldE G117 Z117 rfl rfl (fun w h => R0_1.now Z h) hr30.get (fun _ _ h => h) rfl) ?_
            refine o_e rfl (e_alloc V117 rfl) (fun g46 => ?_)
            refine o_q rfl rfl (q_asg rfl) ?_
            refine o_e rfl (e_storeA (i := 0) rfl rfl rfl Z117 rfl rfl) (fun _ => ?_)
            refine o_end ?_
            refine za1 ?_
            refine za0 ?_
            refine o_q rfl rfl (za2 rfl) ?_
            refine o_q rfl rfl (za2 rfl) ?_
            refine byB b26 (fun hb48 => ?_) (fun hb48 => ?_)
            · replace h := bb_t hb48 h
              refine @o_n _ _ _ _ _ _ _ _ _ _ _ 47 (za4 rfl rfl rfl (congrArg Value.bool hb48) rfl) (Eq.refl (some 47)) ?_
              refine @o_n _ _ _ _ _ _ _ _ _ _ _ 48 (za4 rfl rfl rfl (congrArg Value.bool hb48) rfl) (Eq.refl (some 48)) ?_
              refine @o_n _ _ _ _ _ _ _ _ _ _ _ 49 (za4 rfl rfl rfl (congrArg Value.bool hb48) rfl) (Eq.refl (some 49)) ?_
              refine @o_n _ _ _ _ _ _ _ _ _ _ _ 50 (za4 rfl rfl rfl (congrArg Value.bool hb48) rfl) (Eq.refl (some 50)) ?_
              refine @o_n _ _ _ _ _ _ _ _ _ _ _ 51 (za4 rfl rfl rfl (congrArg Value.bool hb48) rfl) (Eq.refl (some 51)) ?_
              refine @o_n _ _ _ _ _ _ _ _ _ _ _ 52 (zak rfl rfl rfl rfl) (Eq.refl (some 52)) ?_
              refine @o_n _ _ _ _ _ _ _ _ _ _ _ 53 (zak rfl rfl rfl rfl) (Eq.refl (some 53)) ?_
              refine @o_n _ _ _ _ _ _ _ _ _ _ _ 54 (zak rfl rfl rfl rfl) (Eq.refl (some 54)) ?_
              refine @o_n _ _ _ _ _ _ _ _ _ _ _ 55 (zak rfl rfl rfl rfl) (Eq.refl (some 55)) ?_
              refine @o_n _ _ _ _ _ _ _ _ _ _ _ 56 (zak rfl rfl rfl rfl) (Eq.refl (some 56)) ?_
              refine @o_n _ _ _ _ _ _ _ _ _ _ _ 57 (zak rfl rfl rfl rfl) (Eq.refl (some 57)) ?_
              refine @o_n _ _ _ _ _ _ _ _ _ _ _ 58 (zak rfl rfl rfl rfl) (Eq.refl (some 58)) ?_
              refine @o_n _ _ _ _ _ _ _ _ _ _ _ 59 (zak rfl rfl rfl rfl) (Eq.refl (some 59)) ?_
              refine @o_n _ _ _ _ _ _ _ _ _ _ _ 60 (zak rfl rfl rfl rfl) (Eq.refl (some 60)) ?_
              refine @o_n _ _ _ _ _ _ _ _ _ _ _ 61 (zak rfl rfl rfl rfl) (Eq.refl (some 61)) ?_
              refine @o_n _ _ _ _ _ _ _ _ _ _ _ 62 (za4 rfl rfl rfl (congrArg Value.bool hb48) rfl) (Eq.refl (some 62)) ?_
              refine o_q rfl rfl (zam true (congrArg Value.bool hb48) rfl) ?_
              refine o_q rfl rfl (q_asg rfl) ?_
              refine o_end ?_
              refine zao ?_
              refine za1 ?_
              refine za0 ?_
              refine o_q rfl rfl (q_up rfl rfl (hr30.up hm31)) ?_
              refine o_q rfl rfl (za2 rfl) ?_
              refine o_end ?_
              refine zaf ys28.length (ys28, i25 + 1, true) (by rw [← hk36]; exact Nat.lt_succ_self _) ⟨hr30.step, rfl, h⟩ ⟨rfl, rfl, trivial⟩ (fun w h => za6 [1, 2] (by decide) rfl w h) ?_
              repeat (first | exact zad _ _ | refine zah rfl ?_ | refine zae rfl ?_ | refine zaj rfl ?_)
            · replace h := bb_f hb48 h
              refine o_w (za3 rfl rfl rfl (congrArg Value.bool hb48)) rfl (za2 rfl) ?_
              refine o_w (za3 rfl rfl rfl (congrArg Value.bool hb48)) rfl (za2 rfl) ?_
              refine za8 h (fun b50 hx49 h => ?_) rfl
              refine o_ew (za3 rfl rfl rfl (congrArg Value.bool hb48)) (za9 0 Z Try.func115 N115 rfl rfl rfl (fun w P1 hF hB hS hT => spec_l1Has.calls A1 c1 l1.length l1 i25 hB hF (hS _ R1) hc1 _ hx49)) (fun _ => ?_)
              refine o_w (za3 rfl rfl rfl (congrArg Value.bool hb48)) rfl (q_not rfl) ?_
              refine o_w (za3 rfl rfl rfl (congrArg Value.bool hb48)) rfl (za2 rfl) ?_
              refine byB b50 (fun hb51 => ?_) (fun hb51 => ?_)
              · replace h := bb_t hb51 h
                refine @o_n _ _ _ _ _ _ _ _ _ _ _ 52 (za4 rfl rfl rfl (congrArg (fun b => Value.bool (!(b))) hb51) rfl) (Eq.refl (some 52)) ?_
                refine @o_n _ _ _ _ _ _ _ _ _ _ _ 53 (za4 rfl rfl rfl (congrArg (fun b => Value.bool (!(b))) hb51) rfl) (Eq.refl (some 53)) ?_
                refine @o_n _ _ _ _ _ _ _ _ _ _ _ 54 (za4 rfl rfl rfl (congrArg (fun b => Value.bool (!(b))) hb51) rfl) (Eq.refl (some 54)) ?_
                refine @o_n _ _ _ _ _ _ _ _ _ _ _ 55 (za4 rfl rfl rfl (congrArg (fun b => Value.bool (!(b))) hb51) rfl) (Eq.refl (some 55)) ?_
                refine @o_n _ _ _ _ _ _ _ _ _ _ _ 56 (za4 rfl rfl rfl (congrArg (fun b => Value.bool (!(b))) hb51) rfl) (Eq.refl (some 56)) ?_
                refine @o_n _ _ _ _ _ _ _ _ _ _ _ 57 (zak rfl rfl rfl rfl) (Eq.refl (some 57)) ?_
                refine @o_n _ _ _ _ _ _ _ _ _ _ _ 58 (zak rfl rfl rfl rfl) (Eq.refl (some 58)) ?_
                refine @o_n _ _ _ _ _ _ _ _ _ _ _ 59 (zak rfl rfl rfl rfl) (Eq.refl (some 59)) ?_
                refine @o_n _ _ _ _ _ _ _ _ _ _ _ 60 (zak rfl rfl rfl rfl) (Eq.refl (some 60)) ?_
                refine @o_n _ _ _ _ _ _ _ _ _ _ _ 61 (za4 rfl rfl rfl (congrArg (fun b => Value.bool (!(b))) hb51) rfl) (Eq.refl (some 61)) ?_
                refine o_w (za3 rfl rfl rfl (congrArg Value.bool hb48)) rfl (zam false (congrArg (fun b => Value.bool (!(b))) hb51) rfl) ?_
                refine o_q rfl rfl (zam false (congrArg Value.bool hb48) rfl) ?_
                refine o_q rfl rfl (q_asg rfl) ?_
                refine o_end ?_
                refine zao ?_
                refine za1 ?_
                refine za0 ?_
                refine o_q rfl rfl (q_up rfl rfl (hr30.up hm31)) ?_
                refine o_q rfl rfl (za2 rfl) ?_
                refine o_end ?_
                refine zaf ys28.length (ys28, i25 + 1, false) (by rw [← hk36]; exact Nat.lt_succ_self _) ⟨hr30.step, rfl, h⟩ ⟨rfl, rfl, trivial⟩ (fun w h => za6 [1, 2] (by decide) rfl w h) ?_
                repeat (first | exact zad _ _ | refine zah rfl ?_ | refine zae rfl ?_ | refine zaj rfl ?_)
              · replace h := bb_f hb51 h
                refine o_w (za3 rfl rfl rfl (congrArg (fun b => Value.bool (!(b))) hb51)) rfl (q_f F117_0 rfl) ?_
                refine o_w (za3 rfl rfl rfl (congrArg (fun b => Value.bool (!(b))) hb51)) rfl (q_ldb Y3 rfl (fun w h => h.zaa (i := 0) rfl) rfl) ?_
                refine o_w (za3 rfl rfl rfl (congrArg (fun b => Value.bool (!(b))) hb51)) rfl (za2 rfl) ?_
                refine o_w (za3 rfl rfl rfl (congrArg (fun b => Value.bool (!(b))) hb51)) rfl (q_eql rfl rfl) ?_
                refine o_w (za3 rfl rfl rfl (congrArg (fun b => Value.bool (!(b))) hb51)) rfl (za2 rfl) ?_
                refine byB (decide (y27.f0 = i7)) (fun hb52 => ?_) (fun hb52 => ?_)
                · replace h := br_t hb52 h
                  refine @o_n _ _ _ _ _ _ _ _ _ _ _ 57 (za4 rfl rfl rfl (congrArg Value.bool hb52) rfl) (Eq.refl (some 57)) ?_
                  refine @o_n _ _ _ _ _ _ _ _ _ _ _ 58 (za4 rfl rfl rfl (congrArg Value.bool hb52) rfl) (Eq.refl (some 58)) ?_
                  refine @o_n _ _ _ _ _ _ _ _ _ _ _ 59 (za4 rfl rfl rfl (congrArg Value.bool hb52) rfl) (Eq.refl (some 59)) ?_
                  refine @o_n _ _ _ _ _ _ _ _ _ _ _ 60 (za4 rfl rfl rfl (congrArg Value.bool hb52) rfl) (Eq.refl (some 60)) ?_
                  refine o_w (za3 rfl rfl rfl (congrArg (fun b => Value.bool (!(b))) hb51)) rfl (zam true (congrArg Value.bool hb52) rfl) ?_
                  refine o_w (za3 rfl rfl rfl (congrArg Value.bool hb48)) rfl (zam true (congrArg (fun b => Value.bool (!(b))) hb51) rfl) ?_
                  refine o_q rfl rfl (zam false (congrArg Value.bool hb48) rfl) ?_
                  refine o_q rfl rfl (q_asg rfl) ?_
                  refine o_end ?_
                  refine zao ?_
                  refine za1 ?_
                  refine za0 ?_
                  refine o_q rfl rfl (q_up rfl rfl (hr30.up hm31)) ?_
                  refine o_q rfl rfl (za2 rfl) ?_
                  refine o_end ?_
                  refine zaf ys28.length (ys28, i25 + 1, true) (by rw [← hk36]; exact Nat.lt_succ_self _) ⟨hr30.step, rfl, h⟩ ⟨rfl, rfl, trivial⟩ (fun w h => za6 [1, 2] (by decide) rfl w h) ?_
                  repeat (first | exact zad _ _ | refine zah rfl ?_ | refine zae rfl ?_ | refine zaj rfl ?_)
                · replace h := br_f hb52 h
                  refine o_w (za3 rfl rfl rfl (congrArg Value.bool hb52)) rfl (q_f F117_1 rfl) ?_
                  refine o_w (za3 rfl rfl rfl (congrArg Value.bool hb52)) rfl (q_ldb Y3 rfl (fun w h => h.zaa (i := 0) rfl) rfl) ?_
                  refine o_w (za3 rfl rfl rfl (congrArg Value.bool hb52)) rfl (za2 rfl) ?_
                  refine o_w (za3 rfl rfl rfl (congrArg Value.bool hb52)) rfl (q_eql rfl rfl) ?_
                  refine o_w (za3 rfl rfl rfl (congrArg (fun b => Value.bool (!(b))) hb51)) rfl (zam false (congrArg Value.bool hb52) rfl) ?_
                  refine o_w (za3 rfl rfl rfl (congrArg Value.bool hb48)) rfl (zam true (congrArg (fun b => Value.bool (!(b))) hb51) rfl) ?_
                  refine o_q rfl rfl (zam false (congrArg Value.bool hb48) rfl) ?_
                  refine o_q rfl rfl (q_asg rfl) ?_
                  refine o_end ?_
                  refine zao ?_
                  refine za1 ?_
                  refine za0 ?_
                  refine o_q rfl rfl (q_up rfl rfl (hr30.up hm31)) ?_
                  refine o_q rfl rfl (za2 rfl) ?_
                  refine o_end ?_
                  refine zaf ys28.length (ys28, i25 + 1, decide (y27.f1 = i7)) (by rw [← hk36]; exact Nat.lt_succ_self _) ⟨hr30.step, rfl, h⟩ ⟨rfl, rfl, trivial⟩ (fun w h => za6 [1, 2] (by decide) rfl w h) ?_
                  repeat (first | exact zad _ _ | refine zah rfl ?_ | refine zae rfl ?_ | refine zaj rfl ?_)
      · replace h := br_f hb19 h
        refine @o_n _ _ _ _ _ _ _ _ _ _ _ 25 (za4 rfl rfl rfl (congrArg Value.bool hb19) rfl) (Eq.refl (some 25)) ?_
        refine @o_n _ _ _ _ _ _ _ _ _ _ _ 26 (za4 rfl rfl rfl (congrArg Value.bool hb19) rfl) (Eq.refl (some 26)) ?_
        refine @o_n _ _ _ _ _ _ _ _ _ _ _ 27 (za4 rfl rfl rfl (congrArg Value.bool hb19) rfl) (Eq.refl (some 27)) ?_
        refine @o_n _ _ _ _ _ _ _ _ _ _ _ 28 (za4 rfl rfl rfl (congrArg Value.bool hb19) rfl) (Eq.refl (some 28)) ?_
        refine @o_n _ _ _ _ _ _ _ _ _ _ _ 29 (za4 rfl rfl rfl (congrArg Value.bool hb19) rfl) (Eq.refl (some 29)) ?_
        refine @o_n _ _ _ _ _ _ _ _ _ _ _ 30 (za4 rfl rfl rfl (congrArg Value.bool hb19) rfl) (Eq.refl (some 30)) ?_
        refine @o_n _ _ _ _ _ _ _ _ _ _ _ 31 (za4 rfl rfl rfl (congrArg Value.bool hb19) rfl) (Eq.refl (some 31)) ?_
        refine o_q rfl rfl (zam false (congrArg Value.bool hb19) rfl) ?_
        refine o_end ?_
        refine za1 ?_
        refine c_false rfl ?_
        refine zai ?_
        refine za1 ?_
        refine c_seq ?_
        refine za0 ?_
        refine o_q rfl rfl (q_f F36_2 rfl) ?_
        refine o_q rfl rfl (q_ldb Y22 rfl (fun w h => h.zaa (i := 1) rfl) rfl) ?_
        refine o_q rfl rfl (za2 rfl) ?_
        refine za8 h (fun b54 hx53 h => ?_) rfl
        refine o_e rfl (za9 0 Z Try.func115 N115 rfl rfl rfl (fun w P1 hF hB hS hT => spec_l1Has.calls A0_2 c0_2 l0_2.length l0_2 i7 hB hF (hS _ R0_2) hc0_2 _ hx53)) (fun _ => ?_)
        refine o_q rfl rfl (q_asg rfl) ?_
        refine o_end ?_
        refine za1 ?_
        refine c_seq ?_
        refine c_seq ?_
        refine za0 ?_
        refine o_q rfl rfl (q_f F36_1 rfl) ?_
        refine o_q rfl rfl (q_ldb Y34 rfl (fun w h => h.zaa (i := 1) rfl) rfl) ?_
        refine o_q rfl rfl (q_len Try.underlying34 rfl) ?_
        refine o_q rfl rfl (za2 rfl) ?_
        refine o_end ?_
        refine za1 ?_
        refine zan ?_
        refine za8 h (fun o64 hl63 hR62 => ?_) rfl
        clear h
        refine c_fact (p := l0_1.length ≤ 9223372036854775807) (fun w h => (R0_1.now Z h).2.1) (fun hm61 => ?_)
        refine zax (σ := (List SStep) × Int × Bool) (fun k59 ((ys58, i55, b56) : (List SStep) × Int × Bool) => Rg l0_1 i55 ys58 ∧ ys58.length = k59 ∧ spec_reNeeded.l2 l1 i7 ys58 i55 b56 = some o64) [7, 8, 9, 40, 41, 42, 43, 44, 45, 46, 47, 48, 49, 50, 51, 52, 53, 54, 55, 56, 57, 58, 59, 60, 61, 62, 63, 64] (fun ((ys58, i55, b56) : (List SStep) × Int × Bool) => [(7, .bool b56), (40, .int .i64 i55)]) (fun ((ys58, i55, b56) : (List SStep) × Int × Bool) => [row (Kd.int .i64) 3 (.slice A5 l4.length c6) l4, box g1 36 #[.int .i64 a0_0, .slice A0_1 l0_1.length c0_1, .slice A0_2 l0_2.length c0_2]]) l0_1.length (l0_1, 0, b54) ⟨Rg.start _, rfl, hl63⟩ ⟨rfl, rfl, trivial⟩ (fun w h => h) ?_
        refine fun k59 => cur3 (listC (fun i55 b56 U65 hJ_ => ?_) (fun y57 ys58 i55 b56 U65 hJ_ => ?_))
        · skip
          clear hl63
          have hr60 := hJ_.1; have hk66 := hJ_.2.1; have h := hJ_.2.2; clear hJ_
          replace h : spec_reNeeded.l2 l1 i7 [] i55 b56 = some o64 := h
          rw [spec_reNeeded.l2] at h
          refine c_seq ?_
          refine za0 ?_
          refine o_q rfl rfl (q_lss rfl rfl) ?_
          refine o_end ?_
          refine za1 ?_
          refine c_seq ?_
          refine c_false (congrArg Value.bool hr60.ge) ?_
          refine c_exit ?_
          refine za7 ?_
          refine za7 ?_
          have e_ := Option.some.inj h; replace h := hR62; rw [← e_] at h; clear e_
          refine x_hit ?_
          refine za1 ?_
          refine c_seq ?_
          refine za0 ?_
          refine o_q rfl rfl (za2 rfl) ?_
          refine o_end ?_
          refine za1 ?_
          refine zar _ rfl (fun hb67 => ?_) (fun hb67 => ?_)
          · skip
            replace h := bb_t hb67 h
            refine za0 ?_
            refine o_q rfl rfl (za2 rfl) ?_
            refine o_q rfl rfl (za2 rfl) ?_
            refine o_e rfl (e_lit (vs := [(0, .int .i64 i7)]) (cs := [.int .i64 i7]) (Kd.int .i64) ([i7] : List Int) Try.underlying22 I3 (by decide) rfl (by decide) rfl rfl (fun _ _ => Kd.zau _)) (cur2 (fun A68 c69 => ?_))
            refine za8 h (fun l71 ha72 h => ?_) rfl
            refine o_e rfl (e_app (i := 1) (j := 0) Try.underlying22 I3 rfl (by decide) (by decide) rfl rfl rfl rfl rfl ha72) (cur2 (fun A73 c74 => ?_))
            refine o_q rfl rfl (q_asg rfl) ?_
            refine o_end ?_
            refine zao ?_
            refine za1 ?_
            refine za0 ?_
            refine o_q rfl rfl (za2 rfl) ?_
            refine o_q rfl rfl (q_add64 rfl rfl) ?_
            refine o_q rfl rfl (q_asg rfl) ?_
            refine o_end ?_
            refine zaf k10 (l71, w64 (i7 + 1), A73, c74) (Nat.lt_succ_self _) h ⟨rfl, rfl, trivial⟩ (fun w h => za6 [1, 2] (by decide) rfl w h) ?_
            repeat (first | exact zad _ _ | refine zah rfl ?_ | refine zae rfl ?_ | refine zaj rfl ?_)
          · skip
            replace h := bb_f hb67 h
            refine zai ?_
            refine zao ?_
            refine za1 ?_
            refine za0 ?_
            refine o_q rfl rfl (za2 rfl) ?_
            refine o_q rfl rfl (q_add64 rfl rfl) ?_
            refine o_q rfl rfl (q_asg rfl) ?_
            refine o_end ?_
            refine zaf k10 (l4, w64 (i7 + 1), A5, c6) (Nat.lt_succ_self _) h ⟨rfl, rfl, trivial⟩ (fun w h => za6 [0, 1] (by decide) rfl w h) ?_
            repeat (first | exact zad _ _ | refine zah rfl ?_ | refine zae rfl ?_ | refine zaj rfl ?_)
        · skip
          clear hl63
          have hr60 := hJ_.1; have hk66 := hJ_.2.1; have h := hJ_.2.2; clear hJ_
          replace h : spec_reNeeded.l2 l1 i7 (y57 :: ys58) i55 b56 = some o64 := h
          rw [spec_reNeeded.l2] at h
          refine c_seq ?_
          refine za0 ?_
          refine o_q rfl rfl (q_lss rfl rfl) ?_
          refine o_end ?_
          refine za1 ?_
          refine c_seq ?_
          refine c_true (congrArg Value.bool hr60.lt) ?_
          refine zai ?_
          refine za1 ?_
          refine c_seq ?_
          refine zan ?_
          refine c_seq ?_
          refine za0 ?_
          refine o_q rfl rfl (za2 rfl) ?_
          refine zav (p := Sh A0_1 l0_1.length l0_1.length) (fun w h => f_sh (dk := kStep) h (fun w h => R0_1.now Z h)) (fun hq75 => ?_)
          refine o_q rfl rfl (q_ix Try.underlying34 Z117 rfl rfl hq75 hr60.get) ?_
          refine o_q rfl rfl (q_ldE G117 Z117 rfl rfl (fun w h => R0_1.now Z h) hr60.get (fun _ _ h => h) rfl) ?_
          refine o_e rfl (e_alloc V117 rfl) (fun g76 => ?_)
          refine o_q rfl rfl (q_asg rfl) ?_
          refine o_e rfl (e_storeA (i := 0) rfl rfl rfl Z117 rfl rfl) (fun _ => ?_)
          refine o_end ?_
          refine za1 ?_
          refine za0 ?_
          refine o_q rfl rfl (za2 rfl) ?_
          refine o_q rfl rfl (za2 rfl) ?_
          refine byB b56 (fun hb78 => ?_) (fun hb78 => ?_)
          · replace h := bb_t hb78 h
            refine @o_n _ _ _ _ _ _ _ _ _ _ _ 47 (za4 rfl rfl rfl (congrArg Value.bool hb78) rfl) (Eq.refl (some 47)) ?_
            refine @o_n _ _ _ _ _ _ _ _ _ _ _ 48 (za4 rfl rfl rfl (congrArg Value.bool hb78) rfl) (Eq.refl (some 48)) ?_
            refine @o_n _ _ _ _ _ _ _ _ _ _ _ 49 (za4 rfl rfl rfl (congrArg Value.bool hb78) rfl) (Eq.refl (some 49)) ?_
            refine @o_n _ _ _ _ _ _ _ _ _ _ _ 50 (za4 rfl rfl rfl (congrArg Value.bool hb78) rfl) (Eq.refl (some 50)) ?_
            refine @o_n _ _ _ _ _ _ _ _ _ _ _ 51 (za4 rfl rfl rfl (congrArg Value.bool hb78) rfl) (Eq.refl (some 51)) ?_
            refine @o_n _ _ _ _ _ _ _ _ _ _ _ 52 (zak rfl rfl rfl rfl) (Eq.refl (some 52)) ?_
            refine @o_n _ _ _ _ _ _ _ _ _ _ _ 53 (zak rfl rfl rfl rfl) (Eq.refl (some 53)) ?_
            refine @o_n _ _ _ _ _ _ _ _ _ _ _ 54 (zak rfl rfl rfl rfl) (Eq.refl (some 54)) ?_
            refine @o_n _ _ _ _ _ _ _ _ _ _ _ 55 (zak rfl rfl rfl rfl) (Eq.refl (some 55)) ?_
            refine @o_n _ _ _ _ _ _ _ _ _ _ _ 56 (zak rfl rfl rfl rfl) (Eq.refl (some 56)) ?_
            refine @o_n _ _ _ _ _ _ _ _ _ _ _ 57 (zak rfl rfl rfl rfl) (Eq.refl (some 57)) ?_
            refine @o_n _ _ _ _ _ _ _ _ _ _ _ 58 (zak rfl rfl rfl rfl) (Eq.refl (some 58)) ?_
            refine @o_n _ _ _ _ _ _ _ _ _ _ _ 59 (zak rfl rfl rfl rfl) (Eq.refl (some 59)) ?_
            refine @o_n _ _ _ _ _ _ _ _ _ _ _ 60 (zak rfl rfl rfl rfl) (Eq.refl (some 60)) ?_
            refine @o_n _ _ _ _ _ _ _ _ _ _ _ 61 (zak rfl rfl rfl rfl) (Eq.refl (some 61)) ?_
            refine @o_n _ _ _ _ _ _ _ _ _ _ _ 62 (za4 rfl rfl rfl (congrArg Value.bool hb78) rfl) (Eq.refl (some 62)) ?_
            refine o_q rfl rfl (zam true (congrArg Value.bool hb78) rfl) ?_
            refine o_q rfl rfl (q_asg rfl) ?_
            refine o_end ?_
            refine zao ?_
            refine za1 ?_
            refine za0 ?_
            refine o_q rfl rfl (q_up rfl rfl (hr60.up hm61)) ?_
            refine o_q rfl rfl (za2 rfl) ?_
            refine o_end ?_
            refine zaf ys58.length (ys58, i55 + 1, true) (by rw [← hk66]; exact Nat.lt_succ_self _) ⟨hr60.step, rfl, h⟩ ⟨rfl, rfl, trivial⟩ (fun w h => za6 [1, 2] (by decide) rfl w h) ?_
            repeat (first | exact zad _ _ | refine zah rfl ?_ | refine zae rfl ?_ | refine zaj rfl ?_)
          · replace h := bb_f hb78 h
            refine o_w (za3 rfl rfl rfl (congrArg Value.bool hb78)) rfl (za2 rfl) ?_
            refine o_w (za3 rfl rfl rfl (congrArg Value.bool hb78)) rfl (za2 rfl) ?_
            refine za8 h (fun b80 hx79 h => ?_) rfl
            refine o_ew (za3 rfl rfl rfl (congrArg Value.bool hb78)) (za9 0 Z Try.func115 N115 rfl rfl rfl (fun w P1 hF hB hS hT => spec_l1Has.calls A1 c1 l1.length l1 i55 hB hF (hS _ R1) hc1 _ hx79)) (fun _ => ?_)
            refine o_w (za3 rfl rfl rfl (congrArg Value.bool hb78)) rfl (q_not rfl) ?_
            refine o_w (za3 rfl rfl rfl (congrArg Value.bool hb78)) rfl (za2 rfl) ?_
            refine byB b80 (fun hb81 => ?_) (fun hb81 => ?_)
            · replace h := bb_t hb81 h
              refine @o_n _ _ _ _ _ _ _ _ _ _ _ 52 (za4 rfl rfl rfl (congrArg (fun b => Value.bool (!(b))) hb81) rfl) (Eq.refl (some 52)) ?_
              refine @o_n _ _ _ _ _ _ _ _ _ _ _ 53 (za4 rfl rfl rfl (congrArg (fun b => Value.bool (!(b))) hb81) rfl) (Eq.refl (some 53)) ?_
              refine @o_n _ _ _ _ _ _ _ _ _ _ _ 54 (za4 rfl rfl rfl (congrArg (fun b => Value.bool (!(b))) hb81) rfl) (Eq.refl (some 54)) ?_
              refine @o_n _ _ _ _ _ _ _ _ _ _ _ 55 (za4 rfl rfl rfl (congrArg (fun b => Value.bool (!(b))) hb81) rfl) (Eq.refl (some 55)) ?_
              refine @o_n _ _ _ _ _ _ _ _ _ _ _ 56 (za4 rfl rfl rfl (congrArg (fun b => Value.bool (!(b))) hb81) rfl) (Eq.refl (some 56)) ?_
              refine @o_n _ _ _ _ _ _ _ _ _ _ _ 57 (zak rfl rfl rfl rfl) (Eq.refl (some 57)) ?_
              refine @o_n _ _ _ _ _ _ _ _ _ _ _ 58 (zak rfl rfl rfl rfl) (Eq.refl (some 58)) ?_
              refine @o_n _ _ _ _ _ _ _ _ _ _ _ 59 (zak rfl rfl rfl rfl) (Eq.refl (some 59)) ?_
              refine @o_n _ _ _ _ _ _ _ _ _ _ _ 60 (zak rfl rfl rfl rfl) (Eq.refl (some 60)) ?_
              refine @o_n _ _ _ _ _ _ _ _ _ _ _ 61 (za4 rfl rfl rfl (congrArg (fun b => Value.bool (!(b))) hb81) rfl) (Eq.refl (some 61)) ?_
              refine o_w (za3 rfl rfl rfl (congrArg Value.bool hb78)) rfl (zam false (congrArg (fun b => Value.bool (!(b))) hb81) rfl) ?_
              refine o_q rfl rfl (zam false (congrArg Value.bool hb78) rfl) ?_
              refine o_q rfl rfl (q_asg rfl) ?_
              refine o_end ?_
              refine zao ?_
              refine za1 ?_
              refine za0 ?_
              refine o_q rfl rfl (q_up rfl rfl (hr60.up hm61)) ?_
              refine o_q rfl rfl (za2 rfl) ?_
              refine o_end ?_
              refine zaf ys58.length (ys58, i55 + 1, false) (by rw [← hk66]; exact Nat.lt_succ_self _) ⟨hr60.step, rfl, h⟩ ⟨rfl, rfl, trivial⟩ (fun w h => za6 [1, 2] (by decide) rfl w h) ?_
              repeat (first | exact zad _ _ | refine zah rfl ?_ | refine zae rfl ?_ | refine zaj rfl ?_)
            · replace h := bb_f hb81 h
              refine o_w (za3 rfl rfl rfl (congrArg (fun b => Value.bool (!(b))) hb81)) rfl (q_f F117_0 rfl) ?_
              refine o_w (za3 rfl rfl rfl (congrArg (fun b => Value.bool (!(b))) hb81)) rfl (q_ldb Y3 rfl (fun w h => h.zaa (i := 0) rfl) rfl) ?_
              refine o_w (za3 rfl rfl rfl (congrArg (fun b => Value.bool (!(b))) hb81)) rfl (za2 rfl) ?_
              refine o_w (za3 rfl rfl rfl (congrArg (fun b => Value.bool (!(b))) hb81)) rfl (q_eql rfl rfl) ?_
              refine o_w (za3 rfl rfl rfl (congrArg (fun b => Value.bool (!(b))) hb81)) rfl (za2 rfl) ?_
              refine byB (decide (y57.f0 = i7)) (fun hb82 => ?_) (fun hb82 => ?_)
              · replace h := br_t hb82 h
                refine @o_n _ _ _ _ _ _ _ _ _ _ _ 57 (za4 rfl rfl rfl (congrArg Value.bool hb82) rfl) (Eq.refl (some 57)) ?_
                refine @o_n _ _ _ _ _ _ _ _ _ _ _ 58 (za4 rfl rfl rfl (congrArg Value.bool hb82) rfl) (Eq.refl (some 58)) ?_
                refine @o_n _ _ _ _ _ _ _ _ _ _ _ 59 (za4 rfl rfl rfl (congrArg Value.bool hb82) rfl) (Eq.refl (some 59)) ?_
                refine @o_n _ _ _ _ _ _ _ _ _ _ _ 60 (za4 rfl rfl rfl (congrArg Value.bool hb82) rfl) (Eq.refl (some 60)) ?_
                refine o_w (za3 rfl rfl rfl (congrArg (fun b => Value.bool (!(b))) hb81)) rfl (zam true (congrArg Value.bool hb82) rfl) ?_
                refine o_w (za3 rfl rfl rfl (congrArg Value.bool hb78)) rfl (zam true (congrArg (fun b => Value.bool (!(b))) hb81) rfl) ?_
                refine o_q rfl rfl (zam false (congrArg Value.bool hb78) rfl) ?_
                refine o_q rfl rfl (q_asg rfl) ?_
                refine o_end ?_
                refine zao ?_
                refine za1 ?_
                refine za0 ?_
                refine o_q rfl rfl (q_up rfl rfl (hr60.up hm61)) ?_
                refine o_q rfl rfl (za2 rfl) ?_
                refine o_end ?_
                refine zaf ys58.length (ys58, i55 + 1, true) (by rw [← hk66]; exact Nat.lt_succ_self _) ⟨hr60.step, rfl, h⟩ ⟨rfl, rfl, trivial⟩ (fun w h => za6 [1, 2] (by decide) rfl w h) ?_
                repeat (first | exact zad _ _ | refine zah rfl ?_ | refine zae rfl ?_ | refine zaj rfl ?_)
              · replace h := br_f hb82 h
                refine o_w (za3 rfl rfl rfl (congrArg Value.bool hb82)) rfl (q_f F117_1 rfl) ?_
                refine o_w (za3 rfl rfl rfl (congrArg Value.bool hb82)) rfl (q_ldb Y3 rfl (fun w h => h.zaa (i := 0) rfl) rfl) ?_
                refine o_w (za3 rfl rfl rfl (congrArg Value.bool hb82)) rfl (za2 rfl) ?_
                refine o_w (za3 rfl rfl rfl (congrArg Value.bool hb82)) rfl (q_eql rfl rfl) ?_
                refine o_w (za3 rfl rfl rfl (congrArg (fun b => Value.bool (!(b))) hb81)) rfl (zam false (congrArg Value.bool hb82) rfl) ?_
                refine o_w (za3 rfl rfl rfl (congrArg Value.bool hb78)) rfl (zam true (congrArg (fun b => Value.bool (!(b))) hb81) rfl) ?_
                refine o_q rfl rfl (zam false (congrArg Value.bool hb78) rfl) ?_
                refine o_q rfl rfl (q_asg rfl) ?_
                refine o_end ?_
                refine zao ?_
                refine za1 ?_
                refine za0 ?_
                refine o_q rfl rfl (q_up rfl rfl (hr60.up hm61)) ?_
                refine o_q rfl rfl (za2 rfl) ?_
                refine o_end ?_
                refine zaf ys58.length (ys58, i55 + 1, decide (y57.f1 = i7)) (by rw [← hk66]; exact Nat.lt_succ_self _) ⟨hr60.step, rfl, h⟩ ⟨rfl, rfl, trivial⟩ (fun w h => za6 [1, 2] (by decide) rfl w h) ?_
                repeat (first | exact zad _ _ | refine zah rfl ?_ | refine zae rfl ?_ | refine zaj rfl ?_)
    · skip
      replace h := br_f hb18 h
      refine c_exit ?_
      refine za7 ?_
      refine za7 ?_
      have e_ := Option.some.inj h; replace h := hR13; rw [← e_] at h; clear e_
      refine x_hit ?_
      refine za1 ?_
      refine c_seq ?_
      refine za0 ?_
      refine o_q rfl rfl (za2 rfl) ?_
      refine o_q rfl rfl (q_asg rfl) ?_
      refine o_end ?_
      refine za1 ?_
      refine c_ret ?_
      have e0_ := Option.some.inj h; clear h
      subst e0_
      exact x_r1 (A5, c6) Try.results114 (zab rfl) rfl (fun w h => za6 [0] (by decide) rfl w h)

/-! ### loop.example/g01098/spec.l1Put: function 164 -/
def spec_l1Put.l0 (l0 : List Int) (a1 : Int) : Nat → Int → Option Int
  | 0, _ => none
  | k26 + 1, i23 => if i23 < (l0.length : Int) then ((gt l0 i23).bind fun y37 => if y37 < a1 then (spec_l1Put.l0 l0 a1 k26 (w64 (i23 + 1))) else (some i23)) else (some i23)
def spec_l1Put.f (k : Nat) (l0 : List Int) (a1 : Int) : Option (List Int) := ((spec_l1Put.l0 l0 a1 k 0)).bind fun i17 => (if i17 < (l0.length : Int) then ((gt l0 i17).bind fun y52 => if y52 = a1 then (some (.inl l0)) else (some (.inr ()))) else (some (.inr ())) : Option (((List Int)) ⊕ (Unit))).bind fun o_ => match o_ with | .inl r_ => some r_ | .inr _ => (ct l0 (0 : Int) i17).bind fun l57 => (ap ([] : List Int) l57).bind fun l60 => (ap l60 ([a1] : List Int)).bind fun l67 => (ct l0 i17 (l0.length : Int)).bind fun l71 => (ap l67 l71).bind fun l74 => some l74
set_option maxHeartbeats 600000 in
set_option maxRecDepth 100000 in
theorem spec_l1Put.calls (k : Nat) {w0 ws : World} {P0 : Nat → Prop} (A0 : Option Addr) (c0 : Nat) (n0 : Nat) (l0 : List Int) (a1 : Int) (Z : Below w0.heap.size w0 ws) (hF : Fr w0 ws P0 [row (Kd.int .i64) 3 (.slice A0 n0 c0) l0] ws)  (r_1 : List Int) (h : spec_l1Put.f k l0 a1 = some r_1) :
    Calls Try.prog 164 #[.slice A0 n0 c0, .int .i64 a1] ws (Post1 w0 ws P0 (fun ((q_2, q_3) : (Option Addr) × Nat) => .slice q_2 r_1.length q_3) (fun ((q_2, q_3) : (Option Addr) × Nat) => [row (Kd.int .i64) 3 (.slice q_2 r_1.length q_3) r_1])) := by
  unfold spec_l1Put.f at h
  obtain rfl := (hF.row_C (i := 0) rfl).2.1
  refine enter Try.func164 rfl Try.ntmps164 rfl hF ?_
  refine c_seq ?_
  refine za0 ?_
  refine o_q rfl rfl (q_asg rfl) ?_
  refine o_end ?_
  refine za1 ?_
  refine c_seq ?_
  refine za0 ?_
  refine o_q rfl rfl (q_asg rfl) ?_
  refine o_end ?_
  refine za1 ?_
  refine za8 h (fun o18 hl19 hR20 => ?_) rfl
  clear h
  refine c_cutJ (σ := Int) (fun i17 => some i17 = some o18) [5, 7, 8, 9, 10, 11, 12, 13, 14, 15, 16, 17, 18, 19, 20] (fun i17 => [(5, .int .i64 i17)]) (fun i17 => [row (Kd.int .i64) 3 (.slice A0 l0.length c0) l0]) ?_ ?_
  · skip
    have h := hl19; clear hl19
    clear hR20
    refine zan ?_
    have hl30 := h; clear h
    refine zax (σ := Int) (fun k26 (i23 : Int) => spec_l1Put.l0 l0 a1 k26 i23 = some o18) [5, 7, 8, 9, 10, 11, 12, 13, 14, 15, 16, 17, 18, 19, 20] (fun (i23 : Int) => [(5, .int .i64 i23)]) (fun (i23 : Int) => [row (Kd.int .i64) 3 (.slice A0 l0.length c0) l0]) k 0 hl30 ⟨rfl, trivial⟩ (fun w h => h) ?_
    refine natC (fun i23 => fun U32 hJ_ => ?_) (fun k26 => (fun i23 => fun U32 hJ_ => ?_))
    · skip
      replace hJ_ : spec_l1Put.l0 l0 a1 0 i23 = some o18 := hJ_
      rw [spec_l1Put.l0] at hJ_
      exact noneE hJ_
    · skip
      clear hl30
      have h := hJ_; clear hJ_
      replace h : spec_l1Put.l0 l0 a1 (k26 + 1) i23 = some o18 := h
      rw [spec_l1Put.l0] at h
      refine c_seq ?_
      refine c_seq ?_
      refine za0 ?_
      refine o_q rfl rfl (za2 rfl) ?_
      refine o_q rfl rfl (za2 rfl) ?_
      refine o_q rfl rfl (q_len Try.underlying22 rfl) ?_
      refine o_q rfl rfl (q_lss rfl rfl) ?_
      refine o_q rfl rfl (za2 rfl) ?_
      refine byB (decide (i23 < (l0.length : Int))) (fun hb34 => ?_) (fun hb34 => ?_)
      · replace h := br_t hb34 h
        refine o_w (za3 rfl rfl rfl (congrArg Value.bool hb34)) rfl (za2 rfl) ?_
        refine o_w (za3 rfl rfl rfl (congrArg Value.bool hb34)) rfl (za2 rfl) ?_
        refine zav (p := Sh A0 l0.length l0.length) (fun w h => f_sh (dk := (Kd.int .i64)) h (fun w h => h.zat (i := 0) rfl)) (fun hq35 => ?_)
        refine za8 h (fun y37 hg36 h => ?_) rfl
        refine o_w (za3 rfl rfl rfl (congrArg Value.bool hb34)) rfl (q_ix Try.underlying22 Z3 rfl rfl hq35 hg36) ?_
        refine o_w (za3 rfl rfl rfl (congrArg Value.bool hb34)) rfl (q_lde (off := 0) Y3 rfl rfl (fun w h => h.zat (i := 0) rfl) hg36 (fun _ _ h => h) rfl) ?_
        refine o_w (za3 rfl rfl rfl (congrArg Value.bool hb34)) rfl (za2 rfl) ?_
        refine o_w (za3 rfl rfl rfl (congrArg Value.bool hb34)) rfl (q_lss rfl rfl) ?_
        refine o_q rfl rfl (zam true (congrArg Value.bool hb34) rfl) ?_
        refine o_end ?_
        refine za1 ?_
        refine zar _ rfl (fun hb38 => ?_) (fun hb38 => ?_)
        · skip
          replace h := br_t hb38 h
          refine zai ?_
          refine za1 ?_
          refine zan ?_
          refine za0 ?_
          refine o_q rfl rfl (za2 rfl) ?_
          refine o_q rfl rfl (q_add64 rfl rfl) ?_
          refine o_q rfl rfl (q_asg rfl) ?_
          refine o_end ?_
          refine zao ?_
          refine zaf k26 (w64 (i23 + 1)) (Nat.lt_succ_self _) h ⟨rfl, trivial⟩ (fun w h => za6 [0] (by decide) rfl w h) ?_
          repeat (first | exact zad _ _ | refine zah rfl ?_ | refine zae rfl ?_ | refine zaj rfl ?_)
        · skip
          replace h := br_f hb38 h
          refine c_exit ?_
          refine za7 ?_
          refine za7 ?_
          refine x_hit ?_
          refine x_meetJ i23 h ⟨rfl, trivial⟩ (fun w h => za6 [0] (by decide) rfl w h) ?_
          repeat (first | exact zad _ _ | refine zah rfl ?_ | refine zae rfl ?_ | refine zaj rfl ?_)
      · replace h := br_f hb34 h
        refine @o_n _ _ _ _ _ _ _ _ _ _ _ 12 (za4 rfl rfl rfl (congrArg Value.bool hb34) rfl) (Eq.refl (some 12)) ?_
        refine @o_n _ _ _ _ _ _ _ _ _ _ _ 13 (za4 rfl rfl rfl (congrArg Value.bool hb34) rfl) (Eq.refl (some 13)) ?_
        refine @o_n _ _ _ _ _ _ _ _ _ _ _ 14 (za4 rfl rfl rfl (congrArg Value.bool hb34) rfl) (Eq.refl (some 14)) ?_
        refine @o_n _ _ _ _ _ _ _ _ _ _ _ 15 (za4 rfl rfl rfl (congrArg Value.bool hb34) rfl) (Eq.refl (some 15)) ?_
        refine @o_n _ _ _ _ _ _ _ _ _ _ _ 16 (za4 rfl rfl rfl (congrArg Value.bool hb34) rfl) (Eq.refl (some 16)) ?_
        refine @o_n _ _ _ _ _ _ _ _ _ _ _ 17 (za4 rfl rfl rfl (congrArg Value.bool hb34) rfl) (Eq.refl (some 17)) ?_
        refine o_q rfl rfl (zam false (congrArg Value.bool hb34) rfl) ?_
        refine o_end ?_
        refine za1 ?_
        refine c_false rfl ?_
        refine c_exit ?_
        refine za7 ?_
        refine za7 ?_
        refine x_hit ?_
        refine x_meetJ i23 h ⟨rfl, trivial⟩ (fun w h => za6 [0] (by decide) rfl w h) ?_
        repeat (first | exact zad _ _ | refine zah rfl ?_ | refine zae rfl ?_ | refine zaj rfl ?_)
  · skip
    refine (fun i17 => fun U21 hJ22 => ?_)
    have e_ := Option.some.inj hJ22; have h := hR20; rw [← e_] at h; clear e_ hJ22 hR20 hl19
    refine za8 h (fun o44 hl45 hR46 => ?_) rfl
    clear h
    refine c_cutJ (σ := Unit) (fun _ => some (.inr ()) = some o44) [4, 21, 22, 23, 24, 25, 26, 27, 28, 29, 30, 31, 32, 33] (fun _ => []) (fun _ => [row (Kd.int .i64) 3 (.slice A0 l0.length c0) l0]) ?_ ?_
    · skip
      have h := hl45; clear hl45
      refine c_seq ?_
      refine za0 ?_
      refine o_q rfl rfl (za2 rfl) ?_
      refine o_q rfl rfl (za2 rfl) ?_
      refine o_q rfl rfl (q_len Try.underlying22 rfl) ?_
      refine o_q rfl rfl (q_lss rfl rfl) ?_
      refine o_q rfl rfl (za2 rfl) ?_
      refine byB (decide (i17 < (l0.length : Int))) (fun hb49 => ?_) (fun hb49 => ?_)
      · replace h := br_t hb49 h
        refine o_w (za3 rfl rfl rfl (congrArg Value.bool hb49)) rfl (za2 rfl) ?_
        refine o_w (za3 rfl rfl rfl (congrArg Value.bool hb49)) rfl (za2 rfl) ?_
        refine zav (p := Sh A0 l0.length l0.length) (fun w h => f_sh (dk := (Kd.int .i64)) h (fun w h => h.zat (i := 0) rfl)) (fun hq50 => ?_)
        refine za8 h (fun y52 hg51 h => ?_) rfl
        refine o_w (za3 rfl rfl rfl (congrArg Value.bool hb49)) rfl (q_ix Try.underlying22 Z3 rfl rfl hq50 hg51) ?_
        refine o_w (za3 rfl rfl rfl (congrArg Value.bool hb49)) rfl (q_lde (off := 0) Y3 rfl rfl (fun w h => h.zat (i := 0) rfl) hg51 (fun _ _ h => h) rfl) ?_
        refine o_w (za3 rfl rfl rfl (congrArg Value.bool hb49)) rfl (za2 rfl) ?_
        refine o_w (za3 rfl rfl rfl (congrArg Value.bool hb49)) rfl (q_eql rfl rfl) ?_
        refine o_q rfl rfl (zam true (congrArg Value.bool hb49) rfl) ?_
        refine o_end ?_
        refine za1 ?_
        refine zar _ rfl (fun hb53 => ?_) (fun hb53 => ?_)
        · skip
          replace h := br_t hb53 h
          refine c_seq ?_
          refine za0 ?_
          refine o_q rfl rfl (za2 rfl) ?_
          refine o_q rfl rfl (q_asg rfl) ?_
          refine o_end ?_
          refine za1 ?_
          refine c_ret ?_
          refine za5 ?_
          have e_ := Option.some.inj h; replace h := hR46; rw [← e_] at h; clear e_
          have e0_ := Option.some.inj h; clear h
          subst e0_
          exact x_r1 (A0, c0) Try.results164 (zab rfl) rfl (fun w h => za6 [0] (by decide) rfl w h)
        · skip
          replace h := br_f hb53 h
          refine zai ?_
          refine x_meetJ () h trivial (fun w h => za6 [0] (by decide) rfl w h) ?_
          repeat (first | exact zad _ _ | refine zah rfl ?_ | refine zae rfl ?_ | refine zaj rfl ?_)
      · replace h := br_f hb49 h
        refine @o_n _ _ _ _ _ _ _ _ _ _ _ 26 (za4 rfl rfl rfl (congrArg Value.bool hb49) rfl) (Eq.refl (some 26)) ?_
        refine @o_n _ _ _ _ _ _ _ _ _ _ _ 27 (za4 rfl rfl rfl (congrArg Value.bool hb49) rfl) (Eq.refl (some 27)) ?_
        refine @o_n _ _ _ _ _ _ _ _ _ _ _ 28 (za4 rfl rfl rfl (congrArg Value.bool hb49) rfl) (Eq.refl (some 28)) ?_
        refine @o_n _ _ _ _ _ _ _ _ _ _ _ 29 (za4 rfl rfl rfl (congrArg Value.bool hb49) rfl) (Eq.refl (some 29)) ?_
        refine @o_n _ _ _ _ _ _ _ _ _ _ _ 30 (za4 rfl rfl rfl (congrArg Value.bool hb49) rfl) (Eq.refl (some 30)) ?_
        refine @o_n _ _ _ _ _ _ _ _ _ _ _ 31 (za4 rfl rfl rfl (congrArg Value.bool hb49) rfl) (Eq.refl (some 31)) ?_
        refine o_q rfl rfl (zam false (congrArg Value.bool hb49) rfl) ?_
        refine o_end ?_
        refine za1 ?_
        refine c_false rfl ?_
        refine zai ?_
        refine x_meetJ () h trivial (fun w h => za6 [0] (by decide) rfl w h) ?_
        repeat (first | exact zad _ _ | refine zah rfl ?_ | refine zae rfl ?_ | refine zaj rfl ?_)
    · skip
      refine (fun _ => fun U47 hJ48 => ?_)
      have e_ := Option.some.inj hJ48; have h := hR46; rw [← e_] at h; clear e_ hJ48 hR46 hl45
      refine c_seq ?_
      refine za0 ?_
      refine o_e rfl (e_lit0 (Kd.int .i64) Try.underlying22 I3) (cur2 (fun A54 c55 => ?_))
      refine o_q rfl rfl (za2 rfl) ?_
      refine o_q rfl rfl (za2 rfl) ?_
      refine za8 h (fun l57 hz58 h => ?_) rfl
      refine zav (p := l0.length = l0.length ∧ l0.length ≤ c0) (fun w h => h.row_nc (i := 1) rfl) (fun hk59 => ?_)
      refine o_q rfl rfl (q_ctv Try.underlying22 Z3 rfl rfl ⟨_, rfl⟩ hk59.1 hk59.2 hz58) ?_
      refine za8 h (fun l60 ha61 h => ?_) rfl
      refine o_e rfl (e_appr (i := 0) Try.underlying22 I3 rfl (by decide) (by decide) (fun _ _ _ _ h => h) rfl (fun w h => C_cut (dk := (Kd.int .i64)) rfl hz58 hk59.2 (h.zat (i := 1) rfl)) rfl rfl ha61) (cur2 (fun A62 c63 => ?_))
      refine o_q rfl rfl (q_asg rfl) ?_
      refine o_end ?_
      refine za1 ?_
      refine c_seq ?_
      refine za0 ?_
      refine o_q rfl rfl (za2 rfl) ?_
      refine o_q rfl rfl (za2 rfl) ?_
      refine o_e rfl (e_lit (vs := [(0, .int .i64 a1)]) (cs := [.int .i64 a1]) (Kd.int .i64) ([a1] : List Int) Try.underlying22 I3 (by decide) rfl (by decide) rfl rfl (fun _ _ => Kd.zau _)) (cur2 (fun A64 c65 => ?_))
      refine za8 h (fun l67 ha68 h => ?_) rfl
      refine o_e rfl (e_app (i := 1) (j := 0) Try.underlying22 I3 rfl (by decide) (by decide) rfl rfl rfl rfl rfl ha68) (cur2 (fun A69 c70 => ?_))
      refine o_q rfl rfl (q_asg rfl) ?_
      refine o_end ?_
      refine za1 ?_
      refine c_seq ?_
      refine za0 ?_
      refine o_q rfl rfl (za2 rfl) ?_
      refine o_q rfl rfl (za2 rfl) ?_
      refine o_q rfl rfl (za2 rfl) ?_
      refine za8 h (fun l71 hz72 h => ?_) rfl
      refine zav (p := l0.length = l0.length ∧ l0.length ≤ c0) (fun w h => h.row_nc (i := 2) rfl) (fun hk73 => ?_)
      refine o_q rfl rfl (q_ctv Try.underlying22 Z3 rfl ⟨_, rfl⟩ rfl hk73.1 hk73.2 hz72) ?_
      refine za8 h (fun l74 ha75 h => ?_) rfl
      refine o_e rfl (e_appr (i := 1) Try.underlying22 I3 rfl (by decide) (by decide) (fun _ _ _ _ h => h) rfl (fun w h => C_cut (dk := (Kd.int .i64)) rfl hz72 hk73.2 (h.zat (i := 2) rfl)) rfl rfl ha75) (cur2 (fun A76 c77 => ?_))
      refine o_q rfl rfl (q_asg rfl) ?_
      refine o_end ?_
      refine za1 ?_
      refine c_ret ?_
      have e0_ := Option.some.inj h; clear h
      subst e0_
      exact x_r1 (A76, c77) Try.results164 (zab rfl) rfl (fun w h => za6 [1] (by decide) rfl w h)

/-! ### loop.example/g01098/spec.l1Most: function 146 -/
def spec_l1Most.f (a0 : Int) (a1 : Int) : Option Int := if a1 < a0 then (some a0) else (some a1)
set_option maxHeartbeats 600000 in
set_option maxRecDepth 100000 in
theorem spec_l1Most.calls {w0 ws : World} {P0 : Nat → Prop} (a0 : Int) (a1 : Int) (Z : Below w0.heap.size w0 ws) (hF : Fr w0 ws P0 [] ws)  (r_1 : Int) (h : spec_l1Most.f a0 a1 = some r_1) :
    Calls Try.prog 146 #[.int .i64 a0, .int .i64 a1] ws (Post1 w0 ws P0 (fun (_ : Unit) => .int .i64 r_1) (fun (_ : Unit) => [])) := by
  unfold spec_l1Most.f at h
  refine enter Try.func146 rfl Try.ntmps146 rfl hF ?_
  refine c_seq ?_
  refine za0 ?_
  refine o_q rfl rfl (q_asg rfl) ?_
  refine o_end ?_
  refine za1 ?_
  refine c_seq ?_
  refine c_seq ?_
  refine za0 ?_
  refine o_q rfl rfl (za2 rfl) ?_
  refine o_q rfl rfl (za2 rfl) ?_
  refine o_q rfl rfl (q_gtr rfl rfl) ?_
  refine o_end ?_
  refine za1 ?_
  refine zar _ rfl (fun hb1 => ?_) (fun hb1 => ?_)
  · skip
    replace h := br_t hb1 h
    refine c_seq ?_
    refine za0 ?_
    refine o_q rfl rfl (za2 rfl) ?_
    refine o_q rfl rfl (q_asg rfl) ?_
    refine o_end ?_
    refine za1 ?_
    refine c_ret ?_
    refine za5 ?_
    have e0_ := Option.some.inj h; clear h
    subst e0_
    exact x_r1 () Try.results146 (zab rfl) rfl (fun w h => za6 [] (by decide) rfl w h)
  · skip
    replace h := br_f hb1 h
    refine zai ?_
    refine za1 ?_
    refine c_seq ?_
    refine za0 ?_
    refine o_q rfl rfl (za2 rfl) ?_
    refine o_q rfl rfl (q_asg rfl) ?_
    refine o_end ?_
    refine za1 ?_
    refine c_ret ?_
    have e0_ := Option.some.inj h; clear h
    subst e0_
    exact x_r1 () Try.results146 (zab rfl) rfl (fun w h => za6 [] (by decide) rfl w h)

/-! ### loop.example/g01098/spec.rePressure: function 107 -/
def spec_rePressure.l0 (k : Nat) (a0_0 : Int) (l0_1 : List SStep) (l0_2 : List Int) (l1 : List Int) : (List Int) → Int → Int → Option Int
  | [], i3, i4 => some i4
  | y5 :: ys6, i3, i4 => (ct l1 (0 : Int) (i3 + 1)).bind fun l16 => (spec_reNeeded.f k a0_0 l0_1 l0_2 l16).bind fun l19 => (spec_l1Put.f k l19 (w64 (a0_0 + y5))).bind fun l23 => (spec_l1Most.f i4 (l23.length : Int)).bind fun i27 => spec_rePressure.l0 k a0_0 l0_1 l0_2 l1 ys6 (i3 + 1) i27
def spec_rePressure.f (k : Nat) (a0_0 : Int) (l0_1 : List SStep) (l0_2 : List Int) (l1 : List Int) : Option Int := (spec_rePressure.l0 k a0_0 l0_1 l0_2 l1 l1 0 a0_0).bind fun i4 => some i4
set_option maxHeartbeats 600000 in
set_option maxRecDepth 100000 in
theorem spec_rePressure.calls (k : Nat) {w0 ws : World} {P0 : Nat → Prop} (a0_0 : Int) (A0_1 : Option Addr) (c0_1 : Nat) (n0_1 : Nat) (l0_1 : List SStep) (A0_2 : Option Addr) (c0_2 : Nat) (n0_2 : Nat) (l0_2 : List Int) (A1 : Option Addr) (c1 : Nat) (n1 : Nat) (l1 : List Int) (Z : Below w0.heap.size w0 ws) (hF : Fr w0 ws P0 [] ws) (R0_1 : Stable ws P0 (fun w => Kd.C kStep w A0_1 n0_1 l0_1)) (hc0_1 : n0_1 ≤ c0_1) (R0_2 : Stable ws P0 (fun w => Kd.C (Kd.int .i64) w A0_2 n0_2 l0_2)) (hc0_2 : n0_2 ≤ c0_2) (R1 : Stable ws P0 (fun w => Kd.C (Kd.int .i64) w A1 n1 l1)) (hc1 : n1 ≤ c1) (r_1 : Int) (h : spec_rePressure.f k a0_0 l0_1 l0_2 l1 = some r_1) :
    Calls Try.prog 107 #[.agg #[.int .i64 a0_0, .slice A0_1 n0_1 c0_1, .slice A0_2 n0_2 c0_2], .slice A1 n1 c1] ws (Post1 w0 ws P0 (fun (_ : Unit) => .int .i64 r_1) (fun (_ : Unit) => [])) := by
  unfold spec_rePressure.f at h
  obtain rfl := (R0_1 ws (KeptB.refl _ _)).1
  obtain rfl := (R0_2 ws (KeptB.refl _ _)).1
  obtain rfl := (R1 ws (KeptB.refl _ _)).1
  refine enter Try.func107 rfl Try.ntmps107 rfl hF ?_
  refine c_seq ?_
  refine za0 ?_
  refine o_e rfl (e_box rfl) (fun g1 => ?_)
  refine o_q rfl rfl (q_asg rfl) ?_
  refine o_end ?_
  refine za1 ?_
  refine c_seq ?_
  refine za0 ?_
  refine o_q rfl rfl (q_f F36_0 rfl) ?_
  refine o_q rfl rfl (q_ldb Y3 rfl (fun w h => h.zaa (i := 0) rfl) rfl) ?_
  refine o_q rfl rfl (q_asg rfl) ?_
  refine o_end ?_
  refine za1 ?_
  refine c_seq ?_
  refine c_seq ?_
  refine za0 ?_
  refine o_q rfl rfl (za2 rfl) ?_
  refine o_q rfl rfl (q_len Try.underlying22 rfl) ?_
  refine o_q rfl rfl (za2 rfl) ?_
  refine o_end ?_
  refine za1 ?_
  refine zan ?_
  refine za8 h (fun o12 hl11 hR10 => ?_) rfl
  clear h
  refine c_fact (p := l1.length ≤ 9223372036854775807) (fun w h => (R1.now Z h).2.1) (fun hm9 => ?_)
  refine zax (σ := (List Int) × Int × Int) (fun k7 ((ys6, i3, i4) : (List Int) × Int × Int) => Rg l1 i3 ys6 ∧ ys6.length = k7 ∧ spec_rePressure.l0 k a0_0 l0_1 l0_2 l1 ys6 i3 i4 = some o12) [5, 6, 7, 12, 13, 14, 15, 16, 17, 18, 19, 20, 21, 22, 23, 24, 25, 26, 27, 28, 29, 30, 31] (fun ((ys6, i3, i4) : (List Int) × Int × Int) => [(5, .int .i64 i4), (12, .int .i64 i3)]) (fun ((ys6, i3, i4) : (List Int) × Int × Int) => [box g1 36 #[.int .i64 a0_0, .slice A0_1 l0_1.length c0_1, .slice A0_2 l0_2.length c0_2]]) l1.length (l1, 0, a0_0) ⟨Rg.start _, rfl, hl11⟩ ⟨rfl, rfl, trivial⟩ (fun w h => h) ?_
  refine fun k7 => cur3 (listC (fun i3 i4 U13 hJ_ => ?_) (fun y5 ys6 i3 i4 U13 hJ_ => ?_))
  · skip
    clear hl11
    have hr8 := hJ_.1; have hk14 := hJ_.2.1; have h := hJ_.2.2; clear hJ_
    replace h : spec_rePressure.l0 k a0_0 l0_1 l0_2 l1 [] i3 i4 = some o12 := h
    rw [spec_rePressure.l0] at h
    refine c_seq ?_
    refine za0 ?_
    refine o_q rfl rfl (q_lss rfl rfl) ?_
    refine o_end ?_
    refine za1 ?_
    refine c_seq ?_
    refine c_false (congrArg Value.bool hr8.ge) ?_
    refine c_exit ?_
    refine za7 ?_
    refine za7 ?_
    have e_ := Option.some.inj h; replace h := hR10; rw [← e_] at h; clear e_
    refine x_hit ?_
    refine za1 ?_
    refine c_seq ?_
    refine za0 ?_
    refine o_q rfl rfl (za2 rfl) ?_
    refine o_q rfl rfl (q_asg rfl) ?_
    refine o_end ?_
    refine za1 ?_
    refine c_ret ?_
    have e0_ := Option.some.inj h; clear h
    subst e0_
    exact x_r1 () Try.results107 (zab rfl) rfl (fun w h => za6 [] (by decide) rfl w h)
  · skip
    clear hl11
    have hr8 := hJ_.1; have hk14 := hJ_.2.1; have h := hJ_.2.2; clear hJ_
    replace h : spec_rePressure.l0 k a0_0 l0_1 l0_2 l1 (y5 :: ys6) i3 i4 = some o12 := h
    rw [spec_rePressure.l0] at h
    refine c_seq ?_
    refine za0 ?_
    refine o_q rfl rfl (q_lss rfl rfl) ?_
    refine o_end ?_
    refine za1 ?_
    refine c_seq ?_
    refine c_true (congrArg Value.bool hr8.lt) ?_
    refine zai ?_
    refine za1 ?_
    refine c_seq ?_
    refine zan ?_
    refine c_seq ?_
    refine za0 ?_
    refine o_q rfl rfl (za2 rfl) ?_
    refine zav (p := Sh A1 l1.length l1.length) (fun w h => f_sh (dk := (Kd.int .i64)) h (fun w h => R1.now Z h)) (fun hq15 => ?_)
    refine o_q rfl rfl (q_ix Try.underlying22 Z3 rfl rfl hq15 hr8.get) ?_
    refine o_q rfl rfl (q_lde (off := 0) Y3 rfl rfl (fun w h => R1.now Z h) hr8.get (fun _ _ h => h) rfl) ?_
    refine o_q rfl rfl (q_asg rfl) ?_
    refine o_q rfl rfl (q_asg rfl) ?_
    refine o_end ?_
    refine za1 ?_
    refine a_start (ds := []) MO rfl ?_
    refine zac 0 rfl rfl rfl (by kernel_rfl) (fun _ _ _ h => h) (za2 rfl) ?_
    refine a_take 1 rfl rfl rfl (by kernel_rfl) (fun _ _ _ h => h) (fun w h => h) (q_ldB G36 Z36 rfl (fun w h => h.zaa (i := 0) rfl) rfl) ?_
    refine zac 2 rfl rfl rfl (by kernel_rfl) (fun _ _ _ h => h) (za2 rfl) ?_
    refine zac 3 rfl rfl rfl (by kernel_rfl) (fun _ _ _ h => h) (za2 rfl) ?_
    refine zac 4 rfl rfl rfl (by kernel_rfl) (fun _ _ _ h => h) (q_up rfl rfl (hr8.up hm9)) ?_
    refine za8 h (fun l16 hz17 h => ?_) rfl
    refine zac 5 rfl rfl rfl (by kernel_rfl) (fun _ _ _ h => h) (q_ctv Try.underlying22 Z3 rfl rfl ⟨_, rfl⟩ rfl hc1 hz17) ?_
    refine zac 7 rfl rfl rfl (by kernel_rfl) (fun _ _ _ h => h) (q_f F36_0 rfl) ?_
    refine a_take 8 rfl rfl rfl (by kernel_rfl) (fun _ _ _ h => h) (fun w h => h) (q_ldb Y3 rfl (fun w h => h.zaa (i := 0) rfl) rfl) ?_
    refine zac 9 rfl rfl rfl (by kernel_rfl) (fun _ _ _ h => h) (za2 rfl) ?_
    refine zac 10 rfl rfl rfl (by kernel_rfl) (fun _ _ _ h => h) (q_add64 rfl rfl) ?_
    refine za8 h (fun l19 hx18 h => ?_) rfl
    refine a_one 6 rfl rfl (by kernel_rfl) rfl (za9 0 Z Try.func114 N114 rfl rfl rfl (fun w P1 hF hB hS hT => spec_reNeeded.calls k a0_0 A0_1 c0_1 l0_1.length l0_1 A0_2 c0_2 l0_2.length l0_2 (cutA A1 c1 (0 : Int).toNat 1) (c1 - (0 : Int).toNat) l16.length l16 hB hF (hS _ R0_1) hc0_1 (hS _ R0_2) hc0_2 (stab_cut (dk := (Kd.int .i64)) rfl hz17 hc1 (hS _ R1)) (ct_cap hz17 rfl hc1) _ hx18)) (fun s w h => zal [some 1] (by decide) w h rfl) (cur2 (fun A20 c21 => ?_))
    refine za8 h (fun l23 hx22 h => ?_) rfl
    refine a_one 11 rfl rfl (by kernel_rfl) rfl (za9 1 Z Try.func164 N164 rfl rfl rfl (fun w P1 hF hB hS hT => spec_l1Put.calls k A20 c21 l19.length l19 (w64 (a0_0 + y5)) hB hF _ hx22)) (fun s w h => zal [some 1] (by decide) w h rfl) (cur2 (fun A24 c25 => ?_))
    refine zac 12 rfl rfl rfl (by kernel_rfl) (fun _ _ _ h => h) (q_len Try.underlying22 rfl) ?_
    refine za8 h (fun i27 hx26 h => ?_) rfl
    refine a_one 13 rfl rfl (by kernel_rfl) rfl (za9 0 Z Try.func146 N146 rfl rfl rfl (fun w P1 hF hB hS hT => spec_l1Most.calls i4 (l23.length : Int) hB hF _ hx26)) (fun s w h => zal [some 1] (by decide) w h rfl) (fun _ => ?_)
    refine zac 14 rfl rfl rfl (by kernel_rfl) (fun _ _ _ h => h) (q_asg rfl) ?_
    refine a_done (by kernel_rfl) ?_
    refine zao ?_
    refine za1 ?_
    refine za0 ?_
    refine o_q rfl rfl (q_up rfl rfl (hr8.up hm9)) ?_
    refine o_q rfl rfl (za2 rfl) ?_
    refine o_end ?_
    refine zaf ys6.length (ys6, i3 + 1, i27) (by rw [← hk14]; exact Nat.lt_succ_self _) ⟨hr8.step, rfl, h⟩ ⟨rfl, rfl, trivial⟩ (fun w h => za6 [1] (by decide) rfl w h) ?_
    repeat (first | exact zad _ _ | refine zah rfl ?_ | refine zae rfl ?_ | refine zaj rfl ?_)

/-! ### loop.example/g01098/spec.OrdersWithin: function 47 -/
def spec_OrdersWithin.l0 (k : Nat) (a0_0 : Int) (l0_1 : List SStep) (l0_2 : List Int) (a1 : Int) : (List (List Int)) → Int → Int → Option Int
  | [], i14, i15 => some i15
  | y16 :: ys17, i14, i15 => (spec_rePressure.f k a0_0 l0_1 l0_2 y16).bind fun i29 => if i29 ≤ a1 then (spec_OrdersWithin.l0 k a0_0 l0_1 l0_2 a1 ys17 (i14 + 1) (w64 (i15 + 1))) else (spec_OrdersWithin.l0 k a0_0 l0_1 l0_2 a1 ys17 (i14 + 1) i15)
def spec_OrdersWithin.f (k : Nat) (a0_0 : Int) (l0_1 : List SStep) (l0_2 : List Int) (a1 : Int) : Option (Int × Bool) := (spec_reFew.f k a0_0 l0_1 l0_2).bind fun b4 => if b4 = true then ((spec_l1In.f a1 0 46).bind fun b7 => if b7 = true then ((spec_reOrders.f k a0_0 l0_1 l0_2 []).bind fun l10 => (spec_OrdersWithin.l0 k a0_0 l0_1 l0_2 a1 l10 0 0).bind fun i15 => some (i15, true)) else (some (0, false))) else (some (0, false))
set_option maxHeartbeats 600000 in
set_option maxRecDepth 100000 in
theorem spec_OrdersWithin.calls (k : Nat) {w0 ws : World} {P0 : Nat → Prop} (a0_0 : Int) (A0_1 : Option Addr) (c0_1 : Nat) (n0_1 : Nat) (l0_1 : List SStep) (A0_2 : Option Addr) (c0_2 : Nat) (n0_2 : Nat) (l0_2 : List Int) (a1 : Int) (Z : Below w0.heap.size w0 ws) (hF : Fr w0 ws P0 [] ws) (R0_1 : Stable ws P0 (fun w => Kd.C kStep w A0_1 n0_1 l0_1)) (hc0_1 : n0_1 ≤ c0_1) (R0_2 : Stable ws P0 (fun w => Kd.C (Kd.int .i64) w A0_2 n0_2 l0_2)) (hc0_2 : n0_2 ≤ c0_2) (r_1 : Int) (r_2 : Bool) (h : spec_OrdersWithin.f k a0_0 l0_1 l0_2 a1 = some (r_1, r_2)) :
    Calls Try.prog 47 #[.agg #[.int .i64 a0_0, .slice A0_1 n0_1 c0_1, .slice A0_2 n0_2 c0_2], .int .i64 a1] ws (Post1 w0 ws P0 (fun (_ : Unit) => .tuple #[.int .i64 r_1, .bool r_2]) (fun (_ : Unit) => [])) := by
  unfold spec_OrdersWithin.f at h
  obtain rfl := (R0_1 ws (KeptB.refl _ _)).1
  obtain rfl := (R0_2 ws (KeptB.refl _ _)).1
  refine enter Try.func47 rfl Try.ntmps47 rfl hF ?_
  refine c_seq ?_
  refine za0 ?_
  refine o_e rfl (e_box rfl) (fun g1 => ?_)
  refine o_q rfl rfl (q_asg rfl) ?_
  refine o_q rfl rfl (q_asg rfl) ?_
  refine o_end ?_
  refine za1 ?_
  refine c_seq ?_
  refine c_seq ?_
  refine za0 ?_
  refine o_q rfl rfl (q_ldB G36 Z36 rfl (fun w h => h.zaa (i := 0) rfl) rfl) ?_
  refine za8 h (fun b4 hx3 h => ?_) rfl
  refine o_e rfl (za9 0 Z Try.func105 N105 rfl rfl rfl (fun w P1 hF hB hS hT => spec_reFew.calls k a0_0 A0_1 c0_1 l0_1.length l0_1 A0_2 c0_2 l0_2.length l0_2 hB hF (hS _ R0_1) hc0_1 (hS _ R0_2) hc0_2 _ hx3)) (fun _ => ?_)
  refine o_q rfl rfl (q_not rfl) ?_
  refine o_q rfl rfl (za2 rfl) ?_
  refine byB b4 (fun hb5 => ?_) (fun hb5 => ?_)
  · replace h := bb_t hb5 h
    refine o_w (za3 rfl rfl rfl (congrArg (fun b => Value.bool (!(b))) hb5)) rfl (za2 rfl) ?_
    refine za8 h (fun b7 hx6 h => ?_) rfl
    refine o_ew (za3 rfl rfl rfl (congrArg (fun b => Value.bool (!(b))) hb5)) (za9 0 Z Try.func77 N77 rfl rfl rfl (fun w P1 hF hB hS hT => spec_l1In.calls a1 0 46 hB hF _ hx6)) (fun _ => ?_)
    refine o_w (za3 rfl rfl rfl (congrArg (fun b => Value.bool (!(b))) hb5)) rfl (q_not rfl) ?_
    refine o_q rfl rfl (zam false (congrArg (fun b => Value.bool (!(b))) hb5) rfl) ?_
    refine o_end ?_
    refine za1 ?_
    refine zar _ rfl (fun hb8 => ?_) (fun hb8 => ?_)
    · replace hb8 := nt_t hb8
      replace h := bb_f hb8 h
      refine c_seq ?_
      refine za0 ?_
      refine o_q rfl rfl (q_asg rfl) ?_
      refine o_q rfl rfl (q_asg rfl) ?_
      refine o_end ?_
      refine za1 ?_
      refine c_ret ?_
      refine za5 ?_
      have e0_ := Option.some.inj h; clear h
      have d0_ := (Prod.mk.inj e0_).1; have e1_ := (Prod.mk.inj e0_).2; clear e0_; subst d0_
      subst e1_
      exact x_r2 () Try.results47 (zab rfl) (zab rfl) rfl (fun w h => za6 [] (by decide) rfl w h)
    · replace hb8 := nt_f hb8
      replace h := bb_t hb8 h
      refine zai ?_
      refine za1 ?_
      refine c_seq ?_
      refine za0 ?_
      refine o_q rfl rfl (q_asg rfl) ?_
      refine o_end ?_
      refine za1 ?_
      refine c_seq ?_
      refine c_seq ?_
      refine za0 ?_
      refine o_q rfl rfl (q_ldB G36 Z36 rfl (fun w h => h.zaa (i := 0) rfl) rfl) ?_
      refine za8 h (fun l10 hx9 h => ?_) rfl
      refine o_e rfl (za9 0 Z Try.func106 N106 rfl rfl rfl (fun w P1 hF hB hS hT => spec_reOrders.calls k a0_0 A0_1 c0_1 l0_1.length l0_1 A0_2 c0_2 l0_2.length l0_2 none 0 0 [] hB hF (hS _ R0_1) hc0_1 (hS _ R0_2) hc0_2 (stab_nil _) (Nat.le_refl 0) _ hx9)) (cur3 (fun A11 c12 H13 => ?_))
      refine o_q rfl rfl (q_len Try.underlying109 rfl) ?_
      refine o_q rfl rfl (za2 rfl) ?_
      refine o_end ?_
      refine za1 ?_
      refine zan ?_
      refine za8 h (fun o23 hl22 hR21 => ?_) rfl
      clear h
      refine c_fact (p := l10.length ≤ 9223372036854775807) (fun w h => (h.zat (i := 0) rfl).2.1) (fun hm20 => ?_)
      refine zax (σ := (List (List Int)) × Int × Int) (fun k18 ((ys17, i14, i15) : (List (List Int)) × Int × Int) => Rg l10 i14 ys17 ∧ ys17.length = k18 ∧ spec_OrdersWithin.l0 k a0_0 l0_1 l0_2 a1 ys17 i14 i15 = some o23) [6, 8, 20, 21, 22, 23, 24, 25, 26, 27, 28, 29, 30, 31] (fun ((ys17, i14, i15) : (List (List Int)) × Int × Int) => [(6, .int .i64 i15), (20, .int .i64 i14)]) (fun ((ys17, i14, i15) : (List (List Int)) × Int × Int) => [row (gk 3 (Kd.int .i64)) 22 (.slice A11 l10.length c12) (zp H13 l10), box g1 36 #[.int .i64 a0_0, .slice A0_1 l0_1.length c0_1, .slice A0_2 l0_2.length c0_2]]) l10.length (l10, 0, 0) ⟨Rg.start _, rfl, hl22⟩ ⟨rfl, rfl, trivial⟩ (fun w h => h) ?_
      refine fun k18 => cur3 (listC (fun i14 i15 U24 hJ_ => ?_) (fun y16 ys17 i14 i15 U24 hJ_ => ?_))
      · skip
        clear hl22
        have hr19 := hJ_.1; have hk25 := hJ_.2.1; have h := hJ_.2.2; clear hJ_
        replace h : spec_OrdersWithin.l0 k a0_0 l0_1 l0_2 a1 [] i14 i15 = some o23 := h
        rw [spec_OrdersWithin.l0] at h
        refine c_seq ?_
        refine za0 ?_
        refine o_q rfl rfl (q_lss rfl rfl) ?_
        refine o_end ?_
        refine za1 ?_
        refine c_seq ?_
        refine c_false (congrArg Value.bool hr19.ge) ?_
        refine c_exit ?_
        refine za7 ?_
        refine za7 ?_
        have e_ := Option.some.inj h; replace h := hR21; rw [← e_] at h; clear e_
        refine x_hit ?_
        refine za1 ?_
        refine c_seq ?_
        refine za0 ?_
        refine o_q rfl rfl (za2 rfl) ?_
        refine o_q rfl rfl (q_asg rfl) ?_
        refine o_q rfl rfl (q_asg rfl) ?_
        refine o_end ?_
        refine za1 ?_
        refine c_ret ?_
        have e0_ := Option.some.inj h; clear h
        have d0_ := (Prod.mk.inj e0_).1; have e1_ := (Prod.mk.inj e0_).2; clear e0_; subst d0_
        subst e1_
        exact x_r2 () Try.results47 (zab rfl) (zab rfl) rfl (fun w h => za6 [] (by decide) rfl w h)
      · skip
        clear hl22
        have hr19 := hJ_.1; have hk25 := hJ_.2.1; have h := hJ_.2.2; clear hJ_
        replace h : spec_OrdersWithin.l0 k a0_0 l0_1 l0_2 a1 (y16 :: ys17) i14 i15 = some o23 := h
        rw [spec_OrdersWithin.l0] at h
        refine c_seq ?_
        refine za0 ?_
        refine o_q rfl rfl (q_lss rfl rfl) ?_
        refine o_end ?_
        refine za1 ?_
        refine c_seq ?_
        refine c_true (congrArg Value.bool hr19.lt) ?_
        refine zai ?_
        refine za1 ?_
        refine c_seq ?_
        refine zan ?_
        refine c_seq ?_
        refine za0 ?_
        refine zav (p := Sh A11 l10.length (zp H13 l10).length) (fun w h => f_sh (dk := (gk 3 (Kd.int .i64))) h (fun w h => h.zat (i := 0) rfl)) (fun hq26 => ?_)
        refine o_q rfl rfl (q_ix Try.underlying109 Z22 rfl rfl hq26 (gt_zp hr19.get)) ?_
        refine zav (p := y16.length ≤ hC H13 i14) (fun w h => (K_in (h.zat (i := 0) rfl) hr19.get).1) (fun hc27 => ?_)
        refine o_q rfl rfl (q_lde (off := 0) Y22 rfl rfl (fun w h => h.zat (i := 0) rfl) (gt_zp hr19.get) (fun _ _ h => h.1) rfl) ?_
        refine o_q rfl rfl (q_asg rfl) ?_
        refine o_end ?_
        refine za1 ?_
        refine c_seq ?_
        refine za0 ?_
        refine o_q rfl rfl (q_ldB G36 Z36 rfl (fun w h => h.zaa (i := 1) rfl) rfl) ?_
        refine o_q rfl rfl (za2 rfl) ?_
        refine za8 h (fun i29 hx28 h => ?_) rfl
        refine o_e rfl (za9 0 Z Try.func107 N107 rfl rfl rfl (fun w P1 hF hB hS hT => spec_rePressure.calls k a0_0 A0_1 c0_1 l0_1.length l0_1 A0_2 c0_2 l0_2.length l0_2 (hA H13 i14) (hC H13 i14) y16.length y16 hB hF (hS _ R0_1) hc0_1 (hS _ R0_2) hc0_2 (stab_in (hT 0 _ rfl).row hr19.get) hc27 _ hx28)) (fun _ => ?_)
        refine o_q rfl rfl (za2 rfl) ?_
        refine o_q rfl rfl (q_leq rfl rfl) ?_
        refine o_end ?_
        refine za1 ?_
        refine zar _ rfl (fun hb30 => ?_) (fun hb30 => ?_)
        · skip
          replace h := br_t hb30 h
          refine za0 ?_
          refine o_q rfl rfl (za2 rfl) ?_
          refine o_q rfl rfl (q_add64 rfl rfl) ?_
          refine o_q rfl rfl (q_asg rfl) ?_
          refine o_end ?_
          refine zao ?_
          refine za1 ?_
          refine za0 ?_
          refine o_q rfl rfl (q_up rfl rfl (hr19.up hm20)) ?_
          refine o_q rfl rfl (za2 rfl) ?_
          refine o_end ?_
          refine zaf ys17.length (ys17, i14 + 1, w64 (i15 + 1)) (by rw [← hk25]; exact Nat.lt_succ_self _) ⟨hr19.step, rfl, h⟩ ⟨rfl, rfl, trivial⟩ (fun w h => za6 [0, 1] (by decide) rfl w h) ?_
          repeat (first | exact zad _ _ | refine zah rfl ?_ | refine zae rfl ?_ | refine zaj rfl ?_)
        · skip
          replace h := br_f hb30 h
          refine zai ?_
          refine zao ?_
          refine za1 ?_
          refine za0 ?_
          refine o_q rfl rfl (q_up rfl rfl (hr19.up hm20)) ?_
          refine o_q rfl rfl (za2 rfl) ?_
          refine o_end ?_
          refine zaf ys17.length (ys17, i14 + 1, i15) (by rw [← hk25]; exact Nat.lt_succ_self _) ⟨hr19.step, rfl, h⟩ ⟨rfl, rfl, trivial⟩ (fun w h => za6 [0, 1] (by decide) rfl w h) ?_
          repeat (first | exact zad _ _ | refine zah rfl ?_ | refine zae rfl ?_ | refine zaj rfl ?_)
  · replace h := bb_f hb5 h
    refine @o_n _ _ _ _ _ _ _ _ _ _ _ 13 (za4 rfl rfl rfl (congrArg (fun b => Value.bool (!(b))) hb5) rfl) (Eq.refl (some 13)) ?_
    refine @o_n _ _ _ _ _ _ _ _ _ _ _ 14 (za4 rfl rfl rfl (congrArg (fun b => Value.bool (!(b))) hb5) rfl) (Eq.refl (some 14)) ?_
    refine @o_n _ _ _ _ _ _ _ _ _ _ _ 15 (za4 rfl rfl rfl (congrArg (fun b => Value.bool (!(b))) hb5) rfl) (Eq.refl (some 15)) ?_
    refine o_q rfl rfl (zam true (congrArg (fun b => Value.bool (!(b))) hb5) rfl) ?_
    refine o_end ?_
    refine za1 ?_
    refine c_true rfl ?_
    refine c_seq ?_
    refine za0 ?_
    refine o_q rfl rfl (q_asg rfl) ?_
    refine o_q rfl rfl (q_asg rfl) ?_
    refine o_end ?_
    refine za1 ?_
    refine c_ret ?_
    refine za5 ?_
    have e0_ := Option.some.inj h; clear h
    have d0_ := (Prod.mk.inj e0_).1; have e1_ := (Prod.mk.inj e0_).2; clear e0_; subst d0_
    subst e1_
    exact x_r2 () Try.results47 (zab rfl) (zab rfl) rfl (fun w h => za6 [] (by decide) rfl w h)

/-! ### loop.example/g01098/impl.in: function 83 -/
def impl_in.f (a0 : Int) (a1 : Int) (a2 : Int) : Option Bool := if a1 ≤ a0 then (some (decide (a0 ≤ a2))) else (some false)
set_option maxHeartbeats 600000 in
set_option maxRecDepth 100000 in
theorem impl_in.calls {w0 ws : World} {P0 : Nat → Prop} (a0 : Int) (a1 : Int) (a2 : Int) (Z : Below w0.heap.size w0 ws) (hF : Fr w0 ws P0 [] ws)  (r_1 : Bool) (h : impl_in.f a0 a1 a2 = some r_1) :
    Calls Try.prog 83 #[.int .i64 a0, .int .i64 a1, .int .i64 a2] ws (Post1 w0 ws P0 (fun (_ : Unit) => .bool r_1) (fun (_ : Unit) => [])) := by
  unfold impl_in.f at h
  refine enter Try.func83 rfl Try.ntmps83 rfl hF ?_
  refine c_seq ?_
  refine za0 ?_
  refine o_q rfl rfl (q_asg rfl) ?_
  refine o_end ?_
  refine za1 ?_
  refine c_seq ?_
  refine za0 ?_
  refine o_q rfl rfl (za2 rfl) ?_
  refine o_q rfl rfl (za2 rfl) ?_
  refine o_q rfl rfl (q_geq rfl rfl) ?_
  refine o_q rfl rfl (za2 rfl) ?_
  refine byB (decide (a1 ≤ a0)) (fun hb1 => ?_) (fun hb1 => ?_)
  · replace h := br_t hb1 h
    refine o_w (za3 rfl rfl rfl (congrArg Value.bool hb1)) rfl (za2 rfl) ?_
    refine o_w (za3 rfl rfl rfl (congrArg Value.bool hb1)) rfl (za2 rfl) ?_
    refine o_w (za3 rfl rfl rfl (congrArg Value.bool hb1)) rfl (q_leq rfl rfl) ?_
    refine o_q rfl rfl (zam true (congrArg Value.bool hb1) rfl) ?_
    refine o_q rfl rfl (q_asg rfl) ?_
    refine o_end ?_
    refine za1 ?_
    refine c_ret ?_
    have e0_ := Option.some.inj h; clear h
    subst e0_
    exact x_r1 () Try.results83 (zab rfl) rfl (fun w h => za6 [] (by decide) rfl w h)
  · replace h := br_f hb1 h
    refine @o_n _ _ _ _ _ _ _ _ _ _ _ 11 (za4 rfl rfl rfl (congrArg Value.bool hb1) rfl) (Eq.refl (some 11)) ?_
    refine @o_n _ _ _ _ _ _ _ _ _ _ _ 12 (za4 rfl rfl rfl (congrArg Value.bool hb1) rfl) (Eq.refl (some 12)) ?_
    refine @o_n _ _ _ _ _ _ _ _ _ _ _ 13 (za4 rfl rfl rfl (congrArg Value.bool hb1) rfl) (Eq.refl (some 13)) ?_
    refine o_q rfl rfl (zam false (congrArg Value.bool hb1) rfl) ?_
    refine o_q rfl rfl (q_asg rfl) ?_
    refine o_end ?_
    refine za1 ?_
    refine c_ret ?_
    have e0_ := Option.some.inj h; clear h
    subst e0_
    exact x_r1 () Try.results83 (zab rfl) rfl (fun w h => za6 [] (by decide) rfl w h)

/-! ### (*loop.example/g01098/impl.Plan).many: function 119 -/
def impl_Plan_many.f (a0_0 : Int) (l0_1 : List SStep) (l0_2 : List Int) : Option Unit := some ()
set_option maxHeartbeats 600000 in
set_option maxRecDepth 100000 in
theorem impl_Plan_many.calls {w0 ws : World} {P0 : Nat → Prop} (g0 : Nat) (a0_0 : Int) (A0_1 : Option Addr) (c0_1 : Nat) (n0_1 : Nat) (l0_1 : List SStep) (A0_2 : Option Addr) (c0_2 : Nat) (n0_2 : Nat) (l0_2 : List Int) (Z : Below w0.heap.size w0 ws) (hF : Fr w0 ws P0 [] ws) (R0_1 : Stable ws P0 (fun w => Kd.C kStep w A0_1 n0_1 l0_1)) (hc0_1 : n0_1 ≤ c0_1) (R0_2 : Stable ws P0 (fun w => Kd.C (Kd.int .i64) w A0_2 n0_2 l0_2)) (hc0_2 : n0_2 ≤ c0_2) (B0 : Stable ws P0 (fun w => w.heap[g0]? = some (.cells #[.int .i64 a0_0, .slice A0_1 n0_1 c0_1, .slice A0_2 n0_2 c0_2] 36 (0, 0))))  (h : impl_Plan_many.f a0_0 l0_1 l0_2 = some ()) :
    Calls Try.prog 119 #[.pointer (some ⟨g0, 0, none⟩)] ws (Post1 w0 ws P0 (fun (_ : Unit) => .int .i64 (w64 (a0_0 + (l0_1.length : Int)))) (fun (_ : Unit) => [])) := by
  unfold impl_Plan_many.f at h
  obtain rfl := (R0_1 ws (KeptB.refl _ _)).1
  obtain rfl := (R0_2 ws (KeptB.refl _ _)).1
  refine enter Try.func119 rfl Try.ntmps119 rfl hF ?_
  refine c_seq ?_
  refine za0 ?_
  refine o_q rfl rfl (q_asg rfl) ?_
  refine o_end ?_
  refine za1 ?_
  refine c_seq ?_
  refine a_start (ds := []) MO rfl ?_
  refine zac 0 rfl rfl rfl (by kernel_rfl) (fun _ _ _ h => h) (za2 rfl) ?_
  refine zac 1 rfl rfl rfl (by kernel_rfl) (fun _ _ _ h => h) (q_nil rfl) ?_
  refine zac 2 rfl rfl rfl (by kernel_rfl) (fun _ _ _ h => h) (q_f F36_0 rfl) ?_
  refine a_take 3 rfl rfl rfl (by kernel_rfl) (fun _ _ _ h => h) (fun w h => h) (q_ldb Y3 rfl (fun w h => B0.now Z h) rfl) ?_
  refine zac 4 rfl rfl rfl (by kernel_rfl) (fun _ _ _ h => h) (za2 rfl) ?_
  refine zac 5 rfl rfl rfl (by kernel_rfl) (fun _ _ _ h => h) (q_nil rfl) ?_
  refine zac 6 rfl rfl rfl (by kernel_rfl) (fun _ _ _ h => h) (q_f F36_1 rfl) ?_
  refine a_take 7 rfl rfl rfl (by kernel_rfl) (fun _ _ _ h => h) (fun w h => h) (q_ldb Y34 rfl (fun w h => B0.now Z h) rfl) ?_
  refine zac 8 rfl rfl rfl (by kernel_rfl) (fun _ _ _ h => h) (q_len Try.underlying34 rfl) ?_
  refine zac 9 rfl rfl rfl (by kernel_rfl) (fun _ _ _ h => h) (q_add64 rfl rfl) ?_
  refine zac 10 rfl rfl rfl (by kernel_rfl) (fun _ _ _ h => h) (q_asg rfl) ?_
  refine a_done (by kernel_rfl) ?_
  refine za1 ?_
  refine c_ret ?_
  exact x_r1 () Try.results119 (zab rfl) rfl (fun w h => za6 [] (by decide) rfl w h)

/-! ### (*loop.example/g01098/impl.Plan).formed$1: function 175 -/
def impl_Plan_formed_1.f (a0 : Int) (a1_0_0 : Int) (l1_0_1 : List SStep) (l1_0_2 : List Int) : Option Bool := (impl_Plan_many.f a1_0_0 l1_0_1 l1_0_2).bind fun _ => (impl_in.f a0 0 (w64 (w64 (a1_0_0 + (l1_0_1.length : Int)) - 1))).bind fun b3 => some (!b3)
set_option maxHeartbeats 600000 in
set_option maxRecDepth 100000 in
theorem impl_Plan_formed_1.calls {w0 ws : World} {P0 : Nat → Prop} (a0 : Int) (g1 : Nat) (g1_0 : Nat) (a1_0_0 : Int) (A1_0_1 : Option Addr) (c1_0_1 : Nat) (n1_0_1 : Nat) (l1_0_1 : List SStep) (A1_0_2 : Option Addr) (c1_0_2 : Nat) (n1_0_2 : Nat) (l1_0_2 : List Int) (Z : Below w0.heap.size w0 ws) (hF : Fr w0 ws P0 [] ws) (R1_0_1 : Stable ws P0 (fun w => Kd.C kStep w A1_0_1 n1_0_1 l1_0_1)) (hc1_0_1 : n1_0_1 ≤ c1_0_1) (R1_0_2 : Stable ws P0 (fun w => Kd.C (Kd.int .i64) w A1_0_2 n1_0_2 l1_0_2)) (hc1_0_2 : n1_0_2 ≤ c1_0_2) (B1_0 : Stable ws P0 (fun w => w.heap[g1_0]? = some (.cells #[.int .i64 a1_0_0, .slice A1_0_1 n1_0_1 c1_0_1, .slice A1_0_2 n1_0_2 c1_0_2] 36 (0, 0)))) (B1 : Stable ws P0 (fun w => w.heap[g1]? = some (.cells #[.pointer (some ⟨g1_0, 0, none⟩)] 88 (0, 0)))) (r_1 : Bool) (h : impl_Plan_formed_1.f a0 a1_0_0 l1_0_1 l1_0_2 = some r_1) :
    Calls Try.prog 175 #[.int .i64 a0, .pointer (some ⟨g1, 0, none⟩)] ws (Post1 w0 ws P0 (fun (_ : Unit) => .bool r_1) (fun (_ : Unit) => [])) := by
  unfold impl_Plan_formed_1.f at h
  obtain rfl := (R1_0_1 ws (KeptB.refl _ _)).1
  obtain rfl := (R1_0_2 ws (KeptB.refl _ _)).1
  refine enter Try.func175 rfl Try.ntmps175 rfl hF ?_
  refine c_seq ?_
  refine za0 ?_
  refine o_q rfl rfl (q_asg rfl) ?_
  refine o_end ?_
  refine za1 ?_
  refine c_seq ?_
  refine za0 ?_
  refine o_q rfl rfl (za2 rfl) ?_
  refine o_q rfl rfl (q_ldb Y88 rfl (fun w h => B1.now Z h) rfl) ?_
  refine za8 h (fun _ hx1 h => ?_) rfl
  refine o_e rfl (za9 0 Z Try.func119 N119 rfl rfl rfl (fun w P1 hF hB hS hT => impl_Plan_many.calls g1_0 a1_0_0 A1_0_1 c1_0_1 l1_0_1.length l1_0_1 A1_0_2 c1_0_2 l1_0_2.length l1_0_2 hB hF (hS _ R1_0_1) hc1_0_1 (hS _ R1_0_2) hc1_0_2 (hS _ B1_0) hx1)) (fun _ => ?_)
  refine o_q rfl rfl (q_sub64 rfl rfl) ?_
  refine za8 h (fun b3 hx2 h => ?_) rfl
  refine o_e rfl (za9 0 Z Try.func83 N83 rfl rfl rfl (fun w P1 hF hB hS hT => impl_in.calls a0 0 (w64 (w64 (a1_0_0 + (l1_0_1.length : Int)) - 1)) hB hF _ hx2)) (fun _ => ?_)
  refine o_q rfl rfl (q_not rfl) ?_
  refine o_q rfl rfl (q_asg rfl) ?_
  refine o_end ?_
  refine za1 ?_
  refine c_ret ?_
  have e0_ := Option.some.inj h; clear h
  subst e0_
  exact x_r1 () Try.results175 (zab rfl) rfl (fun w h => za6 [] (by decide) rfl w h)

/-! ### slices.IndexFunc[[]int,int]: function 148 -/
def slices_IndexFunc_int_int.l0 (a1_c0_0_0 : Int) (l1_c0_0_1 : List SStep) (l1_c0_0_2 : List Int) : (List Int) → Int → Option ((Int) ⊕ (Unit))
  | [], i1 => some (.inr ())
  | y2 :: ys3, i1 => (impl_Plan_formed_1.f y2 a1_c0_0_0 l1_c0_0_1 l1_c0_0_2).bind fun b14 => if b14 = true then (some (.inl i1)) else (slices_IndexFunc_int_int.l0 a1_c0_0_0 l1_c0_0_1 l1_c0_0_2 ys3 (i1 + 1))
def slices_IndexFunc_int_int.f (l0 : List Int) (a1_c0_0_0 : Int) (l1_c0_0_1 : List SStep) (l1_c0_0_2 : List Int) : Option Int := (slices_IndexFunc_int_int.l0 a1_c0_0_0 l1_c0_0_1 l1_c0_0_2 l0 0).bind fun o_ => match o_ with | .inl r_ => some r_ | .inr _ => some (-1)
set_option maxHeartbeats 600000 in
set_option maxRecDepth 100000 in
theorem slices_IndexFunc_int_int.calls {w0 ws : World} {P0 : Nat → Prop} (A0 : Option Addr) (c0 : Nat) (n0 : Nat) (l0 : List Int) (g1_c0 : Nat) (g1_c0_0 : Nat) (a1_c0_0_0 : Int) (A1_c0_0_1 : Option Addr) (c1_c0_0_1 : Nat) (n1_c0_0_1 : Nat) (l1_c0_0_1 : List SStep) (A1_c0_0_2 : Option Addr) (c1_c0_0_2 : Nat) (n1_c0_0_2 : Nat) (l1_c0_0_2 : List Int) (Z : Below w0.heap.size w0 ws) (hF : Fr w0 ws P0 [] ws) (R0 : Stable ws P0 (fun w => Kd.C (Kd.int .i64) w A0 n0 l0)) (hc0 : n0 ≤ c0) (R1_c0_0_1 : Stable ws P0 (fun w => Kd.C kStep w A1_c0_0_1 n1_c0_0_1 l1_c0_0_1)) (hc1_c0_0_1 : n1_c0_0_1 ≤ c1_c0_0_1) (R1_c0_0_2 : Stable ws P0 (fun w => Kd.C (Kd.int .i64) w A1_c0_0_2 n1_c0_0_2 l1_c0_0_2)) (hc1_c0_0_2 : n1_c0_0_2 ≤ c1_c0_0_2) (B1_c0_0 : Stable ws P0 (fun w => w.heap[g1_c0_0]? = some (.cells #[.int .i64 a1_c0_0_0, .slice A1_c0_0_1 n1_c0_0_1 c1_c0_0_1, .slice A1_c0_0_2 n1_c0_0_2 c1_c0_0_2] 36 (0, 0)))) (B1_c0 : Stable ws P0 (fun w => w.heap[g1_c0]? = some (.cells #[.pointer (some ⟨g1_c0_0, 0, none⟩)] 88 (0, 0)))) (r_1 : Int) (h : slices_IndexFunc_int_int.f l0 a1_c0_0_0 l1_c0_0_1 l1_c0_0_2 = some r_1) :
    Calls Try.prog 148 #[.slice A0 n0 c0, .func (.func 175) #[] #[.pointer (some ⟨g1_c0, 0, none⟩)]] ws (Post1 w0 ws P0 (fun (_ : Unit) => .int .i64 r_1) (fun (_ : Unit) => [])) := by
  unfold slices_IndexFunc_int_int.f at h
  obtain rfl := (R0 ws (KeptB.refl _ _)).1
  obtain rfl := (R1_c0_0_1 ws (KeptB.refl _ _)).1
  obtain rfl := (R1_c0_0_2 ws (KeptB.refl _ _)).1
  refine enter Try.func148 rfl Try.ntmps148 rfl hF ?_
  refine c_seq ?_
  refine za0 ?_
  refine o_q rfl rfl (q_asg rfl) ?_
  refine o_end ?_
  refine za1 ?_
  refine c_seq ?_
  refine c_seq ?_
  refine za0 ?_
  refine o_q rfl rfl (za2 rfl) ?_
  refine o_q rfl rfl (q_len Try.underlying22 rfl) ?_
  refine o_q rfl rfl (za2 rfl) ?_
  refine o_end ?_
  refine za1 ?_
  refine zan ?_
  refine za8 h (fun o9 hl8 hR7 => ?_) rfl
  clear h
  refine c_fact (p := l0.length ≤ 9223372036854775807) (fun w h => (R0.now Z h).2.1) (fun hm6 => ?_)
  refine zax (σ := (List Int) × Int) (fun k4 ((ys3, i1) : (List Int) × Int) => Rg l0 i1 ys3 ∧ ys3.length = k4 ∧ slices_IndexFunc_int_int.l0 a1_c0_0_0 l1_c0_0_1 l1_c0_0_2 ys3 i1 = some o9) [4, 5, 8, 9, 10, 11, 12, 13, 14, 15, 16, 17, 18] (fun ((ys3, i1) : (List Int) × Int) => [(8, .int .i64 i1)]) (fun ((ys3, i1) : (List Int) × Int) => []) l0.length (l0, 0) ⟨Rg.start _, rfl, hl8⟩ ⟨rfl, trivial⟩ (fun w h => h) ?_
  refine fun k4 => cur2 (listC (fun i1 U10 hJ_ => ?_) (fun y2 ys3 i1 U10 hJ_ => ?_))
  · skip
    clear hl8
    have hr5 := hJ_.1; have hk11 := hJ_.2.1; have h := hJ_.2.2; clear hJ_
    replace h : slices_IndexFunc_int_int.l0 a1_c0_0_0 l1_c0_0_1 l1_c0_0_2 [] i1 = some o9 := h
    rw [slices_IndexFunc_int_int.l0] at h
    refine c_seq ?_
    refine za0 ?_
    refine o_q rfl rfl (q_lss rfl rfl) ?_
    refine o_end ?_
    refine za1 ?_
    refine c_seq ?_
    refine c_false (congrArg Value.bool hr5.ge) ?_
    refine c_exit ?_
    refine za7 ?_
    refine za7 ?_
    have e_ := Option.some.inj h; replace h := hR7; rw [← e_] at h; clear e_
    refine x_hit ?_
    refine za1 ?_
    refine c_seq ?_
    refine za0 ?_
    refine o_q rfl rfl (q_asg rfl) ?_
    refine o_end ?_
    refine za1 ?_
    refine c_ret ?_
    have e0_ := Option.some.inj h; clear h
    subst e0_
    exact x_r1 () Try.results148 (zab rfl) rfl (fun w h => za6 [] (by decide) rfl w h)
  · skip
    clear hl8
    have hr5 := hJ_.1; have hk11 := hJ_.2.1; have h := hJ_.2.2; clear hJ_
    replace h : slices_IndexFunc_int_int.l0 a1_c0_0_0 l1_c0_0_1 l1_c0_0_2 (y2 :: ys3) i1 = some o9 := h
    rw [slices_IndexFunc_int_int.l0] at h
    refine c_seq ?_
    refine za0 ?_
    refine o_q rfl rfl (q_lss rfl rfl) ?_
    refine o_end ?_
    refine za1 ?_
    refine c_seq ?_
    refine c_true (congrArg Value.bool hr5.lt) ?_
    refine zai ?_
    refine za1 ?_
    refine c_seq ?_
    refine zan ?_
    refine c_seq ?_
    refine za0 ?_
    refine o_q rfl rfl (za2 rfl) ?_
    refine o_q rfl rfl (q_asg rfl) ?_
    refine o_end ?_
    refine za1 ?_
    refine c_seq ?_
    refine za0 ?_
    refine o_q rfl rfl (za2 rfl) ?_
    refine o_q rfl rfl (za2 rfl) ?_
    refine o_q rfl rfl (za2 rfl) ?_
    refine zav (p := Sh A0 l0.length l0.length) (fun w h => f_sh (dk := (Kd.int .i64)) h (fun w h => R0.now Z h)) (fun hq12 => ?_)
    refine o_q rfl rfl (q_ix Try.underlying22 Z3 rfl rfl hq12 hr5.get) ?_
    refine o_q rfl rfl (q_lde (off := 0) Y3 rfl rfl (fun w h => R0.now Z h) hr5.get (fun _ _ h => h) rfl) ?_
    refine za8 h (fun b14 hx13 h => ?_) rfl
    refine o_e rfl (za9 0 Z Try.func175 N175 rfl rfl rfl (fun w P1 hF hB hS hT => impl_Plan_formed_1.calls y2 g1_c0 g1_c0_0 a1_c0_0_0 A1_c0_0_1 c1_c0_0_1 l1_c0_0_1.length l1_c0_0_1 A1_c0_0_2 c1_c0_0_2 l1_c0_0_2.length l1_c0_0_2 hB hF (hS _ R1_c0_0_1) hc1_c0_0_1 (hS _ R1_c0_0_2) hc1_c0_0_2 (hS _ B1_c0_0) (hS _ B1_c0) _ hx13)) (fun _ => ?_)
    refine o_end ?_
    refine za1 ?_
    refine zar _ rfl (fun hb15 => ?_) (fun hb15 => ?_)
    · skip
      replace h := bb_t hb15 h
      refine c_seq ?_
      refine za0 ?_
      refine o_q rfl rfl (za2 rfl) ?_
      refine o_q rfl rfl (q_asg rfl) ?_
      refine o_end ?_
      refine za1 ?_
      refine c_ret ?_
      refine zaq ?_
      refine za5 ?_
      refine za5 ?_
      have e_ := Option.some.inj h; replace h := hR7; rw [← e_] at h; clear e_
      refine zaq ?_
      refine za5 ?_
      have e0_ := Option.some.inj h; clear h
      subst e0_
      exact x_r1 () Try.results148 (zab rfl) rfl (fun w h => za6 [] (by decide) rfl w h)
    · skip
      replace h := bb_f hb15 h
      refine zai ?_
      refine zao ?_
      refine za1 ?_
      refine za0 ?_
      refine o_q rfl rfl (q_up rfl rfl (hr5.up hm6)) ?_
      refine o_q rfl rfl (za2 rfl) ?_
      refine o_end ?_
      refine zaf ys3.length (ys3, i1 + 1) (by rw [← hk11]; exact Nat.lt_succ_self _) ⟨hr5.step, rfl, h⟩ ⟨rfl, trivial⟩ (fun w h => za6 [] (by decide) rfl w h) ?_
      repeat (first | exact zad _ _ | refine zah rfl ?_ | refine zae rfl ?_ | refine zaj rfl ?_)

/-! ### slices.ContainsFunc[[]int,int]: function 84 -/
def slices_ContainsFunc_int_int.f (l0 : List Int) (a1_c0_0_0 : Int) (l1_c0_0_1 : List SStep) (l1_c0_0_2 : List Int) : Option Bool := (slices_IndexFunc_int_int.f l0 a1_c0_0_0 l1_c0_0_1 l1_c0_0_2).bind fun i2 => some (decide (0 ≤ i2))
set_option maxHeartbeats 600000 in
set_option maxRecDepth 100000 in
theorem slices_ContainsFunc_int_int.calls {w0 ws : World} {P0 : Nat → Prop} (A0 : Option Addr) (c0 : Nat) (n0 : Nat) (l0 : List Int) (g1_c0 : Nat) (g1_c0_0 : Nat) (a1_c0_0_0 : Int) (A1_c0_0_1 : Option Addr) (c1_c0_0_1 : Nat) (n1_c0_0_1 : Nat) (l1_c0_0_1 : List SStep) (A1_c0_0_2 : Option Addr) (c1_c0_0_2 : Nat) (n1_c0_0_2 : Nat) (l1_c0_0_2 : List Int) (Z : Below w0.heap.size w0 ws) (hF : Fr w0 ws P0 [] ws) (R0 : Stable ws P0 (fun w => Kd.C (Kd.int .i64) w A0 n0 l0)) (hc0 : n0 ≤ c0) (R1_c0_0_1 : Stable ws P0 (fun w => Kd.C kStep w A1_c0_0_1 n1_c0_0_1 l1_c0_0_1)) (hc1_c0_0_1 : n1_c0_0_1 ≤ c1_c0_0_1) (R1_c0_0_2 : Stable ws P0 (fun w => Kd.C (Kd.int .i64) w A1_c0_0_2 n1_c0_0_2 l1_c0_0_2)) (hc1_c0_0_2 : n1_c0_0_2 ≤ c1_c0_0_2) (B1_c0_0 : Stable ws P0 (fun w => w.heap[g1_c0_0]? = some (.cells #[.int .i64 a1_c0_0_0, .slice A1_c0_0_1 n1_c0_0_1 c1_c0_0_1, .slice A1_c0_0_2 n1_c0_0_2 c1_c0_0_2] 36 (0, 0)))) (B1_c0 : Stable ws P0 (fun w => w.heap[g1_c0]? = some (.cells #[.pointer (some ⟨g1_c0_0, 0, none⟩)] 88 (0, 0)))) (r_1 : Bool) (h : slices_ContainsFunc_int_int.f l0 a1_c0_0_0 l1_c0_0_1 l1_c0_0_2 = some r_1) :
    Calls Try.prog 84 #[.slice A0 n0 c0, .func (.func 175) #[] #[.pointer (some ⟨g1_c0, 0, none⟩)]] ws (Post1 w0 ws P0 (fun (_ : Unit) => .bool r_1) (fun (_ : Unit) => [])) := by
  unfold slices_ContainsFunc_int_int.f at h
  obtain rfl := (R0 ws (KeptB.refl _ _)).1
  obtain rfl := (R1_c0_0_1 ws (KeptB.refl _ _)).1
  obtain rfl := (R1_c0_0_2 ws (KeptB.refl _ _)).1
  refine enter Try.func84 rfl Try.ntmps84 rfl hF ?_
  refine c_seq ?_
  refine za0 ?_
  refine o_q rfl rfl (q_asg rfl) ?_
  refine o_end ?_
  refine za1 ?_
  refine c_seq ?_
  refine za0 ?_
  refine o_q rfl rfl (za2 rfl) ?_
  refine o_q rfl rfl (za2 rfl) ?_
  refine za8 h (fun i2 hx1 h => ?_) rfl
  refine o_e rfl (za9 0 Z Try.func148 N148 rfl rfl rfl (fun w P1 hF hB hS hT => slices_IndexFunc_int_int.calls A0 c0 l0.length l0 g1_c0 g1_c0_0 a1_c0_0_0 A1_c0_0_1 c1_c0_0_1 l1_c0_0_1.length l1_c0_0_1 A1_c0_0_2 c1_c0_0_2 l1_c0_0_2.length l1_c0_0_2 hB hF (hS _ R0) hc0 (hS _ R1_c0_0_1) hc1_c0_0_1 (hS _ R1_c0_0_2) hc1_c0_0_2 (hS _ B1_c0_0) (hS _ B1_c0) _ hx1)) (fun _ => ?_)
  refine o_q rfl rfl (q_geq rfl rfl) ?_
  refine o_q rfl rfl (q_asg rfl) ?_
  refine o_end ?_
  refine za1 ?_
  refine c_ret ?_
  have e0_ := Option.some.inj h; clear h
  subst e0_
  exact x_r1 () Try.results84 (zab rfl) rfl (fun w h => za6 [] (by decide) rfl w h)

/-! ### (*loop.example/g01098/impl.Plan).formed: function 139 -/
def impl_Plan_formed.l0 (a0_0 : Int) : (List SStep) → Int → Option ((Bool) ⊕ (Unit))
  | [], i8 => some (.inr ())
  | y9 :: ys10, i8 => if y9.f0 < 0 then (some (.inl false)) else (if y9.f1 < y9.f0 then (some (.inl false)) else (if w64 (a0_0 + i8) ≤ y9.f1 then (some (.inl false)) else (impl_Plan_formed.l0 a0_0 ys10 (i8 + 1))))
def impl_Plan_formed.f (a0_0 : Int) (l0_1 : List SStep) (l0_2 : List Int) : Option Bool := (impl_in.f a0_0 1 6).bind fun b4 => if b4 = true then (if 40 < (l0_1.length : Int) then (some false) else (if 6 < (l0_2.length : Int) then (some false) else ((impl_Plan_formed.l0 a0_0 l0_1 0).bind fun o_ => match o_ with | .inl r_ => some r_ | .inr _ => (slices_ContainsFunc_int_int.f l0_2 a0_0 l0_1 l0_2).bind fun b20 => some (!b20)))) else (some false)
set_option maxHeartbeats 600000 in
set_option maxRecDepth 100000 in
theorem impl_Plan_formed.calls {w0 ws : World} {P0 : Nat → Prop} (g0 : Nat) (a0_0 : Int) (A0_1 : Option Addr) (c0_1 : Nat) (n0_1 : Nat) (l0_1 : List SStep) (A0_2 : Option Addr) (c0_2 : Nat) (n0_2 : Nat) (l0_2 : List Int) (Z : Below w0.heap.size w0 ws) (hF : Fr w0 ws P0 [] ws) (R0_1 : Stable ws P0 (fun w => Kd.C kStep w A0_1 n0_1 l0_1)) (hc0_1 : n0_1 ≤ c0_1) (R0_2 : Stable ws P0 (fun w => Kd.C (Kd.int .i64) w A0_2 n0_2 l0_2)) (hc0_2 : n0_2 ≤ c0_2) (B0 : Stable ws P0 (fun w => w.heap[g0]? = some (.cells #[.int .i64 a0_0, .slice A0_1 n0_1 c0_1, .slice A0_2 n0_2 c0_2] 36 (0, 0)))) (r_1 : Bool) (h : impl_Plan_formed.f a0_0 l0_1 l0_2 = some r_1) :
    Calls Try.prog 139 #[.pointer (some ⟨g0, 0, none⟩)] ws (Post1 w0 ws P0 (fun (_ : Unit) => .bool r_1) (fun (_ : Unit) => [])) := by
  unfold impl_Plan_formed.f at h
  obtain rfl := (R0_1 ws (KeptB.refl _ _)).1
  obtain rfl := (R0_2 ws (KeptB.refl _ _)).1
  refine enter Try.func139 rfl Try.ntmps139 rfl hF ?_
  refine c_seq ?_
  refine za0 ?_
  refine o_e rfl (e_box rfl) (fun g1 => ?_)
  refine o_q rfl rfl (q_asg rfl) ?_
  refine o_end ?_
  refine za1 ?_
  refine c_seq ?_
  refine c_seq ?_
  refine za0 ?_
  refine o_q rfl rfl (q_ldb Y88 rfl (fun w h => h.zaa (i := 0) rfl) rfl) ?_
  refine o_q rfl rfl (q_nil rfl) ?_
  refine o_q rfl rfl (q_f F36_0 rfl) ?_
  refine o_q rfl rfl (q_ldb Y3 rfl (fun w h => B0.now Z h) rfl) ?_
  refine za8 h (fun b4 hx3 h => ?_) rfl
  refine o_e rfl (za9 0 Z Try.func83 N83 rfl rfl rfl (fun w P1 hF hB hS hT => impl_in.calls a0_0 1 6 hB hF _ hx3)) (fun _ => ?_)
  refine o_q rfl rfl (q_not rfl) ?_
  refine o_q rfl rfl (za2 rfl) ?_
  refine byB b4 (fun hb5 => ?_) (fun hb5 => ?_)
  · replace h := bb_t hb5 h
    refine o_w (za3 rfl rfl rfl (congrArg (fun b => Value.bool (!(b))) hb5)) rfl (q_ldb Y88 rfl (fun w h => h.zaa (i := 0) rfl) rfl) ?_
    refine o_w (za3 rfl rfl rfl (congrArg (fun b => Value.bool (!(b))) hb5)) rfl (q_nil rfl) ?_
    refine o_w (za3 rfl rfl rfl (congrArg (fun b => Value.bool (!(b))) hb5)) rfl (q_f F36_1 rfl) ?_
    refine o_w (za3 rfl rfl rfl (congrArg (fun b => Value.bool (!(b))) hb5)) rfl (q_ldb Y34 rfl (fun w h => B0.now Z h) rfl) ?_
    refine o_w (za3 rfl rfl rfl (congrArg (fun b => Value.bool (!(b))) hb5)) rfl (q_len Try.underlying34 rfl) ?_
    refine o_w (za3 rfl rfl rfl (congrArg (fun b => Value.bool (!(b))) hb5)) rfl (q_gtr rfl rfl) ?_
    refine o_q rfl rfl (zam false (congrArg (fun b => Value.bool (!(b))) hb5) rfl) ?_
    refine o_q rfl rfl (za2 rfl) ?_
    refine byB (decide (40 < (l0_1.length : Int))) (fun hb6 => ?_) (fun hb6 => ?_)
    · replace h := br_t hb6 h
      refine @o_n _ _ _ _ _ _ _ _ _ _ _ 20 (za4 rfl rfl rfl (congrArg Value.bool hb6) rfl) (Eq.refl (some 20)) ?_
      refine @o_n _ _ _ _ _ _ _ _ _ _ _ 21 (za4 rfl rfl rfl (congrArg Value.bool hb6) rfl) (Eq.refl (some 21)) ?_
      refine @o_n _ _ _ _ _ _ _ _ _ _ _ 22 (za4 rfl rfl rfl (congrArg Value.bool hb6) rfl) (Eq.refl (some 22)) ?_
      refine @o_n _ _ _ _ _ _ _ _ _ _ _ 23 (za4 rfl rfl rfl (congrArg Value.bool hb6) rfl) (Eq.refl (some 23)) ?_
      refine @o_n _ _ _ _ _ _ _ _ _ _ _ 24 (za4 rfl rfl rfl (congrArg Value.bool hb6) rfl) (Eq.refl (some 24)) ?_
      refine @o_n _ _ _ _ _ _ _ _ _ _ _ 25 (za4 rfl rfl rfl (congrArg Value.bool hb6) rfl) (Eq.refl (some 25)) ?_
      refine o_q rfl rfl (zam true (congrArg Value.bool hb6) rfl) ?_
      refine o_end ?_
      refine za1 ?_
      refine c_true rfl ?_
      refine c_seq ?_
      refine za0 ?_
      refine o_q rfl rfl (q_asg rfl) ?_
      refine o_end ?_
      refine za1 ?_
      refine c_ret ?_
      refine za5 ?_
      have e0_ := Option.some.inj h; clear h
      subst e0_
      exact x_r1 () Try.results139 (zab rfl) rfl (fun w h => za6 [] (by decide) rfl w h)
    · replace h := br_f hb6 h
      refine o_w (za3 rfl rfl rfl (congrArg Value.bool hb6)) rfl (q_ldb Y88 rfl (fun w h => h.zaa (i := 0) rfl) rfl) ?_
      refine o_w (za3 rfl rfl rfl (congrArg Value.bool hb6)) rfl (q_nil rfl) ?_
      refine o_w (za3 rfl rfl rfl (congrArg Value.bool hb6)) rfl (q_f F36_2 rfl) ?_
      refine o_w (za3 rfl rfl rfl (congrArg Value.bool hb6)) rfl (q_ldb Y22 rfl (fun w h => B0.now Z h) rfl) ?_
      refine o_w (za3 rfl rfl rfl (congrArg Value.bool hb6)) rfl (q_len Try.underlying22 rfl) ?_
      refine o_w (za3 rfl rfl rfl (congrArg Value.bool hb6)) rfl (q_gtr rfl rfl) ?_
      refine o_q rfl rfl (zam false (congrArg Value.bool hb6) rfl) ?_
      refine o_end ?_
      refine za1 ?_
      refine zar _ rfl (fun hb7 => ?_) (fun hb7 => ?_)
      · skip
        replace h := br_t hb7 h
        refine c_seq ?_
        refine za0 ?_
        refine o_q rfl rfl (q_asg rfl) ?_
        refine o_end ?_
        refine za1 ?_
        refine c_ret ?_
        refine za5 ?_
        have e0_ := Option.some.inj h; clear h
        subst e0_
        exact x_r1 () Try.results139 (zab rfl) rfl (fun w h => za6 [] (by decide) rfl w h)
      · skip
        replace h := br_f hb7 h
        refine zai ?_
        refine za1 ?_
        refine c_seq ?_
        refine c_seq ?_
        refine za0 ?_
        refine o_q rfl rfl (q_ldb Y88 rfl (fun w h => h.zaa (i := 0) rfl) rfl) ?_
        refine o_q rfl rfl (q_nil rfl) ?_
        refine o_q rfl rfl (q_f F36_1 rfl) ?_
        refine o_q rfl rfl (q_ldb Y34 rfl (fun w h => B0.now Z h) rfl) ?_
        refine o_q rfl rfl (q_len Try.underlying34 rfl) ?_
        refine o_q rfl rfl (za2 rfl) ?_
        refine o_end ?_
        refine za1 ?_
        refine zan ?_
        refine za8 h (fun o16 hl15 hR14 => ?_) rfl
        clear h
        refine c_fact (p := l0_1.length ≤ 9223372036854775807) (fun w h => (R0_1.now Z h).2.1) (fun hm13 => ?_)
        refine zax (σ := (List SStep) × Int) (fun k11 ((ys10, i8) : (List SStep) × Int) => Rg l0_1 i8 ys10 ∧ ys10.length = k11 ∧ impl_Plan_formed.l0 a0_0 ys10 i8 = some o16) [2, 3, 4, 32, 33, 34, 35, 36, 37, 38, 39, 40, 41, 42, 43, 44, 45, 46, 47, 48, 49, 50, 51, 52, 53, 54, 55, 56, 57, 58] (fun ((ys10, i8) : (List SStep) × Int) => [(32, .int .i64 i8)]) (fun ((ys10, i8) : (List SStep) × Int) => [box g1 88 #[.pointer (some ⟨g0, 0, none⟩)]]) l0_1.length (l0_1, 0) ⟨Rg.start _, rfl, hl15⟩ ⟨rfl, trivial⟩ (fun w h => h) ?_
        refine fun k11 => cur2 (listC (fun i8 U17 hJ_ => ?_) (fun y9 ys10 i8 U17 hJ_ => ?_))
        · skip
          clear hl15
          have hr12 := hJ_.1; have hk18 := hJ_.2.1; have h := hJ_.2.2; clear hJ_
          replace h : impl_Plan_formed.l0 a0_0 [] i8 = some o16 := h
          rw [impl_Plan_formed.l0] at h
          refine c_seq ?_
          refine za0 ?_
          refine o_q rfl rfl (q_lss rfl rfl) ?_
          refine o_end ?_
          refine za1 ?_
          refine c_seq ?_
          refine c_false (congrArg Value.bool hr12.ge) ?_
          refine c_exit ?_
          refine za7 ?_
          refine za7 ?_
          have e_ := Option.some.inj h; replace h := hR14; rw [← e_] at h; clear e_
          refine x_hit ?_
          refine za1 ?_
          refine c_seq ?_
          refine za0 ?_
          refine o_q rfl rfl (q_ldb Y88 rfl (fun w h => h.zaa (i := 0) rfl) rfl) ?_
          refine o_q rfl rfl (q_nil rfl) ?_
          refine o_q rfl rfl (q_f F36_2 rfl) ?_
          refine o_q rfl rfl (q_ldb Y22 rfl (fun w h => B0.now Z h) rfl) ?_
          refine o_q rfl rfl (q_func rfl rfl) ?_
          refine za8 h (fun b20 hx19 h => ?_) rfl
          refine o_e rfl (za9 0 Z Try.func84 N84 rfl rfl rfl (fun w P1 hF hB hS hT => slices_ContainsFunc_int_int.calls A0_2 c0_2 l0_2.length l0_2 g1 g0 a0_0 A0_1 c0_1 l0_1.length l0_1 A0_2 c0_2 l0_2.length l0_2 hB hF (hS _ R0_2) hc0_2 (hS _ R0_1) hc0_1 (hS _ R0_2) hc0_2 (hS _ B0) (hT 0 _ rfl).box _ hx19)) (fun _ => ?_)
          refine o_q rfl rfl (q_not rfl) ?_
          refine o_q rfl rfl (q_asg rfl) ?_
          refine o_end ?_
          refine za1 ?_
          refine c_ret ?_
          have e0_ := Option.some.inj h; clear h
          subst e0_
          exact x_r1 () Try.results139 (zab rfl) rfl (fun w h => za6 [] (by decide) rfl w h)
        · skip
          clear hl15
          have hr12 := hJ_.1; have hk18 := hJ_.2.1; have h := hJ_.2.2; clear hJ_
          replace h : impl_Plan_formed.l0 a0_0 (y9 :: ys10) i8 = some o16 := h
          rw [impl_Plan_formed.l0] at h
          refine c_seq ?_
          refine za0 ?_
          refine o_q rfl rfl (q_lss rfl rfl) ?_
          refine o_end ?_
          refine za1 ?_
          refine c_seq ?_
          refine c_true (congrArg Value.bool hr12.lt) ?_
          refine zai ?_
          refine za1 ?_
          refine c_seq ?_
          refine zan ?_
          refine c_seq ?_
          refine za0 ?_
          refine o_q rfl rfl (za2 rfl) ?_
          refine zav (p := Sh A0_1 l0_1.length l0_1.length) (fun w h => f_sh (dk := kStep) h (fun w h => R0_1.now Z h)) (fun hq21 => ?_)
          refine o_q rfl rfl (q_ix Try.underlying34 Z117 rfl rfl hq21 hr12.get) ?_
          refine o_q rfl rfl (q_ldE G117 Z117 rfl rfl (fun w h => R0_1.now Z h) hr12.get (fun _ _ h => h) rfl) ?_
          refine o_e rfl (e_alloc V117 rfl) (fun g22 => ?_)
          refine o_q rfl rfl (q_asg rfl) ?_
          refine o_e rfl (e_storeA (i := 0) rfl rfl rfl Z117 rfl rfl) (fun _ => ?_)
          refine o_end ?_
          refine za1 ?_
          refine c_seq ?_
          refine a_start (ds := []) MO rfl ?_
          refine zac 0 rfl rfl rfl (by kernel_rfl) (fun _ _ _ h => h) (q_f F117_0 rfl) ?_
          refine a_take 1 rfl rfl rfl (by kernel_rfl) (fun _ _ _ h => h) (fun w h => h) (q_ldb Y3 rfl (fun w h => h.zaa (i := 0) rfl) rfl) ?_
          refine zac 2 rfl rfl rfl (by kernel_rfl) (fun _ _ _ h => h) (q_lss rfl rfl) ?_
          refine zac 3 rfl rfl rfl (by kernel_rfl) (fun _ _ _ h => h) (za2 rfl) ?_
          refine byB (decide (y9.f0 < 0)) (fun hb24 => ?_) (fun hb24 => ?_)
          · replace h := br_t hb24 h
            refine a_no 4 rfl rfl (za4 rfl rfl rfl (congrArg Value.bool hb24) rfl) (by kernel_rfl) (fun _ _ _ h => h) ?_
            refine a_no 5 rfl rfl (za4 rfl rfl rfl (congrArg Value.bool hb24) rfl) (by kernel_rfl) (fun _ _ _ h => h) ?_
            refine a_no 6 rfl rfl (za4 rfl rfl rfl (congrArg Value.bool hb24) rfl) (by kernel_rfl) (fun _ _ _ h => h) ?_
            refine a_no 7 rfl rfl (za4 rfl rfl rfl (congrArg Value.bool hb24) rfl) (by kernel_rfl) (fun _ _ _ h => h) ?_
            refine a_no 8 rfl rfl (za4 rfl rfl rfl (congrArg Value.bool hb24) rfl) (by kernel_rfl) (fun _ _ _ h => h) ?_
            refine zac 9 rfl rfl rfl (by kernel_rfl) (fun _ _ _ h => h) (zam true (congrArg Value.bool hb24) rfl) ?_
            refine zac 10 rfl rfl rfl (by kernel_rfl) (fun _ _ _ h => h) (za2 rfl) ?_
            refine a_no 11 rfl rfl (za4 rfl rfl rfl rfl rfl) (by kernel_rfl) (fun _ _ _ h => h) ?_
            refine a_no 12 rfl rfl (za4 rfl rfl rfl rfl rfl) (by kernel_rfl) (fun _ _ _ h => h) ?_
            refine a_no 13 rfl rfl (za4 rfl rfl rfl rfl rfl) (by kernel_rfl) (fun _ _ _ h => h) ?_
            refine a_no 14 rfl rfl (za4 rfl rfl rfl rfl rfl) (by kernel_rfl) (fun _ _ _ h => h) ?_
            refine a_no 15 rfl rfl (za4 rfl rfl rfl rfl rfl) (by kernel_rfl) (fun _ _ _ h => h) ?_
            refine a_no 16 rfl rfl (za4 rfl rfl rfl rfl rfl) (by kernel_rfl) (fun _ _ _ h => h) ?_
            refine a_no 17 rfl rfl (za4 rfl rfl rfl rfl rfl) (by kernel_rfl) (fun _ _ _ h => h) ?_
            refine a_no 18 rfl rfl (za4 rfl rfl rfl rfl rfl) (by kernel_rfl) (fun _ _ _ h => h) ?_
            refine a_no 19 rfl rfl (za4 rfl rfl rfl rfl rfl) (by kernel_rfl) (fun _ _ _ h => h) ?_
            refine zac 20 rfl rfl rfl (by kernel_rfl) (fun _ _ _ h => h) (zam true rfl rfl) ?_
            refine a_done (by kernel_rfl) ?_
            refine za1 ?_
            refine c_true rfl ?_
            refine c_seq ?_
            refine za0 ?_
            refine o_q rfl rfl (q_asg rfl) ?_
            refine o_end ?_
            refine za1 ?_
            refine c_ret ?_
            refine zaq ?_
            refine za5 ?_
            refine za5 ?_
            have e_ := Option.some.inj h; replace h := hR14; rw [← e_] at h; clear e_
            refine zaq ?_
            refine za5 ?_
            have e0_ := Option.some.inj h; clear h
            subst e0_
            exact x_r1 () Try.results139 (zab rfl) rfl (fun w h => za6 [] (by decide) rfl w h)
          · replace h := br_f hb24 h
            refine a_purew 4 rfl rfl (za3 rfl rfl rfl (congrArg Value.bool hb24)) (by kernel_rfl) (fun _ _ _ h => h) (q_f F117_0 rfl) ?_
            refine a_takew 5 rfl rfl (za3 rfl rfl rfl (congrArg Value.bool hb24)) (by kernel_rfl) (fun _ _ _ h => h) (fun w h => h) (q_ldb Y3 rfl (fun w h => h.zaa (i := 0) rfl) rfl) ?_
            refine a_purew 6 rfl rfl (za3 rfl rfl rfl (congrArg Value.bool hb24)) (by kernel_rfl) (fun _ _ _ h => h) (q_f F117_1 rfl) ?_
            refine a_takew 7 rfl rfl (za3 rfl rfl rfl (congrArg Value.bool hb24)) (by kernel_rfl) (fun _ _ _ h => h) (fun w h => h) (q_ldb Y3 rfl (fun w h => h.zaa (i := 0) rfl) rfl) ?_
            refine a_purew 8 rfl rfl (za3 rfl rfl rfl (congrArg Value.bool hb24)) (by kernel_rfl) (fun _ _ _ h => h) (q_gtr rfl rfl) ?_
            refine zac 9 rfl rfl rfl (by kernel_rfl) (fun _ _ _ h => h) (zam false (congrArg Value.bool hb24) rfl) ?_
            refine zac 10 rfl rfl rfl (by kernel_rfl) (fun _ _ _ h => h) (za2 rfl) ?_
            refine byB (decide (y9.f1 < y9.f0)) (fun hb25 => ?_) (fun hb25 => ?_)
            · replace h := br_t hb25 h
              refine a_no 11 rfl rfl (za4 rfl rfl rfl (congrArg Value.bool hb25) rfl) (by kernel_rfl) (fun _ _ _ h => h) ?_
              refine a_no 12 rfl rfl (za4 rfl rfl rfl (congrArg Value.bool hb25) rfl) (by kernel_rfl) (fun _ _ _ h => h) ?_
              refine a_no 13 rfl rfl (za4 rfl rfl rfl (congrArg Value.bool hb25) rfl) (by kernel_rfl) (fun _ _ _ h => h) ?_
              refine a_no 14 rfl rfl (za4 rfl rfl rfl (congrArg Value.bool hb25) rfl) (by kernel_rfl) (fun _ _ _ h => h) ?_
              refine a_no 15 rfl rfl (za4 rfl rfl rfl (congrArg Value.bool hb25) rfl) (by kernel_rfl) (fun _ _ _ h => h) ?_
              refine a_no 16 rfl rfl (za4 rfl rfl rfl (congrArg Value.bool hb25) rfl) (by kernel_rfl) (fun _ _ _ h => h) ?_
              refine a_no 17 rfl rfl (za4 rfl rfl rfl (congrArg Value.bool hb25) rfl) (by kernel_rfl) (fun _ _ _ h => h) ?_
              refine a_no 18 rfl rfl (za4 rfl rfl rfl (congrArg Value.bool hb25) rfl) (by kernel_rfl) (fun _ _ _ h => h) ?_
              refine a_no 19 rfl rfl (za4 rfl rfl rfl (congrArg Value.bool hb25) rfl) (by kernel_rfl) (fun _ _ _ h => h) ?_
              refine zac 20 rfl rfl rfl (by kernel_rfl) (fun _ _ _ h => h) (zam true (congrArg Value.bool hb25) rfl) ?_
              refine a_done (by kernel_rfl) ?_
              refine za1 ?_
              refine c_true rfl ?_
              refine c_seq ?_
              refine za0 ?_
              refine o_q rfl rfl (q_asg rfl) ?_
              refine o_end ?_
              refine za1 ?_
              refine c_ret ?_
              refine zaq ?_
              refine za5 ?_
              refine za5 ?_
              have e_ := Option.some.inj h; replace h := hR14; rw [← e_] at h; clear e_
              refine zaq ?_
              refine za5 ?_
              have e0_ := Option.some.inj h; clear h
              subst e0_
              exact x_r1 () Try.results139 (zab rfl) rfl (fun w h => za6 [] (by decide) rfl w h)
            · replace h := br_f hb25 h
              refine a_purew 11 rfl rfl (za3 rfl rfl rfl (congrArg Value.bool hb25)) (by kernel_rfl) (fun _ _ _ h => h) (q_f F117_1 rfl) ?_
              refine a_takew 12 rfl rfl (za3 rfl rfl rfl (congrArg Value.bool hb25)) (by kernel_rfl) (fun _ _ _ h => h) (fun w h => h) (q_ldb Y3 rfl (fun w h => h.zaa (i := 0) rfl) rfl) ?_
              refine a_takew 13 rfl rfl (za3 rfl rfl rfl (congrArg Value.bool hb25)) (by kernel_rfl) (fun _ _ _ h => h) (fun w h => h) (q_ldb Y88 rfl (fun w h => h.zaa (i := 1) rfl) rfl) ?_
              refine a_purew 14 rfl rfl (za3 rfl rfl rfl (congrArg Value.bool hb25)) (by kernel_rfl) (fun _ _ _ h => h) (q_nil rfl) ?_
              refine a_purew 15 rfl rfl (za3 rfl rfl rfl (congrArg Value.bool hb25)) (by kernel_rfl) (fun _ _ _ h => h) (q_f F36_0 rfl) ?_
              refine a_takew 16 rfl rfl (za3 rfl rfl rfl (congrArg Value.bool hb25)) (by kernel_rfl) (fun _ _ _ h => h) (fun w h => h) (q_ldb Y3 rfl (fun w h => B0.now Z h) rfl) ?_
              refine a_purew 17 rfl rfl (za3 rfl rfl rfl (congrArg Value.bool hb25)) (by kernel_rfl) (fun _ _ _ h => h) (za2 rfl) ?_
              refine a_purew 18 rfl rfl (za3 rfl rfl rfl (congrArg Value.bool hb25)) (by kernel_rfl) (fun _ _ _ h => h) (q_add64 rfl rfl) ?_
              refine a_purew 19 rfl rfl (za3 rfl rfl rfl (congrArg Value.bool hb25)) (by kernel_rfl) (fun _ _ _ h => h) (q_geq rfl rfl) ?_
              refine zac 20 rfl rfl rfl (by kernel_rfl) (fun _ _ _ h => h) (zam false (congrArg Value.bool hb25) rfl) ?_
              refine a_done (by kernel_rfl) ?_
              refine za1 ?_
              refine zar _ rfl (fun hb26 => ?_) (fun hb26 => ?_)
              · skip
                replace h := br_t hb26 h
                refine c_seq ?_
                refine za0 ?_
                refine o_q rfl rfl (q_asg rfl) ?_
                refine o_end ?_
                refine za1 ?_
                refine c_ret ?_
                refine zaq ?_
                refine za5 ?_
                refine za5 ?_
                have e_ := Option.some.inj h; replace h := hR14; rw [← e_] at h; clear e_
                refine zaq ?_
                refine za5 ?_
                have e0_ := Option.some.inj h; clear h
                subst e0_
                exact x_r1 () Try.results139 (zab rfl) rfl (fun w h => za6 [] (by decide) rfl w h)
              · skip
                replace h := br_f hb26 h
                refine zai ?_
                refine zao ?_
                refine za1 ?_
                refine za0 ?_
                refine o_q rfl rfl (q_up rfl rfl (hr12.up hm13)) ?_
                refine o_q rfl rfl (za2 rfl) ?_
                refine o_end ?_
                refine zaf ys10.length (ys10, i8 + 1) (by rw [← hk18]; exact Nat.lt_succ_self _) ⟨hr12.step, rfl, h⟩ ⟨rfl, trivial⟩ (fun w h => za6 [1] (by decide) rfl w h) ?_
                repeat (first | exact zad _ _ | refine zah rfl ?_ | refine zae rfl ?_ | refine zaj rfl ?_)
  · replace h := bb_f hb5 h
    refine @o_n _ _ _ _ _ _ _ _ _ _ _ 12 (za4 rfl rfl rfl (congrArg (fun b => Value.bool (!(b))) hb5) rfl) (Eq.refl (some 12)) ?_
    refine @o_n _ _ _ _ _ _ _ _ _ _ _ 13 (za4 rfl rfl rfl (congrArg (fun b => Value.bool (!(b))) hb5) rfl) (Eq.refl (some 13)) ?_
    refine @o_n _ _ _ _ _ _ _ _ _ _ _ 14 (za4 rfl rfl rfl (congrArg (fun b => Value.bool (!(b))) hb5) rfl) (Eq.refl (some 14)) ?_
    refine @o_n _ _ _ _ _ _ _ _ _ _ _ 15 (za4 rfl rfl rfl (congrArg (fun b => Value.bool (!(b))) hb5) rfl) (Eq.refl (some 15)) ?_
    refine @o_n _ _ _ _ _ _ _ _ _ _ _ 16 (za4 rfl rfl rfl (congrArg (fun b => Value.bool (!(b))) hb5) rfl) (Eq.refl (some 16)) ?_
    refine @o_n _ _ _ _ _ _ _ _ _ _ _ 17 (za4 rfl rfl rfl (congrArg (fun b => Value.bool (!(b))) hb5) rfl) (Eq.refl (some 17)) ?_
    refine o_q rfl rfl (zam true (congrArg (fun b => Value.bool (!(b))) hb5) rfl) ?_
    refine o_q rfl rfl (za2 rfl) ?_
    refine @o_n _ _ _ _ _ _ _ _ _ _ _ 20 (za4 rfl rfl rfl rfl rfl) (Eq.refl (some 20)) ?_
    refine @o_n _ _ _ _ _ _ _ _ _ _ _ 21 (za4 rfl rfl rfl rfl rfl) (Eq.refl (some 21)) ?_
    refine @o_n _ _ _ _ _ _ _ _ _ _ _ 22 (za4 rfl rfl rfl rfl rfl) (Eq.refl (some 22)) ?_
    refine @o_n _ _ _ _ _ _ _ _ _ _ _ 23 (za4 rfl rfl rfl rfl rfl) (Eq.refl (some 23)) ?_
    refine @o_n _ _ _ _ _ _ _ _ _ _ _ 24 (za4 rfl rfl rfl rfl rfl) (Eq.refl (some 24)) ?_
    refine @o_n _ _ _ _ _ _ _ _ _ _ _ 25 (za4 rfl rfl rfl rfl rfl) (Eq.refl (some 25)) ?_
    refine o_q rfl rfl (zam true rfl rfl) ?_
    refine o_end ?_
    refine za1 ?_
    refine c_true rfl ?_
    refine c_seq ?_
    refine za0 ?_
    refine o_q rfl rfl (q_asg rfl) ?_
    refine o_end ?_
    refine za1 ?_
    refine c_ret ?_
    refine za5 ?_
    have e0_ := Option.some.inj h; clear h
    subst e0_
    exact x_r1 () Try.results139 (zab rfl) rfl (fun w h => za6 [] (by decide) rfl w h)

/-! ### (*loop.example/g01098/impl.Plan).exponents: function 141 -/
def impl_Plan_exponents.l2 (l20 : List (List Int)) (y25 : SStep) : (List Int) → (List Int) → Int → Option (List Int)
  | [], l45, i48 => some l45
  | y49 :: ys50, l45, i48 => (gt l20 y25.f1).bind fun y70 => (gt y70 i48).bind fun y74 => (ap l45 ([mn (w64 (y49 + y74)) 1000001] : List Int)).bind fun l78 => impl_Plan_exponents.l2 l20 y25 ys50 l78 (i48 + 1)
def impl_Plan_exponents.l1 : (List SStep) → (List (List Int)) → Int → Option (List (List Int))
  | [], l20, i24 => some l20
  | y25 :: ys26, l20, i24 => (gt l20 y25.f0).bind fun y43 => (impl_Plan_exponents.l2 l20 y25 y43 ([] : List Int) 0).bind fun l45 => (ap l20 ([l45] : List (List Int))).bind fun l63 => impl_Plan_exponents.l1 ys26 l63 (i24 + 1)
def impl_Plan_exponents.l0 (a0_0 : Int) : Nat → (List (List Int)) → Int → Option (List (List Int))
  | 0, l4, i8 => some l4
  | k11 + 1, l4, i8 => (mk0 a0_0 (0 : Int)).bind fun l82 => (gt l82 i8).bind fun y89 => (st l82 i8 1).bind fun l90 => (ap l4 ([l90] : List (List Int))).bind fun l96 => impl_Plan_exponents.l0 a0_0 k11 l96 (i8 + 1)
def impl_Plan_exponents.f (a0_0 : Int) (l0_1 : List SStep) (l0_2 : List Int) : Option (List (List Int)) := (bd a0_0).bind fun _ => (impl_Plan_exponents.l0 a0_0 ((a0_0).toNat) ([] : List (List Int)) 0).bind fun l4 => (impl_Plan_exponents.l1 l0_1 l4 0).bind fun l20 => some l20
set_option maxHeartbeats 600000 in
set_option maxRecDepth 100000 in
theorem impl_Plan_exponents.calls {w0 ws : World} {P0 : Nat → Prop} (g0 : Nat) (a0_0 : Int) (A0_1 : Option Addr) (c0_1 : Nat) (n0_1 : Nat) (l0_1 : List SStep) (A0_2 : Option Addr) (c0_2 : Nat) (n0_2 : Nat) (l0_2 : List Int) (Z : Below w0.heap.size w0 ws) (hF : Fr w0 ws P0 [] ws) (R0_1 : Stable ws P0 (fun w => Kd.C kStep w A0_1 n0_1 l0_1)) (hc0_1 : n0_1 ≤ c0_1) (R0_2 : Stable ws P0 (fun w => Kd.C (Kd.int .i64) w A0_2 n0_2 l0_2)) (hc0_2 : n0_2 ≤ c0_2) (B0 : Stable ws P0 (fun w => w.heap[g0]? = some (.cells #[.int .i64 a0_0, .slice A0_1 n0_1 c0_1, .slice A0_2 n0_2 c0_2] 36 (0, 0)))) (r_1 : List (List Int)) (h : impl_Plan_exponents.f a0_0 l0_1 l0_2 = some r_1) :
    Calls Try.prog 141 #[.pointer (some ⟨g0, 0, none⟩)] ws (Post1 w0 ws P0 (fun ((q_2, q_3, q_4) : (Option Addr) × Nat × Hd) => .slice q_2 r_1.length q_3) (fun ((q_2, q_3, q_4) : (Option Addr) × Nat × Hd) => [row (gk 3 (Kd.int .i64)) 22 (.slice q_2 r_1.length q_3) (zp q_4 r_1)])) := by
  unfold impl_Plan_exponents.f at h
  obtain rfl := (R0_1 ws (KeptB.refl _ _)).1
  obtain rfl := (R0_2 ws (KeptB.refl _ _)).1
  refine enter Try.func141 rfl Try.ntmps141 rfl hF ?_
  refine c_seq ?_
  refine za0 ?_
  refine o_q rfl rfl (q_asg rfl) ?_
  refine o_end ?_
  refine za1 ?_
  refine c_seq ?_
  refine za0 ?_
  refine o_e rfl (e_lit0 (gk 3 (Kd.int .i64)) Try.underlying109 I22) (cur2 (fun A1 c2 => ?_))
  refine o_q rfl rfl (q_asg rfl) ?_
  refine o_end ?_
  refine za1 ?_
  refine c_seq ?_
  refine c_seq ?_
  refine za0 ?_
  refine o_q rfl rfl (za2 rfl) ?_
  refine o_q rfl rfl (q_nil rfl) ?_
  refine o_q rfl rfl (q_f F36_0 rfl) ?_
  refine o_q rfl rfl (q_ldb Y3 rfl (fun w h => B0.now Z h) rfl) ?_
  refine o_q rfl rfl (za2 rfl) ?_
  refine o_end ?_
  refine za1 ?_
  refine zan ?_
  refine za8 h (fun _ hbd17 h => ?_) rfl
  refine za8 h (fun o16 hl15 hR14 => ?_) rfl
  clear h
  have hm13 : a0_0 ≤ 9223372036854775807 := bd_le hbd17
  refine zax (σ := (List (List Int)) × Int × (Option Addr) × Nat × Hd) (fun k11 ((l4, i8, A5, c6, H7) : (List (List Int)) × Int × (Option Addr) × Nat × Hd) => Cn a0_0 i8 k11 ∧ impl_Plan_exponents.l0 a0_0 k11 l4 i8 = some o16) [3, 4, 5, 16, 17, 18, 19, 20, 21, 22, 23, 24, 25, 26, 27, 28, 29, 30, 31] (fun ((l4, i8, A5, c6, H7) : (List (List Int)) × Int × (Option Addr) × Nat × Hd) => [(3, .slice A5 l4.length c6), (16, .int .i64 i8)]) (fun ((l4, i8, A5, c6, H7) : (List (List Int)) × Int × (Option Addr) × Nat × Hd) => [row (gk 3 (Kd.int .i64)) 22 (.slice A5 l4.length c6) (zp H7 l4)]) (a0_0).toNat (([] : List (List Int)), 0, A1, c2, ([] : Hd)) ⟨Cn.start hm13, hl15⟩ ⟨rfl, rfl, trivial⟩ (fun w h => h) ?_
  refine natC (cur5 (fun l4 i8 A5 c6 H7 => fun U18 hJ_ => ?_)) (fun k11 => (cur5 (fun l4 i8 A5 c6 H7 => fun U18 hJ_ => ?_)))
  · skip
    clear hl15
    have hr12 := hJ_.1; have h := hJ_.2; clear hJ_
    replace h : impl_Plan_exponents.l0 a0_0 0 l4 i8 = some o16 := h
    rw [impl_Plan_exponents.l0] at h
    refine c_seq ?_
    refine za0 ?_
    refine o_q rfl rfl (q_lss rfl rfl) ?_
    refine o_end ?_
    refine za1 ?_
    refine c_seq ?_
    refine c_false (congrArg Value.bool hr12.ge) ?_
    refine c_exit ?_
    refine za7 ?_
    refine za7 ?_
    have e_ := Option.some.inj h; replace h := hR14; rw [← e_] at h; clear e_
    refine x_hit ?_
    refine za1 ?_
    refine c_seq ?_
    refine c_seq ?_
    refine za0 ?_
    refine o_q rfl rfl (za2 rfl) ?_
    refine o_q rfl rfl (q_nil rfl) ?_
    refine o_q rfl rfl (q_f F36_1 rfl) ?_
    refine o_q rfl rfl (q_ldb Y34 rfl (fun w h => B0.now Z h) rfl) ?_
    refine o_q rfl rfl (q_len Try.underlying34 rfl) ?_
    refine o_q rfl rfl (za2 rfl) ?_
    refine o_end ?_
    refine za1 ?_
    refine zan ?_
    refine za8 h (fun o32 hl31 hR30 => ?_) rfl
    clear h
    refine c_fact (p := l0_1.length ≤ 9223372036854775807) (fun w h => (R0_1.now Z h).2.1) (fun hm29 => ?_)
    refine zax (σ := (List SStep) × (List (List Int)) × Int × (Option Addr) × Nat × Hd) (fun k27 ((ys26, l20, i24, A21, c22, H23) : (List SStep) × (List (List Int)) × Int × (Option Addr) × Nat × Hd) => Rg l0_1 i24 ys26 ∧ ys26.length = k27 ∧ impl_Plan_exponents.l1 ys26 l20 i24 = some o32) [3, 7, 8, 9, 10, 37, 38, 39, 40, 41, 42, 43, 44, 45, 46, 47, 48, 49, 50, 51, 52, 53, 54, 55, 56, 57, 58, 59, 60, 61, 62, 63, 64, 65, 66, 67, 68, 69, 70, 71, 72] (fun ((ys26, l20, i24, A21, c22, H23) : (List SStep) × (List (List Int)) × Int × (Option Addr) × Nat × Hd) => [(3, .slice A21 l20.length c22), (37, .int .i64 i24)]) (fun ((ys26, l20, i24, A21, c22, H23) : (List SStep) × (List (List Int)) × Int × (Option Addr) × Nat × Hd) => [row (gk 3 (Kd.int .i64)) 22 (.slice A21 l20.length c22) (zp H23 l20)]) l0_1.length (l0_1, l4, 0, A5, c6, H7) ⟨Rg.start _, rfl, hl31⟩ ⟨rfl, rfl, trivial⟩ (fun w h => h) ?_
    refine fun k27 => cur6 (listC (fun l20 i24 A21 c22 H23 U33 hJ_ => ?_) (fun y25 ys26 l20 i24 A21 c22 H23 U33 hJ_ => ?_))
    · skip
      clear hl31
      have hr28 := hJ_.1; have hk34 := hJ_.2.1; have h := hJ_.2.2; clear hJ_
      replace h : impl_Plan_exponents.l1 [] l20 i24 = some o32 := h
      rw [impl_Plan_exponents.l1] at h
      refine c_seq ?_
      refine za0 ?_
      refine o_q rfl rfl (q_lss rfl rfl) ?_
      refine o_end ?_
      refine za1 ?_
      refine c_seq ?_
      refine c_false (congrArg Value.bool hr28.ge) ?_
      refine c_exit ?_
      refine za7 ?_
      refine za7 ?_
      have e_ := Option.some.inj h; replace h := hR30; rw [← e_] at h; clear e_
      refine x_hit ?_
      refine za1 ?_
      refine c_seq ?_
      refine za0 ?_
      refine o_q rfl rfl (za2 rfl) ?_
      refine o_q rfl rfl (q_asg rfl) ?_
      refine o_end ?_
      refine za1 ?_
      refine c_ret ?_
      have e0_ := Option.some.inj h; clear h
      subst e0_
      exact x_r1 (A21, c22, H23) Try.results141 (zab rfl) rfl (fun w h => za6 [0] (by decide) rfl w h)
    · skip
      clear hl31
      have hr28 := hJ_.1; have hk34 := hJ_.2.1; have h := hJ_.2.2; clear hJ_
      replace h : impl_Plan_exponents.l1 (y25 :: ys26) l20 i24 = some o32 := h
      rw [impl_Plan_exponents.l1] at h
      refine c_seq ?_
      refine za0 ?_
      refine o_q rfl rfl (q_lss rfl rfl) ?_
      refine o_end ?_
      refine za1 ?_
      refine c_seq ?_
      refine c_true (congrArg Value.bool hr28.lt) ?_
      refine zai ?_
      refine za1 ?_
      refine c_seq ?_
      refine zan ?_
      refine c_seq ?_
      refine za0 ?_
      refine zav (p := Sh A0_1 l0_1.length l0_1.length) (fun w h => f_sh (dk := kStep) h (fun w h => R0_1.now Z h)) (fun hq35 => ?_)
      refine o_q rfl rfl (q_ix Try.underlying34 Z117 rfl rfl hq35 hr28.get) ?_
      refine o_q rfl rfl (q_ldE G117 Z117 rfl rfl (fun w h => R0_1.now Z h) hr28.get (fun _ _ h => h) rfl) ?_
      refine o_e rfl (e_alloc V117 rfl) (fun g36 => ?_)
      refine o_e rfl (e_storeA (i := 0) rfl rfl rfl Z117 rfl rfl) (fun _ => ?_)
      refine o_end ?_
      refine za1 ?_
      refine c_seq ?_
      refine za0 ?_
      refine o_e rfl (e_lit0 (Kd.int .i64) Try.underlying22 I3) (cur2 (fun A38 c39 => ?_))
      refine o_q rfl rfl (q_asg rfl) ?_
      refine o_end ?_
      refine za1 ?_
      refine c_seq ?_
      refine c_seq ?_
      refine za0 ?_
      refine o_q rfl rfl (za2 rfl) ?_
      refine o_q rfl rfl (q_f F117_0 rfl) ?_
      refine o_q rfl rfl (q_ldb Y3 rfl (fun w h => h.zaa (i := 1) rfl) rfl) ?_
      refine zav (p := Sh A21 l20.length (zp H23 l20).length) (fun w h => f_sh (dk := (gk 3 (Kd.int .i64))) h (fun w h => h.zat (i := 2) rfl)) (fun hq41 => ?_)
      refine za8 h (fun y43 hg42 h => ?_) rfl
      refine o_q rfl rfl (q_ix Try.underlying109 Z22 rfl rfl hq41 (gt_zp hg42)) ?_
      refine zav (p := y43.length ≤ hC H23 y25.f0) (fun w h => (K_in (h.zat (i := 2) rfl) hg42).1) (fun hc44 => ?_)
      refine o_q rfl rfl (q_lde (off := 0) Y22 rfl rfl (fun w h => h.zat (i := 2) rfl) (gt_zp hg42) (fun _ _ h => h.1) rfl) ?_
      refine o_q rfl rfl (q_len Try.underlying22 rfl) ?_
      refine o_q rfl rfl (za2 rfl) ?_
      refine o_end ?_
      refine za1 ?_
      refine zan ?_
      refine za8 h (fun o56 hl55 hR54 => ?_) rfl
      clear h
      refine c_fact (p := y43.length ≤ 9223372036854775807) (fun w h => (C_in (h.zat (i := 2) rfl) hg42).2.1) (fun hm53 => ?_)
      refine zax (σ := (List Int) × (List Int) × Int × (Option Addr) × Nat) (fun k51 ((ys50, l45, i48, A46, c47) : (List Int) × (List Int) × Int × (Option Addr) × Nat) => Rg y43 i48 ys50 ∧ ys50.length = k51 ∧ impl_Plan_exponents.l2 l20 y25 ys50 l45 i48 = some o56) [8, 9, 10, 48, 49, 50, 51, 52, 53, 54, 55, 56, 57, 58, 59, 60, 61, 62, 63, 64, 65, 66, 67] (fun ((ys50, l45, i48, A46, c47) : (List Int) × (List Int) × Int × (Option Addr) × Nat) => [(8, .slice A46 l45.length c47), (48, .int .i64 i48)]) (fun ((ys50, l45, i48, A46, c47) : (List Int) × (List Int) × Int × (Option Addr) × Nat) => [row (Kd.int .i64) 3 (.slice A46 l45.length c47) l45, box g36 117 #[.int .i64 y25.f0, .int .i64 y25.f1], row (gk 3 (Kd.int .i64)) 22 (.slice A21 l20.length c22) (zp H23 l20)]) y43.length (y43, ([] : List Int), 0, A38, c39) ⟨Rg.start _, rfl, hl55⟩ ⟨rfl, rfl, trivial⟩ (fun w h => h) ?_
      refine fun k51 => cur5 (listC (fun l45 i48 A46 c47 U57 hJ_ => ?_) (fun y49 ys50 l45 i48 A46 c47 U57 hJ_ => ?_))
      · skip
        clear hl55
        have hr52 := hJ_.1; have hk58 := hJ_.2.1; have h := hJ_.2.2; clear hJ_
        replace h : impl_Plan_exponents.l2 l20 y25 [] l45 i48 = some o56 := h
        rw [impl_Plan_exponents.l2] at h
        refine c_seq ?_
        refine za0 ?_
        refine o_q rfl rfl (q_lss rfl rfl) ?_
        refine o_end ?_
        refine za1 ?_
        refine c_seq ?_
        refine c_false (congrArg Value.bool hr52.ge) ?_
        refine c_exit ?_
        refine za7 ?_
        refine za7 ?_
        have e_ := Option.some.inj h; replace h := hR54; rw [← e_] at h; clear e_
        refine x_hit ?_
        refine za1 ?_
        refine za0 ?_
        refine o_q rfl rfl (za2 rfl) ?_
        refine o_q rfl rfl (za2 rfl) ?_
        refine o_e rfl (e_litG (j := 0) (ue := 3) (dk := (Kd.int .i64)) (ys := l45) Try.underlying109 I22 rfl rfl rfl) (cur3 (fun A59 c60 H62 => ?_))
        refine za8 h (fun l63 ha64 h => ?_) rfl
        refine o_e rfl (e_appG (i := 3) (j := 0) Try.underlying109 I22 rfl (by decide) rfl rfl rfl rfl rfl ha64) (cur3 (fun A65 c66 H67 => ?_))
        refine o_q rfl rfl (q_asg rfl) ?_
        refine o_end ?_
        refine zao ?_
        refine za1 ?_
        refine za0 ?_
        refine o_q rfl rfl (q_up rfl rfl (hr28.up hm29)) ?_
        refine o_q rfl rfl (za2 rfl) ?_
        refine o_end ?_
        refine zaf ys26.length (ys26, l63, i24 + 1, A65, c66, H67) (by rw [← hk34]; exact Nat.lt_succ_self _) ⟨hr28.step, rfl, h⟩ ⟨rfl, rfl, trivial⟩ (fun w h => za6 [3] (by decide) rfl w h) ?_
        repeat (first | exact zad _ _ | refine zah rfl ?_ | refine zae rfl ?_ | refine zaj rfl ?_)
      · skip
        clear hl55
        have hr52 := hJ_.1; have hk58 := hJ_.2.1; have h := hJ_.2.2; clear hJ_
        replace h : impl_Plan_exponents.l2 l20 y25 (y49 :: ys50) l45 i48 = some o56 := h
        rw [impl_Plan_exponents.l2] at h
        refine c_seq ?_
        refine za0 ?_
        refine o_q rfl rfl (q_lss rfl rfl) ?_
        refine o_end ?_
        refine za1 ?_
        refine c_seq ?_
        refine c_true (congrArg Value.bool hr52.lt) ?_
        refine zai ?_
        refine za1 ?_
        refine c_seq ?_
        refine zan ?_
        refine c_seq ?_
        refine za0 ?_
        refine o_q rfl rfl (za2 rfl) ?_
        refine zav (p := Sh (hA H23 y25.f0) y43.length y43.length) (fun w h => f_sh (dk := (Kd.int .i64)) h (fun w h => C_in (h.zat (i := 2) rfl) hg42)) (fun hq68 => ?_)
        refine o_q rfl rfl (q_ix Try.underlying22 Z3 rfl rfl hq68 hr52.get) ?_
        refine o_q rfl rfl (q_lde (off := 0) Y3 rfl rfl (fun w h => C_in (h.zat (i := 2) rfl) hg42) hr52.get (fun _ _ h => h) rfl) ?_
        refine o_q rfl rfl (q_asg rfl) ?_
        refine o_q rfl rfl (q_asg rfl) ?_
        refine o_end ?_
        refine za1 ?_
        refine za0 ?_
        refine o_q rfl rfl (za2 rfl) ?_
        refine o_q rfl rfl (za2 rfl) ?_
        refine o_q rfl rfl (za2 rfl) ?_
        refine o_q rfl rfl (q_f F117_1 rfl) ?_
        refine o_q rfl rfl (q_ldb Y3 rfl (fun w h => h.zaa (i := 1) rfl) rfl) ?_
        refine za8 h (fun y70 hg69 h => ?_) rfl
        refine o_q rfl rfl (q_ix Try.underlying109 Z22 rfl rfl hq41 (gt_zp hg69)) ?_
        refine zav (p := y70.length ≤ hC H23 y25.f1) (fun w h => (K_in (h.zat (i := 2) rfl) hg69).1) (fun hc71 => ?_)
        refine o_q rfl rfl (q_lde (off := 0) Y22 rfl rfl (fun w h => h.zat (i := 2) rfl) (gt_zp hg69) (fun _ _ h => h.1) rfl) ?_
        refine o_q rfl rfl (za2 rfl) ?_
        refine zav (p := Sh (hA H23 y25.f1) y70.length y70.length) (fun w h => f_sh (dk := (Kd.int .i64)) h (fun w h => C_in (h.zat (i := 2) rfl) hg69)) (fun hq72 => ?_)
        refine za8 h (fun y74 hg73 h => ?_) rfl
        refine o_q rfl rfl (q_ix Try.underlying22 Z3 rfl rfl hq72 hg73) ?_
        refine o_q rfl rfl (q_lde (off := 0) Y3 rfl rfl (fun w h => C_in (h.zat (i := 2) rfl) hg69) hg73 (fun _ _ h => h) rfl) ?_
        refine o_q rfl rfl (q_add64 rfl rfl) ?_
        refine o_q rfl rfl (q_min rfl rfl) ?_
        refine o_e rfl (e_lit (vs := [(0, .int .i64 (mn (w64 (y49 + y74)) 1000001))]) (cs := [.int .i64 (mn (w64 (y49 + y74)) 1000001)]) (Kd.int .i64) ([mn (w64 (y49 + y74)) 1000001] : List Int) Try.underlying22 I3 (by decide) rfl (by decide) rfl rfl (fun _ _ => Kd.zau _)) (cur2 (fun A75 c76 => ?_))
        refine za8 h (fun l78 ha79 h => ?_) rfl
        refine o_e rfl (e_app (i := 1) (j := 0) Try.underlying22 I3 rfl (by decide) (by decide) rfl rfl rfl rfl rfl ha79) (cur2 (fun A80 c81 => ?_))
        refine o_q rfl rfl (q_asg rfl) ?_
        refine o_end ?_
        refine zao ?_
        refine za1 ?_
        refine za0 ?_
        refine o_q rfl rfl (q_up rfl rfl (hr52.up hm53)) ?_
        refine o_q rfl rfl (za2 rfl) ?_
        refine o_end ?_
        refine zaf ys50.length (ys50, l78, i48 + 1, A80, c81) (by rw [← hk58]; exact Nat.lt_succ_self _) ⟨hr52.step, rfl, h⟩ ⟨rfl, rfl, trivial⟩ (fun w h => za6 [1, 2, 3] (by decide) rfl w h) ?_
        repeat (first | exact zad _ _ | refine zah rfl ?_ | refine zae rfl ?_ | refine zaj rfl ?_)
  · skip
    clear hl15
    have hr12 := hJ_.1; have h := hJ_.2; clear hJ_
    replace h : impl_Plan_exponents.l0 a0_0 (k11 + 1) l4 i8 = some o16 := h
    rw [impl_Plan_exponents.l0] at h
    refine c_seq ?_
    refine za0 ?_
    refine o_q rfl rfl (q_lss rfl rfl) ?_
    refine o_end ?_
    refine za1 ?_
    refine c_seq ?_
    refine c_true (congrArg Value.bool hr12.lt) ?_
    refine zai ?_
    refine za1 ?_
    refine c_seq ?_
    refine zan ?_
    refine c_seq ?_
    refine za0 ?_
    refine o_q rfl rfl (za2 rfl) ?_
    refine o_q rfl rfl (q_asg rfl) ?_
    refine o_end ?_
    refine za1 ?_
    refine c_seq ?_
    refine za0 ?_
    refine o_q rfl rfl (za2 rfl) ?_
    refine o_q rfl rfl (q_nil rfl) ?_
    refine o_q rfl rfl (q_f F36_0 rfl) ?_
    refine o_q rfl rfl (q_ldb Y3 rfl (fun w h => B0.now Z h) rfl) ?_
    refine za8 h (fun l82 hm83 h => ?_) rfl
    refine o_e rfl (e_make (Kd.int .i64) (0 : Int) Try.underlying22 I3 rfl (by decide) (by decide) (fun _ _ => rfl) rfl rfl hm83) (cur2 (fun A84 c85 => ?_))
    refine o_q rfl rfl (q_asg rfl) ?_
    refine o_end ?_
    refine za1 ?_
    refine c_seq ?_
    refine za0 ?_
    refine o_q rfl rfl (za2 rfl) ?_
    refine o_q rfl rfl (za2 rfl) ?_
    refine zav (p := Sh A84 l82.length l82.length) (fun w h => f_sh (dk := (Kd.int .i64)) h (fun w h => h.zat (i := 0) rfl)) (fun hq87 => ?_)
    refine za8 h (fun y89 hg88 h => ?_) rfl
    refine o_q rfl rfl (q_ix Try.underlying22 Z3 rfl rfl hq87 hg88) ?_
    refine za8 h (fun l90 hs91 h => ?_) rfl
    refine o_e rfl (e_set (i := 0) rfl rfl rfl Z3 hs91) (fun _ => ?_)
    refine o_end ?_
    refine za1 ?_
    refine za0 ?_
    refine o_q rfl rfl (za2 rfl) ?_
    refine o_q rfl rfl (za2 rfl) ?_
    refine o_e rfl (e_litG (j := 0) (ue := 3) (dk := (Kd.int .i64)) (ys := l90) Try.underlying109 I22 rfl rfl rfl) (cur3 (fun A92 c93 H95 => ?_))
    refine za8 h (fun l96 ha97 h => ?_) rfl
    refine o_e rfl (e_appG (i := 2) (j := 0) Try.underlying109 I22 rfl (by decide) rfl rfl rfl rfl rfl ha97) (cur3 (fun A98 c99 H100 => ?_))
    refine o_q rfl rfl (q_asg rfl) ?_
    refine o_end ?_
    refine zao ?_
    refine za1 ?_
    refine za0 ?_
    refine o_q rfl rfl (q_up rfl rfl hr12.up) ?_
    refine o_q rfl rfl (za2 rfl) ?_
    refine o_end ?_
    refine zaf k11 (l96, i8 + 1, A98, c99, H100) (Nat.lt_succ_self _) ⟨hr12.step, h⟩ ⟨rfl, rfl, trivial⟩ (fun w h => za6 [2] (by decide) rfl w h) ?_
    repeat (first | exact zad _ _ | refine zah rfl ?_ | refine zae rfl ?_ | refine zaj rfl ?_)

/-! ### slices.Max[[]int,int]: function 89 -/
def slices_Max_int_int.l0 (l0 : List Int) : Nat → Int → Int → Option Int
  | 0, _, _ => none
  | k9 + 1, i5, i6 => if i6 < (l0.length : Int) then ((gt l0 i6).bind fun y19 => slices_Max_int_int.l0 l0 k9 (mx i5 y19) (w64 (i6 + 1))) else (some i5)
def slices_Max_int_int.f (k : Nat) (l0 : List Int) : Option Int := if (l0.length : Int) < 1 then (none) else ((gt l0 0).bind fun y4 => (slices_Max_int_int.l0 l0 k y4 1).bind fun i5 => some i5)
set_option maxHeartbeats 600000 in
set_option maxRecDepth 100000 in
theorem slices_Max_int_int.calls (k : Nat) {w0 ws : World} {P0 : Nat → Prop} (A0 : Option Addr) (c0 : Nat) (n0 : Nat) (l0 : List Int) (Z : Below w0.heap.size w0 ws) (hF : Fr w0 ws P0 [] ws) (R0 : Stable ws P0 (fun w => Kd.C (Kd.int .i64) w A0 n0 l0)) (hc0 : n0 ≤ c0) (r_1 : Int) (h : slices_Max_int_int.f k l0 = some r_1) :
    Calls Try.prog 89 #[.slice A0 n0 c0] ws (Post1 w0 ws P0 (fun (_ : Unit) => .int .i64 r_1) (fun (_ : Unit) => [])) := by
  unfold slices_Max_int_int.f at h
  obtain rfl := (R0 ws (KeptB.refl _ _)).1
  refine enter Try.func89 rfl Try.ntmps89 rfl hF ?_
  refine c_seq ?_
  refine za0 ?_
  refine o_q rfl rfl (q_asg rfl) ?_
  refine o_end ?_
  refine za1 ?_
  refine c_seq ?_
  refine c_seq ?_
  refine za0 ?_
  refine o_q rfl rfl (za2 rfl) ?_
  refine o_q rfl rfl (q_len Try.underlying22 rfl) ?_
  refine o_q rfl rfl (q_lss rfl rfl) ?_
  refine o_end ?_
  refine za1 ?_
  refine zar _ rfl (fun hb1 => ?_) (fun hb1 => ?_)
  · skip
    replace h := br_t hb1 h
    refine za0 ?_
    exact noneE h
  · skip
    replace h := br_f hb1 h
    refine zai ?_
    refine za1 ?_
    refine c_seq ?_
    refine za0 ?_
    refine o_q rfl rfl (za2 rfl) ?_
    refine zav (p := Sh A0 l0.length l0.length) (fun w h => f_sh (dk := (Kd.int .i64)) h (fun w h => R0.now Z h)) (fun hq2 => ?_)
    refine za8 h (fun y4 hg3 h => ?_) rfl
    refine o_q rfl rfl (q_ix Try.underlying22 Z3 rfl rfl hq2 hg3) ?_
    refine o_q rfl rfl (q_lde (off := 0) Y3 rfl rfl (fun w h => R0.now Z h) hg3 (fun _ _ h => h) rfl) ?_
    refine o_q rfl rfl (q_asg rfl) ?_
    refine o_end ?_
    refine za1 ?_
    refine c_seq ?_
    refine c_seq ?_
    refine za0 ?_
    refine o_q rfl rfl (q_asg rfl) ?_
    refine o_end ?_
    refine za1 ?_
    refine zan ?_
    refine za8 h (fun o14 hl13 hR12 => ?_) rfl
    clear h
    refine zax (σ := Int × Int) (fun k9 ((i5, i6) : Int × Int) => slices_Max_int_int.l0 l0 k9 i5 i6 = some o14) [3, 4, 12, 13, 14, 15, 16, 17, 18, 19, 20, 21, 22, 23] (fun ((i5, i6) : Int × Int) => [(3, .int .i64 i5), (4, .int .i64 i6)]) (fun ((i5, i6) : Int × Int) => []) k (y4, 1) hl13 ⟨rfl, rfl, trivial⟩ (fun w h => h) ?_
    refine natC (cur2 (fun i5 i6 => fun U15 hJ_ => ?_)) (fun k9 => (cur2 (fun i5 i6 => fun U15 hJ_ => ?_)))
    · skip
      replace hJ_ : slices_Max_int_int.l0 l0 0 i5 i6 = some o14 := hJ_
      rw [slices_Max_int_int.l0] at hJ_
      exact noneE hJ_
    · skip
      clear hl13
      have h := hJ_; clear hJ_
      replace h : slices_Max_int_int.l0 l0 (k9 + 1) i5 i6 = some o14 := h
      rw [slices_Max_int_int.l0] at h
      refine c_seq ?_
      refine c_seq ?_
      refine za0 ?_
      refine o_q rfl rfl (za2 rfl) ?_
      refine o_q rfl rfl (za2 rfl) ?_
      refine o_q rfl rfl (q_len Try.underlying22 rfl) ?_
      refine o_q rfl rfl (q_lss rfl rfl) ?_
      refine o_end ?_
      refine za1 ?_
      refine zar _ rfl (fun hb17 => ?_) (fun hb17 => ?_)
      · skip
        replace h := br_t hb17 h
        refine zai ?_
        refine za1 ?_
        refine c_seq ?_
        refine zan ?_
        refine za0 ?_
        refine o_q rfl rfl (za2 rfl) ?_
        refine o_q rfl rfl (za2 rfl) ?_
        refine o_q rfl rfl (za2 rfl) ?_
        refine za8 h (fun y19 hg18 h => ?_) rfl
        refine o_q rfl rfl (q_ix Try.underlying22 Z3 rfl rfl hq2 hg18) ?_
        refine o_q rfl rfl (q_lde (off := 0) Y3 rfl rfl (fun w h => R0.now Z h) hg18 (fun _ _ h => h) rfl) ?_
        refine o_q rfl rfl (q_max rfl rfl) ?_
        refine o_q rfl rfl (q_asg rfl) ?_
        refine o_end ?_
        refine zao ?_
        refine za1 ?_
        refine za0 ?_
        refine o_q rfl rfl (za2 rfl) ?_
        refine o_q rfl rfl (q_add64 rfl rfl) ?_
        refine o_q rfl rfl (q_asg rfl) ?_
        refine o_end ?_
        refine zaf k9 (mx i5 y19, w64 (i6 + 1)) (Nat.lt_succ_self _) h ⟨rfl, rfl, trivial⟩ (fun w h => za6 [] (by decide) rfl w h) ?_
        repeat (first | exact zad _ _ | refine zah rfl ?_ | refine zae rfl ?_ | refine zaj rfl ?_)
      · skip
        replace h := br_f hb17 h
        refine c_exit ?_
        refine za7 ?_
        refine za7 ?_
        have e_ := Option.some.inj h; replace h := hR12; rw [← e_] at h; clear e_
        refine x_hit ?_
        refine za1 ?_
        refine c_seq ?_
        refine za0 ?_
        refine o_q rfl rfl (za2 rfl) ?_
        refine o_q rfl rfl (q_asg rfl) ?_
        refine o_end ?_
        refine za1 ?_
        refine c_ret ?_
        have e0_ := Option.some.inj h; clear h
        subst e0_
        exact x_r1 () Try.results89 (zab rfl) rfl (fun w h => za6 [] (by decide) rfl w h)

/-! ### loop.example/g01098/impl.IsPlan$1: function 142 -/
def impl_IsPlan_1.f (k : Nat) (l0 : List Int) : Option Bool := (slices_Max_int_int.f k l0).bind fun i2 => some (decide (1000000 < i2))
set_option maxHeartbeats 600000 in
set_option maxRecDepth 100000 in
theorem impl_IsPlan_1.calls (k : Nat) {w0 ws : World} {P0 : Nat → Prop} (A0 : Option Addr) (c0 : Nat) (n0 : Nat) (l0 : List Int) (Z : Below w0.heap.size w0 ws) (hF : Fr w0 ws P0 [] ws) (R0 : Stable ws P0 (fun w => Kd.C (Kd.int .i64) w A0 n0 l0)) (hc0 : n0 ≤ c0) (r_1 : Bool) (h : impl_IsPlan_1.f k l0 = some r_1) :
    Calls Try.prog 142 #[.slice A0 n0 c0] ws (Post1 w0 ws P0 (fun (_ : Unit) => .bool r_1) (fun (_ : Unit) => [])) := by
  unfold impl_IsPlan_1.f at h
  obtain rfl := (R0 ws (KeptB.refl _ _)).1
  refine enter Try.func142 rfl Try.ntmps142 rfl hF ?_
  refine c_seq ?_
  refine za0 ?_
  refine o_q rfl rfl (q_asg rfl) ?_
  refine o_end ?_
  refine za1 ?_
  refine c_seq ?_
  refine za0 ?_
  refine o_q rfl rfl (za2 rfl) ?_
  refine za8 h (fun i2 hx1 h => ?_) rfl
  refine o_e rfl (za9 0 Z Try.func89 N89 rfl rfl rfl (fun w P1 hF hB hS hT => slices_Max_int_int.calls k A0 c0 l0.length l0 hB hF (hS _ R0) hc0 _ hx1)) (fun _ => ?_)
  refine o_q rfl rfl (q_gtr rfl rfl) ?_
  refine o_q rfl rfl (q_asg rfl) ?_
  refine o_end ?_
  refine za1 ?_
  refine c_ret ?_
  have e0_ := Option.some.inj h; clear h
  subst e0_
  exact x_r1 () Try.results142 (zab rfl) rfl (fun w h => za6 [] (by decide) rfl w h)

/-! ### slices.IndexFunc[[][]int,[]int]: function 176 -/
def slices_IndexFunc_int_int_2.l0 (k : Nat) : (List (List Int)) → Int → Option ((Int) ⊕ (Unit))
  | [], i1 => some (.inr ())
  | y2 :: ys3, i1 => (impl_IsPlan_1.f k y2).bind fun b15 => if b15 = true then (some (.inl i1)) else (slices_IndexFunc_int_int_2.l0 k ys3 (i1 + 1))
def slices_IndexFunc_int_int_2.f (k : Nat) (l0 : List (List Int)) : Option Int := (slices_IndexFunc_int_int_2.l0 k l0 0).bind fun o_ => match o_ with | .inl r_ => some r_ | .inr _ => some (-1)
set_option maxHeartbeats 600000 in
set_option maxRecDepth 100000 in
theorem slices_IndexFunc_int_int_2.calls (k : Nat) {w0 ws : World} {P0 : Nat → Prop} (A0 : Option Addr) (c0 : Nat) (n0 : Nat) (H0 : Hd) (l0 : List (List Int)) (Z : Below w0.heap.size w0 ws) (hF : Fr w0 ws P0 [] ws) (R0 : Stable ws P0 (fun w => Kd.C (gk 3 (Kd.int .i64)) w A0 n0 (zp H0 l0))) (hc0 : n0 ≤ c0) (r_1 : Int) (h : slices_IndexFunc_int_int_2.f k l0 = some r_1) :
    Calls Try.prog 176 #[.slice A0 n0 c0, .func (.func 142) #[] #[]] ws (Post1 w0 ws P0 (fun (_ : Unit) => .int .i64 r_1) (fun (_ : Unit) => [])) := by
  unfold slices_IndexFunc_int_int_2.f at h
  obtain rfl := (zp_len _ _).symm.trans (R0 ws (KeptB.refl _ _)).1
  refine enter Try.func176 rfl Try.ntmps176 rfl hF ?_
  refine c_seq ?_
  refine za0 ?_
  refine o_q rfl rfl (q_asg rfl) ?_
  refine o_end ?_
  refine za1 ?_
  refine c_seq ?_
  refine c_seq ?_
  refine za0 ?_
  refine o_q rfl rfl (za2 rfl) ?_
  refine o_q rfl rfl (q_len Try.underlying109 rfl) ?_
  refine o_q rfl rfl (za2 rfl) ?_
  refine o_end ?_
  refine za1 ?_
  refine zan ?_
  refine za8 h (fun o9 hl8 hR7 => ?_) rfl
  clear h
  refine c_fact (p := l0.length ≤ 9223372036854775807) (fun w h => (R0.now Z h).2.1) (fun hm6 => ?_)
  refine zax (σ := (List (List Int)) × Int) (fun k4 ((ys3, i1) : (List (List Int)) × Int) => Rg l0 i1 ys3 ∧ ys3.length = k4 ∧ slices_IndexFunc_int_int_2.l0 k ys3 i1 = some o9) [4, 5, 8, 9, 10, 11, 12, 13, 14, 15, 16, 17, 18] (fun ((ys3, i1) : (List (List Int)) × Int) => [(8, .int .i64 i1)]) (fun ((ys3, i1) : (List (List Int)) × Int) => []) l0.length (l0, 0) ⟨Rg.start _, rfl, hl8⟩ ⟨rfl, trivial⟩ (fun w h => h) ?_
  refine fun k4 => cur2 (listC (fun i1 U10 hJ_ => ?_) (fun y2 ys3 i1 U10 hJ_ => ?_))
  · skip
    clear hl8
    have hr5 := hJ_.1; have hk11 := hJ_.2.1; have h := hJ_.2.2; clear hJ_
    replace h : slices_IndexFunc_int_int_2.l0 k [] i1 = some o9 := h
    rw [slices_IndexFunc_int_int_2.l0] at h
    refine c_seq ?_
    refine za0 ?_
    refine o_q rfl rfl (q_lss rfl rfl) ?_
    refine o_end ?_
    refine za1 ?_
    refine c_seq ?_
    refine c_false (congrArg Value.bool hr5.ge) ?_
    refine c_exit ?_
    refine za7 ?_
    refine za7 ?_
    have e_ := Option.some.inj h; replace h := hR7; rw [← e_] at h; clear e_
    refine x_hit ?_
    refine za1 ?_
    refine c_seq ?_
    refine za0 ?_
    refine o_q rfl rfl (q_asg rfl) ?_
    refine o_end ?_
    refine za1 ?_
    refine c_ret ?_
    have e0_ := Option.some.inj h; clear h
    subst e0_
    exact x_r1 () Try.results176 (zab rfl) rfl (fun w h => za6 [] (by decide) rfl w h)
  · skip
    clear hl8
    have hr5 := hJ_.1; have hk11 := hJ_.2.1; have h := hJ_.2.2; clear hJ_
    replace h : slices_IndexFunc_int_int_2.l0 k (y2 :: ys3) i1 = some o9 := h
    rw [slices_IndexFunc_int_int_2.l0] at h
    refine c_seq ?_
    refine za0 ?_
    refine o_q rfl rfl (q_lss rfl rfl) ?_
    refine o_end ?_
    refine za1 ?_
    refine c_seq ?_
    refine c_true (congrArg Value.bool hr5.lt) ?_
    refine zai ?_
    refine za1 ?_
    refine c_seq ?_
    refine zan ?_
    refine c_seq ?_
    refine za0 ?_
    refine o_q rfl rfl (za2 rfl) ?_
    refine o_q rfl rfl (q_asg rfl) ?_
    refine o_end ?_
    refine za1 ?_
    refine c_seq ?_
    refine za0 ?_
    refine o_q rfl rfl (za2 rfl) ?_
    refine o_q rfl rfl (za2 rfl) ?_
    refine o_q rfl rfl (za2 rfl) ?_
    refine zav (p := Sh A0 l0.length (zp H0 l0).length) (fun w h => f_sh (dk := (gk 3 (Kd.int .i64))) h (fun w h => R0.now Z h)) (fun hq12 => ?_)
    refine o_q rfl rfl (q_ix Try.underlying109 Z22 rfl rfl hq12 (gt_zp hr5.get)) ?_
    refine zav (p := y2.length ≤ hC H0 i1) (fun w h => (K_in (R0.now Z h) hr5.get).1) (fun hc13 => ?_)
    refine o_q rfl rfl (q_lde (off := 0) Y22 rfl rfl (fun w h => R0.now Z h) (gt_zp hr5.get) (fun _ _ h => h.1) rfl) ?_
    refine za8 h (fun b15 hx14 h => ?_) rfl
    refine o_e rfl (za9 0 Z Try.func142 N142 rfl rfl rfl (fun w P1 hF hB hS hT => impl_IsPlan_1.calls k (hA H0 i1) (hC H0 i1) y2.length y2 hB hF (stab_in (hS _ R0) hr5.get) hc13 _ hx14)) (fun _ => ?_)
    refine o_end ?_
    refine za1 ?_
    refine zar _ rfl (fun hb16 => ?_) (fun hb16 => ?_)
    · skip
      replace h := bb_t hb16 h
      refine c_seq ?_
      refine za0 ?_
      refine o_q rfl rfl (za2 rfl) ?_
      refine o_q rfl rfl (q_asg rfl) ?_
      refine o_end ?_
      refine za1 ?_
      refine c_ret ?_
      refine zaq ?_
      refine za5 ?_
      refine za5 ?_
      have e_ := Option.some.inj h; replace h := hR7; rw [← e_] at h; clear e_
      refine zaq ?_
      refine za5 ?_
      have e0_ := Option.some.inj h; clear h
      subst e0_
      exact x_r1 () Try.results176 (zab rfl) rfl (fun w h => za6 [] (by decide) rfl w h)
    · skip
      replace h := bb_f hb16 h
      refine zai ?_
      refine zao ?_
      refine za1 ?_
      refine za0 ?_
      refine o_q rfl rfl (q_up rfl rfl (hr5.up hm6)) ?_
      refine o_q rfl rfl (za2 rfl) ?_
      refine o_end ?_
      refine zaf ys3.length (ys3, i1 + 1) (by rw [← hk11]; exact Nat.lt_succ_self _) ⟨hr5.step, rfl, h⟩ ⟨rfl, trivial⟩ (fun w h => za6 [] (by decide) rfl w h) ?_
      repeat (first | exact zad _ _ | refine zah rfl ?_ | refine zae rfl ?_ | refine zaj rfl ?_)

/-! ### slices.ContainsFunc[[][]int,[]int]: function 140 -/
def slices_ContainsFunc_int_int_2.f (k : Nat) (l0 : List (List Int)) : Option Bool := (slices_IndexFunc_int_int_2.f k l0).bind fun i2 => some (decide (0 ≤ i2))
set_option maxHeartbeats 600000 in
set_option maxRecDepth 100000 in
theorem slices_ContainsFunc_int_int_2.calls (k : Nat) {w0 ws : World} {P0 : Nat → Prop} (A0 : Option Addr) (c0 : Nat) (n0 : Nat) (H0 : Hd) (l0 : List (List Int)) (Z : Below w0.heap.size w0 ws) (hF : Fr w0 ws P0 [] ws) (R0 : Stable ws P0 (fun w => Kd.C (gk 3 (Kd.int .i64)) w A0 n0 (zp H0 l0))) (hc0 : n0 ≤ c0) (r_1 : Bool) (h : slices_ContainsFunc_int_int_2.f k l0 = some r_1) :
    Calls Try.prog 140 #[.slice A0 n0 c0, .func (.func 142) #[] #[]] ws (Post1 w0 ws P0 (fun (_ : Unit) => .bool r_1) (fun (_ : Unit) => [])) := by
  unfold slices_ContainsFunc_int_int_2.f at h
  obtain rfl := (zp_len _ _).symm.trans (R0 ws (KeptB.refl _ _)).1
  refine enter Try.func140 rfl Try.ntmps140 rfl hF ?_
  refine c_seq ?_
  refine za0 ?_
  refine o_q rfl rfl (q_asg rfl) ?_
  refine o_end ?_
  refine za1 ?_
  refine c_seq ?_
  refine za0 ?_
  refine o_q rfl rfl (za2 rfl) ?_
  refine o_q rfl rfl (za2 rfl) ?_
  refine za8 h (fun i2 hx1 h => ?_) rfl
  refine o_e rfl (za9 0 Z Try.func176 N176 rfl rfl rfl (fun w P1 hF hB hS hT => slices_IndexFunc_int_int_2.calls k A0 c0 l0.length H0 l0 hB hF (hS _ R0) hc0 _ hx1)) (fun _ => ?_)
  refine o_q rfl rfl (q_geq rfl rfl) ?_
  refine o_q rfl rfl (q_asg rfl) ?_
  refine o_end ?_
  refine za1 ?_
  refine c_ret ?_
  have e0_ := Option.some.inj h; clear h
  subst e0_
  exact x_r1 () Try.results140 (zab rfl) rfl (fun w h => za6 [] (by decide) rfl w h)

/-! ### loop.example/g01098/impl.IsPlan: function 75 -/
def impl_IsPlan.f (k : Nat) (a0_0 : Int) (l0_1 : List SStep) (l0_2 : List Int) : Option Bool := (impl_Plan_formed.f a0_0 l0_1 l0_2).bind fun b4 => if b4 = true then ((impl_Plan_exponents.f a0_0 l0_1 l0_2).bind fun l7 => (slices_ContainsFunc_int_int_2.f k l7).bind fun b12 => some (!b12)) else (some false)
set_option maxHeartbeats 600000 in
set_option maxRecDepth 100000 in
theorem impl_IsPlan.calls (k : Nat) {w0 ws : World} {P0 : Nat → Prop} (a0_0 : Int) (A0_1 : Option Addr) (c0_1 : Nat) (n0_1 : Nat) (l0_1 : List SStep) (A0_2 : Option Addr) (c0_2 : Nat) (n0_2 : Nat) (l0_2 : List Int) (Z : Below w0.heap.size w0 ws) (hF : Fr w0 ws P0 [] ws) (R0_1 : Stable ws P0 (fun w => Kd.C kStep w A0_1 n0_1 l0_1)) (hc0_1 : n0_1 ≤ c0_1) (R0_2 : Stable ws P0 (fun w => Kd.C (Kd.int .i64) w A0_2 n0_2 l0_2)) (hc0_2 : n0_2 ≤ c0_2) (r_1 : Bool) (h : impl_IsPlan.f k a0_0 l0_1 l0_2 = some r_1) :
    Calls Try.prog 75 #[.agg #[.int .i64 a0_0, .slice A0_1 n0_1 c0_1, .slice A0_2 n0_2 c0_2]] ws (Post1 w0 ws P0 (fun (_ : Unit) => .bool r_1) (fun (_ : Unit) => [])) := by
  unfold impl_IsPlan.f at h
  obtain rfl := (R0_1 ws (KeptB.refl _ _)).1
  obtain rfl := (R0_2 ws (KeptB.refl _ _)).1
  refine enter Try.func75 rfl Try.ntmps75 rfl hF ?_
  refine c_seq ?_
  refine za0 ?_
  refine o_e rfl (e_box rfl) (fun g1 => ?_)
  refine o_q rfl rfl (q_asg rfl) ?_
  refine o_end ?_
  refine za1 ?_
  refine c_seq ?_
  refine za0 ?_
  refine za8 h (fun b4 hx3 h => ?_) rfl
  refine o_e rfl (za9 0 Z Try.func139 N139 rfl rfl rfl (fun w P1 hF hB hS hT => impl_Plan_formed.calls g1 a0_0 A0_1 c0_1 l0_1.length l0_1 A0_2 c0_2 l0_2.length l0_2 hB hF (hS _ R0_1) hc0_1 (hS _ R0_2) hc0_2 (hT 0 _ rfl).box _ hx3)) (fun _ => ?_)
  refine o_q rfl rfl (za2 rfl) ?_
  refine byB b4 (fun hb5 => ?_) (fun hb5 => ?_)
  · replace h := bb_t hb5 h
    refine za8 h (fun l7 hx6 h => ?_) rfl
    refine o_ew (za3 rfl rfl rfl (congrArg Value.bool hb5)) (za9 0 Z Try.func141 N141 rfl rfl rfl (fun w P1 hF hB hS hT => impl_Plan_exponents.calls g1 a0_0 A0_1 c0_1 l0_1.length l0_1 A0_2 c0_2 l0_2.length l0_2 hB hF (hS _ R0_1) hc0_1 (hS _ R0_2) hc0_2 (hT 0 _ rfl).box _ hx6)) (cur3 (fun A8 c9 H10 => ?_))
    refine za8 h (fun b12 hx11 h => ?_) rfl
    refine o_ew (za3 rfl rfl rfl (congrArg Value.bool hb5)) (za9 0 Z Try.func140 N140 rfl rfl rfl (fun w P1 hF hB hS hT => slices_ContainsFunc_int_int_2.calls k A8 c9 l7.length H10 l7 hB hF (hT 0 _ rfl).row (hT 0 _ rfl).cap _ hx11)) (fun _ => ?_)
    refine o_w (za3 rfl rfl rfl (congrArg Value.bool hb5)) rfl (q_not rfl) ?_
    refine o_q rfl rfl (zam true (congrArg Value.bool hb5) rfl) ?_
    refine o_q rfl rfl (q_asg rfl) ?_
    refine o_end ?_
    refine za1 ?_
    refine c_ret ?_
    have e0_ := Option.some.inj h; clear h
    subst e0_
    exact x_r1 () Try.results75 (zab rfl) rfl (fun w h => za6 [] (by decide) rfl w h)
  · replace h := bb_f hb5 h
    refine @o_n _ _ _ _ _ _ _ _ _ _ _ 5 (za4 rfl rfl rfl (congrArg Value.bool hb5) rfl) (Eq.refl (some 5)) ?_
    refine @o_n _ _ _ _ _ _ _ _ _ _ _ 6 (za4 rfl rfl rfl (congrArg Value.bool hb5) rfl) (Eq.refl (some 6)) ?_
    refine @o_n _ _ _ _ _ _ _ _ _ _ _ 7 (za4 rfl rfl rfl (congrArg Value.bool hb5) rfl) (Eq.refl (some 7)) ?_
    refine o_q rfl rfl (zam false (congrArg Value.bool hb5) rfl) ?_
    refine o_q rfl rfl (q_asg rfl) ?_
    refine o_end ?_
    refine za1 ?_
    refine c_ret ?_
    have e0_ := Option.some.inj h; clear h
    subst e0_
    exact x_r1 () Try.results75 (zab rfl) rfl (fun w h => za6 [] (by decide) rfl w h)

end Go.Proofs.Ytpdpomjgfmdjfaa.G1
