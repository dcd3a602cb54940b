import Derived.Test.YtpdpomjgfmdjfaaKFnExactAllocatePlanG2p3
namespace Go.Proofs.Ytpdpomjgfmdjfaa.G2
open Go.RowKit Go.Proofs.Ytpdpomjgfmdjfaa.Frame Go.Proofs.YtpdpomjgfmdjfaaW.PrintLast Go.Proofs.Ytpdpomjgfmdjfaa.Hand
open Go.Proofs.YtpdpomjgfmdjfaaW.PrintWords hiding mn mx
set_option linter.unusedVariables false
/-! ### loop.example/g01098/laws.eqRegCode: function 20 -/
def laws_eqRegCode.f (k : Nat) (a0_0 : Int) (l0_1 : List Int) (l0_2 : List SRegOp) (l0_3 : List Int) (a1_0 : Int) (l1_1 : List Int) (l1_2 : List SRegOp) (l1_3 : List Int) : Option Bool := if a0_0 ≠ a1_0 then (some false) else ((laws_eqIntS.f k l0_1 l1_1).bind fun b7 => if b7 = true then ((laws_eqRegOpS.f k l0_2 l1_2).bind fun b10 => if b10 = true then ((laws_eqIntS.f k l0_3 l1_3).bind fun b13 => if b13 = true then (some true) else (some false)) else (some false)) else (some false))
set_option maxHeartbeats 600000 in
set_option maxRecDepth 100000 in
theorem laws_eqRegCode.calls (k : Nat) {w0 ws : World} {P0 : Nat → Prop} (a0_0 : Int) (A0_1 : Option Addr) (c0_1 : Nat) (n0_1 : Nat) (l0_1 : List Int) (A0_2 : Option Addr) (c0_2 : Nat) (n0_2 : Nat) (l0_2 : List SRegOp) (A0_3 : Option Addr) (c0_3 : Nat) (n0_3 : Nat) (l0_3 : List Int) (a1_0 : Int) (A1_1 : Option Addr) (c1_1 : Nat) (n1_1 : Nat) (l1_1 : List Int) (A1_2 : Option Addr) (c1_2 : Nat) (n1_2 : Nat) (l1_2 : List SRegOp) (A1_3 : Option Addr) (c1_3 : Nat) (n1_3 : Nat) (l1_3 : List Int) (Z : Below w0.heap.size w0 ws) (hF : Fr w0 ws P0 [] ws) (R0_1 : Stable ws P0 (fun w => Kd.C (Kd.int .i64) w A0_1 n0_1 l0_1)) (hc0_1 : n0_1 ≤ c0_1) (R0_2 : Stable ws P0 (fun w => Kd.C zb4 w A0_2 n0_2 l0_2)) (hc0_2 : n0_2 ≤ c0_2) (R0_3 : Stable ws P0 (fun w => Kd.C (Kd.int .i64) w A0_3 n0_3 l0_3)) (hc0_3 : n0_3 ≤ c0_3) (R1_1 : Stable ws P0 (fun w => Kd.C (Kd.int .i64) w A1_1 n1_1 l1_1)) (hc1_1 : n1_1 ≤ c1_1) (R1_2 : Stable ws P0 (fun w => Kd.C zb4 w A1_2 n1_2 l1_2)) (hc1_2 : n1_2 ≤ c1_2) (R1_3 : Stable ws P0 (fun w => Kd.C (Kd.int .i64) w A1_3 n1_3 l1_3)) (hc1_3 : n1_3 ≤ c1_3) (r_1 : Bool) (h : laws_eqRegCode.f k a0_0 l0_1 l0_2 l0_3 a1_0 l1_1 l1_2 l1_3 = some r_1) :
    Calls Try.prog 20 #[.agg #[.int .i64 a0_0, .slice A0_1 n0_1 c0_1, .slice A0_2 n0_2 c0_2, .slice A0_3 n0_3 c0_3], .agg #[.int .i64 a1_0, .slice A1_1 n1_1 c1_1, .slice A1_2 n1_2 c1_2, .slice A1_3 n1_3 c1_3]] ws (Post1 w0 ws P0 (fun (_ : Unit) => .bool r_1) (fun (_ : Unit) => [])) := by
  unfold laws_eqRegCode.f at h
  obtain rfl := (R0_1 ws (KeptB.refl _ _)).1
  obtain rfl := (R0_2 ws (KeptB.refl _ _)).1
  obtain rfl := (R0_3 ws (KeptB.refl _ _)).1
  obtain rfl := (R1_1 ws (KeptB.refl _ _)).1
  obtain rfl := (R1_2 ws (KeptB.refl _ _)).1
  obtain rfl := (R1_3 ws (KeptB.refl _ _)).1
  refine enter Try.func20 rfl Try.ntmps20 rfl hF ?_
  refine c_seq ?_
  refine za0 ?_
  refine o_e rfl (e_box rfl) (fun g1 => ?_)
  refine o_e rfl (e_box rfl) (fun g3 => ?_)
  refine o_q rfl rfl (q_asg rfl) ?_
  refine o_end ?_
  refine za1 ?_
  refine c_seq ?_
  refine c_seq ?_
  refine za0 ?_
  refine o_q rfl rfl (q_f F30_0 rfl) ?_
  refine o_q rfl rfl (q_ldb Y3 rfl (fun w h => h.za9 (i := 1) rfl) rfl) ?_
  refine o_q rfl rfl (q_f F30_0 rfl) ?_
  refine o_q rfl rfl (q_ldb Y3 rfl (fun w h => h.za9 (i := 0) rfl) rfl) ?_
  refine o_q rfl rfl (q_neq rfl rfl) ?_
  refine o_end ?_
  refine za1 ?_
  refine zar _ rfl (fun hb5 => ?_) (fun hb5 => ?_)
  · skip
    replace h := br_t hb5 h
    refine c_seq ?_
    refine za0 ?_
    refine o_q rfl rfl (q_asg rfl) ?_
    refine o_end ?_
    refine za1 ?_
    refine c_ret ?_
    refine za5 ?_
    have e0_ := Option.some.inj h; clear h
    subst e0_
    exact x_r1 () Try.results20 (zaf rfl) rfl (fun w h => za8 [] (by decide) rfl w h)
  · skip
    replace h := br_f hb5 h
    refine zak ?_
    refine za1 ?_
    refine c_seq ?_
    refine c_seq ?_
    refine za0 ?_
    refine o_q rfl rfl (q_f F30_1 rfl) ?_
    refine o_q rfl rfl (q_ldb Y22 rfl (fun w h => h.za9 (i := 1) rfl) rfl) ?_
    refine o_q rfl rfl (q_f F30_1 rfl) ?_
    refine o_q rfl rfl (q_ldb Y22 rfl (fun w h => h.za9 (i := 0) rfl) rfl) ?_
    refine za6 h (fun b7 hx6 h => ?_) rfl
    refine o_e rfl (zaa 0 Z Try.func30 N30 rfl rfl rfl (fun w P1 hF hB hS hT => laws_eqIntS.calls k A0_1 c0_1 l0_1.length l0_1 A1_1 c1_1 l1_1.length l1_1 hB hF (hS _ R0_1) hc0_1 (hS _ R1_1) hc1_1 _ hx6)) (fun _ => ?_)
    refine o_q rfl rfl (q_not rfl) ?_
    refine o_end ?_
    refine za1 ?_
    refine zar _ rfl (fun hb8 => ?_) (fun hb8 => ?_)
    · replace hb8 := nt_t hb8
      replace h := bb_f hb8 h
      refine c_seq ?_
      refine za0 ?_
      refine o_q rfl rfl (q_asg rfl) ?_
      refine o_end ?_
      refine za1 ?_
      refine c_ret ?_
      refine za5 ?_
      have e0_ := Option.some.inj h; clear h
      subst e0_
      exact x_r1 () Try.results20 (zaf rfl) rfl (fun w h => za8 [] (by decide) rfl w h)
    · replace hb8 := nt_f hb8
      replace h := bb_t hb8 h
      refine zak ?_
      refine za1 ?_
      refine c_seq ?_
      refine c_seq ?_
      refine za0 ?_
      refine o_q rfl rfl (q_f F30_2 rfl) ?_
      refine o_q rfl rfl (q_ldb Y28 rfl (fun w h => h.za9 (i := 1) rfl) rfl) ?_
      refine o_q rfl rfl (q_f F30_2 rfl) ?_
      refine o_q rfl rfl (q_ldb Y28 rfl (fun w h => h.za9 (i := 0) rfl) rfl) ?_
      refine za6 h (fun b10 hx9 h => ?_) rfl
      refine o_e rfl (zaa 0 Z Try.func61 N61 rfl rfl rfl (fun w P1 hF hB hS hT => laws_eqRegOpS.calls k A0_2 c0_2 l0_2.length l0_2 A1_2 c1_2 l1_2.length l1_2 hB hF (hS _ R0_2) hc0_2 (hS _ R1_2) hc1_2 _ hx9)) (fun _ => ?_)
      refine o_q rfl rfl (q_not rfl) ?_
      refine o_end ?_
      refine za1 ?_
      refine zar _ rfl (fun hb11 => ?_) (fun hb11 => ?_)
      · replace hb11 := nt_t hb11
        replace h := bb_f hb11 h
        refine c_seq ?_
        refine za0 ?_
        refine o_q rfl rfl (q_asg rfl) ?_
        refine o_end ?_
        refine za1 ?_
        refine c_ret ?_
        refine za5 ?_
        have e0_ := Option.some.inj h; clear h
        subst e0_
        exact x_r1 () Try.results20 (zaf rfl) rfl (fun w h => za8 [] (by decide) rfl w h)
      · replace hb11 := nt_f hb11
        replace h := bb_t hb11 h
        refine zak ?_
        refine za1 ?_
        refine c_seq ?_
        refine c_seq ?_
        refine za0 ?_
        refine o_q rfl rfl (q_f F30_3 rfl) ?_
        refine o_q rfl rfl (q_ldb Y22 rfl (fun w h => h.za9 (i := 1) rfl) rfl) ?_
        refine o_q rfl rfl (q_f F30_3 rfl) ?_
        refine o_q rfl rfl (q_ldb Y22 rfl (fun w h => h.za9 (i := 0) rfl) rfl) ?_
        refine za6 h (fun b13 hx12 h => ?_) rfl
        refine o_e rfl (zaa 0 Z Try.func30 N30 rfl rfl rfl (fun w P1 hF hB hS hT => laws_eqIntS.calls k A0_3 c0_3 l0_3.length l0_3 A1_3 c1_3 l1_3.length l1_3 hB hF (hS _ R0_3) hc0_3 (hS _ R1_3) hc1_3 _ hx12)) (fun _ => ?_)
        refine o_q rfl rfl (q_not rfl) ?_
        refine o_end ?_
        refine za1 ?_
        refine zar _ rfl (fun hb14 => ?_) (fun hb14 => ?_)
        · replace hb14 := nt_t hb14
          replace h := bb_f hb14 h
          refine c_seq ?_
          refine za0 ?_
          refine o_q rfl rfl (q_asg rfl) ?_
          refine o_end ?_
          refine za1 ?_
          refine c_ret ?_
          refine za5 ?_
          have e0_ := Option.some.inj h; clear h
          subst e0_
          exact x_r1 () Try.results20 (zaf rfl) rfl (fun w h => za8 [] (by decide) rfl w h)
        · replace hb14 := nt_f hb14
          replace h := bb_t hb14 h
          refine zak ?_
          refine za1 ?_
          refine c_seq ?_
          refine za0 ?_
          refine o_q rfl rfl (q_asg rfl) ?_
          refine o_end ?_
          refine za1 ?_
          refine c_ret ?_
          have e0_ := Option.some.inj h; clear h
          subst e0_
          exact x_r1 () Try.results20 (zaf rfl) rfl (fun w h => za8 [] (by decide) rfl w h)

/-! ### loop.example/g01098/laws.markIntS: function 31 -/
def laws_markIntS.l0 (l0 : List Int) : Nat → (List Int) → Int → Int → Option ((List Int) × Int)
  | 0, _, _, _ => none
  | k6 + 1, l1, i2, i3 => if i3 < (l0.length : Int) then ((gt l1 i3).bind fun y17 => (st l1 i3 i2).bind fun l18 => laws_markIntS.l0 l0 k6 l18 (w64 (i2 + 1)) (w64 (i3 + 1))) else (some (l1, i2))
def laws_markIntS.f (k : Nat) (l0 : List Int) (a1 : Int) : Option (Int × (List Int)) := (laws_markIntS.l0 l0 k l0 a1 0).bind fun (l1, i2) => some (i2, l1)
set_option maxHeartbeats 600000 in
set_option maxRecDepth 100000 in
theorem laws_markIntS.calls (k : Nat) {w0 ws : World} {P0 : Nat → Prop} (A0 : Option Addr) (c0 : Nat) (n0 : Nat) (l0 : List Int) (a1 : Int) (Z : Below w0.heap.size w0 ws) (hF : Fr w0 ws P0 [row (Kd.int .i64) 3 (.slice A0 n0 c0) l0] ws)  (r_1 : Int) (r_2 : List Int) (h : laws_markIntS.f k l0 a1 = some (r_1, r_2)) :
    Calls Try.prog 31 #[.slice A0 n0 c0, .int .i64 a1] ws (Post1 w0 ws P0 (fun (_ : Unit) => .int .i64 r_1) (fun (_ : Unit) => [row (Kd.int .i64) 3 (.slice A0 n0 c0) r_2])) := by
  unfold laws_markIntS.f at h
  obtain rfl := (hF.row_C (i := 0) rfl).2.1
  refine enter Try.func31 rfl Try.ntmps31 rfl hF ?_
  refine c_seq ?_
  refine za0 ?_
  refine o_q rfl rfl (q_asg rfl) ?_
  refine o_end ?_
  refine za1 ?_
  refine c_seq ?_
  refine c_seq ?_
  refine za0 ?_
  refine o_q rfl rfl (q_asg rfl) ?_
  refine o_end ?_
  refine za1 ?_
  refine zaj ?_
  refine za6 h (fun o11 hl10 hR9 => ?_) rfl
  clear h
  refine zav (σ := (List Int) × Int × Int) (fun k6 ((l1, i2, i3) : (List Int) × Int × Int) => laws_markIntS.l0 l0 k6 l1 i2 i3 = some o11) [1, 5, 6, 7, 8, 9, 10, 11, 12, 13, 14, 15, 16, 17] (fun ((l1, i2, i3) : (List Int) × Int × Int) => [(1, .int .i64 i2), (5, .int .i64 i3)]) (fun ((l1, i2, i3) : (List Int) × Int × Int) => [row (Kd.int .i64) 3 (.slice A0 l0.length c0) l1]) k (l0, a1, 0) hl10 ⟨rfl, rfl, trivial⟩ (fun w h => h) ?_
  refine natC (cur3 (fun l1 i2 i3 => fun U12 hJ_ => ?_)) (fun k6 => (cur3 (fun l1 i2 i3 => fun U12 hJ_ => ?_)))
  · skip
    replace hJ_ : laws_markIntS.l0 l0 0 l1 i2 i3 = some o11 := hJ_
    rw [laws_markIntS.l0] at hJ_
    exact noneE hJ_
  · skip
    clear hl10
    have h := hJ_; clear hJ_
    replace h : laws_markIntS.l0 l0 (k6 + 1) l1 i2 i3 = some o11 := h
    rw [laws_markIntS.l0] at h
    refine c_seq ?_
    refine c_seq ?_
    refine za0 ?_
    refine o_q rfl rfl (za2 rfl) ?_
    refine o_q rfl rfl (za2 rfl) ?_
    refine o_q rfl rfl (q_len Try.underlying22 rfl) ?_
    refine o_q rfl rfl (q_lss rfl rfl) ?_
    refine o_end ?_
    refine za1 ?_
    refine zar _ rfl (fun hb14 => ?_) (fun hb14 => ?_)
    · skip
      replace h := br_t hb14 h
      refine zak ?_
      refine za1 ?_
      refine c_seq ?_
      refine zaj ?_
      refine c_seq ?_
      refine za0 ?_
      refine o_q rfl rfl (za2 rfl) ?_
      refine o_q rfl rfl (za2 rfl) ?_
      refine o_q rfl rfl (za2 rfl) ?_
      refine zau (p := Sh A0 l0.length l1.length) (fun w h => f_sh (dk := (Kd.int .i64)) h (fun w h => h.zas (i := 0) rfl)) (fun hq15 => ?_)
      refine za6 h (fun y17 hg16 h => ?_) rfl
      refine o_q rfl rfl (q_ix Try.underlying22 Z3 rfl rfl hq15 hg16) ?_
      refine za6 h (fun l18 hs19 h => ?_) rfl
      refine o_e rfl (e_set (i := 0) rfl rfl rfl Z3 hs19) (fun _ => ?_)
      refine o_end ?_
      refine za1 ?_
      refine za0 ?_
      refine o_q rfl rfl (za2 rfl) ?_
      refine o_q rfl rfl (zb0 rfl rfl) ?_
      refine o_q rfl rfl (q_asg rfl) ?_
      refine o_end ?_
      refine zaq ?_
      refine za1 ?_
      refine za0 ?_
      refine o_q rfl rfl (za2 rfl) ?_
      refine o_q rfl rfl (zb0 rfl rfl) ?_
      refine o_q rfl rfl (q_asg rfl) ?_
      refine o_end ?_
      refine zam k6 (l18, w64 (i2 + 1), w64 (i3 + 1)) (Nat.lt_succ_self _) h ⟨rfl, rfl, trivial⟩ (fun w h => za8 [0] (by decide) rfl w h) ?_
      repeat (first | exact zac _ _ | refine zah rfl ?_ | refine zad rfl ?_ | refine zai rfl ?_)
    · skip
      replace h := br_f hb14 h
      refine zb1 ?_
      refine za7 ?_
      refine za7 ?_
      have e_ := Option.some.inj h; replace h := hR9; rw [← e_] at h; clear e_
      refine x_hit ?_
      refine za1 ?_
      refine c_seq ?_
      refine za0 ?_
      refine o_q rfl rfl (za2 rfl) ?_
      refine o_q rfl rfl (q_asg rfl) ?_
      refine o_end ?_
      refine za1 ?_
      refine c_ret ?_
      have e0_ := Option.some.inj h; clear h
      have d0_ := (Prod.mk.inj e0_).1; have e1_ := (Prod.mk.inj e0_).2; clear e0_; subst d0_
      subst e1_
      exact x_r1 () Try.results31 (zaf rfl) rfl (fun w h => za8 [0] (by decide) rfl w h)

/-! ### loop.example/g01098/laws.markRegOpS: function 64 -/
def laws_markRegOpS.l0 (l0 : List SRegOp) : Nat → (List SRegOp) → Int → Int → Option ((List SRegOp) × Int)
  | 0, _, _, _ => none
  | k6 + 1, l1, i2, i3 => if i3 < (l0.length : Int) then ((gt l1 i3).bind fun y17 => (st l1 i3 (⟨i2, y17.f1, y17.f2⟩ : SRegOp)).bind fun l18 => (gt l18 i3).bind fun y22 => (st l18 i3 (⟨y22.f0, w64 (i2 + 1), y22.f2⟩ : SRegOp)).bind fun l23 => (gt l23 i3).bind fun y27 => (st l23 i3 (⟨y27.f0, y27.f1, w64 (w64 (i2 + 1) + 1)⟩ : SRegOp)).bind fun l28 => laws_markRegOpS.l0 l0 k6 l28 (w64 (w64 (w64 (i2 + 1) + 1) + 1)) (w64 (i3 + 1))) else (some (l1, i2))
def laws_markRegOpS.f (k : Nat) (l0 : List SRegOp) (a1 : Int) : Option (Int × (List SRegOp)) := (laws_markRegOpS.l0 l0 k l0 a1 0).bind fun (l1, i2) => some (i2, l1)
set_option maxHeartbeats 600000 in
set_option maxRecDepth 100000 in
theorem laws_markRegOpS.calls (k : Nat) {w0 ws : World} {P0 : Nat → Prop} (A0 : Option Addr) (c0 : Nat) (n0 : Nat) (l0 : List SRegOp) (a1 : Int) (Z : Below w0.heap.size w0 ws) (hF : Fr w0 ws P0 [row zb4 80 (.slice A0 n0 c0) l0] ws)  (r_1 : Int) (r_2 : List SRegOp) (h : laws_markRegOpS.f k l0 a1 = some (r_1, r_2)) :
    Calls Try.prog 64 #[.slice A0 n0 c0, .int .i64 a1] ws (Post1 w0 ws P0 (fun (_ : Unit) => .int .i64 r_1) (fun (_ : Unit) => [row zb4 80 (.slice A0 n0 c0) r_2])) := by
  unfold laws_markRegOpS.f at h
  obtain rfl := (hF.row_C (i := 0) rfl).2.1
  refine enter Try.func64 rfl Try.ntmps64 rfl hF ?_
  refine c_seq ?_
  refine za0 ?_
  refine o_q rfl rfl (q_asg rfl) ?_
  refine o_end ?_
  refine za1 ?_
  refine c_seq ?_
  refine c_seq ?_
  refine za0 ?_
  refine o_q rfl rfl (q_asg rfl) ?_
  refine o_end ?_
  refine za1 ?_
  refine zaj ?_
  refine za6 h (fun o11 hl10 hR9 => ?_) rfl
  clear h
  refine zav (σ := (List SRegOp) × Int × Int) (fun k6 ((l1, i2, i3) : (List SRegOp) × Int × Int) => laws_markRegOpS.l0 l0 k6 l1 i2 i3 = some o11) [1, 5, 6, 7, 8, 9, 10, 11, 12, 13, 14, 15, 16, 17, 18, 19, 20, 21, 22, 23, 24, 25, 26, 27, 28, 29, 30, 31, 32] (fun ((l1, i2, i3) : (List SRegOp) × Int × Int) => [(1, .int .i64 i2), (5, .int .i64 i3)]) (fun ((l1, i2, i3) : (List SRegOp) × Int × Int) => [row zb4 80 (.slice A0 l0.length c0) l1]) k (l0, a1, 0) hl10 ⟨rfl, rfl, trivial⟩ (fun w h => h) ?_
  refine natC (cur3 (fun l1 i2 i3 => fun U12 hJ_ => ?_)) (fun k6 => (cur3 (fun l1 i2 i3 => fun U12 hJ_ => ?_)))
  · skip
    replace hJ_ : laws_markRegOpS.l0 l0 0 l1 i2 i3 = some o11 := hJ_
    rw [laws_markRegOpS.l0] at hJ_
    exact noneE hJ_
  · skip
    clear hl10
    have h := hJ_; clear hJ_
    replace h : laws_markRegOpS.l0 l0 (k6 + 1) l1 i2 i3 = some o11 := h
    rw [laws_markRegOpS.l0] at h
    refine c_seq ?_
    refine c_seq ?_
    refine za0 ?_
    refine o_q rfl rfl (za2 rfl) ?_
    refine o_q rfl rfl (za2 rfl) ?_
    refine o_q rfl rfl (q_len Try.underlying28 rfl) ?_
    refine o_q rfl rfl (q_lss rfl rfl) ?_
    refine o_end ?_
    refine za1 ?_
    refine zar _ rfl (fun hb14 => ?_) (fun hb14 => ?_)
    · skip
      replace h := br_t hb14 h
      refine zak ?_
      refine za1 ?_
      refine c_seq ?_
      refine zaj ?_
      refine c_seq ?_
      refine za0 ?_
      refine o_q rfl rfl (za2 rfl) ?_
      refine o_q rfl rfl (za2 rfl) ?_
      refine o_q rfl rfl (za2 rfl) ?_
      refine zau (p := Sh A0 l0.length l1.length) (fun w h => f_sh (dk := zb4) h (fun w h => h.zas (i := 0) rfl)) (fun hq15 => ?_)
      refine za6 h (fun y17 hg16 h => ?_) rfl
      refine o_q rfl rfl (q_ix Try.underlying28 Z80 rfl rfl hq15 hg16) ?_
      refine o_q rfl rfl (q_fe F80_0 rfl) ?_
      refine za6 h (fun l18 hs19 h => ?_) rfl
      refine o_e rfl (e_setF (i := 0) (off := 0) (vs := [.int .i64 i2]) (q' := (⟨i2, y17.f1, y17.f2⟩ : SRegOp)) rfl rfl rfl rfl rfl rfl Z3 hg16 rfl rfl hs19) (fun _ => ?_)
      refine o_end ?_
      refine za1 ?_
      refine c_seq ?_
      refine za0 ?_
      refine o_q rfl rfl (za2 rfl) ?_
      refine o_q rfl rfl (zb0 rfl rfl) ?_
      refine o_q rfl rfl (q_asg rfl) ?_
      refine o_end ?_
      refine za1 ?_
      refine c_seq ?_
      refine za0 ?_
      refine o_q rfl rfl (za2 rfl) ?_
      refine o_q rfl rfl (za2 rfl) ?_
      refine o_q rfl rfl (za2 rfl) ?_
      refine zau (p := Sh A0 l0.length l18.length) (fun w h => f_sh (dk := zb4) h (fun w h => h.zas (i := 0) rfl)) (fun hq20 => ?_)
      refine za6 h (fun y22 hg21 h => ?_) rfl
      refine o_q rfl rfl (q_ix Try.underlying28 Z80 rfl rfl hq20 hg21) ?_
      refine o_q rfl rfl (q_fe F80_1 rfl) ?_
      refine za6 h (fun l23 hs24 h => ?_) rfl
      refine o_e rfl (e_setF (i := 0) (off := 1) (vs := [.int .i64 (w64 (i2 + 1))]) (q' := (⟨y22.f0, w64 (i2 + 1), y22.f2⟩ : SRegOp)) rfl rfl rfl rfl rfl rfl Z3 hg21 rfl rfl hs24) (fun _ => ?_)
      refine o_end ?_
      refine za1 ?_
      refine c_seq ?_
      refine za0 ?_
      refine o_q rfl rfl (za2 rfl) ?_
      refine o_q rfl rfl (zb0 rfl rfl) ?_
      refine o_q rfl rfl (q_asg rfl) ?_
      refine o_end ?_
      refine za1 ?_
      refine c_seq ?_
      refine za0 ?_
      refine o_q rfl rfl (za2 rfl) ?_
      refine o_q rfl rfl (za2 rfl) ?_
      refine o_q rfl rfl (za2 rfl) ?_
      refine zau (p := Sh A0 l0.length l23.length) (fun w h => f_sh (dk := zb4) h (fun w h => h.zas (i := 0) rfl)) (fun hq25 => ?_)
      refine za6 h (fun y27 hg26 h => ?_) rfl
      refine o_q rfl rfl (q_ix Try.underlying28 Z80 rfl rfl hq25 hg26) ?_
      refine o_q rfl rfl (q_fe F80_2 rfl) ?_
      refine za6 h (fun l28 hs29 h => ?_) rfl
      refine o_e rfl (e_setF (i := 0) (off := 2) (vs := [.int .i64 (w64 (w64 (i2 + 1) + 1))]) (q' := (⟨y27.f0, y27.f1, w64 (w64 (i2 + 1) + 1)⟩ : SRegOp)) rfl rfl rfl rfl rfl rfl Z3 hg26 rfl rfl hs29) (fun _ => ?_)
      refine o_end ?_
      refine za1 ?_
      refine za0 ?_
      refine o_q rfl rfl (za2 rfl) ?_
      refine o_q rfl rfl (zb0 rfl rfl) ?_
      refine o_q rfl rfl (q_asg rfl) ?_
      refine o_end ?_
      refine zaq ?_
      refine za1 ?_
      refine za0 ?_
      refine o_q rfl rfl (za2 rfl) ?_
      refine o_q rfl rfl (zb0 rfl rfl) ?_
      refine o_q rfl rfl (q_asg rfl) ?_
      refine o_end ?_
      refine zam k6 (l28, w64 (w64 (w64 (i2 + 1) + 1) + 1), w64 (i3 + 1)) (Nat.lt_succ_self _) h ⟨rfl, rfl, trivial⟩ (fun w h => za8 [0] (by decide) rfl w h) ?_
      repeat (first | exact zac _ _ | refine zah rfl ?_ | refine zad rfl ?_ | refine zai rfl ?_)
    · skip
      replace h := br_f hb14 h
      refine zb1 ?_
      refine za7 ?_
      refine za7 ?_
      have e_ := Option.some.inj h; replace h := hR9; rw [← e_] at h; clear e_
      refine x_hit ?_
      refine za1 ?_
      refine c_seq ?_
      refine za0 ?_
      refine o_q rfl rfl (za2 rfl) ?_
      refine o_q rfl rfl (q_asg rfl) ?_
      refine o_end ?_
      refine za1 ?_
      refine c_ret ?_
      have e0_ := Option.some.inj h; clear h
      have d0_ := (Prod.mk.inj e0_).1; have e1_ := (Prod.mk.inj e0_).2; clear e0_; subst d0_
      subst e1_
      exact x_r1 () Try.results64 (zaf rfl) rfl (fun w h => za8 [0] (by decide) rfl w h)

/-! ### loop.example/g01098/laws.markRegCode: function 24 -/
def laws_markRegCode.f (k : Nat) (a0_0 : Int) (l0_1 : List Int) (l0_2 : List SRegOp) (l0_3 : List Int) (a1 : Int) : Option (Int × (List Int) × (List SRegOp) × (List Int)) := (laws_markIntS.f k l0_1 a1).bind fun (i4, l5) => (laws_markRegOpS.f k l0_2 i4).bind fun (i7, l8) => (laws_markIntS.f k l0_3 i7).bind fun (i10, l11) => some (i10, l5, l8, l11)
set_option maxHeartbeats 600000 in
set_option maxRecDepth 100000 in
theorem laws_markRegCode.calls (k : Nat) {w0 ws : World} {P0 : Nat → Prop} (a0_0 : Int) (A0_1 : Option Addr) (c0_1 : Nat) (n0_1 : Nat) (l0_1 : List Int) (A0_2 : Option Addr) (c0_2 : Nat) (n0_2 : Nat) (l0_2 : List SRegOp) (A0_3 : Option Addr) (c0_3 : Nat) (n0_3 : Nat) (l0_3 : List Int) (a1 : Int) (Z : Below w0.heap.size w0 ws) (hF : Fr w0 ws P0 [row (Kd.int .i64) 3 (.slice A0_1 n0_1 c0_1) l0_1, row zb4 80 (.slice A0_2 n0_2 c0_2) l0_2, row (Kd.int .i64) 3 (.slice A0_3 n0_3 c0_3) l0_3] ws)  (r_1 : Int) (r_2 : List Int) (r_3 : List SRegOp) (r_4 : List Int) (h : laws_markRegCode.f k a0_0 l0_1 l0_2 l0_3 a1 = some (r_1, r_2, r_3, r_4)) :
    Calls Try.prog 24 #[.agg #[.int .i64 a0_0, .slice A0_1 n0_1 c0_1, .slice A0_2 n0_2 c0_2, .slice A0_3 n0_3 c0_3], .int .i64 a1] ws (Post1 w0 ws P0 (fun (_ : Unit) => .int .i64 r_1) (fun (_ : Unit) => [row (Kd.int .i64) 3 (.slice A0_1 n0_1 c0_1) r_2, row zb4 80 (.slice A0_2 n0_2 c0_2) r_3, row (Kd.int .i64) 3 (.slice A0_3 n0_3 c0_3) r_4])) := by
  unfold laws_markRegCode.f at h
  obtain rfl := (hF.row_C (i := 0) rfl).2.1
  obtain rfl := (hF.row_C (i := 1) rfl).2.1
  obtain rfl := (hF.row_C (i := 2) rfl).2.1
  refine enter Try.func24 rfl Try.ntmps24 rfl hF ?_
  refine c_seq ?_
  refine za0 ?_
  refine o_e rfl (e_box rfl) (fun g1 => ?_)
  refine o_q rfl rfl (q_asg rfl) ?_
  refine o_end ?_
  refine za1 ?_
  refine c_seq ?_
  refine za0 ?_
  refine o_q rfl rfl (q_f F30_1 rfl) ?_
  refine o_q rfl rfl (q_ldb Y22 rfl (fun w h => h.za9 (i := 0) rfl) rfl) ?_
  refine o_q rfl rfl (za2 rfl) ?_
  refine o_pick [1, 0, 2, 3] (by decide) rfl ?_
  refine bindE2 h (fun i4 l5 hx3 h => ?_) rfl
  refine o_e rfl (zaa 1 Z Try.func31 N31 rfl rfl rfl (fun w P1 hF hB hS hT => laws_markIntS.calls k A0_1 c0_1 l0_1.length l0_1 a1 hB hF _ _ hx3)) (fun _ => ?_)
  refine o_q rfl rfl (q_asg rfl) ?_
  refine o_end ?_
  refine za1 ?_
  refine c_seq ?_
  refine za0 ?_
  refine o_q rfl rfl (q_f F30_2 rfl) ?_
  refine o_q rfl rfl (q_ldb Y28 rfl (fun w h => h.za9 (i := 1) rfl) rfl) ?_
  refine o_q rfl rfl (za2 rfl) ?_
  refine o_pick [2, 0, 1, 3] (by decide) rfl ?_
  refine bindE2 h (fun i7 l8 hx6 h => ?_) rfl
  refine o_e rfl (zaa 1 Z Try.func64 N64 rfl rfl rfl (fun w P1 hF hB hS hT => laws_markRegOpS.calls k A0_2 c0_2 l0_2.length l0_2 i4 hB hF _ _ hx6)) (fun _ => ?_)
  refine o_q rfl rfl (q_asg rfl) ?_
  refine o_end ?_
  refine za1 ?_
  refine c_seq ?_
  refine za0 ?_
  refine o_q rfl rfl (q_f F30_3 rfl) ?_
  refine o_q rfl rfl (q_ldb Y22 rfl (fun w h => h.za9 (i := 2) rfl) rfl) ?_
  refine o_q rfl rfl (za2 rfl) ?_
  refine o_pick [3, 0, 1, 2] (by decide) rfl ?_
  refine bindE2 h (fun i10 l11 hx9 h => ?_) rfl
  refine o_e rfl (zaa 1 Z Try.func31 N31 rfl rfl rfl (fun w P1 hF hB hS hT => laws_markIntS.calls k A0_3 c0_3 l0_3.length l0_3 i7 hB hF _ _ hx9)) (fun _ => ?_)
  refine o_q rfl rfl (q_asg rfl) ?_
  refine o_end ?_
  refine za1 ?_
  refine c_seq ?_
  refine za0 ?_
  refine o_q rfl rfl (za2 rfl) ?_
  refine o_q rfl rfl (q_asg rfl) ?_
  refine o_end ?_
  refine za1 ?_
  refine c_ret ?_
  have e0_ := Option.some.inj h; clear h
  have d0_ := (Prod.mk.inj e0_).1; have e1_ := (Prod.mk.inj e0_).2; clear e0_; subst d0_
  have d1_ := (Prod.mk.inj e1_).1; have e2_ := (Prod.mk.inj e1_).2; clear e1_; subst d1_
  have d2_ := (Prod.mk.inj e2_).1; have e3_ := (Prod.mk.inj e2_).2; clear e2_; subst d2_
  subst e3_
  exact x_r1 () Try.results24 (zaf rfl) rfl (fun w h => za8 [2, 1, 0] (by decide) rfl w h)

/-! ### loop.example/g01098/laws.heldIntS: function 32 -/
def laws_heldIntS.l0 (l0 : List Int) : Nat → Int → Int → Option ((Int) ⊕ (Int))
  | 0, _, _ => none
  | k5 + 1, i1, i2 => if i2 < (l0.length : Int) then ((gt l0 i2).bind fun y16 => if y16 ≠ i1 then (some (.inl (-1))) else (laws_heldIntS.l0 l0 k5 (w64 (i1 + 1)) (w64 (i2 + 1)))) else (some (.inr i1))
def laws_heldIntS.f (k : Nat) (l0 : List Int) (a1 : Int) : Option Int := (laws_heldIntS.l0 l0 k a1 0).bind fun o_ => match o_ with | .inl r_ => some r_ | .inr i1 => some i1
set_option maxHeartbeats 600000 in
set_option maxRecDepth 100000 in
theorem laws_heldIntS.calls (k : Nat) {w0 ws : World} {P0 : Nat → Prop} (A0 : Option Addr) (c0 : Nat) (n0 : Nat) (l0 : List Int) (a1 : Int) (Z : Below w0.heap.size w0 ws) (hF : Fr w0 ws P0 [] ws) (R0 : Stable ws P0 (fun w => Kd.C (Kd.int .i64) w A0 n0 l0)) (hc0 : n0 ≤ c0) (r_1 : Int) (h : laws_heldIntS.f k l0 a1 = some r_1) :
    Calls Try.prog 32 #[.slice A0 n0 c0, .int .i64 a1] ws (Post1 w0 ws P0 (fun (_ : Unit) => .int .i64 r_1) (fun (_ : Unit) => [])) := by
  unfold laws_heldIntS.f at h
  obtain rfl := (R0 ws (KeptB.refl _ _)).1
  refine enter Try.func32 rfl Try.ntmps32 rfl hF ?_
  refine c_seq ?_
  refine za0 ?_
  refine o_q rfl rfl (q_asg rfl) ?_
  refine o_end ?_
  refine za1 ?_
  refine c_seq ?_
  refine c_seq ?_
  refine za0 ?_
  refine o_q rfl rfl (q_asg rfl) ?_
  refine o_end ?_
  refine za1 ?_
  refine zaj ?_
  refine za6 h (fun o10 hl9 hR8 => ?_) rfl
  clear h
  refine zav (σ := Int × Int) (fun k5 ((i1, i2) : Int × Int) => laws_heldIntS.l0 l0 k5 i1 i2 = some o10) [1, 4, 5, 6, 7, 8, 9, 10, 11, 12, 13, 14, 15, 16, 17, 18, 19] (fun ((i1, i2) : Int × Int) => [(1, .int .i64 i1), (5, .int .i64 i2)]) (fun ((i1, i2) : Int × Int) => []) k (a1, 0) hl9 ⟨rfl, rfl, trivial⟩ (fun w h => h) ?_
  refine natC (cur2 (fun i1 i2 => fun U11 hJ_ => ?_)) (fun k5 => (cur2 (fun i1 i2 => fun U11 hJ_ => ?_)))
  · skip
    replace hJ_ : laws_heldIntS.l0 l0 0 i1 i2 = some o10 := hJ_
    rw [laws_heldIntS.l0] at hJ_
    exact noneE hJ_
  · skip
    clear hl9
    have h := hJ_; clear hJ_
    replace h : laws_heldIntS.l0 l0 (k5 + 1) i1 i2 = some o10 := h
    rw [laws_heldIntS.l0] at h
    refine c_seq ?_
    refine c_seq ?_
    refine za0 ?_
    refine o_q rfl rfl (za2 rfl) ?_
    refine o_q rfl rfl (za2 rfl) ?_
    refine o_q rfl rfl (q_len Try.underlying22 rfl) ?_
    refine o_q rfl rfl (q_lss rfl rfl) ?_
    refine o_end ?_
    refine za1 ?_
    refine zar _ rfl (fun hb13 => ?_) (fun hb13 => ?_)
    · skip
      replace h := br_t hb13 h
      refine zak ?_
      refine za1 ?_
      refine c_seq ?_
      refine zaj ?_
      refine c_seq ?_
      refine c_seq ?_
      refine za0 ?_
      refine o_q rfl rfl (za2 rfl) ?_
      refine o_q rfl rfl (za2 rfl) ?_
      refine zau (p := Sh A0 l0.length l0.length) (fun w h => f_sh (dk := (Kd.int .i64)) h (fun w h => R0.now Z h)) (fun hq14 => ?_)
      refine za6 h (fun y16 hg15 h => ?_) rfl
      refine o_q rfl rfl (q_ix Try.underlying22 Z3 rfl rfl hq14 hg15) ?_
      refine o_q rfl rfl (q_lde (off := 0) Y3 rfl rfl (fun w h => R0.now Z h) hg15 (fun _ _ h => h) rfl) ?_
      refine o_q rfl rfl (za2 rfl) ?_
      refine o_q rfl rfl (q_neq rfl rfl) ?_
      refine o_end ?_
      refine za1 ?_
      refine zar _ rfl (fun hb17 => ?_) (fun hb17 => ?_)
      · skip
        replace h := br_t hb17 h
        refine c_seq ?_
        refine za0 ?_
        refine o_q rfl rfl (q_asg rfl) ?_
        refine o_end ?_
        refine za1 ?_
        refine c_ret ?_
        refine za5 ?_
        refine zal ?_
        refine za5 ?_
        refine za5 ?_
        have e_ := Option.some.inj h; replace h := hR8; rw [← e_] at h; clear e_
        refine zal ?_
        refine za5 ?_
        have e0_ := Option.some.inj h; clear h
        subst e0_
        exact x_r1 () Try.results32 (zaf rfl) rfl (fun w h => za8 [] (by decide) rfl w h)
      · skip
        replace h := br_f hb17 h
        refine zak ?_
        refine za1 ?_
        refine za0 ?_
        refine o_q rfl rfl (za2 rfl) ?_
        refine o_q rfl rfl (zb0 rfl rfl) ?_
        refine o_q rfl rfl (q_asg rfl) ?_
        refine o_end ?_
        refine zaq ?_
        refine za1 ?_
        refine za0 ?_
        refine o_q rfl rfl (za2 rfl) ?_
        refine o_q rfl rfl (zb0 rfl rfl) ?_
        refine o_q rfl rfl (q_asg rfl) ?_
        refine o_end ?_
        refine zam k5 (w64 (i1 + 1), w64 (i2 + 1)) (Nat.lt_succ_self _) h ⟨rfl, rfl, trivial⟩ (fun w h => za8 [] (by decide) rfl w h) ?_
        repeat (first | exact zac _ _ | refine zah rfl ?_ | refine zad rfl ?_ | refine zai rfl ?_)
    · skip
      replace h := br_f hb13 h
      refine zb1 ?_
      refine za7 ?_
      refine za7 ?_
      have e_ := Option.some.inj h; replace h := hR8; rw [← e_] at h; clear e_
      refine x_hit ?_
      refine za1 ?_
      refine c_seq ?_
      refine za0 ?_
      refine o_q rfl rfl (za2 rfl) ?_
      refine o_q rfl rfl (q_asg rfl) ?_
      refine o_end ?_
      refine za1 ?_
      refine c_ret ?_
      have e0_ := Option.some.inj h; clear h
      subst e0_
      exact x_r1 () Try.results32 (zaf rfl) rfl (fun w h => za8 [] (by decide) rfl w h)

/-! ### loop.example/g01098/laws.FnExactRunRegCode: function 5 -/
def laws_FnExactRunRegCode.f (k : Nat) (a0_0 : Int) (l0_1 : List Int) (l0_2 : List SRegOp) (l0_3 : List Int) (a1 : Int) (l2 : List Int) : Option Bool := if 1048576 < (l2.length : Int) then (some true) else ((laws_szRegCode.f a0_0 l0_1 l0_2 l0_3 1048576).bind fun i5 => if i5 < 0 then (some true) else ((laws_toRegCode.f k a0_0 l0_1 l0_2 l0_3).bind fun (l8, l9, l10) => (laws_toIntS.f k l2).bind fun l18 => (spec_RunRegCode.f k a0_0 l8 l9 l10 a1 l18).bind fun (l22, b23) => (laws_toRegCode.f k a0_0 l0_1 l0_2 l0_3).bind fun (l27, l28, l29) => (laws_toIntS.f k l2).bind fun l39 => (impl_RunRegCode.f k a0_0 l27 l28 l29 a1 l39).bind fun (l43, b44) => (laws_eqIntS.f k l43 l22).bind fun b48 => if b48 = true then (if (b44 != b23) = true then (some false) else ((laws_toRegCode.f k a0_0 l0_1 l0_2 l0_3).bind fun (l52, l53, l54) => (laws_eqRegCode.f k a0_0 l27 l28 l29 a0_0 l52 l53 l54).bind fun b62 => if b62 = true then ((laws_toIntS.f k l2).bind fun l65 => (laws_eqIntS.f k l39 l65).bind fun b69 => if b69 = true then ((laws_markRegCode.f k a0_0 l27 l28 l29 1).bind fun (i72, l73, l74, l75) => (laws_markIntS.f k l39 i72).bind fun (i77, l78) => if i77 < 0 then (some false) else ((laws_eqIntS.f k l43 l22).bind fun b81 => if b81 = true then ((laws_markIntS.f k l43 1).bind fun (i84, l85) => (laws_heldIntS.f k l85 1).bind fun i87 => if i87 < 0 then (some false) else (if i87 ≠ i84 then (some false) else ((laws_toRegCode.f k a0_0 l0_1 l0_2 l0_3).bind fun (l91, l92, l93) => (laws_toIntS.f k l2).bind fun l101 => (impl_RunRegCode.f k a0_0 l91 l92 l93 a1 l101).bind fun (l105, b106) => (laws_eqIntS.f k l105 l22).bind fun b110 => if b110 = true then (if (b106 != b23) = true then (some false) else ((laws_heldIntS.f k l85 1).bind fun i114 => if i114 < 0 then (some false) else (if i114 ≠ i84 then (some false) else (some true)))) else (some false)))) else (some false))) else (some false)) else (some false))) else (some false)))
set_option maxHeartbeats 600000 in
set_option maxRecDepth 100000 in
theorem laws_FnExactRunRegCode.calls (k : Nat) {w0 ws : World} {P0 : Nat → Prop} (a0_0 : Int) (A0_1 : Option Addr) (c0_1 : Nat) (n0_1 : Nat) (l0_1 : List Int) (A0_2 : Option Addr) (c0_2 : Nat) (n0_2 : Nat) (l0_2 : List SRegOp) (A0_3 : Option Addr) (c0_3 : Nat) (n0_3 : Nat) (l0_3 : List Int) (a1 : Int) (A2 : Option Addr) (c2 : Nat) (n2 : Nat) (l2 : List Int) (Z : Below w0.heap.size w0 ws) (hF : Fr w0 ws P0 [] ws) (R0_1 : Stable ws P0 (fun w => Kd.C (Kd.int .i64) w A0_1 n0_1 l0_1)) (hc0_1 : n0_1 ≤ c0_1) (R0_2 : Stable ws P0 (fun w => Kd.C zb4 w A0_2 n0_2 l0_2)) (hc0_2 : n0_2 ≤ c0_2) (R0_3 : Stable ws P0 (fun w => Kd.C (Kd.int .i64) w A0_3 n0_3 l0_3)) (hc0_3 : n0_3 ≤ c0_3) (R2 : Stable ws P0 (fun w => Kd.C (Kd.int .i64) w A2 n2 l2)) (hc2 : n2 ≤ c2) (r_1 : Bool) (h : laws_FnExactRunRegCode.f k a0_0 l0_1 l0_2 l0_3 a1 l2 = some r_1) :
    Calls Try.prog 5 #[.agg #[.int .i64 a0_0, .slice A0_1 n0_1 c0_1, .slice A0_2 n0_2 c0_2, .slice A0_3 n0_3 c0_3], .int .i64 a1, .slice A2 n2 c2] ws (Post1 w0 ws P0 (fun (_ : Unit) => .bool r_1) (fun (_ : Unit) => [])) := by
  unfold laws_FnExactRunRegCode.f at h
  obtain rfl := (R0_1 ws (KeptB.refl _ _)).1
  obtain rfl := (R0_2 ws (KeptB.refl _ _)).1
  obtain rfl := (R0_3 ws (KeptB.refl _ _)).1
  obtain rfl := (R2 ws (KeptB.refl _ _)).1
  refine enter Try.func5 rfl Try.ntmps5 rfl hF ?_
  refine c_seq ?_
  refine za0 ?_
  refine o_e rfl (e_box rfl) (fun g1 => ?_)
  refine o_q rfl rfl (q_asg rfl) ?_
  refine o_end ?_
  refine za1 ?_
  refine c_seq ?_
  refine c_seq ?_
  refine za0 ?_
  refine o_q rfl rfl (za2 rfl) ?_
  refine o_q rfl rfl (q_len Try.underlying22 rfl) ?_
  refine o_q rfl rfl (q_gtr rfl rfl) ?_
  refine o_end ?_
  refine za1 ?_
  refine zar _ rfl (fun hb3 => ?_) (fun hb3 => ?_)
  · skip
    replace h := br_t hb3 h
    refine c_seq ?_
    refine za0 ?_
    refine o_q rfl rfl (q_asg rfl) ?_
    refine o_end ?_
    refine za1 ?_
    refine c_ret ?_
    refine za5 ?_
    have e0_ := Option.some.inj h; clear h
    subst e0_
    exact x_r1 () Try.results5 (zaf rfl) rfl (fun w h => za8 [] (by decide) rfl w h)
  · skip
    replace h := br_f hb3 h
    refine zak ?_
    refine za1 ?_
    refine c_seq ?_
    refine za0 ?_
    refine o_q rfl rfl (q_asg rfl) ?_
    refine o_end ?_
    refine za1 ?_
    refine c_seq ?_
    refine za0 ?_
    refine o_q rfl rfl (q_ldB G25 Z25 rfl (fun w h => h.za9 (i := 0) rfl) rfl) ?_
    refine o_q rfl rfl (za2 rfl) ?_
    refine za6 h (fun i5 hx4 h => ?_) rfl
    refine o_e rfl (zaa 0 Z Try.func16 N16 rfl rfl rfl (fun w P1 hF hB hS hT => laws_szRegCode.calls a0_0 A0_1 c0_1 l0_1.length l0_1 A0_2 c0_2 l0_2.length l0_2 A0_3 c0_3 l0_3.length l0_3 1048576 hB hF (hS _ R0_1) hc0_1 (hS _ R0_2) hc0_2 (hS _ R0_3) hc0_3 _ hx4)) (fun _ => ?_)
    refine o_q rfl rfl (q_asg rfl) ?_
    refine o_end ?_
    refine za1 ?_
    refine c_seq ?_
    refine c_seq ?_
    refine za0 ?_
    refine o_q rfl rfl (za2 rfl) ?_
    refine o_q rfl rfl (q_lss rfl rfl) ?_
    refine o_end ?_
    refine za1 ?_
    refine zar _ rfl (fun hb6 => ?_) (fun hb6 => ?_)
    · skip
      replace h := br_t hb6 h
      refine c_seq ?_
      refine za0 ?_
      refine o_q rfl rfl (q_asg rfl) ?_
      refine o_end ?_
      refine za1 ?_
      refine c_ret ?_
      refine za5 ?_
      have e0_ := Option.some.inj h; clear h
      subst e0_
      exact x_r1 () Try.results5 (zaf rfl) rfl (fun w h => za8 [] (by decide) rfl w h)
    · skip
      replace h := br_f hb6 h
      refine zak ?_
      refine za1 ?_
      refine c_seq ?_
      refine za0 ?_
      refine o_q rfl rfl (q_ldB G25 Z25 rfl (fun w h => h.za9 (i := 0) rfl) rfl) ?_
      refine bindE3 h (fun l8 l9 l10 hx7 h => ?_) rfl
      refine o_e rfl (zaa 0 Z Try.func18 N18 rfl rfl rfl (fun w P1 hF hB hS hT => laws_toRegCode.calls k a0_0 A0_1 c0_1 l0_1.length l0_1 A0_2 c0_2 l0_2.length l0_2 A0_3 c0_3 l0_3.length l0_3 hB hF (hS _ R0_1) hc0_1 (hS _ R0_2) hc0_2 (hS _ R0_3) hc0_3 _ _ _ hx7)) (cur6 (fun A11 c12 A13 c14 A15 c16 => ?_))
      refine o_q rfl rfl (za2 rfl) ?_
      refine o_q rfl rfl (za2 rfl) ?_
      refine za6 h (fun l18 hx17 h => ?_) rfl
      refine o_e rfl (zaa 0 Z Try.func28 N28 rfl rfl rfl (fun w P1 hF hB hS hT => laws_toIntS.calls k A2 c2 l2.length l2 hB hF (hS _ R2) hc2 _ hx17)) (cur2 (fun A19 c20 => ?_))
      refine bindE2 h (fun l22 b23 hx21 h => ?_) rfl
      refine o_e rfl (zaa 0 Z Try.func27 N27 rfl rfl rfl (fun w P1 hF hB hS hT => spec_RunRegCode.calls k a0_0 A11 c12 l8.length l8 A13 c14 l9.length l9 A15 c16 l10.length l10 a1 A19 c20 l18.length l18 hB hF (hT 1 _ rfl).row (hT 1 _ rfl).cap (hT 2 _ rfl).row (hT 2 _ rfl).cap (hT 3 _ rfl).row (hT 3 _ rfl).cap (hT 0 _ rfl).row (hT 0 _ rfl).cap _ _ hx21)) (cur2 (fun A24 c25 => ?_))
      refine o_q rfl rfl (za2 rfl) ?_
      refine o_q rfl rfl (q_ext rfl rfl) ?_
      refine o_q rfl rfl (q_ext rfl rfl) ?_
      refine o_q rfl rfl (q_asg rfl) ?_
      refine o_q rfl rfl (q_asg rfl) ?_
      refine o_end ?_
      refine za1 ?_
      refine c_seq ?_
      refine za0 ?_
      refine o_q rfl rfl (q_ldB G25 Z25 rfl (fun w h => h.za9 (i := 5) rfl) rfl) ?_
      refine bindE3 h (fun l27 l28 l29 hx26 h => ?_) rfl
      refine o_e rfl (zaa 0 Z Try.func18 N18 rfl rfl rfl (fun w P1 hF hB hS hT => laws_toRegCode.calls k a0_0 A0_1 c0_1 l0_1.length l0_1 A0_2 c0_2 l0_2.length l0_2 A0_3 c0_3 l0_3.length l0_3 hB hF (hS _ R0_1) hc0_1 (hS _ R0_2) hc0_2 (hS _ R0_3) hc0_3 _ _ _ hx26)) (cur6 (fun A30 c31 A32 c33 A34 c35 => ?_))
      refine o_e rfl (zat V30 rfl) (fun g36 => ?_)
      refine o_e rfl (zao (i := 0) rfl rfl rfl Z30 rfl rfl) (fun _ => ?_)
      refine o_end ?_
      refine za1 ?_
      refine c_seq ?_
      refine za0 ?_
      refine o_q rfl rfl (za2 rfl) ?_
      refine za6 h (fun l39 hx38 h => ?_) rfl
      refine o_e rfl (zaa 0 Z Try.func28 N28 rfl rfl rfl (fun w P1 hF hB hS hT => laws_toIntS.calls k A2 c2 l2.length l2 hB hF (hS _ R2) hc2 _ hx38)) (cur2 (fun A40 c41 => ?_))
      refine o_q rfl rfl (q_asg rfl) ?_
      refine o_end ?_
      refine za1 ?_
      refine c_seq ?_
      refine za0 ?_
      refine o_q rfl rfl (q_ldB G30 Z30 rfl (fun w h => h.za9 (i := 1) rfl) rfl) ?_
      refine o_q rfl rfl (za2 rfl) ?_
      refine o_q rfl rfl (za2 rfl) ?_
      refine bindE2 h (fun l43 b44 hx42 h => ?_) rfl
      refine o_e rfl (zaa 0 Z Try.func29 N29 rfl rfl rfl (fun w P1 hF hB hS hT => impl_RunRegCode.calls k a0_0 A30 c31 l27.length l27 A32 c33 l28.length l28 A34 c35 l29.length l29 a1 A40 c41 l39.length l39 hB hF (hT 2 _ rfl).row (hT 2 _ rfl).cap (hT 3 _ rfl).row (hT 3 _ rfl).cap (hT 4 _ rfl).row (hT 4 _ rfl).cap (hT 0 _ rfl).row (hT 0 _ rfl).cap _ _ hx42)) (cur2 (fun A45 c46 => ?_))
      refine o_q rfl rfl (za2 rfl) ?_
      refine o_q rfl rfl (q_ext rfl rfl) ?_
      refine o_q rfl rfl (q_ext rfl rfl) ?_
      refine o_q rfl rfl (q_asg rfl) ?_
      refine o_q rfl rfl (q_asg rfl) ?_
      refine o_end ?_
      refine za1 ?_
      refine c_seq ?_
      refine c_seq ?_
      refine za0 ?_
      refine o_q rfl rfl (za2 rfl) ?_
      refine o_q rfl rfl (za2 rfl) ?_
      refine za6 h (fun b48 hx47 h => ?_) rfl
      refine o_e rfl (zaa 0 Z Try.func30 N30 rfl rfl rfl (fun w P1 hF hB hS hT => laws_eqIntS.calls k A45 c46 l43.length l43 A24 c25 l22.length l22 hB hF (hT 0 _ rfl).row (hT 0 _ rfl).cap (hT 6 _ rfl).row (hT 6 _ rfl).cap _ hx47)) (fun _ => ?_)
      refine o_q rfl rfl (q_not rfl) ?_
      refine o_q rfl rfl (za2 rfl) ?_
      refine byB b48 (fun hb49 => ?_) (fun hb49 => ?_)
      · replace h := bb_t hb49 h
        refine o_w (za4 rfl rfl rfl (congrArg (fun b => Value.bool (!(b))) hb49)) rfl (za2 rfl) ?_
        refine o_w (za4 rfl rfl rfl (congrArg (fun b => Value.bool (!(b))) hb49)) rfl (za2 rfl) ?_
        refine o_w (za4 rfl rfl rfl (congrArg (fun b => Value.bool (!(b))) hb49)) rfl (q_bneq Try.underlying4 rfl rfl) ?_
        refine o_q rfl rfl (zan false (congrArg (fun b => Value.bool (!(b))) hb49) rfl) ?_
        refine o_end ?_
        refine za1 ?_
        refine zar _ rfl (fun hb50 => ?_) (fun hb50 => ?_)
        · skip
          replace h := bb_t hb50 h
          refine c_seq ?_
          refine za0 ?_
          refine o_q rfl rfl (q_asg rfl) ?_
          refine o_end ?_
          refine za1 ?_
          refine c_ret ?_
          refine za5 ?_
          have e0_ := Option.some.inj h; clear h
          subst e0_
          exact x_r1 () Try.results5 (zaf rfl) rfl (fun w h => za8 [] (by decide) rfl w h)
        · skip
          replace h := bb_f hb50 h
          refine zak ?_
          refine za1 ?_
          refine c_seq ?_
          refine c_seq ?_
          refine a_start (ds := []) MO rfl ?_
          refine zb3 0 rfl rfl rfl (by kernel_rfl) (fun _ _ _ h => h) (fun w h => h) (q_ldB G30 Z30 rfl (fun w h => h.za9 (i := 2) rfl) rfl) ?_
          refine zb3 1 rfl rfl rfl (by kernel_rfl) (fun _ _ _ h => h) (fun w h => h) (q_ldB G25 Z25 rfl (fun w h => h.za9 (i := 11) rfl) rfl) ?_
          refine bindE3 h (fun l52 l53 l54 hx51 h => ?_) rfl
          refine a_one 2 rfl rfl (by kernel_rfl) rfl (zaa 0 Z Try.func18 N18 rfl rfl rfl (fun w P1 hF hB hS hT => laws_toRegCode.calls k a0_0 A0_1 c0_1 l0_1.length l0_1 A0_2 c0_2 l0_2.length l0_2 A0_3 c0_3 l0_3.length l0_3 hB hF (hS _ R0_1) hc0_1 (hS _ R0_2) hc0_2 (hS _ R0_3) hc0_3 _ _ _ hx51)) (fun s w h => zab [some 3, some 4, some 5, some 6, some 7, some 8, some 9, some 10, some 11, some 12, some 13, some 14] (by decide) w h rfl) (cur6 (fun A55 c56 A57 c58 A59 c60 => ?_))
          refine za6 h (fun b62 hx61 h => ?_) rfl
          refine a_one 3 rfl rfl (by kernel_rfl) rfl (zaa 0 Z Try.func20 N20 rfl rfl rfl (fun w P1 hF hB hS hT => laws_eqRegCode.calls k a0_0 A30 c31 l27.length l27 A32 c33 l28.length l28 A34 c35 l29.length l29 a0_0 A55 c56 l52.length l52 A57 c58 l53.length l53 A59 c60 l54.length l54 hB hF (hT 6 _ rfl).row (hT 6 _ rfl).cap (hT 7 _ rfl).row (hT 7 _ rfl).cap (hT 8 _ rfl).row (hT 8 _ rfl).cap (hT 0 _ rfl).row (hT 0 _ rfl).cap (hT 1 _ rfl).row (hT 1 _ rfl).cap (hT 2 _ rfl).row (hT 2 _ rfl).cap _ hx61)) (fun s w h => zab [some 3, some 4, some 5, some 6, some 7, some 8, some 9, some 10, some 11, some 12, some 13, some 14] (by decide) w h rfl) (fun _ => ?_)
          refine zae 4 rfl rfl rfl (by kernel_rfl) (fun _ _ _ h => h) (q_not rfl) ?_
          refine zb5 (by kernel_rfl) ?_
          refine za1 ?_
          refine zar _ rfl (fun hb63 => ?_) (fun hb63 => ?_)
          · replace hb63 := nt_t hb63
            replace h := bb_f hb63 h
            refine c_seq ?_
            refine za0 ?_
            refine o_q rfl rfl (q_asg rfl) ?_
            refine o_end ?_
            refine za1 ?_
            refine c_ret ?_
            refine za5 ?_
            have e0_ := Option.some.inj h; clear h
            subst e0_
            exact x_r1 () Try.results5 (zaf rfl) rfl (fun w h => za8 [] (by decide) rfl w h)
          · replace hb63 := nt_f hb63
            replace h := bb_t hb63 h
            refine zak ?_
            refine za1 ?_
            refine c_seq ?_
            refine c_seq ?_
            refine za0 ?_
            refine o_q rfl rfl (za2 rfl) ?_
            refine o_q rfl rfl (za2 rfl) ?_
            refine za6 h (fun l65 hx64 h => ?_) rfl
            refine o_e rfl (zaa 0 Z Try.func28 N28 rfl rfl rfl (fun w P1 hF hB hS hT => laws_toIntS.calls k A2 c2 l2.length l2 hB hF (hS _ R2) hc2 _ hx64)) (cur2 (fun A66 c67 => ?_))
            refine za6 h (fun b69 hx68 h => ?_) rfl
            refine o_e rfl (zaa 0 Z Try.func30 N30 rfl rfl rfl (fun w P1 hF hB hS hT => laws_eqIntS.calls k A40 c41 l39.length l39 A66 c67 l65.length l65 hB hF (hT 5 _ rfl).row (hT 5 _ rfl).cap (hT 0 _ rfl).row (hT 0 _ rfl).cap _ hx68)) (fun _ => ?_)
            refine o_q rfl rfl (q_not rfl) ?_
            refine o_end ?_
            refine za1 ?_
            refine zar _ rfl (fun hb70 => ?_) (fun hb70 => ?_)
            · replace hb70 := nt_t hb70
              replace h := bb_f hb70 h
              refine c_seq ?_
              refine za0 ?_
              refine o_q rfl rfl (q_asg rfl) ?_
              refine o_end ?_
              refine za1 ?_
              refine c_ret ?_
              refine za5 ?_
              have e0_ := Option.some.inj h; clear h
              subst e0_
              exact x_r1 () Try.results5 (zaf rfl) rfl (fun w h => za8 [] (by decide) rfl w h)
            · replace hb70 := nt_f hb70
              replace h := bb_t hb70 h
              refine zak ?_
              refine za1 ?_
              refine c_seq ?_
              refine za0 ?_
              refine o_q rfl rfl (q_asg rfl) ?_
              refine o_end ?_
              refine za1 ?_
              refine c_seq ?_
              refine za0 ?_
              refine o_q rfl rfl (q_ldB G30 Z30 rfl (fun w h => h.za9 (i := 6) rfl) rfl) ?_
              refine o_q rfl rfl (za2 rfl) ?_
              refine o_pick [7, 8, 9, 0, 1, 2, 3, 4, 5, 6, 10, 11, 12, 13, 14, 15] (by decide) rfl ?_
              refine bindE4 h (fun i72 l73 l74 l75 hx71 h => ?_) rfl
              refine o_e rfl (zaa 3 Z Try.func24 N24 rfl rfl rfl (fun w P1 hF hB hS hT => laws_markRegCode.calls k a0_0 A30 c31 l27.length l27 A32 c33 l28.length l28 A34 c35 l29.length l29 1 hB hF _ _ _ _ hx71)) (fun _ => ?_)
              refine o_q rfl rfl (q_asg rfl) ?_
              refine o_end ?_
              refine za1 ?_
              refine c_seq ?_
              refine za0 ?_
              refine o_q rfl rfl (za2 rfl) ?_
              refine o_q rfl rfl (za2 rfl) ?_
              refine o_pick [8, 0, 1, 2, 3, 4, 5, 6, 7, 9, 10, 11, 12, 13, 14, 15] (by decide) rfl ?_
              refine bindE2 h (fun i77 l78 hx76 h => ?_) rfl
              refine o_e rfl (zaa 1 Z Try.func31 N31 rfl rfl rfl (fun w P1 hF hB hS hT => laws_markIntS.calls k A40 c41 l39.length l39 i72 hB hF _ _ hx76)) (fun _ => ?_)
              refine o_q rfl rfl (q_asg rfl) ?_
              refine o_end ?_
              refine za1 ?_
              refine c_seq ?_
              refine c_seq ?_
              refine za0 ?_
              refine o_q rfl rfl (za2 rfl) ?_
              refine o_q rfl rfl (q_lss rfl rfl) ?_
              refine o_q rfl rfl (za2 rfl) ?_
              refine byB (decide (i77 < 0)) (fun hb79 => ?_) (fun hb79 => ?_)
              · replace h := br_t hb79 h
                refine @o_n _ _ _ _ _ _ _ _ _ _ _ 75 (za3 rfl rfl rfl (congrArg Value.bool hb79) rfl) (Eq.refl (some 75)) ?_
                refine @o_n _ _ _ _ _ _ _ _ _ _ _ 76 (za3 rfl rfl rfl (congrArg Value.bool hb79) rfl) (Eq.refl (some 76)) ?_
                refine @o_n _ _ _ _ _ _ _ _ _ _ _ 77 (za3 rfl rfl rfl (congrArg Value.bool hb79) rfl) (Eq.refl (some 77)) ?_
                refine @o_n _ _ _ _ _ _ _ _ _ _ _ 78 (za3 rfl rfl rfl (congrArg Value.bool hb79) rfl) (Eq.refl (some 78)) ?_
                refine o_q rfl rfl (zan true (congrArg Value.bool hb79) rfl) ?_
                refine o_q rfl rfl (za2 rfl) ?_
                refine @o_n _ _ _ _ _ _ _ _ _ _ _ 81 (za3 rfl rfl rfl rfl rfl) (Eq.refl (some 81)) ?_
                refine @o_n _ _ _ _ _ _ _ _ _ _ _ 82 (za3 rfl rfl rfl rfl rfl) (Eq.refl (some 82)) ?_
                refine @o_n _ _ _ _ _ _ _ _ _ _ _ 83 (za3 rfl rfl rfl rfl rfl) (Eq.refl (some 83)) ?_
                refine o_q rfl rfl (zan true rfl rfl) ?_
                refine o_end ?_
                refine za1 ?_
                refine zay rfl ?_
                refine c_seq ?_
                refine za0 ?_
                refine o_q rfl rfl (q_asg rfl) ?_
                refine o_end ?_
                refine za1 ?_
                refine c_ret ?_
                refine za5 ?_
                have e0_ := Option.some.inj h; clear h
                subst e0_
                exact x_r1 () Try.results5 (zaf rfl) rfl (fun w h => za8 [] (by decide) rfl w h)
              · replace h := br_f hb79 h
                refine o_w (za4 rfl rfl rfl (congrArg Value.bool hb79)) rfl (za2 rfl) ?_
                refine o_w (za4 rfl rfl rfl (congrArg Value.bool hb79)) rfl (za2 rfl) ?_
                refine za6 h (fun b81 hx80 h => ?_) rfl
                refine o_ew (za4 rfl rfl rfl (congrArg Value.bool hb79)) (zaa 0 Z Try.func30 N30 rfl rfl rfl (fun w P1 hF hB hS hT => laws_eqIntS.calls k A45 c46 l43.length l43 A24 c25 l22.length l22 hB hF (hT 8 _ rfl).row (hT 8 _ rfl).cap (hT 10 _ rfl).row (hT 10 _ rfl).cap _ hx80)) (fun _ => ?_)
                refine o_w (za4 rfl rfl rfl (congrArg Value.bool hb79)) rfl (q_not rfl) ?_
                refine o_q rfl rfl (zan false (congrArg Value.bool hb79) rfl) ?_
                refine o_q rfl rfl (za2 rfl) ?_
                refine byB b81 (fun hb82 => ?_) (fun hb82 => ?_)
                · replace h := bb_t hb82 h
                  refine o_w (za4 rfl rfl rfl (congrArg (fun b => Value.bool (!(b))) hb82)) rfl (za2 rfl) ?_
                  refine o_w (za4 rfl rfl rfl (congrArg (fun b => Value.bool (!(b))) hb82)) rfl (za2 rfl) ?_
                  refine o_w (za4 rfl rfl rfl (congrArg (fun b => Value.bool (!(b))) hb82)) rfl (q_bneq Try.underlying4 rfl rfl) ?_
                  refine o_q rfl rfl (zan false (congrArg (fun b => Value.bool (!(b))) hb82) rfl) ?_
                  refine o_end ?_
                  refine za1 ?_
                  refine zaz (congrArg Value.bool hb50) ?_
                  refine zak ?_
                  refine za1 ?_
                  refine c_seq ?_
                  refine za0 ?_
                  refine o_q rfl rfl (q_asg rfl) ?_
                  refine o_end ?_
                  refine za1 ?_
                  refine c_seq ?_
                  refine za0 ?_
                  refine o_q rfl rfl (za2 rfl) ?_
                  refine o_q rfl rfl (za2 rfl) ?_
                  refine o_pick [8, 0, 1, 2, 3, 4, 5, 6, 7, 9, 10, 11, 12, 13, 14, 15] (by decide) rfl ?_
                  refine bindE2 h (fun i84 l85 hx83 h => ?_) rfl
                  refine o_e rfl (zaa 1 Z Try.func31 N31 rfl rfl rfl (fun w P1 hF hB hS hT => laws_markIntS.calls k A45 c46 l43.length l43 1 hB hF _ _ hx83)) (fun _ => ?_)
                  refine o_q rfl rfl (q_asg rfl) ?_
                  refine o_end ?_
                  refine za1 ?_
                  refine c_seq ?_
                  refine za0 ?_
                  refine o_q rfl rfl (q_asg rfl) ?_
                  refine o_end ?_
                  refine za1 ?_
                  refine c_seq ?_
                  refine za0 ?_
                  refine o_q rfl rfl (za2 rfl) ?_
                  refine o_q rfl rfl (za2 rfl) ?_
                  refine za6 h (fun i87 hx86 h => ?_) rfl
                  refine o_e rfl (zaa 0 Z Try.func32 N32 rfl rfl rfl (fun w P1 hF hB hS hT => laws_heldIntS.calls k A45 c46 l43.length l85 1 hB hF (hT 0 _ rfl).row (hT 0 _ rfl).cap _ hx86)) (fun _ => ?_)
                  refine o_q rfl rfl (q_asg rfl) ?_
                  refine o_end ?_
                  refine za1 ?_
                  refine c_seq ?_
                  refine c_seq ?_
                  refine za0 ?_
                  refine o_q rfl rfl (za2 rfl) ?_
                  refine o_q rfl rfl (q_lss rfl rfl) ?_
                  refine o_end ?_
                  refine za1 ?_
                  refine zar _ rfl (fun hb88 => ?_) (fun hb88 => ?_)
                  · skip
                    replace h := br_t hb88 h
                    refine c_seq ?_
                    refine za0 ?_
                    refine o_q rfl rfl (q_asg rfl) ?_
                    refine o_end ?_
                    refine za1 ?_
                    refine c_ret ?_
                    refine za5 ?_
                    have e0_ := Option.some.inj h; clear h
                    subst e0_
                    exact x_r1 () Try.results5 (zaf rfl) rfl (fun w h => za8 [] (by decide) rfl w h)
                  · skip
                    replace h := br_f hb88 h
                    refine zak ?_
                    refine za1 ?_
                    refine c_seq ?_
                    refine c_seq ?_
                    refine za0 ?_
                    refine o_q rfl rfl (za2 rfl) ?_
                    refine o_q rfl rfl (za2 rfl) ?_
                    refine o_q rfl rfl (q_neq rfl rfl) ?_
                    refine o_end ?_
                    refine za1 ?_
                    refine zar _ rfl (fun hb89 => ?_) (fun hb89 => ?_)
                    · skip
                      replace h := br_t hb89 h
                      refine c_seq ?_
                      refine za0 ?_
                      refine o_q rfl rfl (q_asg rfl) ?_
                      refine o_end ?_
                      refine za1 ?_
                      refine c_ret ?_
                      refine za5 ?_
                      have e0_ := Option.some.inj h; clear h
                      subst e0_
                      exact x_r1 () Try.results5 (zaf rfl) rfl (fun w h => za8 [] (by decide) rfl w h)
                    · skip
                      replace h := br_f hb89 h
                      refine zak ?_
                      refine za1 ?_
                      refine c_seq ?_
                      refine za0 ?_
                      refine o_q rfl rfl (q_ldB G25 Z25 rfl (fun w h => h.za9 (i := 15) rfl) rfl) ?_
                      refine bindE3 h (fun l91 l92 l93 hx90 h => ?_) rfl
                      refine o_e rfl (zaa 0 Z Try.func18 N18 rfl rfl rfl (fun w P1 hF hB hS hT => laws_toRegCode.calls k a0_0 A0_1 c0_1 l0_1.length l0_1 A0_2 c0_2 l0_2.length l0_2 A0_3 c0_3 l0_3.length l0_3 hB hF (hS _ R0_1) hc0_1 (hS _ R0_2) hc0_2 (hS _ R0_3) hc0_3 _ _ _ hx90)) (cur6 (fun A94 c95 A96 c97 A98 c99 => ?_))
                      refine o_q rfl rfl (za2 rfl) ?_
                      refine o_q rfl rfl (za2 rfl) ?_
                      refine za6 h (fun l101 hx100 h => ?_) rfl
                      refine o_e rfl (zaa 0 Z Try.func28 N28 rfl rfl rfl (fun w P1 hF hB hS hT => laws_toIntS.calls k A2 c2 l2.length l2 hB hF (hS _ R2) hc2 _ hx100)) (cur2 (fun A102 c103 => ?_))
                      refine bindE2 h (fun l105 b106 hx104 h => ?_) rfl
                      refine o_e rfl (zaa 0 Z Try.func29 N29 rfl rfl rfl (fun w P1 hF hB hS hT => impl_RunRegCode.calls k a0_0 A94 c95 l91.length l91 A96 c97 l92.length l92 A98 c99 l93.length l93 a1 A102 c103 l101.length l101 hB hF (hT 1 _ rfl).row (hT 1 _ rfl).cap (hT 2 _ rfl).row (hT 2 _ rfl).cap (hT 3 _ rfl).row (hT 3 _ rfl).cap (hT 0 _ rfl).row (hT 0 _ rfl).cap _ _ hx104)) (cur2 (fun A107 c108 => ?_))
                      refine o_q rfl rfl (za2 rfl) ?_
                      refine o_q rfl rfl (q_ext rfl rfl) ?_
                      refine o_q rfl rfl (q_ext rfl rfl) ?_
                      refine o_q rfl rfl (q_asg rfl) ?_
                      refine o_q rfl rfl (q_asg rfl) ?_
                      refine o_end ?_
                      refine za1 ?_
                      refine c_seq ?_
                      refine c_seq ?_
                      refine za0 ?_
                      refine o_q rfl rfl (za2 rfl) ?_
                      refine o_q rfl rfl (za2 rfl) ?_
                      refine za6 h (fun b110 hx109 h => ?_) rfl
                      refine o_e rfl (zaa 0 Z Try.func30 N30 rfl rfl rfl (fun w P1 hF hB hS hT => laws_eqIntS.calls k A107 c108 l105.length l105 A24 c25 l22.length l22 hB hF (hT 0 _ rfl).row (hT 0 _ rfl).cap (hT 15 _ rfl).row (hT 15 _ rfl).cap _ hx109)) (fun _ => ?_)
                      refine o_q rfl rfl (q_not rfl) ?_
                      refine o_q rfl rfl (za2 rfl) ?_
                      refine byB b110 (fun hb111 => ?_) (fun hb111 => ?_)
                      · replace h := bb_t hb111 h
                        refine o_w (za4 rfl rfl rfl (congrArg (fun b => Value.bool (!(b))) hb111)) rfl (za2 rfl) ?_
                        refine o_w (za4 rfl rfl rfl (congrArg (fun b => Value.bool (!(b))) hb111)) rfl (za2 rfl) ?_
                        refine o_w (za4 rfl rfl rfl (congrArg (fun b => Value.bool (!(b))) hb111)) rfl (q_bneq Try.underlying4 rfl rfl) ?_
                        refine o_q rfl rfl (zan false (congrArg (fun b => Value.bool (!(b))) hb111) rfl) ?_
                        refine o_end ?_
                        refine za1 ?_
                        refine zar _ rfl (fun hb112 => ?_) (fun hb112 => ?_)
                        · skip
                          replace h := bb_t hb112 h
                          refine c_seq ?_
                          refine za0 ?_
                          refine o_q rfl rfl (q_asg rfl) ?_
                          refine o_end ?_
                          refine za1 ?_
                          refine c_ret ?_
                          refine za5 ?_
                          have e0_ := Option.some.inj h; clear h
                          subst e0_
                          exact x_r1 () Try.results5 (zaf rfl) rfl (fun w h => za8 [] (by decide) rfl w h)
                        · skip
                          replace h := bb_f hb112 h
                          refine zak ?_
                          refine za1 ?_
                          refine c_seq ?_
                          refine za0 ?_
                          refine o_q rfl rfl (q_asg rfl) ?_
                          refine o_end ?_
                          refine za1 ?_
                          refine c_seq ?_
                          refine za0 ?_
                          refine o_q rfl rfl (za2 rfl) ?_
                          refine o_q rfl rfl (za2 rfl) ?_
                          refine za6 h (fun i114 hx113 h => ?_) rfl
                          refine o_e rfl (zaa 0 Z Try.func32 N32 rfl rfl rfl (fun w P1 hF hB hS hT => laws_heldIntS.calls k A45 c46 l43.length l85 1 hB hF (hT 5 _ rfl).row (hT 5 _ rfl).cap _ hx113)) (fun _ => ?_)
                          refine o_q rfl rfl (q_asg rfl) ?_
                          refine o_end ?_
                          refine za1 ?_
                          refine c_seq ?_
                          refine c_seq ?_
                          refine za0 ?_
                          refine o_q rfl rfl (za2 rfl) ?_
                          refine o_q rfl rfl (q_lss rfl rfl) ?_
                          refine o_end ?_
                          refine za1 ?_
                          refine zar _ rfl (fun hb115 => ?_) (fun hb115 => ?_)
                          · skip
                            replace h := br_t hb115 h
                            refine c_seq ?_
                            refine za0 ?_
                            refine o_q rfl rfl (q_asg rfl) ?_
                            refine o_end ?_
                            refine za1 ?_
                            refine c_ret ?_
                            refine za5 ?_
                            have e0_ := Option.some.inj h; clear h
                            subst e0_
                            exact x_r1 () Try.results5 (zaf rfl) rfl (fun w h => za8 [] (by decide) rfl w h)
                          · skip
                            replace h := br_f hb115 h
                            refine zak ?_
                            refine za1 ?_
                            refine c_seq ?_
                            refine c_seq ?_
                            refine za0 ?_
                            refine o_q rfl rfl (za2 rfl) ?_
                            refine o_q rfl rfl (za2 rfl) ?_
                            refine o_q rfl rfl (q_neq rfl rfl) ?_
                            refine o_end ?_
                            refine za1 ?_
                            refine zar _ rfl (fun hb116 => ?_) (fun hb116 => ?_)
                            · skip
                              replace h := br_t hb116 h
                              refine c_seq ?_
                              refine za0 ?_
                              refine o_q rfl rfl (q_asg rfl) ?_
                              refine o_end ?_
                              refine za1 ?_
                              refine c_ret ?_
                              refine za5 ?_
                              have e0_ := Option.some.inj h; clear h
                              subst e0_
                              exact x_r1 () Try.results5 (zaf rfl) rfl (fun w h => za8 [] (by decide) rfl w h)
                            · skip
                              replace h := br_f hb116 h
                              refine zak ?_
                              refine za1 ?_
                              refine c_seq ?_
                              refine za0 ?_
                              refine o_q rfl rfl (q_asg rfl) ?_
                              refine o_end ?_
                              refine za1 ?_
                              refine c_ret ?_
                              have e0_ := Option.some.inj h; clear h
                              subst e0_
                              exact x_r1 () Try.results5 (zaf rfl) rfl (fun w h => za8 [] (by decide) rfl w h)
                      · replace h := bb_f hb111 h
                        refine @o_n _ _ _ _ _ _ _ _ _ _ _ 110 (za3 rfl rfl rfl (congrArg (fun b => Value.bool (!(b))) hb111) rfl) (Eq.refl (some 110)) ?_
                        refine @o_n _ _ _ _ _ _ _ _ _ _ _ 111 (za3 rfl rfl rfl (congrArg (fun b => Value.bool (!(b))) hb111) rfl) (Eq.refl (some 111)) ?_
                        refine @o_n _ _ _ _ _ _ _ _ _ _ _ 112 (za3 rfl rfl rfl (congrArg (fun b => Value.bool (!(b))) hb111) rfl) (Eq.refl (some 112)) ?_
                        refine o_q rfl rfl (zan true (congrArg (fun b => Value.bool (!(b))) hb111) rfl) ?_
                        refine o_end ?_
                        refine za1 ?_
                        refine zay rfl ?_
                        refine c_seq ?_
                        refine za0 ?_
                        refine o_q rfl rfl (q_asg rfl) ?_
                        refine o_end ?_
                        refine za1 ?_
                        refine c_ret ?_
                        refine za5 ?_
                        have e0_ := Option.some.inj h; clear h
                        subst e0_
                        exact x_r1 () Try.results5 (zaf rfl) rfl (fun w h => za8 [] (by decide) rfl w h)
                · replace h := bb_f hb82 h
                  refine @o_n _ _ _ _ _ _ _ _ _ _ _ 81 (za3 rfl rfl rfl (congrArg (fun b => Value.bool (!(b))) hb82) rfl) (Eq.refl (some 81)) ?_
                  refine @o_n _ _ _ _ _ _ _ _ _ _ _ 82 (za3 rfl rfl rfl (congrArg (fun b => Value.bool (!(b))) hb82) rfl) (Eq.refl (some 82)) ?_
                  refine @o_n _ _ _ _ _ _ _ _ _ _ _ 83 (za3 rfl rfl rfl (congrArg (fun b => Value.bool (!(b))) hb82) rfl) (Eq.refl (some 83)) ?_
                  refine o_q rfl rfl (zan true (congrArg (fun b => Value.bool (!(b))) hb82) rfl) ?_
                  refine o_end ?_
                  refine za1 ?_
                  refine zay rfl ?_
                  refine c_seq ?_
                  refine za0 ?_
                  refine o_q rfl rfl (q_asg rfl) ?_
                  refine o_end ?_
                  refine za1 ?_
                  refine c_ret ?_
                  refine za5 ?_
                  have e0_ := Option.some.inj h; clear h
                  subst e0_
                  exact x_r1 () Try.results5 (zaf rfl) rfl (fun w h => za8 [] (by decide) rfl w h)
      · replace h := bb_f hb49 h
        refine @o_n _ _ _ _ _ _ _ _ _ _ _ 52 (za3 rfl rfl rfl (congrArg (fun b => Value.bool (!(b))) hb49) rfl) (Eq.refl (some 52)) ?_
        refine @o_n _ _ _ _ _ _ _ _ _ _ _ 53 (za3 rfl rfl rfl (congrArg (fun b => Value.bool (!(b))) hb49) rfl) (Eq.refl (some 53)) ?_
        refine @o_n _ _ _ _ _ _ _ _ _ _ _ 54 (za3 rfl rfl rfl (congrArg (fun b => Value.bool (!(b))) hb49) rfl) (Eq.refl (some 54)) ?_
        refine o_q rfl rfl (zan true (congrArg (fun b => Value.bool (!(b))) hb49) rfl) ?_
        refine o_end ?_
        refine za1 ?_
        refine zay rfl ?_
        refine c_seq ?_
        refine za0 ?_
        refine o_q rfl rfl (q_asg rfl) ?_
        refine o_end ?_
        refine za1 ?_
        refine c_ret ?_
        refine za5 ?_
        have e0_ := Option.some.inj h; clear h
        subst e0_
        exact x_r1 () Try.results5 (zaf rfl) rfl (fun w h => za8 [] (by decide) rfl w h)

/-! ### loop.example/g01098/laws.szStepS: function 71 -/
def laws_szStepS.f (l0 : List SStep) (a1 : Int) : Option Int := if w64 (a1 - (l0.length : Int)) < 0 then (some (-1)) else (some (w64 (a1 - (l0.length : Int))))
set_option maxHeartbeats 600000 in
set_option maxRecDepth 100000 in
theorem laws_szStepS.calls {w0 ws : World} {P0 : Nat → Prop} (A0 : Option Addr) (c0 : Nat) (n0 : Nat) (l0 : List SStep) (a1 : Int) (Z : Below w0.heap.size w0 ws) (hF : Fr w0 ws P0 [] ws) (R0 : Stable ws P0 (fun w => Kd.C kStep w A0 n0 l0)) (hc0 : n0 ≤ c0) (r_1 : Int) (h : laws_szStepS.f l0 a1 = some r_1) :
    Calls Try.prog 71 #[.slice A0 n0 c0, .int .i64 a1] ws (Post1 w0 ws P0 (fun (_ : Unit) => .int .i64 r_1) (fun (_ : Unit) => [])) := by
  unfold laws_szStepS.f at h
  obtain rfl := (R0 ws (KeptB.refl _ _)).1
  refine enter Try.func71 rfl Try.ntmps71 rfl hF ?_
  refine c_seq ?_
  refine za0 ?_
  refine o_q rfl rfl (q_asg rfl) ?_
  refine o_end ?_
  refine za1 ?_
  refine c_seq ?_
  refine za0 ?_
  refine o_q rfl rfl (za2 rfl) ?_
  refine o_q rfl rfl (za2 rfl) ?_
  refine o_q rfl rfl (q_len Try.underlying48 rfl) ?_
  refine o_q rfl rfl (q_sub64 rfl rfl) ?_
  refine o_q rfl rfl (q_asg rfl) ?_
  refine o_end ?_
  refine za1 ?_
  refine c_seq ?_
  refine c_seq ?_
  refine za0 ?_
  refine o_q rfl rfl (za2 rfl) ?_
  refine o_q rfl rfl (q_lss rfl rfl) ?_
  refine o_end ?_
  refine za1 ?_
  refine zar _ rfl (fun hb1 => ?_) (fun hb1 => ?_)
  · skip
    replace h := br_t hb1 h
    refine c_seq ?_
    refine za0 ?_
    refine o_q rfl rfl (q_asg rfl) ?_
    refine o_end ?_
    refine za1 ?_
    refine c_ret ?_
    refine za5 ?_
    have e0_ := Option.some.inj h; clear h
    subst e0_
    exact x_r1 () Try.results71 (zaf rfl) rfl (fun w h => za8 [] (by decide) rfl w h)
  · skip
    replace h := br_f hb1 h
    refine zak ?_
    refine za1 ?_
    refine c_seq ?_
    refine za0 ?_
    refine o_q rfl rfl (za2 rfl) ?_
    refine o_q rfl rfl (q_asg rfl) ?_
    refine o_end ?_
    refine za1 ?_
    refine c_ret ?_
    have e0_ := Option.some.inj h; clear h
    subst e0_
    exact x_r1 () Try.results71 (zaf rfl) rfl (fun w h => za8 [] (by decide) rfl w h)

/-! ### loop.example/g01098/laws.szPlan: function 33 -/
def laws_szPlan.f (a0_0 : Int) (l0_1 : List SStep) (l0_2 : List Int) (a1 : Int) : Option Int := (laws_szStepS.f l0_1 a1).bind fun i4 => if i4 < 0 then (some (-1)) else ((laws_szIntS.f l0_2 i4).bind fun i7 => if i7 < 0 then (some (-1)) else (some i7))
set_option maxHeartbeats 600000 in
set_option maxRecDepth 100000 in
theorem laws_szPlan.calls {w0 ws : World} {P0 : Nat → Prop} (a0_0 : Int) (A0_1 : Option Addr) (c0_1 : Nat) (n0_1 : Nat) (l0_1 : List SStep) (A0_2 : Option Addr) (c0_2 : Nat) (n0_2 : Nat) (l0_2 : List Int) (a1 : Int) (Z : Below w0.heap.size w0 ws) (hF : Fr w0 ws P0 [] ws) (R0_1 : Stable ws P0 (fun w => Kd.C kStep w A0_1 n0_1 l0_1)) (hc0_1 : n0_1 ≤ c0_1) (R0_2 : Stable ws P0 (fun w => Kd.C (Kd.int .i64) w A0_2 n0_2 l0_2)) (hc0_2 : n0_2 ≤ c0_2) (r_1 : Int) (h : laws_szPlan.f a0_0 l0_1 l0_2 a1 = some r_1) :
    Calls Try.prog 33 #[.agg #[.int .i64 a0_0, .slice A0_1 n0_1 c0_1, .slice A0_2 n0_2 c0_2], .int .i64 a1] ws (Post1 w0 ws P0 (fun (_ : Unit) => .int .i64 r_1) (fun (_ : Unit) => [])) := by
  unfold laws_szPlan.f at h
  obtain rfl := (R0_1 ws (KeptB.refl _ _)).1
  obtain rfl := (R0_2 ws (KeptB.refl _ _)).1
  refine enter Try.func33 rfl Try.ntmps33 rfl hF ?_
  refine c_seq ?_
  refine za0 ?_
  refine o_e rfl (e_box rfl) (fun g1 => ?_)
  refine o_q rfl rfl (q_asg rfl) ?_
  refine o_end ?_
  refine za1 ?_
  refine c_seq ?_
  refine za0 ?_
  refine o_q rfl rfl (q_f F50_1 rfl) ?_
  refine o_q rfl rfl (q_ldb Y48 rfl (fun w h => h.za9 (i := 0) rfl) rfl) ?_
  refine o_q rfl rfl (za2 rfl) ?_
  refine za6 h (fun i4 hx3 h => ?_) rfl
  refine o_e rfl (zaa 0 Z Try.func71 N71 rfl rfl rfl (fun w P1 hF hB hS hT => laws_szStepS.calls A0_1 c0_1 l0_1.length l0_1 a1 hB hF (hS _ R0_1) hc0_1 _ hx3)) (fun _ => ?_)
  refine o_q rfl rfl (q_asg rfl) ?_
  refine o_end ?_
  refine za1 ?_
  refine c_seq ?_
  refine c_seq ?_
  refine za0 ?_
  refine o_q rfl rfl (za2 rfl) ?_
  refine o_q rfl rfl (q_lss rfl rfl) ?_
  refine o_end ?_
  refine za1 ?_
  refine zar _ rfl (fun hb5 => ?_) (fun hb5 => ?_)
  · skip
    replace h := br_t hb5 h
    refine c_seq ?_
    refine za0 ?_
    refine o_q rfl rfl (q_asg rfl) ?_
    refine o_end ?_
    refine za1 ?_
    refine c_ret ?_
    refine za5 ?_
    have e0_ := Option.some.inj h; clear h
    subst e0_
    exact x_r1 () Try.results33 (zaf rfl) rfl (fun w h => za8 [] (by decide) rfl w h)
  · skip
    replace h := br_f hb5 h
    refine zak ?_
    refine za1 ?_
    refine c_seq ?_
    refine za0 ?_
    refine o_q rfl rfl (q_f F50_2 rfl) ?_
    refine o_q rfl rfl (q_ldb Y22 rfl (fun w h => h.za9 (i := 0) rfl) rfl) ?_
    refine o_q rfl rfl (za2 rfl) ?_
    refine za6 h (fun i7 hx6 h => ?_) rfl
    refine o_e rfl (zaa 0 Z Try.func56 N56 rfl rfl rfl (fun w P1 hF hB hS hT => laws_szIntS.calls A0_2 c0_2 l0_2.length l0_2 i4 hB hF (hS _ R0_2) hc0_2 _ hx6)) (fun _ => ?_)
    refine o_q rfl rfl (q_asg rfl) ?_
    refine o_end ?_
    refine za1 ?_
    refine c_seq ?_
    refine c_seq ?_
    refine za0 ?_
    refine o_q rfl rfl (za2 rfl) ?_
    refine o_q rfl rfl (q_lss rfl rfl) ?_
    refine o_end ?_
    refine za1 ?_
    refine zar _ rfl (fun hb8 => ?_) (fun hb8 => ?_)
    · skip
      replace h := br_t hb8 h
      refine c_seq ?_
      refine za0 ?_
      refine o_q rfl rfl (q_asg rfl) ?_
      refine o_end ?_
      refine za1 ?_
      refine c_ret ?_
      refine za5 ?_
      have e0_ := Option.some.inj h; clear h
      subst e0_
      exact x_r1 () Try.results33 (zaf rfl) rfl (fun w h => za8 [] (by decide) rfl w h)
    · skip
      replace h := br_f hb8 h
      refine zak ?_
      refine za1 ?_
      refine c_seq ?_
      refine za0 ?_
      refine o_q rfl rfl (za2 rfl) ?_
      refine o_q rfl rfl (q_asg rfl) ?_
      refine o_end ?_
      refine za1 ?_
      refine c_ret ?_
      have e0_ := Option.some.inj h; clear h
      subst e0_
      exact x_r1 () Try.results33 (zaf rfl) rfl (fun w h => za8 [] (by decide) rfl w h)

/-! ### loop.example/g01098/laws.toStep: function 138 -/
def laws_toStep.f (a0 : SStep) : Option Unit := some ()
set_option maxHeartbeats 600000 in
set_option maxRecDepth 100000 in
theorem laws_toStep.calls {w0 ws : World} {P0 : Nat → Prop} (a0 : SStep) (Z : Below w0.heap.size w0 ws) (hF : Fr w0 ws P0 [] ws)   (h : laws_toStep.f a0 = some ()) :
    Calls Try.prog 138 #[.agg #[.int .i64 a0.f0, .int .i64 a0.f1]] ws (Post1 w0 ws P0 (fun (_ : Unit) => .agg #[.int .i64 a0.f0, .int .i64 a0.f1]) (fun (_ : Unit) => [])) := by
  unfold laws_toStep.f at h
  refine enter Try.func138 rfl Try.ntmps138 rfl hF ?_
  refine c_seq ?_
  refine za0 ?_
  refine o_e rfl (e_box rfl) (fun g1 => ?_)
  refine o_e rfl (zat V117 rfl) (fun g3 => ?_)
  refine o_end ?_
  refine za1 ?_
  refine c_seq ?_
  refine za0 ?_
  refine o_e rfl (zat V117 rfl) (fun g5 => ?_)
  refine o_end ?_
  refine za1 ?_
  refine c_seq ?_
  refine za0 ?_
  refine o_q rfl rfl (q_f F137_0 rfl) ?_
  refine o_q rfl rfl (q_ldb Y3 rfl (fun w h => h.za9 (i := 2) rfl) rfl) ?_
  refine o_q rfl rfl (q_f F117_0 rfl) ?_
  refine o_e rfl (zb7 (i := 0) rfl rfl rfl rfl Z3 rfl rfl) (fun _ => ?_)
  refine o_end ?_
  refine za1 ?_
  refine c_seq ?_
  refine za0 ?_
  refine o_q rfl rfl (q_f F137_1 rfl) ?_
  refine o_q rfl rfl (q_ldb Y3 rfl (fun w h => h.za9 (i := 2) rfl) rfl) ?_
  refine o_q rfl rfl (q_f F117_1 rfl) ?_
  refine o_e rfl (zb7 (i := 0) rfl rfl rfl rfl Z3 rfl rfl) (fun _ => ?_)
  refine o_end ?_
  refine za1 ?_
  refine c_seq ?_
  refine za0 ?_
  refine o_q rfl rfl (q_ldB G117 Z117 rfl (fun w h => h.za9 (i := 0) rfl) rfl) ?_
  refine o_e rfl (zao (i := 1) rfl rfl rfl Z117 rfl rfl) (fun _ => ?_)
  refine o_end ?_
  refine za1 ?_
  refine c_ret ?_
  exact x_r1 () Try.results138 (rv_cell rfl G117 Z117 (fun w h => h.za9 (i := 1) rfl) rfl) rfl (fun w h => za8 [] (by decide) rfl w h)

/-! ### loop.example/g01098/laws.toStepS: function 74 -/
def laws_toStepS.l0 (l0 : List SStep) : Nat → (List SStep) → Int → Option (List SStep)
  | 0, _, _ => none
  | k10 + 1, l6, i7 => if i7 < (l0.length : Int) then ((gt l0 i7).bind fun y21 => (laws_toStep.f y21).bind fun _ => (gt l6 i7).bind fun y25 => (st l6 i7 (⟨y21.f0, y21.f1⟩ : SStep)).bind fun l26 => laws_toStepS.l0 l0 k10 l26 (w64 (i7 + 1))) else (some l6)
def laws_toStepS.f (k : Nat) (l0 : List SStep) : Option (List SStep) := (mk0 (l0.length : Int) (⟨0, 0⟩ : SStep)).bind fun l1 => (laws_toStepS.l0 l0 k l1 0).bind fun l6 => some l6
set_option maxHeartbeats 600000 in
set_option maxRecDepth 100000 in
theorem laws_toStepS.calls (k : Nat) {w0 ws : World} {P0 : Nat → Prop} (A0 : Option Addr) (c0 : Nat) (n0 : Nat) (l0 : List SStep) (Z : Below w0.heap.size w0 ws) (hF : Fr w0 ws P0 [] ws) (R0 : Stable ws P0 (fun w => Kd.C kStep w A0 n0 l0)) (hc0 : n0 ≤ c0) (r_1 : List SStep) (h : laws_toStepS.f k l0 = some r_1) :
    Calls Try.prog 74 #[.slice A0 n0 c0] ws (Post1 w0 ws P0 (fun ((q_2, q_3) : (Option Addr) × Nat) => .slice q_2 r_1.length q_3) (fun ((q_2, q_3) : (Option Addr) × Nat) => [row kStep 117 (.slice q_2 r_1.length q_3) r_1])) := by
  unfold laws_toStepS.f at h
  obtain rfl := (R0 ws (KeptB.refl _ _)).1
  refine enter Try.func74 rfl Try.ntmps74 rfl hF ?_
  refine c_seq ?_
  refine za0 ?_
  refine o_q rfl rfl (q_asg rfl) ?_
  refine o_end ?_
  refine za1 ?_
  refine c_seq ?_
  refine za0 ?_
  refine o_q rfl rfl (za2 rfl) ?_
  refine o_q rfl rfl (q_len Try.underlying48 rfl) ?_
  refine za6 h (fun l1 hm2 h => ?_) rfl
  refine o_e rfl (e_make kStep (⟨0, 0⟩ : SStep) Try.underlying34 I117 rfl (by decide) (by decide) (fun _ _ => rfl) rfl rfl hm2) (cur2 (fun A3 c4 => ?_))
  refine o_q rfl rfl (q_asg rfl) ?_
  refine o_end ?_
  refine za1 ?_
  refine c_seq ?_
  refine c_seq ?_
  refine za0 ?_
  refine o_q rfl rfl (q_asg rfl) ?_
  refine o_end ?_
  refine za1 ?_
  refine zaj ?_
  refine za6 h (fun o15 hl14 hR13 => ?_) rfl
  clear h
  refine zav (σ := (List SStep) × Int) (fun k10 ((l6, i7) : (List SStep) × Int) => laws_toStepS.l0 l0 k10 l6 i7 = some o15) [4, 8, 9, 10, 11, 12, 13, 14, 15, 16, 17, 18, 19, 20, 21] (fun ((l6, i7) : (List SStep) × Int) => [(4, .int .i64 i7)]) (fun ((l6, i7) : (List SStep) × Int) => [row kStep 117 (.slice A3 l1.length c4) l6]) k (l1, 0) hl14 ⟨rfl, trivial⟩ (fun w h => h) ?_
  refine natC (cur2 (fun l6 i7 => fun U16 hJ_ => ?_)) (fun k10 => (cur2 (fun l6 i7 => fun U16 hJ_ => ?_)))
  · skip
    replace hJ_ : laws_toStepS.l0 l0 0 l6 i7 = some o15 := hJ_
    rw [laws_toStepS.l0] at hJ_
    exact noneE hJ_
  · skip
    clear hl14
    have h := hJ_; clear hJ_
    replace h : laws_toStepS.l0 l0 (k10 + 1) l6 i7 = some o15 := h
    rw [laws_toStepS.l0] at h
    refine c_seq ?_
    refine c_seq ?_
    refine za0 ?_
    refine o_q rfl rfl (za2 rfl) ?_
    refine o_q rfl rfl (za2 rfl) ?_
    refine o_q rfl rfl (q_len Try.underlying48 rfl) ?_
    refine o_q rfl rfl (q_lss rfl rfl) ?_
    refine o_end ?_
    refine za1 ?_
    refine zar _ rfl (fun hb18 => ?_) (fun hb18 => ?_)
    · skip
      replace h := br_t hb18 h
      refine zak ?_
      refine za1 ?_
      refine c_seq ?_
      refine zaj ?_
      refine za0 ?_
      refine o_q rfl rfl (za2 rfl) ?_
      refine o_q rfl rfl (za2 rfl) ?_
      refine o_q rfl rfl (za2 rfl) ?_
      refine o_q rfl rfl (za2 rfl) ?_
      refine zau (p := Sh A0 l0.length l0.length) (fun w h => f_sh (dk := kStep) h (fun w h => R0.now Z h)) (fun hq19 => ?_)
      refine za6 h (fun y21 hg20 h => ?_) rfl
      refine o_q rfl rfl (q_ix Try.underlying48 Z137 rfl rfl hq19 hg20) ?_
      refine o_q rfl rfl (q_ldE G137 Z137 rfl rfl (fun w h => R0.now Z h) hg20 (fun _ _ h => h) rfl) ?_
      refine za6 h (fun _ hx22 h => ?_) rfl
      refine o_e rfl (zaa 0 Z Try.func138 N138 rfl rfl rfl (fun w P1 hF hB hS hT => laws_toStep.calls y21 hB hF hx22)) (fun _ => ?_)
      refine zau (p := Sh A3 l1.length l6.length) (fun w h => f_sh (dk := kStep) h (fun w h => h.zas (i := 0) rfl)) (fun hq23 => ?_)
      refine za6 h (fun y25 hg24 h => ?_) rfl
      refine o_q rfl rfl (q_ix Try.underlying34 Z117 rfl rfl hq23 hg24) ?_
      refine za6 h (fun l26 hs27 h => ?_) rfl
      refine o_e rfl (e_setF (i := 0) (off := 0) (vs := [.int .i64 y21.f0, .int .i64 y21.f1]) (q' := (⟨y21.f0, y21.f1⟩ : SStep)) rfl rfl rfl rfl rfl rfl Z117 hg24 rfl rfl hs27) (fun _ => ?_)
      refine o_end ?_
      refine zaq ?_
      refine za1 ?_
      refine za0 ?_
      refine o_q rfl rfl (za2 rfl) ?_
      refine o_q rfl rfl (zb0 rfl rfl) ?_
      refine o_q rfl rfl (q_asg rfl) ?_
      refine o_end ?_
      refine zam k10 (l26, w64 (i7 + 1)) (Nat.lt_succ_self _) h ⟨rfl, trivial⟩ (fun w h => za8 [0] (by decide) rfl w h) ?_
      repeat (first | exact zac _ _ | refine zah rfl ?_ | refine zad rfl ?_ | refine zai rfl ?_)
    · skip
      replace h := br_f hb18 h
      refine zb1 ?_
      refine za7 ?_
      refine za7 ?_
      have e_ := Option.some.inj h; replace h := hR13; rw [← e_] at h; clear e_
      refine x_hit ?_
      refine za1 ?_
      refine c_seq ?_
      refine za0 ?_
      refine o_q rfl rfl (za2 rfl) ?_
      refine o_q rfl rfl (q_asg rfl) ?_
      refine o_end ?_
      refine za1 ?_
      refine c_ret ?_
      refine x_fact (p := l1.length = l6.length) (fun w h => (h.row_C (i := 0) rfl).2.1) (fun hn28 => ?_)
      have e0_ := Option.some.inj h; clear h
      subst e0_
      exact x_r1 (A3, c4) Try.results74 (zaf (v := .slice A3 l1.length c4) rfl) (by (try rw [hn28]); first | done | rfl) (f_pickE (L1 := [row kStep 117 (.slice A3 l1.length c4) l6]) rfl [0] (by decide) rfl (by (try rw [hn28]); first | done | rfl))

/-! ### loop.example/g01098/laws.toPlan: function 35 -/
def laws_toPlan.f (k : Nat) (a0_0 : Int) (l0_1 : List SStep) (l0_2 : List Int) : Option ((List SStep) × (List Int)) := (laws_toStepS.f k l0_1).bind fun l8 => (laws_toIntS.f k l0_2).bind fun l12 => some (l8, l12)
set_option maxHeartbeats 600000 in
set_option maxRecDepth 100000 in
theorem laws_toPlan.calls (k : Nat) {w0 ws : World} {P0 : Nat → Prop} (a0_0 : Int) (A0_1 : Option Addr) (c0_1 : Nat) (n0_1 : Nat) (l0_1 : List SStep) (A0_2 : Option Addr) (c0_2 : Nat) (n0_2 : Nat) (l0_2 : List Int) (Z : Below w0.heap.size w0 ws) (hF : Fr w0 ws P0 [] ws) (R0_1 : Stable ws P0 (fun w => Kd.C kStep w A0_1 n0_1 l0_1)) (hc0_1 : n0_1 ≤ c0_1) (R0_2 : Stable ws P0 (fun w => Kd.C (Kd.int .i64) w A0_2 n0_2 l0_2)) (hc0_2 : n0_2 ≤ c0_2) (r_1 : List SStep) (r_4 : List Int) (h : laws_toPlan.f k a0_0 l0_1 l0_2 = some (r_1, r_4)) :
    Calls Try.prog 35 #[.agg #[.int .i64 a0_0, .slice A0_1 n0_1 c0_1, .slice A0_2 n0_2 c0_2]] ws (Post1 w0 ws P0 (fun ((q_2, q_3, q_5, q_6) : (Option Addr) × Nat × (Option Addr) × Nat) => .agg #[.int .i64 a0_0, .slice q_2 r_1.length q_3, .slice q_5 r_4.length q_6]) (fun ((q_2, q_3, q_5, q_6) : (Option Addr) × Nat × (Option Addr) × Nat) => [row kStep 117 (.slice q_2 r_1.length q_3) r_1, row (Kd.int .i64) 3 (.slice q_5 r_4.length q_6) r_4])) := by
  unfold laws_toPlan.f at h
  obtain rfl := (R0_1 ws (KeptB.refl _ _)).1
  obtain rfl := (R0_2 ws (KeptB.refl _ _)).1
  refine enter Try.func35 rfl Try.ntmps35 rfl hF ?_
  refine c_seq ?_
  refine za0 ?_
  refine o_e rfl (e_box rfl) (fun g1 => ?_)
  refine o_e rfl (zat V36 rfl) (fun g3 => ?_)
  refine o_end ?_
  refine za1 ?_
  refine c_seq ?_
  refine za0 ?_
  refine o_e rfl (zat V36 rfl) (fun g5 => ?_)
  refine o_end ?_
  refine za1 ?_
  refine c_seq ?_
  refine za0 ?_
  refine o_q rfl rfl (q_f F50_0 rfl) ?_
  refine o_q rfl rfl (q_ldb Y3 rfl (fun w h => h.za9 (i := 2) rfl) rfl) ?_
  refine o_q rfl rfl (q_f F36_0 rfl) ?_
  refine o_e rfl (zb7 (i := 0) rfl rfl rfl rfl Z3 rfl rfl) (fun _ => ?_)
  refine o_end ?_
  refine za1 ?_
  refine c_seq ?_
  refine za0 ?_
  refine o_q rfl rfl (q_f F50_1 rfl) ?_
  refine o_q rfl rfl (q_ldb Y48 rfl (fun w h => h.za9 (i := 2) rfl) rfl) ?_
  refine za6 h (fun l8 hx7 h => ?_) rfl
  refine o_e rfl (zaa 0 Z Try.func74 N74 rfl rfl rfl (fun w P1 hF hB hS hT => laws_toStepS.calls k A0_1 c0_1 l0_1.length l0_1 hB hF (hS _ R0_1) hc0_1 _ hx7)) (cur2 (fun A9 c10 => ?_))
  refine o_q rfl rfl (q_f F36_1 rfl) ?_
  refine o_e rfl (zb7 (i := 1) rfl rfl rfl rfl Z34 rfl rfl) (fun _ => ?_)
  refine o_end ?_
  refine za1 ?_
  refine c_seq ?_
  refine za0 ?_
  refine o_q rfl rfl (q_f F50_2 rfl) ?_
  refine o_q rfl rfl (q_ldb Y22 rfl (fun w h => h.za9 (i := 3) rfl) rfl) ?_
  refine za6 h (fun l12 hx11 h => ?_) rfl
  refine o_e rfl (zaa 0 Z Try.func28 N28 rfl rfl rfl (fun w P1 hF hB hS hT => laws_toIntS.calls k A0_2 c0_2 l0_2.length l0_2 hB hF (hS _ R0_2) hc0_2 _ hx11)) (cur2 (fun A13 c14 => ?_))
  refine o_q rfl rfl (q_f F36_2 rfl) ?_
  refine o_e rfl (zb7 (i := 2) rfl rfl rfl rfl Z22 rfl rfl) (fun _ => ?_)
  refine o_end ?_
  refine za1 ?_
  refine c_seq ?_
  refine za0 ?_
  refine o_q rfl rfl (q_ldB G36 Z36 rfl (fun w h => h.za9 (i := 2) rfl) rfl) ?_
  refine o_e rfl (zao (i := 3) rfl rfl rfl Z36 rfl rfl) (fun _ => ?_)
  refine o_end ?_
  refine za1 ?_
  refine c_ret ?_
  have e0_ := Option.some.inj h; clear h
  have d0_ := (Prod.mk.inj e0_).1; have e1_ := (Prod.mk.inj e0_).2; clear e0_; subst d0_
  subst e1_
  exact x_r1 (A9, c10, A13, c14) Try.results35 (rv_cell rfl G36 Z36 (fun w h => h.za9 (i := 3) rfl) rfl) rfl (fun w h => za8 [1, 0] (by decide) rfl w h)

/-! ### loop.example/g01098/spec.plUpTo: function 112 -/
def spec_plUpTo.l0 (a0 : Int) : Nat → (List Int) → Int → Option (List Int)
  | 0, _, _ => none
  | k8 + 1, l2, i5 => if i5 < a0 then ((ap l2 ([i5] : List Int)).bind fun l20 => spec_plUpTo.l0 a0 k8 l20 (w64 (i5 + 1))) else (some l2)
def spec_plUpTo.f (k : Nat) (a0 : Int) : Option (List Int) := (spec_plUpTo.l0 a0 k ([] : List Int) 0).bind fun l2 => some l2
set_option maxHeartbeats 600000 in
set_option maxRecDepth 100000 in
theorem spec_plUpTo.calls (k : Nat) {w0 ws : World} {P0 : Nat → Prop} (a0 : Int) (Z : Below w0.heap.size w0 ws) (hF : Fr w0 ws P0 [] ws)  (r_1 : List Int) (h : spec_plUpTo.f k a0 = some r_1) :
    Calls Try.prog 112 #[.int .i64 a0] ws (Post1 w0 ws P0 (fun ((q_2, q_3) : (Option Addr) × Nat) => .slice q_2 r_1.length q_3) (fun ((q_2, q_3) : (Option Addr) × Nat) => [row (Kd.int .i64) 3 (.slice q_2 r_1.length q_3) r_1])) := by
  unfold spec_plUpTo.f at h
  refine enter Try.func112 rfl Try.ntmps112 rfl hF ?_
  refine c_seq ?_
  refine za0 ?_
  refine o_q rfl rfl (q_asg rfl) ?_
  refine o_end ?_
  refine za1 ?_
  refine c_seq ?_
  refine za0 ?_
  refine o_q rfl rfl (q_asg rfl) ?_
  refine o_end ?_
  refine za1 ?_
  refine c_seq ?_
  refine c_seq ?_
  refine za0 ?_
  refine o_q rfl rfl (q_asg rfl) ?_
  refine o_end ?_
  refine za1 ?_
  refine zaj ?_
  refine c_nil (Kd.int .i64) 3 ?_
  refine za6 h (fun o13 hl12 hR11 => ?_) rfl
  clear h
  refine zav (σ := (List Int) × Int × (Option Addr) × Nat) (fun k8 ((l2, i5, A3, c4) : (List Int) × Int × (Option Addr) × Nat) => spec_plUpTo.l0 a0 k8 l2 i5 = some o13) [3, 4, 5, 6, 7, 8, 9, 10, 11, 12, 13] (fun ((l2, i5, A3, c4) : (List Int) × Int × (Option Addr) × Nat) => [(3, .slice A3 l2.length c4), (4, .int .i64 i5)]) (fun ((l2, i5, A3, c4) : (List Int) × Int × (Option Addr) × Nat) => [row (Kd.int .i64) 3 (.slice A3 l2.length c4) l2]) k (([] : List Int), 0, none, 0) hl12 ⟨rfl, rfl, trivial⟩ (fun w h => h) ?_
  refine natC (cur4 (fun l2 i5 A3 c4 => fun U14 hJ_ => ?_)) (fun k8 => (cur4 (fun l2 i5 A3 c4 => fun U14 hJ_ => ?_)))
  · skip
    replace hJ_ : spec_plUpTo.l0 a0 0 l2 i5 = some o13 := hJ_
    rw [spec_plUpTo.l0] at hJ_
    exact noneE hJ_
  · skip
    clear hl12
    have h := hJ_; clear hJ_
    replace h : spec_plUpTo.l0 a0 (k8 + 1) l2 i5 = some o13 := h
    rw [spec_plUpTo.l0] at h
    refine c_seq ?_
    refine c_seq ?_
    refine za0 ?_
    refine o_q rfl rfl (za2 rfl) ?_
    refine o_q rfl rfl (za2 rfl) ?_
    refine o_q rfl rfl (q_lss rfl rfl) ?_
    refine o_end ?_
    refine za1 ?_
    refine zar _ rfl (fun hb16 => ?_) (fun hb16 => ?_)
    · skip
      replace h := br_t hb16 h
      refine zak ?_
      refine za1 ?_
      refine c_seq ?_
      refine zaj ?_
      refine za0 ?_
      refine o_q rfl rfl (za2 rfl) ?_
      refine o_q rfl rfl (za2 rfl) ?_
      refine o_e rfl (e_lit (vs := [(0, .int .i64 i5)]) (cs := [.int .i64 i5]) (Kd.int .i64) ([i5] : List Int) Try.underlying22 I3 (by decide) rfl (by decide) rfl rfl (fun _ _ => Kd.zaw _)) (cur2 (fun A17 c18 => ?_))
      refine za6 h (fun l20 ha21 h => ?_) rfl
      refine o_e rfl (e_app (i := 1) (j := 0) Try.underlying22 I3 rfl (by decide) (by decide) rfl rfl rfl rfl rfl ha21) (cur2 (fun A22 c23 => ?_))
      refine o_q rfl rfl (q_asg rfl) ?_
      refine o_end ?_
      refine zaq ?_
      refine za1 ?_
      refine za0 ?_
      refine o_q rfl rfl (za2 rfl) ?_
      refine o_q rfl rfl (zb0 rfl rfl) ?_
      refine o_q rfl rfl (q_asg rfl) ?_
      refine o_end ?_
      refine zam k8 (l20, w64 (i5 + 1), A22, c23) (Nat.lt_succ_self _) h ⟨rfl, rfl, trivial⟩ (fun w h => za8 [1] (by decide) rfl w h) ?_
      repeat (first | exact zac _ _ | refine zah rfl ?_ | refine zad rfl ?_ | refine zai rfl ?_)
    · skip
      replace h := br_f hb16 h
      refine zb1 ?_
      refine za7 ?_
      refine za7 ?_
      have e_ := Option.some.inj h; replace h := hR11; rw [← e_] at h; clear e_
      refine x_hit ?_
      refine za1 ?_
      refine c_seq ?_
      refine za0 ?_
      refine o_q rfl rfl (za2 rfl) ?_
      refine o_q rfl rfl (q_asg rfl) ?_
      refine o_end ?_
      refine za1 ?_
      refine c_ret ?_
      have e0_ := Option.some.inj h; clear h
      subst e0_
      exact x_r1 (A3, c4) Try.results112 (zaf rfl) rfl (fun w h => za8 [0] (by decide) rfl w h)

/-! ### loop.example/g01098/spec.reNeeded: function 114 -/
def spec_reNeeded.l1 (l1 : List Int) (i7 : Int) : (List SStep) → Int → Bool → Option Bool
  | [], i25, b26 => some b26
  | y27 :: ys28, i25, b26 => if b26 = true then (spec_reNeeded.l1 l1 i7 ys28 (i25 + 1) true) else ((spec_l1Has.f l1 i25).bind fun b50 => if b50 = true then (spec_reNeeded.l1 l1 i7 ys28 (i25 + 1) false) else (if y27.f0 = i7 then (spec_reNeeded.l1 l1 i7 ys28 (i25 + 1) true) else (spec_reNeeded.l1 l1 i7 ys28 (i25 + 1) (decide (y27.f1 = i7)))))
def spec_reNeeded.l2 (l1 : List Int) (i7 : Int) : (List SStep) → Int → Bool → Option Bool
  | [], i55, b56 => some b56
  | y57 :: ys58, i55, b56 => if b56 = true then (spec_reNeeded.l2 l1 i7 ys58 (i55 + 1) true) else ((spec_l1Has.f l1 i55).bind fun b80 => if b80 = true then (spec_reNeeded.l2 l1 i7 ys58 (i55 + 1) false) else (if y57.f0 = i7 then (spec_reNeeded.l2 l1 i7 ys58 (i55 + 1) true) else (spec_reNeeded.l2 l1 i7 ys58 (i55 + 1) (decide (y57.f1 = i7)))))
def spec_reNeeded.l0 (a0_0 : Int) (l0_1 : List SStep) (l0_2 : List Int) (l1 : List Int) : Nat → (List Int) → Int → Option (List Int)
  | 0, _, _ => none
  | k10 + 1, l4, i7 => if i7 < w64 (a0_0 + (l0_1.length : Int)) then (if a0_0 ≤ i7 then ((spec_l1Has.f l1 (w64 (i7 - a0_0))).bind fun b21 => if b21 = true then ((spec_l1Has.f l0_2 i7).bind fun b24 => (spec_reNeeded.l1 l1 i7 l0_1 0 b24).bind fun b26 => if b26 = true then ((ap l4 ([i7] : List Int)).bind fun l41 => spec_reNeeded.l0 a0_0 l0_1 l0_2 l1 k10 l41 (w64 (i7 + 1))) else (spec_reNeeded.l0 a0_0 l0_1 l0_2 l1 k10 l4 (w64 (i7 + 1)))) else (spec_reNeeded.l0 a0_0 l0_1 l0_2 l1 k10 l4 (w64 (i7 + 1)))) else ((spec_l1Has.f l0_2 i7).bind fun b54 => (spec_reNeeded.l2 l1 i7 l0_1 0 b54).bind fun b56 => if b56 = true then ((ap l4 ([i7] : List Int)).bind fun l71 => spec_reNeeded.l0 a0_0 l0_1 l0_2 l1 k10 l71 (w64 (i7 + 1))) else (spec_reNeeded.l0 a0_0 l0_1 l0_2 l1 k10 l4 (w64 (i7 + 1))))) else (some l4)
def spec_reNeeded.f (k : Nat) (a0_0 : Int) (l0_1 : List SStep) (l0_2 : List Int) (l1 : List Int) : Option (List Int) := (spec_reNeeded.l0 a0_0 l0_1 l0_2 l1 k ([] : List Int) 0).bind fun l4 => some l4
set_option maxHeartbeats 600000 in
set_option maxRecDepth 100000 in
theorem spec_reNeeded.calls (k : Nat) {w0 ws : World} {P0 : Nat → Prop} (a0_0 : Int) (A0_1 : Option Addr) (c0_1 : Nat) (n0_1 : Nat) (l0_1 : List SStep) (A0_2 : Option Addr) (c0_2 : Nat) (n0_2 : Nat) (l0_2 : List Int) (A1 : Option Addr) (c1 : Nat) (n1 : Nat) (l1 : List Int) (Z : Below w0.heap.size w0 ws) (hF : Fr w0 ws P0 [] ws) (R0_1 : Stable ws P0 (fun w => Kd.C kStep w A0_1 n0_1 l0_1)) (hc0_1 : n0_1 ≤ c0_1) (R0_2 : Stable ws P0 (fun w => Kd.C (Kd.int .i64) w A0_2 n0_2 l0_2)) (hc0_2 : n0_2 ≤ c0_2) (R1 : Stable ws P0 (fun w => Kd.C (Kd.int .i64) w A1 n1 l1)) (hc1 : n1 ≤ c1) (r_1 : List Int) (h : spec_reNeeded.f k a0_0 l0_1 l0_2 l1 = some r_1) :
    Calls Try.prog 114 #[.agg #[.int .i64 a0_0, .slice A0_1 n0_1 c0_1, .slice A0_2 n0_2 c0_2], .slice A1 n1 c1] ws (Post1 w0 ws P0 (fun ((q_2, q_3) : (Option Addr) × Nat) => .slice q_2 r_1.length q_3) (fun ((q_2, q_3) : (Option Addr) × Nat) => [row (Kd.int .i64) 3 (.slice q_2 r_1.length q_3) r_1])) := by
  unfold spec_reNeeded.f at h
  obtain rfl := (R0_1 ws (KeptB.refl _ _)).1
  obtain rfl := (R0_2 ws (KeptB.refl _ _)).1
  obtain rfl := (R1 ws (KeptB.refl _ _)).1
  refine enter Try.func114 rfl Try.ntmps114 rfl hF ?_
  refine c_seq ?_
  refine za0 ?_
  refine o_e rfl (e_box rfl) (fun g1 => ?_)
  refine o_q rfl rfl (q_asg rfl) ?_
  refine o_end ?_
  refine za1 ?_
  refine c_seq ?_
  refine za0 ?_
  refine o_q rfl rfl (q_asg rfl) ?_
  refine o_end ?_
  refine za1 ?_
  refine c_seq ?_
  refine c_seq ?_
  refine za0 ?_
  refine o_q rfl rfl (q_asg rfl) ?_
  refine o_end ?_
  refine za1 ?_
  refine zaj ?_
  refine c_nil (Kd.int .i64) 3 ?_
  refine za6 h (fun o15 hl14 hR13 => ?_) rfl
  clear h
  refine zav (σ := (List Int) × Int × (Option Addr) × Nat) (fun k10 ((l4, i7, A5, c6) : (List Int) × Int × (Option Addr) × Nat) => spec_reNeeded.l0 a0_0 l0_1 l0_2 l1 k10 l4 i7 = some o15) [5, 6, 7, 8, 9, 10, 11, 12, 13, 14, 15, 16, 17, 18, 19, 20, 21, 22, 23, 24, 25, 26, 27, 28, 29, 30, 31, 32, 33, 34, 35, 36, 37, 38, 39, 40, 41, 42, 43, 44, 45, 46, 47, 48, 49, 50, 51, 52, 53, 54, 55, 56, 57, 58, 59, 60, 61, 62, 63, 64, 65, 66, 67, 68, 69] (fun ((l4, i7, A5, c6) : (List Int) × Int × (Option Addr) × Nat) => [(5, .slice A5 l4.length c6), (6, .int .i64 i7)]) (fun ((l4, i7, A5, c6) : (List Int) × Int × (Option Addr) × Nat) => [row (Kd.int .i64) 3 (.slice A5 l4.length c6) l4, box g1 36 #[.int .i64 a0_0, .slice A0_1 l0_1.length c0_1, .slice A0_2 l0_2.length c0_2]]) k (([] : List Int), 0, none, 0) hl14 ⟨rfl, rfl, trivial⟩ (fun w h => h) ?_
  refine natC (cur4 (fun l4 i7 A5 c6 => fun U16 hJ_ => ?_)) (fun k10 => (cur4 (fun l4 i7 A5 c6 => fun U16 hJ_ => ?_)))
  · skip
    replace hJ_ : spec_reNeeded.l0 a0_0 l0_1 l0_2 l1 0 l4 i7 = some o15 := hJ_
    rw [spec_reNeeded.l0] at hJ_
    exact noneE hJ_
  · skip
    clear hl14
    have h := hJ_; clear hJ_
    replace h : spec_reNeeded.l0 a0_0 l0_1 l0_2 l1 (k10 + 1) l4 i7 = some o15 := h
    rw [spec_reNeeded.l0] at h
    refine c_seq ?_
    refine c_seq ?_
    refine za0 ?_
    refine o_q rfl rfl (za2 rfl) ?_
    refine o_q rfl rfl (q_f F36_0 rfl) ?_
    refine o_q rfl rfl (q_ldb Y3 rfl (fun w h => h.za9 (i := 1) rfl) rfl) ?_
    refine o_q rfl rfl (q_f F36_1 rfl) ?_
    refine o_q rfl rfl (q_ldb Y34 rfl (fun w h => h.za9 (i := 1) rfl) rfl) ?_
    refine o_q rfl rfl (q_len Try.underlying34 rfl) ?_
    refine o_q rfl rfl (zb0 rfl rfl) ?_
    refine o_q rfl rfl (q_lss rfl rfl) ?_
    refine o_end ?_
    refine za1 ?_
    refine zar _ rfl (fun hb18 => ?_) (fun hb18 => ?_)
    · skip
      replace h := br_t hb18 h
      refine zak ?_
      refine za1 ?_
      refine c_seq ?_
      refine zaj ?_
      refine c_seq ?_
      refine c_seq ?_
      refine za0 ?_
      refine o_q rfl rfl (za2 rfl) ?_
      refine o_q rfl rfl (q_f F36_0 rfl) ?_
      refine o_q rfl rfl (q_ldb Y3 rfl (fun w h => h.za9 (i := 1) rfl) rfl) ?_
      refine o_q rfl rfl (q_geq rfl rfl) ?_
      refine o_q rfl rfl (za2 rfl) ?_
      refine byB (decide (a0_0 ≤ i7)) (fun hb19 => ?_) (fun hb19 => ?_)
      · replace h := br_t hb19 h
        refine o_w (za4 rfl rfl rfl (congrArg Value.bool hb19)) rfl (za2 rfl) ?_
        refine o_w (za4 rfl rfl rfl (congrArg Value.bool hb19)) rfl (za2 rfl) ?_
        refine o_w (za4 rfl rfl rfl (congrArg Value.bool hb19)) rfl (q_f F36_0 rfl) ?_
        refine o_w (za4 rfl rfl rfl (congrArg Value.bool hb19)) rfl (q_ldb Y3 rfl (fun w h => h.za9 (i := 1) rfl) rfl) ?_
        refine o_w (za4 rfl rfl rfl (congrArg Value.bool hb19)) rfl (q_sub64 rfl rfl) ?_
        refine za6 h (fun b21 hx20 h => ?_) rfl
        refine o_ew (za4 rfl rfl rfl (congrArg Value.bool hb19)) (zaa 0 Z Try.func115 N115 rfl rfl rfl (fun w P1 hF hB hS hT => spec_l1Has.calls A1 c1 l1.length l1 (w64 (i7 - a0_0)) hB hF (hS _ R1) hc1 _ hx20)) (fun _ => ?_)
        refine o_w (za4 rfl rfl rfl (congrArg Value.bool hb19)) rfl (q_not rfl) ?_
        refine o_q rfl rfl (zan true (congrArg Value.bool hb19) rfl) ?_
        refine o_end ?_
        refine za1 ?_
        refine zar _ rfl (fun hb22 => ?_) (fun hb22 => ?_)
        · replace hb22 := nt_t hb22
          replace h := bb_f hb22 h
          refine zb1 ?_
          refine za7 ?_
          refine x_hit ?_
          refine za1 ?_
          refine za0 ?_
          refine o_q rfl rfl (za2 rfl) ?_
          refine o_q rfl rfl (zb0 rfl rfl) ?_
          refine o_q rfl rfl (q_asg rfl) ?_
          refine o_end ?_
          refine zam k10 (l4, w64 (i7 + 1), A5, c6) (Nat.lt_succ_self _) h ⟨rfl, rfl, trivial⟩ (fun w h => za8 [0, 1] (by decide) rfl w h) ?_
          repeat (first | exact zac _ _ | refine zah rfl ?_ | refine zad rfl ?_ | refine zai rfl ?_)
        · replace hb22 := nt_f hb22
          replace h := bb_t hb22 h
          refine zak ?_
          refine za1 ?_
          refine c_seq ?_
          refine za0 ?_
          refine o_q rfl rfl (q_f F36_2 rfl) ?_
          refine o_q rfl rfl (q_ldb Y22 rfl (fun w h => h.za9 (i := 1) rfl) rfl) ?_
          refine o_q rfl rfl (za2 rfl) ?_
          refine za6 h (fun b24 hx23 h => ?_) rfl
          refine o_e rfl (zaa 0 Z Try.func115 N115 rfl rfl rfl (fun w P1 hF hB hS hT => spec_l1Has.calls A0_2 c0_2 l0_2.length l0_2 i7 hB hF (hS _ R0_2) hc0_2 _ hx23)) (fun _ => ?_)
          refine o_q rfl rfl (q_asg rfl) ?_
          refine o_end ?_
          refine za1 ?_
          refine c_seq ?_
          refine c_seq ?_
          refine za0 ?_
          refine o_q rfl rfl (q_f F36_1 rfl) ?_
          refine o_q rfl rfl (q_ldb Y34 rfl (fun w h => h.za9 (i := 1) rfl) rfl) ?_
          refine o_q rfl rfl (q_len Try.underlying34 rfl) ?_
          refine o_q rfl rfl (za2 rfl) ?_
          refine o_end ?_
          refine za1 ?_
          refine zaj ?_
          refine za6 h (fun o34 hl33 hR32 => ?_) rfl
          clear h
          refine c_fact (p := l0_1.length ≤ 9223372036854775807) (fun w h => (R0_1.now Z h).2.1) (fun hm31 => ?_)
          refine zav (σ := (List SStep) × Int × Bool) (fun k29 ((ys28, i25, b26) : (List SStep) × Int × Bool) => Rg l0_1 i25 ys28 ∧ ys28.length = k29 ∧ spec_reNeeded.l1 l1 i7 ys28 i25 b26 = some o34) [7, 8, 9, 40, 41, 42, 43, 44, 45, 46, 47, 48, 49, 50, 51, 52, 53, 54, 55, 56, 57, 58, 59, 60, 61, 62, 63, 64] (fun ((ys28, i25, b26) : (List SStep) × Int × Bool) => [(7, .bool b26), (40, .int .i64 i25)]) (fun ((ys28, i25, b26) : (List SStep) × Int × Bool) => [row (Kd.int .i64) 3 (.slice A5 l4.length c6) l4, box g1 36 #[.int .i64 a0_0, .slice A0_1 l0_1.length c0_1, .slice A0_2 l0_2.length c0_2]]) l0_1.length (l0_1, 0, b24) ⟨Rg.start _, rfl, hl33⟩ ⟨rfl, rfl, trivial⟩ (fun w h => h) ?_
          refine fun k29 => cur3 (listC (fun i25 b26 U35 hJ_ => ?_) (fun y27 ys28 i25 b26 U35 hJ_ => ?_))
          · skip
            clear hl33
            have hr30 := hJ_.1; have hk36 := hJ_.2.1; have h := hJ_.2.2; clear hJ_
            replace h : spec_reNeeded.l1 l1 i7 [] i25 b26 = some o34 := h
            rw [spec_reNeeded.l1] at h
            refine c_seq ?_
            refine za0 ?_
            refine o_q rfl rfl (q_lss rfl rfl) ?_
            refine o_end ?_
            refine za1 ?_
            refine c_seq ?_
            refine zaz (congrArg Value.bool hr30.ge) ?_
            refine zb1 ?_
            refine za7 ?_
            refine za7 ?_
            have e_ := Option.some.inj h; replace h := hR32; rw [← e_] at h; clear e_
            refine x_hit ?_
            refine za1 ?_
            refine c_seq ?_
            refine za0 ?_
            refine o_q rfl rfl (za2 rfl) ?_
            refine o_end ?_
            refine za1 ?_
            refine zar _ rfl (fun hb37 => ?_) (fun hb37 => ?_)
            · skip
              replace h := bb_t hb37 h
              refine za0 ?_
              refine o_q rfl rfl (za2 rfl) ?_
              refine o_q rfl rfl (za2 rfl) ?_
              refine o_e rfl (e_lit (vs := [(0, .int .i64 i7)]) (cs := [.int .i64 i7]) (Kd.int .i64) ([i7] : List Int) Try.underlying22 I3 (by decide) rfl (by decide) rfl rfl (fun _ _ => Kd.zaw _)) (cur2 (fun A38 c39 => ?_))
              refine za6 h (fun l41 ha42 h => ?_) rfl
              refine o_e rfl (e_app (i := 1) (j := 0) Try.underlying22 I3 rfl (by decide) (by decide) rfl rfl rfl rfl rfl ha42) (cur2 (fun A43 c44 => ?_))
              refine o_q rfl rfl (q_asg rfl) ?_
              refine o_end ?_
              refine zaq ?_
              refine za1 ?_
              refine za0 ?_
              refine o_q rfl rfl (za2 rfl) ?_
              refine o_q rfl rfl (zb0 rfl rfl) ?_
              refine o_q rfl rfl (q_asg rfl) ?_
              refine o_end ?_
              refine zam k10 (l41, w64 (i7 + 1), A43, c44) (Nat.lt_succ_self _) h ⟨rfl, rfl, trivial⟩ (fun w h => za8 [1, 2] (by decide) rfl w h) ?_
              repeat (first | exact zac _ _ | refine zah rfl ?_ | refine zad rfl ?_ | refine zai rfl ?_)
            · skip
              replace h := bb_f hb37 h
              refine zak ?_
              refine zaq ?_
              refine za1 ?_
              refine za0 ?_
              refine o_q rfl rfl (za2 rfl) ?_
              refine o_q rfl rfl (zb0 rfl rfl) ?_
              refine o_q rfl rfl (q_asg rfl) ?_
              refine o_end ?_
              refine zam k10 (l4, w64 (i7 + 1), A5, c6) (Nat.lt_succ_self _) h ⟨rfl, rfl, trivial⟩ (fun w h => za8 [0, 1] (by decide) rfl w h) ?_
              repeat (first | exact zac _ _ | refine zah rfl ?_ | refine zad rfl ?_ | refine zai rfl ?_)
          · skip
            clear hl33
            have hr30 := hJ_.1; have hk36 := hJ_.2.1; have h := hJ_.2.2; clear hJ_
            replace h : spec_reNeeded.l1 l1 i7 (y27 :: ys28) i25 b26 = some o34 := h
            rw [spec_reNeeded.l1] at h
            refine c_seq ?_
            refine za0 ?_
            refine o_q rfl rfl (q_lss rfl rfl) ?_
            refine o_end ?_
            refine za1 ?_
            refine c_seq ?_
            refine zay (congrArg Value.bool hr30.lt) ?_
            refine zak ?_
            refine za1 ?_
            refine c_seq ?_
            refine zaj ?_
            refine c_seq ?_
            refine za0 ?_
            refine o_q rfl rfl (za2 rfl) ?_
            refine zau (p := Sh A0_1 l0_1.length l0_1.length) (fun w h => f_sh (dk := kStep) h (fun w h => R0_1.now Z h)) (fun hq45 => ?_)
            refine o_q rfl rfl (q_ix Try.underlying34 Z117 rfl rfl hq45 hr30.get) ?_
            refine o_q rfl rfl (q_ldE G117 Z117 rfl rfl (fun w h => R0_1.now Z h) hr30.get (fun _ _ h => h) rfl) ?_
            refine o_e rfl (zat V117 rfl) (fun g46 => ?_)
            refine o_q rfl rfl (q_asg rfl) ?_
            refine o_e rfl (zao (i := 0) rfl rfl rfl Z117 rfl rfl) (fun _ => ?_)
            refine o_end ?_
            refine za1 ?_
            refine za0 ?_
            refine o_q rfl rfl (za2 rfl) ?_
            refine o_q rfl rfl (za2 rfl) ?_
            refine byB b26 (fun hb48 => ?_) (fun hb48 => ?_)
            · replace h := bb_t hb48 h
              refine @o_n _ _ _ _ _ _ _ _ _ _ _ 47 (za3 rfl rfl rfl (congrArg Value.bool hb48) rfl) (Eq.refl (some 47)) ?_
              refine @o_n _ _ _ _ _ _ _ _ _ _ _ 48 (za3 rfl rfl rfl (congrArg Value.bool hb48) rfl) (Eq.refl (some 48)) ?_
              refine @o_n _ _ _ _ _ _ _ _ _ _ _ 49 (za3 rfl rfl rfl (congrArg Value.bool hb48) rfl) (Eq.refl (some 49)) ?_
              refine @o_n _ _ _ _ _ _ _ _ _ _ _ 50 (za3 rfl rfl rfl (congrArg Value.bool hb48) rfl) (Eq.refl (some 50)) ?_
              refine @o_n _ _ _ _ _ _ _ _ _ _ _ 51 (za3 rfl rfl rfl (congrArg Value.bool hb48) rfl) (Eq.refl (some 51)) ?_
              refine @o_n _ _ _ _ _ _ _ _ _ _ _ 52 (zb6 rfl rfl rfl rfl) (Eq.refl (some 52)) ?_
              refine @o_n _ _ _ _ _ _ _ _ _ _ _ 53 (zb6 rfl rfl rfl rfl) (Eq.refl (some 53)) ?_
              refine @o_n _ _ _ _ _ _ _ _ _ _ _ 54 (zb6 rfl rfl rfl rfl) (Eq.refl (some 54)) ?_
              refine @o_n _ _ _ _ _ _ _ _ _ _ _ 55 (zb6 rfl rfl rfl rfl) (Eq.refl (some 55)) ?_
              refine @o_n _ _ _ _ _ _ _ _ _ _ _ 56 (zb6 rfl rfl rfl rfl) (Eq.refl (some 56)) ?_
              refine @o_n _ _ _ _ _ _ _ _ _ _ _ 57 (zb6 rfl rfl rfl rfl) (Eq.refl (some 57)) ?_
              refine @o_n _ _ _ _ _ _ _ _ _ _ _ 58 (zb6 rfl rfl rfl rfl) (Eq.refl (some 58)) ?_
              refine @o_n _ _ _ _ _ _ _ _ _ _ _ 59 (zb6 rfl rfl rfl rfl) (Eq.refl (some 59)) ?_
              refine @o_n _ _ _ _ _ _ _ _ _ _ _ 60 (zb6 rfl rfl rfl rfl) (Eq.refl (some 60)) ?_
              refine @o_n _ _ _ _ _ _ _ _ _ _ _ 61 (zb6 rfl rfl rfl rfl) (Eq.refl (some 61)) ?_
              refine @o_n _ _ _ _ _ _ _ _ _ _ _ 62 (za3 rfl rfl rfl (congrArg Value.bool hb48) rfl) (Eq.refl (some 62)) ?_
              refine o_q rfl rfl (zan true (congrArg Value.bool hb48) rfl) ?_
              refine o_q rfl rfl (q_asg rfl) ?_
              refine o_end ?_
              refine zaq ?_
              refine za1 ?_
              refine za0 ?_
              refine o_q rfl rfl (q_up rfl rfl (hr30.up hm31)) ?_
              refine o_q rfl rfl (za2 rfl) ?_
              refine o_end ?_
              refine zam ys28.length (ys28, i25 + 1, true) (by rw [← hk36]; exact Nat.lt_succ_self _) ⟨hr30.step, rfl, h⟩ ⟨rfl, rfl, trivial⟩ (fun w h => za8 [1, 2] (by decide) rfl w h) ?_
              repeat (first | exact zac _ _ | refine zah rfl ?_ | refine zad rfl ?_ | refine zai rfl ?_)
            · replace h := bb_f hb48 h
              refine o_w (za4 rfl rfl rfl (congrArg Value.bool hb48)) rfl (za2 rfl) ?_
              refine o_w (za4 rfl rfl rfl (congrArg Value.bool hb48)) rfl (za2 rfl) ?_
              refine za6 h (fun b50 hx49 h => ?_) rfl
              refine o_ew (za4 rfl rfl rfl (congrArg Value.bool hb48)) (zaa 0 Z Try.func115 N115 rfl rfl rfl (fun w P1 hF hB hS hT => spec_l1Has.calls A1 c1 l1.length l1 i25 hB hF (hS _ R1) hc1 _ hx49)) (fun _ => ?_)
              refine o_w (za4 rfl rfl rfl (congrArg Value.bool hb48)) rfl (q_not rfl) ?_
              refine o_w (za4 rfl rfl rfl (congrArg Value.bool hb48)) rfl (za2 rfl) ?_
              refine byB b50 (fun hb51 => ?_) (fun hb51 => ?_)
              · replace h := bb_t hb51 h
                refine @o_n _ _ _ _ _ _ _ _ _ _ _ 52 (za3 rfl rfl rfl (congrArg (fun b => Value.bool (!(b))) hb51) rfl) (Eq.refl (some 52)) ?_
                refine @o_n _ _ _ _ _ _ _ _ _ _ _ 53 (za3 rfl rfl rfl (congrArg (fun b => Value.bool (!(b))) hb51) rfl) (Eq.refl (some 53)) ?_
                refine @o_n _ _ _ _ _ _ _ _ _ _ _ 54 (za3 rfl rfl rfl (congrArg (fun b => Value.bool (!(b))) hb51) rfl) (Eq.refl (some 54)) ?_
                refine @o_n _ _ _ _ _ _ _ _ _ _ _ 55 (za3 rfl rfl rfl (congrArg (fun b => Value.bool (!(b))) hb51) rfl) (Eq.refl (some 55)) ?_
                refine @o_n _ _ _ _ _ _ _ _ _ _ _ 56 (za3 rfl rfl rfl (congrArg (fun b => Value.bool (!(b))) hb51) rfl) (Eq.refl (some 56)) ?_
                refine @o_n _ _ _ _ _ _ _ _ _ _ _ 57 (zb6 rfl rfl rfl rfl) (Eq.refl (some 57)) ?_
                refine @o_n _ _ _ _ _ _ _ _ _ _ _ 58 (zb6 rfl rfl rfl rfl) (Eq.refl (some 58)) ?_
                refine @o_n _ _ _ _ _ _ _ _ _ _ _ 59 (zb6 rfl rfl rfl rfl) (Eq.refl (some 59)) ?_
                refine @o_n _ _ _ _ _ _ _ _ _ _ _ 60 (zb6 rfl rfl rfl rfl) (Eq.refl (some 60)) ?_
                refine @o_n _ _ _ _ _ _ _ _ _ _ _ 61 (za3 rfl rfl rfl (congrArg (fun b => Value.bool (!(b))) hb51) rfl) (Eq.refl (some 61)) ?_
                refine o_w (za4 rfl rfl rfl (congrArg Value.bool hb48)) rfl (zan false (congrArg (fun b => Value.bool (!(b))) hb51) rfl) ?_
                refine o_q rfl rfl (zan false (congrArg Value.bool hb48) rfl) ?_
                refine o_q rfl rfl (q_asg rfl) ?_
                refine o_end ?_
                refine zaq ?_
                refine za1 ?_
                refine za0 ?_
                refine o_q rfl rfl (q_up rfl rfl (hr30.up hm31)) ?_
                refine o_q rfl rfl (za2 rfl) ?_
                refine o_end ?_
                refine zam ys28.length (ys28, i25 + 1, false) (by rw [← hk36]; exact Nat.lt_succ_self _) ⟨hr30.step, rfl, h⟩ ⟨rfl, rfl, trivial⟩ (fun w h => za8 [1, 2] (by decide) rfl w h) ?_
                repeat (first | exact zac _ _ | refine zah rfl ?_ | refine zad rfl ?_ | refine zai rfl ?_)
              · replace h := bb_f hb51 h
                refine o_w (za4 rfl rfl rfl (congrArg (fun b => Value.bool (!(b))) hb51)) rfl (q_f F117_0 rfl) ?_
                refine o_w (za4 rfl rfl rfl (congrArg (fun b => Value.bool (!(b))) hb51)) rfl (q_ldb Y3 rfl (fun w h => h.za9 (i := 0) rfl) rfl) ?_
                refine o_w (za4 rfl rfl rfl (congrArg (fun b => Value.bool (!(b))) hb51)) rfl (za2 rfl) ?_
                refine o_w (za4 rfl rfl rfl (congrArg (fun b => Value.bool (!(b))) hb51)) rfl (q_eql rfl rfl) ?_
                refine o_w (za4 rfl rfl rfl (congrArg (fun b => Value.bool (!(b))) hb51)) rfl (za2 rfl) ?_
                refine byB (decide (y27.f0 = i7)) (fun hb52 => ?_) (fun hb52 => ?_)
                · replace h := br_t hb52 h
                  refine @o_n _ _ _ _ _ _ _ _ _ _ _ 57 (za3 rfl rfl rfl (congrArg Value.bool hb52) rfl) (Eq.refl (some 57)) ?_
                  refine @o_n _ _ _ _ _ _ _ _ _ _ _ 58 (za3 rfl rfl rfl (congrArg Value.bool hb52) rfl) (Eq.refl (some 58)) ?_
                  refine @o_n _ _ _ _ _ _ _ _ _ _ _ 59 (za3 rfl rfl rfl (congrArg Value.bool hb52) rfl) (Eq.refl (some 59)) ?_
                  refine @o_n _ _ _ _ _ _ _ _ _ _ _ 60 (za3 rfl rfl rfl (congrArg Value.bool hb52) rfl) (Eq.refl (some 60)) ?_
                  refine o_w (za4 rfl rfl rfl (congrArg (fun b => Value.bool (!(b))) hb51)) rfl (zan true (congrArg Value.bool hb52) rfl) ?_
                  refine o_w (za4 rfl rfl rfl (congrArg Value.bool hb48)) rfl (zan true (congrArg (fun b => Value.bool (!(b))) hb51) rfl) ?_
                  refine o_q rfl rfl (zan false (congrArg Value.bool hb48) rfl) ?_
                  refine o_q rfl rfl (q_asg rfl) ?_
                  refine o_end ?_
                  refine zaq ?_
                  refine za1 ?_
                  refine za0 ?_
                  refine o_q rfl rfl (q_up rfl rfl (hr30.up hm31)) ?_
                  refine o_q rfl rfl (za2 rfl) ?_
                  refine o_end ?_
                  refine zam ys28.length (ys28, i25 + 1, true) (by rw [← hk36]; exact Nat.lt_succ_self _) ⟨hr30.step, rfl, h⟩ ⟨rfl, rfl, trivial⟩ (fun w h => za8 [1, 2] (by decide) rfl w h) ?_
                  repeat (first | exact zac _ _ | refine zah rfl ?_ | refine zad rfl ?_ | refine zai rfl ?_)
                · replace h := br_f hb52 h
                  refine o_w (za4 rfl rfl rfl (congrArg Value.bool hb52)) rfl (q_f F117_1 rfl) ?_
                  refine o_w (za4 rfl rfl rfl (congrArg Value.bool hb52)) rfl (q_ldb Y3 rfl (fun w h => h.za9 (i := 0) rfl) rfl) ?_
                  refine o_w (za4 rfl rfl rfl (congrArg Value.bool hb52)) rfl (za2 rfl) ?_
                  refine o_w (za4 rfl rfl rfl (congrArg Value.bool hb52)) rfl (q_eql rfl rfl) ?_
                  refine o_w (za4 rfl rfl rfl (congrArg (fun b => Value.bool (!(b))) hb51)) rfl (zan false (congrArg Value.bool hb52) rfl) ?_
                  refine o_w (za4 rfl rfl rfl (congrArg Value.bool hb48)) rfl (zan true (congrArg (fun b => Value.bool (!(b))) hb51) rfl) ?_
                  refine o_q rfl rfl (zan false (congrArg Value.bool hb48) rfl) ?_
                  refine o_q rfl rfl (q_asg rfl) ?_
                  refine o_end ?_
                  refine zaq ?_
                  refine za1 ?_
                  refine za0 ?_
                  refine o_q rfl rfl (q_up rfl rfl (hr30.up hm31)) ?_
                  refine o_q rfl rfl (za2 rfl) ?_
                  refine o_end ?_
                  refine zam ys28.length (ys28, i25 + 1, decide (y27.f1 = i7)) (by rw [← hk36]; exact Nat.lt_succ_self _) ⟨hr30.step, rfl, h⟩ ⟨rfl, rfl, trivial⟩ (fun w h => za8 [1, 2] (by decide) rfl w h) ?_
                  repeat (first | exact zac _ _ | refine zah rfl ?_ | refine zad rfl ?_ | refine zai rfl ?_)
      · replace h := br_f hb19 h
        refine @o_n _ _ _ _ _ _ _ _ _ _ _ 25 (za3 rfl rfl rfl (congrArg Value.bool hb19) rfl) (Eq.refl (some 25)) ?_
        refine @o_n _ _ _ _ _ _ _ _ _ _ _ 26 (za3 rfl rfl rfl (congrArg Value.bool hb19) rfl) (Eq.refl (some 26)) ?_
        refine @o_n _ _ _ _ _ _ _ _ _ _ _ 27 (za3 rfl rfl rfl (congrArg Value.bool hb19) rfl) (Eq.refl (some 27)) ?_
        refine @o_n _ _ _ _ _ _ _ _ _ _ _ 28 (za3 rfl rfl rfl (congrArg Value.bool hb19) rfl) (Eq.refl (some 28)) ?_
        refine @o_n _ _ _ _ _ _ _ _ _ _ _ 29 (za3 rfl rfl rfl (congrArg Value.bool hb19) rfl) (Eq.refl (some 29)) ?_
        refine @o_n _ _ _ _ _ _ _ _ _ _ _ 30 (za3 rfl rfl rfl (congrArg Value.bool hb19) rfl) (Eq.refl (some 30)) ?_
        refine @o_n _ _ _ _ _ _ _ _ _ _ _ 31 (za3 rfl rfl rfl (congrArg Value.bool hb19) rfl) (Eq.refl (some 31)) ?_
        refine o_q rfl rfl (zan false (congrArg Value.bool hb19) rfl) ?_
        refine o_end ?_
        refine za1 ?_
        refine zaz rfl ?_
        refine zak ?_
        refine za1 ?_
        refine c_seq ?_
        refine za0 ?_
        refine o_q rfl rfl (q_f F36_2 rfl) ?_
        refine o_q rfl rfl (q_ldb Y22 rfl (fun w h => h.za9 (i := 1) rfl) rfl) ?_
        refine o_q rfl rfl (za2 rfl) ?_
        refine za6 h (fun b54 hx53 h => ?_) rfl
        refine o_e rfl (zaa 0 Z Try.func115 N115 rfl rfl rfl (fun w P1 hF hB hS hT => spec_l1Has.calls A0_2 c0_2 l0_2.length l0_2 i7 hB hF (hS _ R0_2) hc0_2 _ hx53)) (fun _ => ?_)
        refine o_q rfl rfl (q_asg rfl) ?_
        refine o_end ?_
        refine za1 ?_
        refine c_seq ?_
        refine c_seq ?_
        refine za0 ?_
        refine o_q rfl rfl (q_f F36_1 rfl) ?_
        refine o_q rfl rfl (q_ldb Y34 rfl (fun w h => h.za9 (i := 1) rfl) rfl) ?_
        refine o_q rfl rfl (q_len Try.underlying34 rfl) ?_
        refine o_q rfl rfl (za2 rfl) ?_
        refine o_end ?_
        refine za1 ?_
        refine zaj ?_
        refine za6 h (fun o64 hl63 hR62 => ?_) rfl
        clear h
        refine c_fact (p := l0_1.length ≤ 9223372036854775807) (fun w h => (R0_1.now Z h).2.1) (fun hm61 => ?_)
        refine zav (σ := (List SStep) × Int × Bool) (fun k59 ((ys58, i55, b56) : (List SStep) × Int × Bool) => Rg l0_1 i55 ys58 ∧ ys58.length = k59 ∧ spec_reNeeded.l2 l1 i7 ys58 i55 b56 = some o64) [7, 8, 9, 40, 41, 42, 43, 44, 45, 46, 47, 48, 49, 50, 51, 52, 53, 54, 55, 56, 57, 58, 59, 60, 61, 62, 63, 64] (fun ((ys58, i55, b56) : (List SStep) × Int × Bool) => [(7, .bool b56), (40, .int .i64 i55)]) (fun ((ys58, i55, b56) : (List SStep) × Int × Bool) => [row (Kd.int .i64) 3 (.slice A5 l4.length c6) l4, box g1 36 #[.int .i64 a0_0, .slice A0_1 l0_1.length c0_1, .slice A0_2 l0_2.length c0_2]]) l0_1.length (l0_1, 0, b54) ⟨Rg.start _, rfl, hl63⟩ ⟨rfl, rfl, trivial⟩ (fun w h => h) ?_
        refine fun k59 => cur3 (listC (fun i55 b56 U65 hJ_ => ?_) (fun y57 ys58 i55 b56 U65 hJ_ => ?_))
        · skip
          clear hl63
          have hr60 := hJ_.1; have hk66 := hJ_.2.1; have h := hJ_.2.2; clear hJ_
          replace h : spec_reNeeded.l2 l1 i7 [] i55 b56 = some o64 := h
          rw [spec_reNeeded.l2] at h
          refine c_seq ?_
          refine za0 ?_
          refine o_q rfl rfl (q_lss rfl rfl) ?_
          refine o_end ?_
          refine za1 ?_
          refine c_seq ?_
          refine zaz (congrArg Value.bool hr60.ge) ?_
          refine zb1 ?_
          refine za7 ?_
          refine za7 ?_
          have e_ := Option.some.inj h; replace h := hR62; rw [← e_] at h; clear e_
          refine x_hit ?_
          refine za1 ?_
          refine c_seq ?_
          refine za0 ?_
          refine o_q rfl rfl (za2 rfl) ?_
          refine o_end ?_
          refine za1 ?_
          refine zar _ rfl (fun hb67 => ?_) (fun hb67 => ?_)
          · skip
            replace h := bb_t hb67 h
            refine za0 ?_
            refine o_q rfl rfl (za2 rfl) ?_
            refine o_q rfl rfl (za2 rfl) ?_
            refine o_e rfl (e_lit (vs := [(0, .int .i64 i7)]) (cs := [.int .i64 i7]) (Kd.int .i64) ([i7] : List Int) Try.underlying22 I3 (by decide) rfl (by decide) rfl rfl (fun _ _ => Kd.zaw _)) (cur2 (fun A68 c69 => ?_))
            refine za6 h (fun l71 ha72 h => ?_) rfl
            refine o_e rfl (e_app (i := 1) (j := 0) Try.underlying22 I3 rfl (by decide) (by decide) rfl rfl rfl rfl rfl ha72) (cur2 (fun A73 c74 => ?_))
            refine o_q rfl rfl (q_asg rfl) ?_
            refine o_end ?_
            refine zaq ?_
            refine za1 ?_
            refine za0 ?_
            refine o_q rfl rfl (za2 rfl) ?_
            refine o_q rfl rfl (zb0 rfl rfl) ?_
            refine o_q rfl rfl (q_asg rfl) ?_
            refine o_end ?_
            refine zam k10 (l71, w64 (i7 + 1), A73, c74) (Nat.lt_succ_self _) h ⟨rfl, rfl, trivial⟩ (fun w h => za8 [1, 2] (by decide) rfl w h) ?_
            repeat (first | exact zac _ _ | refine zah rfl ?_ | refine zad rfl ?_ | refine zai rfl ?_)
          · skip
            replace h := bb_f hb67 h
            refine zak ?_
            refine zaq ?_
            refine za1 ?_
            refine za0 ?_
            refine o_q rfl rfl (za2 rfl) ?_
            refine o_q rfl rfl (zb0 rfl rfl) ?_
            refine o_q rfl rfl (q_asg rfl) ?_
            refine o_end ?_
            refine zam k10 (l4, w64 (i7 + 1), A5, c6) (Nat.lt_succ_self _) h ⟨rfl, rfl, trivial⟩ (fun w h => za8 [0, 1] (by decide) rfl w h) ?_
            repeat (first | exact zac _ _ | refine zah rfl ?_ | refine zad rfl ?_ | refine zai rfl ?_)
        · skip
          clear hl63
          have hr60 := hJ_.1; have hk66 := hJ_.2.1; have h := hJ_.2.2; clear hJ_
          replace h : spec_reNeeded.l2 l1 i7 (y57 :: ys58) i55 b56 = some o64 := h
          rw [spec_reNeeded.l2] at h
          refine c_seq ?_
          refine za0 ?_
          refine o_q rfl rfl (q_lss rfl rfl) ?_
          refine o_end ?_
          refine za1 ?_
          refine c_seq ?_
          refine zay (congrArg Value.bool hr60.lt) ?_
          refine zak ?_
          refine za1 ?_
          refine c_seq ?_
          refine zaj ?_
          refine c_seq ?_
          refine za0 ?_
          refine o_q rfl rfl (za2 rfl) ?_
          refine zau (p := Sh A0_1 l0_1.length l0_1.length) (fun w h => f_sh (dk := kStep) h (fun w h => R0_1.now Z h)) (fun hq75 => ?_)
          refine o_q rfl rfl (q_ix Try.underlying34 Z117 rfl rfl hq75 hr60.get) ?_
          refine o_q rfl rfl (q_ldE G117 Z117 rfl rfl (fun w h => R0_1.now Z h) hr60.get (fun _ _ h => h) rfl) ?_
          refine o_e rfl (zat V117 rfl) (fun g76 => ?_)
          refine o_q rfl rfl (q_asg rfl) ?_
          refine o_e rfl (zao (i := 0) rfl rfl rfl Z117 rfl rfl) (fun _ => ?_)
          refine o_end ?_
          refine za1 ?_
          refine za0 ?_
          refine o_q rfl rfl (za2 rfl) ?_
          refine o_q rfl rfl (za2 rfl) ?_
          refine byB b56 (fun hb78 => ?_) (fun hb78 => ?_)
          · replace h := bb_t hb78 h
            refine @o_n _ _ _ _ _ _ _ _ _ _ _ 47 (za3 rfl rfl rfl (congrArg Value.bool hb78) rfl) (Eq.refl (some 47)) ?_
            refine @o_n _ _ _ _ _ _ _ _ _ _ _ 48 (za3 rfl rfl rfl (congrArg Value.bool hb78) rfl) (Eq.refl (some 48)) ?_
            refine @o_n _ _ _ _ _ _ _ _ _ _ _ 49 (za3 rfl rfl rfl (congrArg Value.bool hb78) rfl) (Eq.refl (some 49)) ?_
            refine @o_n _ _ _ _ _ _ _ _ _ _ _ 50 (za3 rfl rfl rfl (congrArg Value.bool hb78) rfl) (Eq.refl (some 50)) ?_
            refine @o_n _ _ _ _ _ _ _ _ _ _ _ 51 (za3 rfl rfl rfl (congrArg Value.bool hb78) rfl) (Eq.refl (some 51)) ?_
            refine @o_n _ _ _ _ _ _ _ _ _ _ _ 52 (zb6 rfl rfl rfl rfl) (Eq.refl (some 52)) ?_
            refine @o_n _ _ _ _ _ _ _ _ _ _ _ 53 (zb6 rfl rfl rfl rfl) (Eq.refl (some 53)) ?_
            refine @o_n _ _ _ _ _ _ _ _ _ _ _ 54 (zb6 rfl rfl rfl rfl) (Eq.refl (some 54)) ?_
            refine @o_n _ _ _ _ _ _ _ _ _ _ _ 55 (zb6 rfl rfl rfl rfl) (Eq.refl (some 55)) ?_
            refine @o_n _ _ _ _ _ _ _ _ _ _ _ 56 (zb6 rfl rfl rfl rfl) (Eq.refl (some 56)) ?_
            refine @o_n _ _ _ _ _ _ _ _ _ _ _ 57 (zb6 rfl rfl rfl rfl) (Eq.refl (some 57)) ?_
            refine @o_n _ _ _ _ _ _ _ _ _ _ _ 58 (zb6 rfl rfl rfl rfl) (Eq.refl (some 58)) ?_
            refine @o_n _ _ _ _ _ _ _ _ _ _ _ 59 (zb6 rfl rfl rfl rfl) (Eq.refl (some 59)) ?_
            refine @o_n _ _ _ _ _ _ _ _ _ _ _ 60 (zb6 rfl rfl rfl rfl) (Eq.refl (some 60)) ?_
            refine @o_n _ _ _ _ _ _ _ _ _ _ _ 61 (zb6 rfl rfl rfl rfl) (Eq.refl (some 61)) ?_
            refine @o_n _ _ _ _ _ _ _ _ _ _ _ 62 (za3 rfl rfl rfl (congrArg Value.bool hb78) rfl) (Eq.refl (some 62)) ?_
            refine o_q rfl rfl (zan true (congrArg Value.bool hb78) rfl) ?_
            refine o_q rfl rfl (q_asg rfl) ?_
            refine o_end ?_
            refine zaq ?_
            refine za1 ?_
            refine za0 ?_
            refine o_q rfl rfl (q_up rfl rfl (hr60.up hm61)) ?_
            refine o_q rfl rfl (za2 rfl) ?_
            refine o_end ?_
            refine zam ys58.length (ys58, i55 + 1, true) (by rw [← hk66]; exact Nat.lt_succ_self _) ⟨hr60.step, rfl, h⟩ ⟨rfl, rfl, trivial⟩ (fun w h => za8 [1, 2] (by decide) rfl w h) ?_
            repeat (first | exact zac _ _ | refine zah rfl ?_ | refine zad rfl ?_ | refine zai rfl ?_)
          · replace h := bb_f hb78 h
            refine o_w (za4 rfl rfl rfl (congrArg Value.bool hb78)) rfl (za2 rfl) ?_
            refine o_w (za4 rfl rfl rfl (congrArg Value.bool hb78)) rfl (za2 rfl) ?_
            refine za6 h (fun b80 hx79 h => ?_) rfl
            refine o_ew (za4 rfl rfl rfl (congrArg Value.bool hb78)) (zaa 0 Z Try.func115 N115 rfl rfl rfl (fun w P1 hF hB hS hT => spec_l1Has.calls A1 c1 l1.length l1 i55 hB hF (hS _ R1) hc1 _ hx79)) (fun _ => ?_)
            refine o_w (za4 rfl rfl rfl (congrArg Value.bool hb78)) rfl (q_not rfl) ?_
            refine o_w (za4 rfl rfl rfl (congrArg Value.bool hb78)) rfl (za2 rfl) ?_
            refine byB b80 (fun hb81 => ?_) (fun hb81 => ?_)
            · replace h := bb_t hb81 h
              refine @o_n _ _ _ _ _ _ _ _ _ _ _ 52 (za3 rfl rfl rfl (congrArg (fun b => Value.bool (!(b))) hb81) rfl) (Eq.refl (some 52)) ?_
              refine @o_n _ _ _ _ _ _ _ _ _ _ _ 53 (za3 rfl rfl rfl (congrArg (fun b => Value.bool (!(b))) hb81) rfl) (Eq.refl (some 53)) ?_
              refine @o_n _ _ _ _ _ _ _ _ _ _ _ 54 (za3 rfl rfl rfl (congrArg (fun b => Value.bool (!(b))) hb81) rfl) (Eq.refl (some 54)) ?_
              refine @o_n _ _ _ _ _ _ _ _ _ _ _ 55 (za3 rfl rfl rfl (congrArg (fun b => Value.bool (!(b))) hb81) rfl) (Eq.refl (some 55)) ?_
              refine @o_n _ _ _ _ _ _ _ _ _ _ _ 56 (za3 rfl rfl rfl (congrArg (fun b => Value.bool (!(b))) hb81) rfl) (Eq.refl (some 56)) ?_
              refine @o_n _ _ _ _ _ _ _ _ _ _ _ 57 (zb6 rfl rfl rfl rfl) (Eq.refl (some 57)) ?_
              refine @o_n _ _ _ _ _ _ _ _ _ _ _ 58 (zb6 rfl rfl rfl rfl) (Eq.refl (some 58)) ?_
              refine @o_n _ _ _ _ _ _ _ _ _ _ _ 59 (zb6 rfl rfl rfl rfl) (Eq.refl (some 59)) ?_
              refine @o_n _ _ _ _ _ _ _ _ _ _ _ 60 (zb6 rfl rfl rfl rfl) (Eq.refl (some 60)) ?_
              refine @o_n _ _ _ _ _ _ _ _ _ _ _ 61 (za3 rfl rfl rfl (congrArg (fun b => Value.bool (!(b))) hb81) rfl) (Eq.refl (some 61)) ?_
              refine o_w (za4 rfl rfl rfl (congrArg Value.bool hb78)) rfl (zan false (congrArg (fun b => Value.bool (!(b))) hb81) rfl) ?_
              refine o_q rfl rfl (zan false (congrArg Value.bool hb78) rfl) ?_
              refine o_q rfl rfl (q_asg rfl) ?_
              refine o_end ?_
              refine zaq ?_
              refine za1 ?_
              refine za0 ?_
              refine o_q rfl rfl (q_up rfl rfl (hr60.up hm61)) ?_
              refine o_q rfl rfl (za2 rfl) ?_
              refine o_end ?_
              refine zam ys58.length (ys58, i55 + 1, false) (by rw [← hk66]; exact Nat.lt_succ_self _) ⟨hr60.step, rfl, h⟩ ⟨rfl, rfl, trivial⟩ (fun w h => za8 [1, 2] (by decide) rfl w h) ?_
              repeat (first | exact zac _ _ | refine zah rfl ?_ | refine zad rfl ?_ | refine zai rfl ?_)
            · replace h := bb_f hb81 h
              refine o_w (za4 rfl rfl rfl (congrArg (fun b => Value.bool (!(b))) hb81)) rfl (q_f F117_0 rfl) ?_
              refine o_w (za4 rfl rfl rfl (congrArg (fun b => Value.bool (!(b))) hb81)) rfl (q_ldb Y3 rfl (fun w h => h.za9 (i := 0) rfl) rfl) ?_
              refine o_w (za4 rfl rfl rfl (congrArg (fun b => Value.bool (!(b))) hb81)) rfl (za2 rfl) ?_
              refine o_w (za4 rfl rfl rfl (congrArg (fun b => Value.bool (!(b))) hb81)) rfl (q_eql rfl rfl) ?_
              refine o_w (za4 rfl rfl rfl (congrArg (fun b => Value.bool (!(b))) hb81)) rfl (za2 rfl) ?_
              refine byB (decide (y57.f0 = i7)) (fun hb82 => ?_) (fun hb82 => ?_)
              · replace h := br_t hb82 h
                refine @o_n _ _ _ _ _ _ _ _ _ _ _ 57 (za3 rfl rfl rfl (congrArg Value.bool hb82) rfl) (Eq.refl (some 57)) ?_
                refine @o_n _ _ _ _ _ _ _ _ _ _ _ 58 (za3 rfl rfl rfl (congrArg Value.bool hb82) rfl) (Eq.refl (some 58)) ?_
                refine @o_n _ _ _ _ _ _ _ _ _ _ _ 59 (za3 rfl rfl rfl (congrArg Value.bool hb82) rfl) (Eq.refl (some 59)) ?_
                refine @o_n _ _ _ _ _ _ _ _ _ _ _ 60 (za3 rfl rfl rfl (congrArg Value.bool hb82) rfl) (Eq.refl (some 60)) ?_
                refine o_w (za4 rfl rfl rfl (congrArg (fun b => Value.bool (!(b))) hb81)) rfl (zan true (congrArg Value.bool hb82) rfl) ?_
                refine o_w (za4 rfl rfl rfl (congrArg Value.bool hb78)) rfl (zan true (congrArg (fun b => Value.bool (!(b))) hb81) rfl) ?_
                refine o_q rfl rfl (zan false (congrArg Value.bool hb78) rfl) ?_
                refine o_q rfl rfl (q_asg rfl) ?_
                refine o_end ?_
                refine zaq ?_
                refine za1 ?_
                refine za0 ?_
                refine o_q rfl rfl (q_up rfl rfl (hr60.up hm61)) ?_
                refine o_q rfl rfl (za2 rfl) ?_
                refine o_end ?_
                refine zam ys58.length (ys58, i55 + 1, true) (by rw [← hk66]; exact Nat.lt_succ_self _) ⟨hr60.step, rfl, h⟩ ⟨rfl, rfl, trivial⟩ (fun w h => za8 [1, 2] (by decide) rfl w h) ?_
                repeat (first | exact zac _ _ | refine zah rfl ?_ | refine zad rfl ?_ | refine zai rfl ?_)
              · replace h := br_f hb82 h
                refine o_w (za4 rfl rfl rfl (congrArg Value.bool hb82)) rfl (q_f F117_1 rfl) ?_
                refine o_w (za4 rfl rfl rfl (congrArg Value.bool hb82)) rfl (q_ldb Y3 rfl (fun w h => h.za9 (i := 0) rfl) rfl) ?_
                refine o_w (za4 rfl rfl rfl (congrArg Value.bool hb82)) rfl (za2 rfl) ?_
                refine o_w (za4 rfl rfl rfl (congrArg Value.bool hb82)) rfl (q_eql rfl rfl) ?_
                refine o_w (za4 rfl rfl rfl (congrArg (fun b => Value.bool (!(b))) hb81)) rfl (zan false (congrArg Value.bool hb82) rfl) ?_
                refine o_w (za4 rfl rfl rfl (congrArg Value.bool hb78)) rfl (zan true (congrArg (fun b => Value.bool (!(b))) hb81) rfl) ?_
                refine o_q rfl rfl (zan false (congrArg Value.bool hb78) rfl) ?_
                refine o_q rfl rfl (q_asg rfl) ?_
                refine o_end ?_
                refine zaq ?_
                refine za1 ?_
                refine za0 ?_
                refine o_q rfl rfl (q_up rfl rfl (hr60.up hm61)) ?_
                refine o_q rfl rfl (za2 rfl) ?_
                refine o_end ?_
                refine zam ys58.length (ys58, i55 + 1, decide (y57.f1 = i7)) (by rw [← hk66]; exact Nat.lt_succ_self _) ⟨hr60.step, rfl, h⟩ ⟨rfl, rfl, trivial⟩ (fun w h => za8 [1, 2] (by decide) rfl w h) ?_
                repeat (first | exact zac _ _ | refine zah rfl ?_ | refine zad rfl ?_ | refine zai rfl ?_)
    · skip
      replace h := br_f hb18 h
      refine zb1 ?_
      refine za7 ?_
      refine za7 ?_
      have e_ := Option.some.inj h; replace h := hR13; rw [← e_] at h; clear e_
      refine x_hit ?_
      refine za1 ?_
      refine c_seq ?_
      refine za0 ?_
      refine o_q rfl rfl (za2 rfl) ?_
      refine o_q rfl rfl (q_asg rfl) ?_
      refine o_end ?_
      refine za1 ?_
      refine c_ret ?_
      have e0_ := Option.some.inj h; clear h
      subst e0_
      exact x_r1 (A5, c6) Try.results114 (zaf rfl) rfl (fun w h => za8 [0] (by decide) rfl w h)

/-! ### loop.example/g01098/spec.l1Put: function 164 -/
def spec_l1Put.l0 (l0 : List Int) (a1 : Int) : Nat → Int → Option Int
  | 0, _ => none
  | k26 + 1, i23 => if i23 < (l0.length : Int) then ((gt l0 i23).bind fun y37 => if y37 < a1 then (spec_l1Put.l0 l0 a1 k26 (w64 (i23 + 1))) else (some i23)) else (some i23)
def spec_l1Put.f (k : Nat) (l0 : List Int) (a1 : Int) : Option (List Int) := ((spec_l1Put.l0 l0 a1 k 0)).bind fun i17 => (if i17 < (l0.length : Int) then ((gt l0 i17).bind fun y52 => if y52 = a1 then (some (.inl l0)) else (some (.inr ()))) else (some (.inr ())) : Option (((List Int)) ⊕ (Unit))).bind fun o_ => match o_ with | .inl r_ => some r_ | .inr _ => (ct l0 (0 : Int) i17).bind fun l57 => (ap ([] : List Int) l57).bind fun l60 => (ap l60 ([a1] : List Int)).bind fun l67 => (ct l0 i17 (l0.length : Int)).bind fun l71 => (ap l67 l71).bind fun l74 => some l74
set_option maxHeartbeats 600000 in
set_option maxRecDepth 100000 in
theorem spec_l1Put.calls (k : Nat) {w0 ws : World} {P0 : Nat → Prop} (A0 : Option Addr) (c0 : Nat) (n0 : Nat) (l0 : List Int) (a1 : Int) (Z : Below w0.heap.size w0 ws) (hF : Fr w0 ws P0 [row (Kd.int .i64) 3 (.slice A0 n0 c0) l0] ws)  (r_1 : List Int) (h : spec_l1Put.f k l0 a1 = some r_1) :
    Calls Try.prog 164 #[.slice A0 n0 c0, .int .i64 a1] ws (Post1 w0 ws P0 (fun ((q_2, q_3) : (Option Addr) × Nat) => .slice q_2 r_1.length q_3) (fun ((q_2, q_3) : (Option Addr) × Nat) => [row (Kd.int .i64) 3 (.slice q_2 r_1.length q_3) r_1])) := by
  unfold spec_l1Put.f at h
  obtain rfl := (hF.row_C (i := 0) rfl).2.1
  refine enter Try.func164 rfl Try.ntmps164 rfl hF ?_
  refine c_seq ?_
  refine za0 ?_
  refine o_q rfl rfl (q_asg rfl) ?_
  refine o_end ?_
  refine za1 ?_
  refine c_seq ?_
  refine za0 ?_
  refine o_q rfl rfl (q_asg rfl) ?_
  refine o_end ?_
  refine za1 ?_
  refine za6 h (fun o18 hl19 hR20 => ?_) rfl
  clear h
  refine c_cutJ (σ := Int) (fun i17 => some i17 = some o18) [5, 7, 8, 9, 10, 11, 12, 13, 14, 15, 16, 17, 18, 19, 20] (fun i17 => [(5, .int .i64 i17)]) (fun i17 => [row (Kd.int .i64) 3 (.slice A0 l0.length c0) l0]) ?_ ?_
  · skip
    have h := hl19; clear hl19
    clear hR20
    refine zaj ?_
    have hl30 := h; clear h
    refine zav (σ := Int) (fun k26 (i23 : Int) => spec_l1Put.l0 l0 a1 k26 i23 = some o18) [5, 7, 8, 9, 10, 11, 12, 13, 14, 15, 16, 17, 18, 19, 20] (fun (i23 : Int) => [(5, .int .i64 i23)]) (fun (i23 : Int) => [row (Kd.int .i64) 3 (.slice A0 l0.length c0) l0]) k 0 hl30 ⟨rfl, trivial⟩ (fun w h => h) ?_
    refine natC (fun i23 => fun U32 hJ_ => ?_) (fun k26 => (fun i23 => fun U32 hJ_ => ?_))
    · skip
      replace hJ_ : spec_l1Put.l0 l0 a1 0 i23 = some o18 := hJ_
      rw [spec_l1Put.l0] at hJ_
      exact noneE hJ_
    · skip
      clear hl30
      have h := hJ_; clear hJ_
      replace h : spec_l1Put.l0 l0 a1 (k26 + 1) i23 = some o18 := h
      rw [spec_l1Put.l0] at h
      refine c_seq ?_
      refine c_seq ?_
      refine za0 ?_
      refine o_q rfl rfl (za2 rfl) ?_
      refine o_q rfl rfl (za2 rfl) ?_
      refine o_q rfl rfl (q_len Try.underlying22 rfl) ?_
      refine o_q rfl rfl (q_lss rfl rfl) ?_
      refine o_q rfl rfl (za2 rfl) ?_
      refine byB (decide (i23 < (l0.length : Int))) (fun hb34 => ?_) (fun hb34 => ?_)
      · replace h := br_t hb34 h
        refine o_w (za4 rfl rfl rfl (congrArg Value.bool hb34)) rfl (za2 rfl) ?_
        refine o_w (za4 rfl rfl rfl (congrArg Value.bool hb34)) rfl (za2 rfl) ?_
        refine zau (p := Sh A0 l0.length l0.length) (fun w h => f_sh (dk := (Kd.int .i64)) h (fun w h => h.zas (i := 0) rfl)) (fun hq35 => ?_)
        refine za6 h (fun y37 hg36 h => ?_) rfl
        refine o_w (za4 rfl rfl rfl (congrArg Value.bool hb34)) rfl (q_ix Try.underlying22 Z3 rfl rfl hq35 hg36) ?_
        refine o_w (za4 rfl rfl rfl (congrArg Value.bool hb34)) rfl (q_lde (off := 0) Y3 rfl rfl (fun w h => h.zas (i := 0) rfl) hg36 (fun _ _ h => h) rfl) ?_
        refine o_w (za4 rfl rfl rfl (congrArg Value.bool hb34)) rfl (za2 rfl) ?_
        refine o_w (za4 rfl rfl rfl (congrArg Value.bool hb34)) rfl (q_lss rfl rfl) ?_
        refine o_q rfl rfl (zan true (congrArg Value.bool hb34) rfl) ?_
        refine o_end ?_
        refine za1 ?_
        refine zar _ rfl (fun hb38 => ?_) (fun hb38 => ?_)
        · skip
          replace h := br_t hb38 h
          refine zak ?_
          refine za1 ?_
          refine zaj ?_
          refine za0 ?_
          refine o_q rfl rfl (za2 rfl) ?_
          refine o_q rfl rfl (zb0 rfl rfl) ?_
          refine o_q rfl rfl (q_asg rfl) ?_
          refine o_end ?_
          refine zaq ?_
          refine zam k26 (w64 (i23 + 1)) (Nat.lt_succ_self _) h ⟨rfl, trivial⟩ (fun w h => za8 [0] (by decide) rfl w h) ?_
          repeat (first | exact zac _ _ | refine zah rfl ?_ | refine zad rfl ?_ | refine zai rfl ?_)
        · skip
          replace h := br_f hb38 h
          refine zb1 ?_
          refine za7 ?_
          refine za7 ?_
          refine x_hit ?_
          refine zb2 i23 h ⟨rfl, trivial⟩ (fun w h => za8 [0] (by decide) rfl w h) ?_
          repeat (first | exact zac _ _ | refine zah rfl ?_ | refine zad rfl ?_ | refine zai rfl ?_)
      · replace h := br_f hb34 h
        refine @o_n _ _ _ _ _ _ _ _ _ _ _ 12 (za3 rfl rfl rfl (congrArg Value.bool hb34) rfl) (Eq.refl (some 12)) ?_
        refine @o_n _ _ _ _ _ _ _ _ _ _ _ 13 (za3 rfl rfl rfl (congrArg Value.bool hb34) rfl) (Eq.refl (some 13)) ?_
        refine @o_n _ _ _ _ _ _ _ _ _ _ _ 14 (za3 rfl rfl rfl (congrArg Value.bool hb34) rfl) (Eq.refl (some 14)) ?_
        refine @o_n _ _ _ _ _ _ _ _ _ _ _ 15 (za3 rfl rfl rfl (congrArg Value.bool hb34) rfl) (Eq.refl (some 15)) ?_
        refine @o_n _ _ _ _ _ _ _ _ _ _ _ 16 (za3 rfl rfl rfl (congrArg Value.bool hb34) rfl) (Eq.refl (some 16)) ?_
        refine @o_n _ _ _ _ _ _ _ _ _ _ _ 17 (za3 rfl rfl rfl (congrArg Value.bool hb34) rfl) (Eq.refl (some 17)) ?_
        refine o_q rfl rfl (zan false (congrArg Value.bool hb34) rfl) ?_
        refine o_end ?_
        refine za1 ?_
        refine zaz rfl ?_
        refine zb1 ?_
        refine za7 ?_
        refine za7 ?_
        refine x_hit ?_
        refine zb2 i23 h ⟨rfl, trivial⟩ (fun w h => za8 [0] (by decide) rfl w h) ?_
        repeat (first | exact zac _ _ | refine zah rfl ?_ | refine zad rfl ?_ | refine zai rfl ?_)
  · skip
    refine (fun i17 => fun U21 hJ22 => ?_)
    have e_ := Option.some.inj hJ22; have h := hR20; rw [← e_] at h; clear e_ hJ22 hR20 hl19
    refine za6 h (fun o44 hl45 hR46 => ?_) rfl
    clear h
    refine c_cutJ (σ := Unit) (fun _ => some (.inr ()) = some o44) [4, 21, 22, 23, 24, 25, 26, 27, 28, 29, 30, 31, 32, 33] (fun _ => []) (fun _ => [row (Kd.int .i64) 3 (.slice A0 l0.length c0) l0]) ?_ ?_
    · skip
      have h := hl45; clear hl45
      refine c_seq ?_
      refine za0 ?_
      refine o_q rfl rfl (za2 rfl) ?_
      refine o_q rfl rfl (za2 rfl) ?_
      refine o_q rfl rfl (q_len Try.underlying22 rfl) ?_
      refine o_q rfl rfl (q_lss rfl rfl) ?_
      refine o_q rfl rfl (za2 rfl) ?_
      refine byB (decide (i17 < (l0.length : Int))) (fun hb49 => ?_) (fun hb49 => ?_)
      · replace h := br_t hb49 h
        refine o_w (za4 rfl rfl rfl (congrArg Value.bool hb49)) rfl (za2 rfl) ?_
        refine o_w (za4 rfl rfl rfl (congrArg Value.bool hb49)) rfl (za2 rfl) ?_
        refine zau (p := Sh A0 l0.length l0.length) (fun w h => f_sh (dk := (Kd.int .i64)) h (fun w h => h.zas (i := 0) rfl)) (fun hq50 => ?_)
        refine za6 h (fun y52 hg51 h => ?_) rfl
        refine o_w (za4 rfl rfl rfl (congrArg Value.bool hb49)) rfl (q_ix Try.underlying22 Z3 rfl rfl hq50 hg51) ?_
        refine o_w (za4 rfl rfl rfl (congrArg Value.bool hb49)) rfl (q_lde (off := 0) Y3 rfl rfl (fun w h => h.zas (i := 0) rfl) hg51 (fun _ _ h => h) rfl) ?_
        refine o_w (za4 rfl rfl rfl (congrArg Value.bool hb49)) rfl (za2 rfl) ?_
        refine o_w (za4 rfl rfl rfl (congrArg Value.bool hb49)) rfl (q_eql rfl rfl) ?_
        refine o_q rfl rfl (zan true (congrArg Value.bool hb49) rfl) ?_
        refine o_end ?_
        refine za1 ?_
        refine zar _ rfl (fun hb53 => ?_) (fun hb53 => ?_)
        · skip
          replace h := br_t hb53 h
          refine c_seq ?_
          refine za0 ?_
          refine o_q rfl rfl (za2 rfl) ?_
          refine o_q rfl rfl (q_asg rfl) ?_
          refine o_end ?_
          refine za1 ?_
          refine c_ret ?_
          refine za5 ?_
          have e_ := Option.some.inj h; replace h := hR46; rw [← e_] at h; clear e_
          have e0_ := Option.some.inj h; clear h
          subst e0_
          exact x_r1 (A0, c0) Try.results164 (zaf rfl) rfl (fun w h => za8 [0] (by decide) rfl w h)
        · skip
          replace h := br_f hb53 h
          refine zak ?_
          refine zb2 () h trivial (fun w h => za8 [0] (by decide) rfl w h) ?_
          repeat (first | exact zac _ _ | refine zah rfl ?_ | refine zad rfl ?_ | refine zai rfl ?_)
      · replace h := br_f hb49 h
        refine @o_n _ _ _ _ _ _ _ _ _ _ _ 26 (za3 rfl rfl rfl (congrArg Value.bool hb49) rfl) (Eq.refl (some 26)) ?_
        refine @o_n _ _ _ _ _ _ _ _ _ _ _ 27 (za3 rfl rfl rfl (congrArg Value.bool hb49) rfl) (Eq.refl (some 27)) ?_
        refine @o_n _ _ _ _ _ _ _ _ _ _ _ 28 (za3 rfl rfl rfl (congrArg Value.bool hb49) rfl) (Eq.refl (some 28)) ?_
        refine @o_n _ _ _ _ _ _ _ _ _ _ _ 29 (za3 rfl rfl rfl (congrArg Value.bool hb49) rfl) (Eq.refl (some 29)) ?_
        refine @o_n _ _ _ _ _ _ _ _ _ _ _ 30 (za3 rfl rfl rfl (congrArg Value.bool hb49) rfl) (Eq.refl (some 30)) ?_
        refine @o_n _ _ _ _ _ _ _ _ _ _ _ 31 (za3 rfl rfl rfl (congrArg Value.bool hb49) rfl) (Eq.refl (some 31)) ?_
        refine o_q rfl rfl (zan false (congrArg Value.bool hb49) rfl) ?_
        refine o_end ?_
        refine za1 ?_
        refine zaz rfl ?_
        refine zak ?_
        refine zb2 () h trivial (fun w h => za8 [0] (by decide) rfl w h) ?_
        repeat (first | exact zac _ _ | refine zah rfl ?_ | refine zad rfl ?_ | refine zai rfl ?_)
    · skip
      refine (fun _ => fun U47 hJ48 => ?_)
      have e_ := Option.some.inj hJ48; have h := hR46; rw [← e_] at h; clear e_ hJ48 hR46 hl45
      refine c_seq ?_
      refine za0 ?_
      refine o_e rfl (e_lit0 (Kd.int .i64) Try.underlying22 I3) (cur2 (fun A54 c55 => ?_))
      refine o_q rfl rfl (za2 rfl) ?_
      refine o_q rfl rfl (za2 rfl) ?_
      refine za6 h (fun l57 hz58 h => ?_) rfl
      refine zau (p := l0.length = l0.length ∧ l0.length ≤ c0) (fun w h => h.row_nc (i := 1) rfl) (fun hk59 => ?_)
      refine o_q rfl rfl (q_ctv Try.underlying22 Z3 rfl rfl ⟨_, rfl⟩ hk59.1 hk59.2 hz58) ?_
      refine za6 h (fun l60 ha61 h => ?_) rfl
      refine o_e rfl (e_appr (i := 0) Try.underlying22 I3 rfl (by decide) (by decide) (fun _ _ _ _ h => h) rfl (fun w h => C_cut (dk := (Kd.int .i64)) rfl hz58 hk59.2 (h.zas (i := 1) rfl)) rfl rfl ha61) (cur2 (fun A62 c63 => ?_))
      refine o_q rfl rfl (q_asg rfl) ?_
      refine o_end ?_
      refine za1 ?_
      refine c_seq ?_
      refine za0 ?_
      refine o_q rfl rfl (za2 rfl) ?_
      refine o_q rfl rfl (za2 rfl) ?_
      refine o_e rfl (e_lit (vs := [(0, .int .i64 a1)]) (cs := [.int .i64 a1]) (Kd.int .i64) ([a1] : List Int) Try.underlying22 I3 (by decide) rfl (by decide) rfl rfl (fun _ _ => Kd.zaw _)) (cur2 (fun A64 c65 => ?_))
      refine za6 h (fun l67 ha68 h => ?_) rfl
      refine o_e rfl (e_app (i := 1) (j := 0) Try.underlying22 I3 rfl (by decide) (by decide) rfl rfl rfl rfl rfl ha68) (cur2 (fun A69 c70 => ?_))
      refine o_q rfl rfl (q_asg rfl) ?_
      refine o_end ?_
      refine za1 ?_
      refine c_seq ?_
      refine za0 ?_
      refine o_q rfl rfl (za2 rfl) ?_
      refine o_q rfl rfl (za2 rfl) ?_
      refine o_q rfl rfl (za2 rfl) ?_
      refine za6 h (fun l71 hz72 h => ?_) rfl
      refine zau (p := l0.length = l0.length ∧ l0.length ≤ c0) (fun w h => h.row_nc (i := 2) rfl) (fun hk73 => ?_)
      refine o_q rfl rfl (q_ctv Try.underlying22 Z3 rfl ⟨_, rfl⟩ rfl hk73.1 hk73.2 hz72) ?_
      refine za6 h (fun l74 ha75 h => ?_) rfl
      refine o_e rfl (e_appr (i := 1) Try.underlying22 I3 rfl (by decide) (by decide) (fun _ _ _ _ h => h) rfl (fun w h => C_cut (dk := (Kd.int .i64)) rfl hz72 hk73.2 (h.zas (i := 2) rfl)) rfl rfl ha75) (cur2 (fun A76 c77 => ?_))
      refine o_q rfl rfl (q_asg rfl) ?_
      refine o_end ?_
      refine za1 ?_
      refine c_ret ?_
      have e0_ := Option.some.inj h; clear h
      subst e0_
      exact x_r1 (A76, c77) Try.results164 (zaf rfl) rfl (fun w h => za8 [1] (by decide) rfl w h)

/-! ### loop.example/g01098/spec.rePressure: function 107 -/
def spec_rePressure.l0 (k : Nat) (a0_0 : Int) (l0_1 : List SStep) (l0_2 : List Int) (l1 : List Int) : (List Int) → Int → Int → Option Int
  | [], i3, i4 => some i4
  | y5 :: ys6, i3, i4 => (ct l1 (0 : Int) (i3 + 1)).bind fun l16 => (spec_reNeeded.f k a0_0 l0_1 l0_2 l16).bind fun l19 => (spec_l1Put.f k l19 (w64 (a0_0 + y5))).bind fun l23 => (spec_l1Most.f i4 (l23.length : Int)).bind fun i27 => spec_rePressure.l0 k a0_0 l0_1 l0_2 l1 ys6 (i3 + 1) i27
def spec_rePressure.f (k : Nat) (a0_0 : Int) (l0_1 : List SStep) (l0_2 : List Int) (l1 : List Int) : Option Int := (spec_rePressure.l0 k a0_0 l0_1 l0_2 l1 l1 0 a0_0).bind fun i4 => some i4
set_option maxHeartbeats 600000 in
set_option maxRecDepth 100000 in
theorem spec_rePressure.calls (k : Nat) {w0 ws : World} {P0 : Nat → Prop} (a0_0 : Int) (A0_1 : Option Addr) (c0_1 : Nat) (n0_1 : Nat) (l0_1 : List SStep) (A0_2 : Option Addr) (c0_2 : Nat) (n0_2 : Nat) (l0_2 : List Int) (A1 : Option Addr) (c1 : Nat) (n1 : Nat) (l1 : List Int) (Z : Below w0.heap.size w0 ws) (hF : Fr w0 ws P0 [] ws) (R0_1 : Stable ws P0 (fun w => Kd.C kStep w A0_1 n0_1 l0_1)) (hc0_1 : n0_1 ≤ c0_1) (R0_2 : Stable ws P0 (fun w => Kd.C (Kd.int .i64) w A0_2 n0_2 l0_2)) (hc0_2 : n0_2 ≤ c0_2) (R1 : Stable ws P0 (fun w => Kd.C (Kd.int .i64) w A1 n1 l1)) (hc1 : n1 ≤ c1) (r_1 : Int) (h : spec_rePressure.f k a0_0 l0_1 l0_2 l1 = some r_1) :
    Calls Try.prog 107 #[.agg #[.int .i64 a0_0, .slice A0_1 n0_1 c0_1, .slice A0_2 n0_2 c0_2], .slice A1 n1 c1] ws (Post1 w0 ws P0 (fun (_ : Unit) => .int .i64 r_1) (fun (_ : Unit) => [])) := by
  unfold spec_rePressure.f at h
  obtain rfl := (R0_1 ws (KeptB.refl _ _)).1
  obtain rfl := (R0_2 ws (KeptB.refl _ _)).1
  obtain rfl := (R1 ws (KeptB.refl _ _)).1
  refine enter Try.func107 rfl Try.ntmps107 rfl hF ?_
  refine c_seq ?_
  refine za0 ?_
  refine o_e rfl (e_box rfl) (fun g1 => ?_)
  refine o_q rfl rfl (q_asg rfl) ?_
  refine o_end ?_
  refine za1 ?_
  refine c_seq ?_
  refine za0 ?_
  refine o_q rfl rfl (q_f F36_0 rfl) ?_
  refine o_q rfl rfl (q_ldb Y3 rfl (fun w h => h.za9 (i := 0) rfl) rfl) ?_
  refine o_q rfl rfl (q_asg rfl) ?_
  refine o_end ?_
  refine za1 ?_
  refine c_seq ?_
  refine c_seq ?_
  refine za0 ?_
  refine o_q rfl rfl (za2 rfl) ?_
  refine o_q rfl rfl (q_len Try.underlying22 rfl) ?_
  refine o_q rfl rfl (za2 rfl) ?_
  refine o_end ?_
  refine za1 ?_
  refine zaj ?_
  refine za6 h (fun o12 hl11 hR10 => ?_) rfl
  clear h
  refine c_fact (p := l1.length ≤ 9223372036854775807) (fun w h => (R1.now Z h).2.1) (fun hm9 => ?_)
  refine zav (σ := (List Int) × Int × Int) (fun k7 ((ys6, i3, i4) : (List Int) × Int × Int) => Rg l1 i3 ys6 ∧ ys6.length = k7 ∧ spec_rePressure.l0 k a0_0 l0_1 l0_2 l1 ys6 i3 i4 = some o12) [5, 6, 7, 12, 13, 14, 15, 16, 17, 18, 19, 20, 21, 22, 23, 24, 25, 26, 27, 28, 29, 30, 31] (fun ((ys6, i3, i4) : (List Int) × Int × Int) => [(5, .int .i64 i4), (12, .int .i64 i3)]) (fun ((ys6, i3, i4) : (List Int) × Int × Int) => [box g1 36 #[.int .i64 a0_0, .slice A0_1 l0_1.length c0_1, .slice A0_2 l0_2.length c0_2]]) l1.length (l1, 0, a0_0) ⟨Rg.start _, rfl, hl11⟩ ⟨rfl, rfl, trivial⟩ (fun w h => h) ?_
  refine fun k7 => cur3 (listC (fun i3 i4 U13 hJ_ => ?_) (fun y5 ys6 i3 i4 U13 hJ_ => ?_))
  · skip
    clear hl11
    have hr8 := hJ_.1; have hk14 := hJ_.2.1; have h := hJ_.2.2; clear hJ_
    replace h : spec_rePressure.l0 k a0_0 l0_1 l0_2 l1 [] i3 i4 = some o12 := h
    rw [spec_rePressure.l0] at h
    refine c_seq ?_
    refine za0 ?_
    refine o_q rfl rfl (q_lss rfl rfl) ?_
    refine o_end ?_
    refine za1 ?_
    refine c_seq ?_
    refine zaz (congrArg Value.bool hr8.ge) ?_
    refine zb1 ?_
    refine za7 ?_
    refine za7 ?_
    have e_ := Option.some.inj h; replace h := hR10; rw [← e_] at h; clear e_
    refine x_hit ?_
    refine za1 ?_
    refine c_seq ?_
    refine za0 ?_
    refine o_q rfl rfl (za2 rfl) ?_
    refine o_q rfl rfl (q_asg rfl) ?_
    refine o_end ?_
    refine za1 ?_
    refine c_ret ?_
    have e0_ := Option.some.inj h; clear h
    subst e0_
    exact x_r1 () Try.results107 (zaf rfl) rfl (fun w h => za8 [] (by decide) rfl w h)
  · skip
    clear hl11
    have hr8 := hJ_.1; have hk14 := hJ_.2.1; have h := hJ_.2.2; clear hJ_
    replace h : spec_rePressure.l0 k a0_0 l0_1 l0_2 l1 (y5 :: ys6) i3 i4 = some o12 := h
    rw [spec_rePressure.l0] at h
    refine c_seq ?_
    refine za0 ?_
    refine o_q rfl rfl (q_lss rfl rfl) ?_
    refine o_end ?_
    refine za1 ?_
    refine c_seq ?_
    refine zay (congrArg Value.bool hr8.lt) ?_
    refine zak ?_
    refine za1 ?_
    refine c_seq ?_
    refine zaj ?_
    refine c_seq ?_
    refine za0 ?_
    refine o_q rfl rfl (za2 rfl) ?_
    refine zau (p := Sh A1 l1.length l1.length) (fun w h => f_sh (dk := (Kd.int .i64)) h (fun w h => R1.now Z h)) (fun hq15 => ?_)
    refine o_q rfl rfl (q_ix Try.underlying22 Z3 rfl rfl hq15 hr8.get) ?_
    refine o_q rfl rfl (q_lde (off := 0) Y3 rfl rfl (fun w h => R1.now Z h) hr8.get (fun _ _ h => h) rfl) ?_
    refine o_q rfl rfl (q_asg rfl) ?_
    refine o_q rfl rfl (q_asg rfl) ?_
    refine o_end ?_
    refine za1 ?_
    refine a_start (ds := []) MO rfl ?_
    refine zae 0 rfl rfl rfl (by kernel_rfl) (fun _ _ _ h => h) (za2 rfl) ?_
    refine zb3 1 rfl rfl rfl (by kernel_rfl) (fun _ _ _ h => h) (fun w h => h) (q_ldB G36 Z36 rfl (fun w h => h.za9 (i := 0) rfl) rfl) ?_
    refine zae 2 rfl rfl rfl (by kernel_rfl) (fun _ _ _ h => h) (za2 rfl) ?_
    refine zae 3 rfl rfl rfl (by kernel_rfl) (fun _ _ _ h => h) (za2 rfl) ?_
    refine zae 4 rfl rfl rfl (by kernel_rfl) (fun _ _ _ h => h) (q_up rfl rfl (hr8.up hm9)) ?_
    refine za6 h (fun l16 hz17 h => ?_) rfl
    refine zae 5 rfl rfl rfl (by kernel_rfl) (fun _ _ _ h => h) (q_ctv Try.underlying22 Z3 rfl rfl ⟨_, rfl⟩ rfl hc1 hz17) ?_
    refine zae 7 rfl rfl rfl (by kernel_rfl) (fun _ _ _ h => h) (q_f F36_0 rfl) ?_
    refine zb3 8 rfl rfl rfl (by kernel_rfl) (fun _ _ _ h => h) (fun w h => h) (q_ldb Y3 rfl (fun w h => h.za9 (i := 0) rfl) rfl) ?_
    refine zae 9 rfl rfl rfl (by kernel_rfl) (fun _ _ _ h => h) (za2 rfl) ?_
    refine zae 10 rfl rfl rfl (by kernel_rfl) (fun _ _ _ h => h) (zb0 rfl rfl) ?_
    refine za6 h (fun l19 hx18 h => ?_) rfl
    refine a_one 6 rfl rfl (by kernel_rfl) rfl (zaa 0 Z Try.func114 N114 rfl rfl rfl (fun w P1 hF hB hS hT => spec_reNeeded.calls k a0_0 A0_1 c0_1 l0_1.length l0_1 A0_2 c0_2 l0_2.length l0_2 (cutA A1 c1 (0 : Int).toNat 1) (c1 - (0 : Int).toNat) l16.length l16 hB hF (hS _ R0_1) hc0_1 (hS _ R0_2) hc0_2 (stab_cut (dk := (Kd.int .i64)) rfl hz17 hc1 (hS _ R1)) (ct_cap hz17 rfl hc1) _ hx18)) (fun s w h => zab [some 1] (by decide) w h rfl) (cur2 (fun A20 c21 => ?_))
    refine za6 h (fun l23 hx22 h => ?_) rfl
    refine a_one 11 rfl rfl (by kernel_rfl) rfl (zaa 1 Z Try.func164 N164 rfl rfl rfl (fun w P1 hF hB hS hT => spec_l1Put.calls k A20 c21 l19.length l19 (w64 (a0_0 + y5)) hB hF _ hx22)) (fun s w h => zab [some 1] (by decide) w h rfl) (cur2 (fun A24 c25 => ?_))
    refine zae 12 rfl rfl rfl (by kernel_rfl) (fun _ _ _ h => h) (q_len Try.underlying22 rfl) ?_
    refine za6 h (fun i27 hx26 h => ?_) rfl
    refine a_one 13 rfl rfl (by kernel_rfl) rfl (zaa 0 Z Try.func146 N146 rfl rfl rfl (fun w P1 hF hB hS hT => spec_l1Most.calls i4 (l23.length : Int) hB hF _ hx26)) (fun s w h => zab [some 1] (by decide) w h rfl) (fun _ => ?_)
    refine zae 14 rfl rfl rfl (by kernel_rfl) (fun _ _ _ h => h) (q_asg rfl) ?_
    refine zb5 (by kernel_rfl) ?_
    refine zaq ?_
    refine za1 ?_
    refine za0 ?_
    refine o_q rfl rfl (q_up rfl rfl (hr8.up hm9)) ?_
    refine o_q rfl rfl (za2 rfl) ?_
    refine o_end ?_
    refine zam ys6.length (ys6, i3 + 1, i27) (by rw [← hk14]; exact Nat.lt_succ_self _) ⟨hr8.step, rfl, h⟩ ⟨rfl, rfl, trivial⟩ (fun w h => za8 [1] (by decide) rfl w h) ?_
    repeat (first | exact zac _ _ | refine zah rfl ?_ | refine zad rfl ?_ | refine zai rfl ?_)

/-! ### loop.example/g01098/spec.plPlace: function 113 -/
def spec_plPlace.l0 (a1 : Int) : (List Int) → Int → Option ((Int) ⊕ (Unit))
  | [], i1 => some (.inr ())
  | y2 :: ys3, i1 => if y2 = a1 then (some (.inl i1)) else (spec_plPlace.l0 a1 ys3 (i1 + 1))
def spec_plPlace.f (l0 : List Int) (a1 : Int) : Option Int := (spec_plPlace.l0 a1 l0 0).bind fun o_ => match o_ with | .inl r_ => some r_ | .inr _ => some (-1)
set_option maxHeartbeats 600000 in
set_option maxRecDepth 100000 in
theorem spec_plPlace.calls {w0 ws : World} {P0 : Nat → Prop} (A0 : Option Addr) (c0 : Nat) (n0 : Nat) (l0 : List Int) (a1 : Int) (Z : Below w0.heap.size w0 ws) (hF : Fr w0 ws P0 [] ws) (R0 : Stable ws P0 (fun w => Kd.C (Kd.int .i64) w A0 n0 l0)) (hc0 : n0 ≤ c0) (r_1 : Int) (h : spec_plPlace.f l0 a1 = some r_1) :
    Calls Try.prog 113 #[.slice A0 n0 c0, .int .i64 a1] ws (Post1 w0 ws P0 (fun (_ : Unit) => .int .i64 r_1) (fun (_ : Unit) => [])) := by
  unfold spec_plPlace.f at h
  obtain rfl := (R0 ws (KeptB.refl _ _)).1
  refine enter Try.func113 rfl Try.ntmps113 rfl hF ?_
  refine c_seq ?_
  refine za0 ?_
  refine o_q rfl rfl (q_asg rfl) ?_
  refine o_end ?_
  refine za1 ?_
  refine c_seq ?_
  refine c_seq ?_
  refine za0 ?_
  refine o_q rfl rfl (za2 rfl) ?_
  refine o_q rfl rfl (q_len Try.underlying22 rfl) ?_
  refine o_q rfl rfl (za2 rfl) ?_
  refine o_end ?_
  refine za1 ?_
  refine zaj ?_
  refine za6 h (fun o9 hl8 hR7 => ?_) rfl
  clear h
  refine c_fact (p := l0.length ≤ 9223372036854775807) (fun w h => (R0.now Z h).2.1) (fun hm6 => ?_)
  refine zav (σ := (List Int) × Int) (fun k4 ((ys3, i1) : (List Int) × Int) => Rg l0 i1 ys3 ∧ ys3.length = k4 ∧ spec_plPlace.l0 a1 ys3 i1 = some o9) [4, 5, 6, 9, 10, 11, 12, 13, 14, 15, 16, 17, 18] (fun ((ys3, i1) : (List Int) × Int) => [(9, .int .i64 i1)]) (fun ((ys3, i1) : (List Int) × Int) => []) l0.length (l0, 0) ⟨Rg.start _, rfl, hl8⟩ ⟨rfl, trivial⟩ (fun w h => h) ?_
  refine fun k4 => cur2 (listC (fun i1 U10 hJ_ => ?_) (fun y2 ys3 i1 U10 hJ_ => ?_))
  · skip
    clear hl8
    have hr5 := hJ_.1; have hk11 := hJ_.2.1; have h := hJ_.2.2; clear hJ_
    replace h : spec_plPlace.l0 a1 [] i1 = some o9 := h
    rw [spec_plPlace.l0] at h
    refine c_seq ?_
    refine za0 ?_
    refine o_q rfl rfl (q_lss rfl rfl) ?_
    refine o_end ?_
    refine za1 ?_
    refine c_seq ?_
    refine zaz (congrArg Value.bool hr5.ge) ?_
    refine zb1 ?_
    refine za7 ?_
    refine za7 ?_
    have e_ := Option.some.inj h; replace h := hR7; rw [← e_] at h; clear e_
    refine x_hit ?_
    refine za1 ?_
    refine c_seq ?_
    refine za0 ?_
    refine o_q rfl rfl (q_asg rfl) ?_
    refine o_end ?_
    refine za1 ?_
    refine c_ret ?_
    have e0_ := Option.some.inj h; clear h
    subst e0_
    exact x_r1 () Try.results113 (zaf rfl) rfl (fun w h => za8 [] (by decide) rfl w h)
  · skip
    clear hl8
    have hr5 := hJ_.1; have hk11 := hJ_.2.1; have h := hJ_.2.2; clear hJ_
    replace h : spec_plPlace.l0 a1 (y2 :: ys3) i1 = some o9 := h
    rw [spec_plPlace.l0] at h
    refine c_seq ?_
    refine za0 ?_
    refine o_q rfl rfl (q_lss rfl rfl) ?_
    refine o_end ?_
    refine za1 ?_
    refine c_seq ?_
    refine zay (congrArg Value.bool hr5.lt) ?_
    refine zak ?_
    refine za1 ?_
    refine c_seq ?_
    refine zaj ?_
    refine c_seq ?_
    refine za0 ?_
    refine o_q rfl rfl (za2 rfl) ?_
    refine zau (p := Sh A0 l0.length l0.length) (fun w h => f_sh (dk := (Kd.int .i64)) h (fun w h => R0.now Z h)) (fun hq12 => ?_)
    refine o_q rfl rfl (q_ix Try.underlying22 Z3 rfl rfl hq12 hr5.get) ?_
    refine o_q rfl rfl (q_lde (off := 0) Y3 rfl rfl (fun w h => R0.now Z h) hr5.get (fun _ _ h => h) rfl) ?_
    refine o_q rfl rfl (q_asg rfl) ?_
    refine o_q rfl rfl (q_asg rfl) ?_
    refine o_end ?_
    refine za1 ?_
    refine c_seq ?_
    refine za0 ?_
    refine o_q rfl rfl (za2 rfl) ?_
    refine o_q rfl rfl (za2 rfl) ?_
    refine o_q rfl rfl (q_eql rfl rfl) ?_
    refine o_end ?_
    refine za1 ?_
    refine zar _ rfl (fun hb13 => ?_) (fun hb13 => ?_)
    · skip
      replace h := br_t hb13 h
      refine c_seq ?_
      refine za0 ?_
      refine o_q rfl rfl (za2 rfl) ?_
      refine o_q rfl rfl (q_asg rfl) ?_
      refine o_end ?_
      refine za1 ?_
      refine c_ret ?_
      refine zal ?_
      refine za5 ?_
      refine za5 ?_
      have e_ := Option.some.inj h; replace h := hR7; rw [← e_] at h; clear e_
      refine zal ?_
      refine za5 ?_
      have e0_ := Option.some.inj h; clear h
      subst e0_
      exact x_r1 () Try.results113 (zaf rfl) rfl (fun w h => za8 [] (by decide) rfl w h)
    · skip
      replace h := br_f hb13 h
      refine zak ?_
      refine zaq ?_
      refine za1 ?_
      refine za0 ?_
      refine o_q rfl rfl (q_up rfl rfl (hr5.up hm6)) ?_
      refine o_q rfl rfl (za2 rfl) ?_
      refine o_end ?_
      refine zam ys3.length (ys3, i1 + 1) (by rw [← hk11]; exact Nat.lt_succ_self _) ⟨hr5.step, rfl, h⟩ ⟨rfl, trivial⟩ (fun w h => za8 [] (by decide) rfl w h) ?_
      repeat (first | exact zac _ _ | refine zah rfl ?_ | refine zad rfl ?_ | refine zai rfl ?_)

end Go.Proofs.Ytpdpomjgfmdjfaa.G2
