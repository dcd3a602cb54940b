import Derived.Test.YtjioedcbcdppeaaKFnExactPackRegistersG3p3
namespace Go.Proofs.Ytjioedcbcdppeaa.G3
open Go.RowKit Go.Proofs.Ytjioedcbcdppeaa.Frame Go.Proofs.YtjioedcbcdppeaaW.PrintLast Go.Proofs.Ytjioedcbcdppeaa.Hand
open Go.Proofs.YtjioedcbcdppeaaW.PrintWords hiding mn mx
set_option linter.unusedVariables false
/-! ### loop.example/g01098/laws.eqRegCode: function 13 -/
def laws_eqRegCode.f (k : Nat) (a0_0 : Int) (l0_1 : List Int) (l0_2 : List SRegOp) (l0_3 : List Int) (a1_0 : Int) (l1_1 : List Int) (l1_2 : List SRegOp) (l1_3 : List Int) : Option Bool := if a0_0 ≠ a1_0 then (some false) else ((laws_eqIntS.f k l0_1 l1_1).bind fun b7 => if b7 = true then ((laws_eqRegOpS.f k l0_2 l1_2).bind fun b10 => if b10 = true then ((laws_eqIntS.f k l0_3 l1_3).bind fun b13 => if b13 = true then (some true) else (some false)) else (some false)) else (some false))
set_option maxHeartbeats 600000 in
set_option maxRecDepth 100000 in
theorem laws_eqRegCode.calls (k : Nat) {w0 ws : World} {P0 : Nat → Prop} (a0_0 : Int) (A0_1 : Option Addr) (c0_1 : Nat) (n0_1 : Nat) (l0_1 : List Int) (A0_2 : Option Addr) (c0_2 : Nat) (n0_2 : Nat) (l0_2 : List SRegOp) (A0_3 : Option Addr) (c0_3 : Nat) (n0_3 : Nat) (l0_3 : List Int) (a1_0 : Int) (A1_1 : Option Addr) (c1_1 : Nat) (n1_1 : Nat) (l1_1 : List Int) (A1_2 : Option Addr) (c1_2 : Nat) (n1_2 : Nat) (l1_2 : List SRegOp) (A1_3 : Option Addr) (c1_3 : Nat) (n1_3 : Nat) (l1_3 : List Int) (Z : Below w0.heap.size w0 ws) (hF : Fr w0 ws P0 [] ws) (R0_1 : Stable ws P0 (fun w => Kd.C (Kd.int .i64) w A0_1 n0_1 l0_1)) (hc0_1 : n0_1 ≤ c0_1) (R0_2 : Stable ws P0 (fun w => Kd.C zat w A0_2 n0_2 l0_2)) (hc0_2 : n0_2 ≤ c0_2) (R0_3 : Stable ws P0 (fun w => Kd.C (Kd.int .i64) w A0_3 n0_3 l0_3)) (hc0_3 : n0_3 ≤ c0_3) (R1_1 : Stable ws P0 (fun w => Kd.C (Kd.int .i64) w A1_1 n1_1 l1_1)) (hc1_1 : n1_1 ≤ c1_1) (R1_2 : Stable ws P0 (fun w => Kd.C zat w A1_2 n1_2 l1_2)) (hc1_2 : n1_2 ≤ c1_2) (R1_3 : Stable ws P0 (fun w => Kd.C (Kd.int .i64) w A1_3 n1_3 l1_3)) (hc1_3 : n1_3 ≤ c1_3) (r_1 : Bool) (h : laws_eqRegCode.f k a0_0 l0_1 l0_2 l0_3 a1_0 l1_1 l1_2 l1_3 = some r_1) :
    Calls Try.prog 13 #[.agg #[.int .i64 a0_0, .slice A0_1 n0_1 c0_1, .slice A0_2 n0_2 c0_2, .slice A0_3 n0_3 c0_3], .agg #[.int .i64 a1_0, .slice A1_1 n1_1 c1_1, .slice A1_2 n1_2 c1_2, .slice A1_3 n1_3 c1_3]] ws (Post1 w0 ws P0 (fun (_ : Unit) => .bool r_1) (fun (_ : Unit) => [])) := by
  unfold laws_eqRegCode.f at h
  obtain rfl := (R0_1 ws (KeptB.refl _ _)).1
  obtain rfl := (R0_2 ws (KeptB.refl _ _)).1
  obtain rfl := (R0_3 ws (KeptB.refl _ _)).1
  obtain rfl := (R1_1 ws (KeptB.refl _ _)).1
  obtain rfl := (R1_2 ws (KeptB.refl _ _)).1
  obtain rfl := (R1_3 ws (KeptB.refl _ _)).1
  refine enter Try.func13 rfl Try.ntmps13 rfl hF ?_
  refine c_seq ?_
  refine za0 ?_
  refine o_e rfl (e_box rfl) (fun g1 => ?_)
  refine o_e rfl (e_box rfl) (fun g3 => ?_)
  refine o_q rfl rfl (q_asg rfl) ?_
  refine o_end ?_
  refine za1 ?_
  refine c_seq ?_
  refine c_seq ?_
  refine za0 ?_
  refine o_q rfl rfl (q_f F29_0 rfl) ?_
  refine o_q rfl rfl (q_ldb Y3 rfl (fun w h => h.za9 (i := 1) rfl) rfl) ?_
  refine o_q rfl rfl (q_f F29_0 rfl) ?_
  refine o_q rfl rfl (q_ldb Y3 rfl (fun w h => h.za9 (i := 0) rfl) rfl) ?_
  refine o_q rfl rfl (q_neq rfl rfl) ?_
  refine o_end ?_
  refine za1 ?_
  refine zar _ rfl (fun hb5 => ?_) (fun hb5 => ?_)
  · skip
    replace h := br_t hb5 h
    refine c_seq ?_
    refine za0 ?_
    refine o_q rfl rfl (q_asg rfl) ?_
    refine o_end ?_
    refine za1 ?_
    refine c_ret ?_
    refine za5 ?_
    have e0_ := Option.some.inj h; clear h
    subst e0_
    exact x_r1 () Try.results13 (zaf rfl) rfl (fun w h => za8 [] (by decide) rfl w h)
  · skip
    replace h := br_f hb5 h
    refine zal ?_
    refine za1 ?_
    refine c_seq ?_
    refine c_seq ?_
    refine za0 ?_
    refine o_q rfl rfl (q_f F29_1 rfl) ?_
    refine o_q rfl rfl (q_ldb Y22 rfl (fun w h => h.za9 (i := 1) rfl) rfl) ?_
    refine o_q rfl rfl (q_f F29_1 rfl) ?_
    refine o_q rfl rfl (q_ldb Y22 rfl (fun w h => h.za9 (i := 0) rfl) rfl) ?_
    refine za7 h (fun b7 hx6 h => ?_) rfl
    refine o_e rfl (zab 0 Z Try.func19 N19 rfl rfl rfl (fun w P1 hF hB hS hT => laws_eqIntS.calls k A0_1 c0_1 l0_1.length l0_1 A1_1 c1_1 l1_1.length l1_1 hB hF (hS _ R0_1) hc0_1 (hS _ R1_1) hc1_1 _ hx6)) (fun _ => ?_)
    refine o_q rfl rfl (q_not rfl) ?_
    refine o_end ?_
    refine za1 ?_
    refine zar _ rfl (fun hb8 => ?_) (fun hb8 => ?_)
    · replace hb8 := nt_t hb8
      replace h := bb_f hb8 h
      refine c_seq ?_
      refine za0 ?_
      refine o_q rfl rfl (q_asg rfl) ?_
      refine o_end ?_
      refine za1 ?_
      refine c_ret ?_
      refine za5 ?_
      have e0_ := Option.some.inj h; clear h
      subst e0_
      exact x_r1 () Try.results13 (zaf rfl) rfl (fun w h => za8 [] (by decide) rfl w h)
    · replace hb8 := nt_f hb8
      replace h := bb_t hb8 h
      refine zal ?_
      refine za1 ?_
      refine c_seq ?_
      refine c_seq ?_
      refine za0 ?_
      refine o_q rfl rfl (q_f F29_2 rfl) ?_
      refine o_q rfl rfl (q_ldb Y27 rfl (fun w h => h.za9 (i := 1) rfl) rfl) ?_
      refine o_q rfl rfl (q_f F29_2 rfl) ?_
      refine o_q rfl rfl (q_ldb Y27 rfl (fun w h => h.za9 (i := 0) rfl) rfl) ?_
      refine za7 h (fun b10 hx9 h => ?_) rfl
      refine o_e rfl (zab 0 Z Try.func44 N44 rfl rfl rfl (fun w P1 hF hB hS hT => laws_eqRegOpS.calls k A0_2 c0_2 l0_2.length l0_2 A1_2 c1_2 l1_2.length l1_2 hB hF (hS _ R0_2) hc0_2 (hS _ R1_2) hc1_2 _ hx9)) (fun _ => ?_)
      refine o_q rfl rfl (q_not rfl) ?_
      refine o_end ?_
      refine za1 ?_
      refine zar _ rfl (fun hb11 => ?_) (fun hb11 => ?_)
      · replace hb11 := nt_t hb11
        replace h := bb_f hb11 h
        refine c_seq ?_
        refine za0 ?_
        refine o_q rfl rfl (q_asg rfl) ?_
        refine o_end ?_
        refine za1 ?_
        refine c_ret ?_
        refine za5 ?_
        have e0_ := Option.some.inj h; clear h
        subst e0_
        exact x_r1 () Try.results13 (zaf rfl) rfl (fun w h => za8 [] (by decide) rfl w h)
      · replace hb11 := nt_f hb11
        replace h := bb_t hb11 h
        refine zal ?_
        refine za1 ?_
        refine c_seq ?_
        refine c_seq ?_
        refine za0 ?_
        refine o_q rfl rfl (q_f F29_3 rfl) ?_
        refine o_q rfl rfl (q_ldb Y22 rfl (fun w h => h.za9 (i := 1) rfl) rfl) ?_
        refine o_q rfl rfl (q_f F29_3 rfl) ?_
        refine o_q rfl rfl (q_ldb Y22 rfl (fun w h => h.za9 (i := 0) rfl) rfl) ?_
        refine za7 h (fun b13 hx12 h => ?_) rfl
        refine o_e rfl (zab 0 Z Try.func19 N19 rfl rfl rfl (fun w P1 hF hB hS hT => laws_eqIntS.calls k A0_3 c0_3 l0_3.length l0_3 A1_3 c1_3 l1_3.length l1_3 hB hF (hS _ R0_3) hc0_3 (hS _ R1_3) hc1_3 _ hx12)) (fun _ => ?_)
        refine o_q rfl rfl (q_not rfl) ?_
        refine o_end ?_
        refine za1 ?_
        refine zar _ rfl (fun hb14 => ?_) (fun hb14 => ?_)
        · replace hb14 := nt_t hb14
          replace h := bb_f hb14 h
          refine c_seq ?_
          refine za0 ?_
          refine o_q rfl rfl (q_asg rfl) ?_
          refine o_end ?_
          refine za1 ?_
          refine c_ret ?_
          refine za5 ?_
          have e0_ := Option.some.inj h; clear h
          subst e0_
          exact x_r1 () Try.results13 (zaf rfl) rfl (fun w h => za8 [] (by decide) rfl w h)
        · replace hb14 := nt_f hb14
          replace h := bb_t hb14 h
          refine zal ?_
          refine za1 ?_
          refine c_seq ?_
          refine za0 ?_
          refine o_q rfl rfl (q_asg rfl) ?_
          refine o_end ?_
          refine za1 ?_
          refine c_ret ?_
          have e0_ := Option.some.inj h; clear h
          subst e0_
          exact x_r1 () Try.results13 (zaf rfl) rfl (fun w h => za8 [] (by decide) rfl w h)

/-! ### loop.example/g01098/laws.markIntS: function 20 -/
def laws_markIntS.l0 (l0 : List Int) : Nat → (List Int) → Int → Int → Option ((List Int) × Int)
  | 0, _, _, _ => none
  | k6 + 1, l1, i2, i3 => if i3 < (l0.length : Int) then ((gt l1 i3).bind fun y17 => (st l1 i3 i2).bind fun l18 => laws_markIntS.l0 l0 k6 l18 (w64 (i2 + 1)) (w64 (i3 + 1))) else (some (l1, i2))
def laws_markIntS.f (k : Nat) (l0 : List Int) (a1 : Int) : Option (Int × (List Int)) := (laws_markIntS.l0 l0 k l0 a1 0).bind fun (l1, i2) => some (i2, l1)
set_option maxHeartbeats 600000 in
set_option maxRecDepth 100000 in
theorem laws_markIntS.calls (k : Nat) {w0 ws : World} {P0 : Nat → Prop} (A0 : Option Addr) (c0 : Nat) (n0 : Nat) (l0 : List Int) (a1 : Int) (Z : Below w0.heap.size w0 ws) (hF : Fr w0 ws P0 [row (Kd.int .i64) 3 (.slice A0 n0 c0) l0] ws)  (r_1 : Int) (r_2 : List Int) (h : laws_markIntS.f k l0 a1 = some (r_1, r_2)) :
    Calls Try.prog 20 #[.slice A0 n0 c0, .int .i64 a1] ws (Post1 w0 ws P0 (fun (_ : Unit) => .int .i64 r_1) (fun (_ : Unit) => [row (Kd.int .i64) 3 (.slice A0 n0 c0) r_2])) := by
  unfold laws_markIntS.f at h
  obtain rfl := (hF.row_C (i := 0) rfl).2.1
  refine enter Try.func20 rfl Try.ntmps20 rfl hF ?_
  refine c_seq ?_
  refine za0 ?_
  refine o_q rfl rfl (q_asg rfl) ?_
  refine o_end ?_
  refine za1 ?_
  refine c_seq ?_
  refine c_seq ?_
  refine za0 ?_
  refine o_q rfl rfl (q_asg rfl) ?_
  refine o_end ?_
  refine za1 ?_
  refine zak ?_
  refine za7 h (fun o11 hl10 hR9 => ?_) rfl
  clear h
  refine zay (σ := (List Int) × Int × Int) (fun k6 ((l1, i2, i3) : (List Int) × Int × Int) => laws_markIntS.l0 l0 k6 l1 i2 i3 = some o11) [1, 5, 6, 7, 8, 9, 10, 11, 12, 13, 14, 15, 16, 17] (fun ((l1, i2, i3) : (List Int) × Int × Int) => [(1, .int .i64 i2), (5, .int .i64 i3)]) (fun ((l1, i2, i3) : (List Int) × Int × Int) => [row (Kd.int .i64) 3 (.slice A0 l0.length c0) l1]) k (l0, a1, 0) hl10 ⟨rfl, rfl, trivial⟩ (fun w h => h) ?_
  refine natC (cur3 (fun l1 i2 i3 => fun U12 hJ_ => ?_)) (fun k6 => (cur3 (fun l1 i2 i3 => fun U12 hJ_ => ?_)))
  · skip
    replace hJ_ : laws_markIntS.l0 l0 0 l1 i2 i3 = some o11 := hJ_
    rw [laws_markIntS.l0] at hJ_
    exact noneE hJ_
  · skip
    clear hl10
    have h := hJ_; clear hJ_
    replace h : laws_markIntS.l0 l0 (k6 + 1) l1 i2 i3 = some o11 := h
    rw [laws_markIntS.l0] at h
    refine c_seq ?_
    refine c_seq ?_
    refine za0 ?_
    refine o_q rfl rfl (za2 rfl) ?_
    refine o_q rfl rfl (za2 rfl) ?_
    refine o_q rfl rfl (q_len Try.underlying22 rfl) ?_
    refine o_q rfl rfl (q_lss rfl rfl) ?_
    refine o_end ?_
    refine za1 ?_
    refine zar _ rfl (fun hb14 => ?_) (fun hb14 => ?_)
    · skip
      replace h := br_t hb14 h
      refine zal ?_
      refine za1 ?_
      refine c_seq ?_
      refine zak ?_
      refine c_seq ?_
      refine za0 ?_
      refine o_q rfl rfl (za2 rfl) ?_
      refine o_q rfl rfl (za2 rfl) ?_
      refine o_q rfl rfl (za2 rfl) ?_
      refine zaw (p := Sh A0 l0.length l1.length) (fun w h => f_sh (dk := (Kd.int .i64)) h (fun w h => h.zau (i := 0) rfl)) (fun hq15 => ?_)
      refine za7 h (fun y17 hg16 h => ?_) rfl
      refine o_q rfl rfl (q_ix Try.underlying22 Z3 rfl rfl hq15 hg16) ?_
      refine za7 h (fun l18 hs19 h => ?_) rfl
      refine o_e rfl (e_set (i := 0) rfl rfl rfl Z3 hs19) (fun _ => ?_)
      refine o_end ?_
      refine za1 ?_
      refine za0 ?_
      refine o_q rfl rfl (za2 rfl) ?_
      refine o_q rfl rfl (q_add64 rfl rfl) ?_
      refine o_q rfl rfl (q_asg rfl) ?_
      refine o_end ?_
      refine zav ?_
      refine za1 ?_
      refine za0 ?_
      refine o_q rfl rfl (za2 rfl) ?_
      refine o_q rfl rfl (q_add64 rfl rfl) ?_
      refine o_q rfl rfl (q_asg rfl) ?_
      refine o_end ?_
      refine zao k6 (l18, w64 (i2 + 1), w64 (i3 + 1)) (Nat.lt_succ_self _) h ⟨rfl, rfl, trivial⟩ (fun w h => za8 [0] (by decide) rfl w h) ?_
      repeat (first | exact zad _ _ | refine zai rfl ?_ | refine zae rfl ?_ | refine zaj rfl ?_)
    · skip
      replace h := br_f hb14 h
      refine c_exit ?_
      refine za6 ?_
      refine za6 ?_
      have e_ := Option.some.inj h; replace h := hR9; rw [← e_] at h; clear e_
      refine x_hit ?_
      refine za1 ?_
      refine c_seq ?_
      refine za0 ?_
      refine o_q rfl rfl (za2 rfl) ?_
      refine o_q rfl rfl (q_asg rfl) ?_
      refine o_end ?_
      refine za1 ?_
      refine c_ret ?_
      have e0_ := Option.some.inj h; clear h
      have d0_ := (Prod.mk.inj e0_).1; have e1_ := (Prod.mk.inj e0_).2; clear e0_; subst d0_
      subst e1_
      exact x_r1 () Try.results20 (zaf rfl) rfl (fun w h => za8 [0] (by decide) rfl w h)

/-! ### loop.example/g01098/laws.markRegOpS: function 45 -/
def laws_markRegOpS.l0 (l0 : List SRegOp) : Nat → (List SRegOp) → Int → Int → Option ((List SRegOp) × Int)
  | 0, _, _, _ => none
  | k6 + 1, l1, i2, i3 => if i3 < (l0.length : Int) then ((gt l1 i3).bind fun y17 => (st l1 i3 (⟨i2, y17.f1, y17.f2⟩ : SRegOp)).bind fun l18 => (gt l18 i3).bind fun y22 => (st l18 i3 (⟨y22.f0, w64 (i2 + 1), y22.f2⟩ : SRegOp)).bind fun l23 => (gt l23 i3).bind fun y27 => (st l23 i3 (⟨y27.f0, y27.f1, w64 (w64 (i2 + 1) + 1)⟩ : SRegOp)).bind fun l28 => laws_markRegOpS.l0 l0 k6 l28 (w64 (w64 (w64 (i2 + 1) + 1) + 1)) (w64 (i3 + 1))) else (some (l1, i2))
def laws_markRegOpS.f (k : Nat) (l0 : List SRegOp) (a1 : Int) : Option (Int × (List SRegOp)) := (laws_markRegOpS.l0 l0 k l0 a1 0).bind fun (l1, i2) => some (i2, l1)
set_option maxHeartbeats 600000 in
set_option maxRecDepth 100000 in
theorem laws_markRegOpS.calls (k : Nat) {w0 ws : World} {P0 : Nat → Prop} (A0 : Option Addr) (c0 : Nat) (n0 : Nat) (l0 : List SRegOp) (a1 : Int) (Z : Below w0.heap.size w0 ws) (hF : Fr w0 ws P0 [row zat 56 (.slice A0 n0 c0) l0] ws)  (r_1 : Int) (r_2 : List SRegOp) (h : laws_markRegOpS.f k l0 a1 = some (r_1, r_2)) :
    Calls Try.prog 45 #[.slice A0 n0 c0, .int .i64 a1] ws (Post1 w0 ws P0 (fun (_ : Unit) => .int .i64 r_1) (fun (_ : Unit) => [row zat 56 (.slice A0 n0 c0) r_2])) := by
  unfold laws_markRegOpS.f at h
  obtain rfl := (hF.row_C (i := 0) rfl).2.1
  refine enter Try.func45 rfl Try.ntmps45 rfl hF ?_
  refine c_seq ?_
  refine za0 ?_
  refine o_q rfl rfl (q_asg rfl) ?_
  refine o_end ?_
  refine za1 ?_
  refine c_seq ?_
  refine c_seq ?_
  refine za0 ?_
  refine o_q rfl rfl (q_asg rfl) ?_
  refine o_end ?_
  refine za1 ?_
  refine zak ?_
  refine za7 h (fun o11 hl10 hR9 => ?_) rfl
  clear h
  refine zay (σ := (List SRegOp) × Int × Int) (fun k6 ((l1, i2, i3) : (List SRegOp) × Int × Int) => laws_markRegOpS.l0 l0 k6 l1 i2 i3 = some o11) [1, 5, 6, 7, 8, 9, 10, 11, 12, 13, 14, 15, 16, 17, 18, 19, 20, 21, 22, 23, 24, 25, 26, 27, 28, 29, 30, 31, 32] (fun ((l1, i2, i3) : (List SRegOp) × Int × Int) => [(1, .int .i64 i2), (5, .int .i64 i3)]) (fun ((l1, i2, i3) : (List SRegOp) × Int × Int) => [row zat 56 (.slice A0 l0.length c0) l1]) k (l0, a1, 0) hl10 ⟨rfl, rfl, trivial⟩ (fun w h => h) ?_
  refine natC (cur3 (fun l1 i2 i3 => fun U12 hJ_ => ?_)) (fun k6 => (cur3 (fun l1 i2 i3 => fun U12 hJ_ => ?_)))
  · skip
    replace hJ_ : laws_markRegOpS.l0 l0 0 l1 i2 i3 = some o11 := hJ_
    rw [laws_markRegOpS.l0] at hJ_
    exact noneE hJ_
  · skip
    clear hl10
    have h := hJ_; clear hJ_
    replace h : laws_markRegOpS.l0 l0 (k6 + 1) l1 i2 i3 = some o11 := h
    rw [laws_markRegOpS.l0] at h
    refine c_seq ?_
    refine c_seq ?_
    refine za0 ?_
    refine o_q rfl rfl (za2 rfl) ?_
    refine o_q rfl rfl (za2 rfl) ?_
    refine o_q rfl rfl (q_len Try.underlying27 rfl) ?_
    refine o_q rfl rfl (q_lss rfl rfl) ?_
    refine o_end ?_
    refine za1 ?_
    refine zar _ rfl (fun hb14 => ?_) (fun hb14 => ?_)
    · skip
      replace h := br_t hb14 h
      refine zal ?_
      refine za1 ?_
      refine c_seq ?_
      refine zak ?_
      refine c_seq ?_
      refine za0 ?_
      refine o_q rfl rfl (za2 rfl) ?_
      refine o_q rfl rfl (za2 rfl) ?_
      refine o_q rfl rfl (za2 rfl) ?_
      refine zaw (p := Sh A0 l0.length l1.length) (fun w h => f_sh (dk := zat) h (fun w h => h.zau (i := 0) rfl)) (fun hq15 => ?_)
      refine za7 h (fun y17 hg16 h => ?_) rfl
      refine o_q rfl rfl (q_ix Try.underlying27 Z56 rfl rfl hq15 hg16) ?_
      refine o_q rfl rfl (q_fe F56_0 rfl) ?_
      refine za7 h (fun l18 hs19 h => ?_) rfl
      refine o_e rfl (e_setF (i := 0) (off := 0) (vs := [.int .i64 i2]) (q' := (⟨i2, y17.f1, y17.f2⟩ : SRegOp)) rfl rfl rfl rfl rfl rfl Z3 hg16 rfl rfl hs19) (fun _ => ?_)
      refine o_end ?_
      refine za1 ?_
      refine c_seq ?_
      refine za0 ?_
      refine o_q rfl rfl (za2 rfl) ?_
      refine o_q rfl rfl (q_add64 rfl rfl) ?_
      refine o_q rfl rfl (q_asg rfl) ?_
      refine o_end ?_
      refine za1 ?_
      refine c_seq ?_
      refine za0 ?_
      refine o_q rfl rfl (za2 rfl) ?_
      refine o_q rfl rfl (za2 rfl) ?_
      refine o_q rfl rfl (za2 rfl) ?_
      refine zaw (p := Sh A0 l0.length l18.length) (fun w h => f_sh (dk := zat) h (fun w h => h.zau (i := 0) rfl)) (fun hq20 => ?_)
      refine za7 h (fun y22 hg21 h => ?_) rfl
      refine o_q rfl rfl (q_ix Try.underlying27 Z56 rfl rfl hq20 hg21) ?_
      refine o_q rfl rfl (q_fe F56_1 rfl) ?_
      refine za7 h (fun l23 hs24 h => ?_) rfl
      refine o_e rfl (e_setF (i := 0) (off := 1) (vs := [.int .i64 (w64 (i2 + 1))]) (q' := (⟨y22.f0, w64 (i2 + 1), y22.f2⟩ : SRegOp)) rfl rfl rfl rfl rfl rfl Z3 hg21 rfl rfl hs24) (fun _ => ?_)
      refine o_end ?_
      refine za1 ?_
      refine c_seq ?_
      refine za0 ?_
      refine o_q rfl rfl (za2 rfl) ?_
      refine o_q rfl rfl (q_add64 rfl rfl) ?_
      refine o_q rfl rfl (q_asg rfl) ?_
      refine o_end ?_
      refine za1 ?_
      refine c_seq ?_
      refine za0 ?_
      refine o_q rfl rfl (za2 rfl) ?_
      refine o_q rfl rfl (za2 rfl) ?_
      refine o_q rfl rfl (za2 rfl) ?_
      refine zaw (p := Sh A0 l0.length l23.length) (fun w h => f_sh (dk := zat) h (fun w h => h.zau (i := 0) rfl)) (fun hq25 => ?_)
      refine za7 h (fun y27 hg26 h => ?_) rfl
      refine o_q rfl rfl (q_ix Try.underlying27 Z56 rfl rfl hq25 hg26) ?_
      refine o_q rfl rfl (q_fe F56_2 rfl) ?_
      refine za7 h (fun l28 hs29 h => ?_) rfl
      refine o_e rfl (e_setF (i := 0) (off := 2) (vs := [.int .i64 (w64 (w64 (i2 + 1) + 1))]) (q' := (⟨y27.f0, y27.f1, w64 (w64 (i2 + 1) + 1)⟩ : SRegOp)) rfl rfl rfl rfl rfl rfl Z3 hg26 rfl rfl hs29) (fun _ => ?_)
      refine o_end ?_
      refine za1 ?_
      refine za0 ?_
      refine o_q rfl rfl (za2 rfl) ?_
      refine o_q rfl rfl (q_add64 rfl rfl) ?_
      refine o_q rfl rfl (q_asg rfl) ?_
      refine o_end ?_
      refine zav ?_
      refine za1 ?_
      refine za0 ?_
      refine o_q rfl rfl (za2 rfl) ?_
      refine o_q rfl rfl (q_add64 rfl rfl) ?_
      refine o_q rfl rfl (q_asg rfl) ?_
      refine o_end ?_
      refine zao k6 (l28, w64 (w64 (w64 (i2 + 1) + 1) + 1), w64 (i3 + 1)) (Nat.lt_succ_self _) h ⟨rfl, rfl, trivial⟩ (fun w h => za8 [0] (by decide) rfl w h) ?_
      repeat (first | exact zad _ _ | refine zai rfl ?_ | refine zae rfl ?_ | refine zaj rfl ?_)
    · skip
      replace h := br_f hb14 h
      refine c_exit ?_
      refine za6 ?_
      refine za6 ?_
      have e_ := Option.some.inj h; replace h := hR9; rw [← e_] at h; clear e_
      refine x_hit ?_
      refine za1 ?_
      refine c_seq ?_
      refine za0 ?_
      refine o_q rfl rfl (za2 rfl) ?_
      refine o_q rfl rfl (q_asg rfl) ?_
      refine o_end ?_
      refine za1 ?_
      refine c_ret ?_
      have e0_ := Option.some.inj h; clear h
      have d0_ := (Prod.mk.inj e0_).1; have e1_ := (Prod.mk.inj e0_).2; clear e0_; subst d0_
      subst e1_
      exact x_r1 () Try.results45 (zaf rfl) rfl (fun w h => za8 [0] (by decide) rfl w h)

/-! ### loop.example/g01098/laws.markRegCode: function 14 -/
def laws_markRegCode.f (k : Nat) (a0_0 : Int) (l0_1 : List Int) (l0_2 : List SRegOp) (l0_3 : List Int) (a1 : Int) : Option (Int × (List Int) × (List SRegOp) × (List Int)) := (laws_markIntS.f k l0_1 a1).bind fun (i4, l5) => (laws_markRegOpS.f k l0_2 i4).bind fun (i7, l8) => (laws_markIntS.f k l0_3 i7).bind fun (i10, l11) => some (i10, l5, l8, l11)
set_option maxHeartbeats 600000 in
set_option maxRecDepth 100000 in
theorem laws_markRegCode.calls (k : Nat) {w0 ws : World} {P0 : Nat → Prop} (a0_0 : Int) (A0_1 : Option Addr) (c0_1 : Nat) (n0_1 : Nat) (l0_1 : List Int) (A0_2 : Option Addr) (c0_2 : Nat) (n0_2 : Nat) (l0_2 : List SRegOp) (A0_3 : Option Addr) (c0_3 : Nat) (n0_3 : Nat) (l0_3 : List Int) (a1 : Int) (Z : Below w0.heap.size w0 ws) (hF : Fr w0 ws P0 [row (Kd.int .i64) 3 (.slice A0_1 n0_1 c0_1) l0_1, row zat 56 (.slice A0_2 n0_2 c0_2) l0_2, row (Kd.int .i64) 3 (.slice A0_3 n0_3 c0_3) l0_3] ws)  (r_1 : Int) (r_2 : List Int) (r_3 : List SRegOp) (r_4 : List Int) (h : laws_markRegCode.f k a0_0 l0_1 l0_2 l0_3 a1 = some (r_1, r_2, r_3, r_4)) :
    Calls Try.prog 14 #[.agg #[.int .i64 a0_0, .slice A0_1 n0_1 c0_1, .slice A0_2 n0_2 c0_2, .slice A0_3 n0_3 c0_3], .int .i64 a1] ws (Post1 w0 ws P0 (fun (_ : Unit) => .int .i64 r_1) (fun (_ : Unit) => [row (Kd.int .i64) 3 (.slice A0_1 n0_1 c0_1) r_2, row zat 56 (.slice A0_2 n0_2 c0_2) r_3, row (Kd.int .i64) 3 (.slice A0_3 n0_3 c0_3) r_4])) := by
  unfold laws_markRegCode.f at h
  obtain rfl := (hF.row_C (i := 0) rfl).2.1
  obtain rfl := (hF.row_C (i := 1) rfl).2.1
  obtain rfl := (hF.row_C (i := 2) rfl).2.1
  refine enter Try.func14 rfl Try.ntmps14 rfl hF ?_
  refine c_seq ?_
  refine za0 ?_
  refine o_e rfl (e_box rfl) (fun g1 => ?_)
  refine o_q rfl rfl (q_asg rfl) ?_
  refine o_end ?_
  refine za1 ?_
  refine c_seq ?_
  refine za0 ?_
  refine o_q rfl rfl (q_f F29_1 rfl) ?_
  refine o_q rfl rfl (q_ldb Y22 rfl (fun w h => h.za9 (i := 0) rfl) rfl) ?_
  refine o_q rfl rfl (za2 rfl) ?_
  refine o_pick [1, 0, 2, 3] (by decide) rfl ?_
  refine bindE2 h (fun i4 l5 hx3 h => ?_) rfl
  refine o_e rfl (zab 1 Z Try.func20 N20 rfl rfl rfl (fun w P1 hF hB hS hT => laws_markIntS.calls k A0_1 c0_1 l0_1.length l0_1 a1 hB hF _ _ hx3)) (fun _ => ?_)
  refine o_q rfl rfl (q_asg rfl) ?_
  refine o_end ?_
  refine za1 ?_
  refine c_seq ?_
  refine za0 ?_
  refine o_q rfl rfl (q_f F29_2 rfl) ?_
  refine o_q rfl rfl (q_ldb Y27 rfl (fun w h => h.za9 (i := 1) rfl) rfl) ?_
  refine o_q rfl rfl (za2 rfl) ?_
  refine o_pick [2, 0, 1, 3] (by decide) rfl ?_
  refine bindE2 h (fun i7 l8 hx6 h => ?_) rfl
  refine o_e rfl (zab 1 Z Try.func45 N45 rfl rfl rfl (fun w P1 hF hB hS hT => laws_markRegOpS.calls k A0_2 c0_2 l0_2.length l0_2 i4 hB hF _ _ hx6)) (fun _ => ?_)
  refine o_q rfl rfl (q_asg rfl) ?_
  refine o_end ?_
  refine za1 ?_
  refine c_seq ?_
  refine za0 ?_
  refine o_q rfl rfl (q_f F29_3 rfl) ?_
  refine o_q rfl rfl (q_ldb Y22 rfl (fun w h => h.za9 (i := 2) rfl) rfl) ?_
  refine o_q rfl rfl (za2 rfl) ?_
  refine o_pick [3, 0, 1, 2] (by decide) rfl ?_
  refine bindE2 h (fun i10 l11 hx9 h => ?_) rfl
  refine o_e rfl (zab 1 Z Try.func20 N20 rfl rfl rfl (fun w P1 hF hB hS hT => laws_markIntS.calls k A0_3 c0_3 l0_3.length l0_3 i7 hB hF _ _ hx9)) (fun _ => ?_)
  refine o_q rfl rfl (q_asg rfl) ?_
  refine o_end ?_
  refine za1 ?_
  refine c_seq ?_
  refine za0 ?_
  refine o_q rfl rfl (za2 rfl) ?_
  refine o_q rfl rfl (q_asg rfl) ?_
  refine o_end ?_
  refine za1 ?_
  refine c_ret ?_
  have e0_ := Option.some.inj h; clear h
  have d0_ := (Prod.mk.inj e0_).1; have e1_ := (Prod.mk.inj e0_).2; clear e0_; subst d0_
  have d1_ := (Prod.mk.inj e1_).1; have e2_ := (Prod.mk.inj e1_).2; clear e1_; subst d1_
  have d2_ := (Prod.mk.inj e2_).1; have e3_ := (Prod.mk.inj e2_).2; clear e2_; subst d2_
  subst e3_
  exact x_r1 () Try.results14 (zaf rfl) rfl (fun w h => za8 [2, 1, 0] (by decide) rfl w h)

/-! ### loop.example/g01098/laws.heldIntS: function 30 -/
def laws_heldIntS.l0 (l0 : List Int) : Nat → Int → Int → Option ((Int) ⊕ (Int))
  | 0, _, _ => none
  | k5 + 1, i1, i2 => if i2 < (l0.length : Int) then ((gt l0 i2).bind fun y16 => if y16 ≠ i1 then (some (.inl (-1))) else (laws_heldIntS.l0 l0 k5 (w64 (i1 + 1)) (w64 (i2 + 1)))) else (some (.inr i1))
def laws_heldIntS.f (k : Nat) (l0 : List Int) (a1 : Int) : Option Int := (laws_heldIntS.l0 l0 k a1 0).bind fun o_ => match o_ with | .inl r_ => some r_ | .inr i1 => some i1
set_option maxHeartbeats 600000 in
set_option maxRecDepth 100000 in
theorem laws_heldIntS.calls (k : Nat) {w0 ws : World} {P0 : Nat → Prop} (A0 : Option Addr) (c0 : Nat) (n0 : Nat) (l0 : List Int) (a1 : Int) (Z : Below w0.heap.size w0 ws) (hF : Fr w0 ws P0 [] ws) (R0 : Stable ws P0 (fun w => Kd.C (Kd.int .i64) w A0 n0 l0)) (hc0 : n0 ≤ c0) (r_1 : Int) (h : laws_heldIntS.f k l0 a1 = some r_1) :
    Calls Try.prog 30 #[.slice A0 n0 c0, .int .i64 a1] ws (Post1 w0 ws P0 (fun (_ : Unit) => .int .i64 r_1) (fun (_ : Unit) => [])) := by
  unfold laws_heldIntS.f at h
  obtain rfl := (R0 ws (KeptB.refl _ _)).1
  refine enter Try.func30 rfl Try.ntmps30 rfl hF ?_
  refine c_seq ?_
  refine za0 ?_
  refine o_q rfl rfl (q_asg rfl) ?_
  refine o_end ?_
  refine za1 ?_
  refine c_seq ?_
  refine c_seq ?_
  refine za0 ?_
  refine o_q rfl rfl (q_asg rfl) ?_
  refine o_end ?_
  refine za1 ?_
  refine zak ?_
  refine za7 h (fun o10 hl9 hR8 => ?_) rfl
  clear h
  refine zay (σ := Int × Int) (fun k5 ((i1, i2) : Int × Int) => laws_heldIntS.l0 l0 k5 i1 i2 = some o10) [1, 4, 5, 6, 7, 8, 9, 10, 11, 12, 13, 14, 15, 16, 17, 18, 19] (fun ((i1, i2) : Int × Int) => [(1, .int .i64 i1), (5, .int .i64 i2)]) (fun ((i1, i2) : Int × Int) => []) k (a1, 0) hl9 ⟨rfl, rfl, trivial⟩ (fun w h => h) ?_
  refine natC (cur2 (fun i1 i2 => fun U11 hJ_ => ?_)) (fun k5 => (cur2 (fun i1 i2 => fun U11 hJ_ => ?_)))
  · skip
    replace hJ_ : laws_heldIntS.l0 l0 0 i1 i2 = some o10 := hJ_
    rw [laws_heldIntS.l0] at hJ_
    exact noneE hJ_
  · skip
    clear hl9
    have h := hJ_; clear hJ_
    replace h : laws_heldIntS.l0 l0 (k5 + 1) i1 i2 = some o10 := h
    rw [laws_heldIntS.l0] at h
    refine c_seq ?_
    refine c_seq ?_
    refine za0 ?_
    refine o_q rfl rfl (za2 rfl) ?_
    refine o_q rfl rfl (za2 rfl) ?_
    refine o_q rfl rfl (q_len Try.underlying22 rfl) ?_
    refine o_q rfl rfl (q_lss rfl rfl) ?_
    refine o_end ?_
    refine za1 ?_
    refine zar _ rfl (fun hb13 => ?_) (fun hb13 => ?_)
    · skip
      replace h := br_t hb13 h
      refine zal ?_
      refine za1 ?_
      refine c_seq ?_
      refine zak ?_
      refine c_seq ?_
      refine c_seq ?_
      refine za0 ?_
      refine o_q rfl rfl (za2 rfl) ?_
      refine o_q rfl rfl (za2 rfl) ?_
      refine zaw (p := Sh A0 l0.length l0.length) (fun w h => f_sh (dk := (Kd.int .i64)) h (fun w h => R0.now Z h)) (fun hq14 => ?_)
      refine za7 h (fun y16 hg15 h => ?_) rfl
      refine o_q rfl rfl (q_ix Try.underlying22 Z3 rfl rfl hq14 hg15) ?_
      refine o_q rfl rfl (q_lde (off := 0) Y3 rfl rfl (fun w h => R0.now Z h) hg15 (fun _ _ h => h) rfl) ?_
      refine o_q rfl rfl (za2 rfl) ?_
      refine o_q rfl rfl (q_neq rfl rfl) ?_
      refine o_end ?_
      refine za1 ?_
      refine zar _ rfl (fun hb17 => ?_) (fun hb17 => ?_)
      · skip
        replace h := br_t hb17 h
        refine c_seq ?_
        refine za0 ?_
        refine o_q rfl rfl (q_asg rfl) ?_
        refine o_end ?_
        refine za1 ?_
        refine c_ret ?_
        refine za5 ?_
        refine zah ?_
        refine za5 ?_
        refine za5 ?_
        have e_ := Option.some.inj h; replace h := hR8; rw [← e_] at h; clear e_
        refine zah ?_
        refine za5 ?_
        have e0_ := Option.some.inj h; clear h
        subst e0_
        exact x_r1 () Try.results30 (zaf rfl) rfl (fun w h => za8 [] (by decide) rfl w h)
      · skip
        replace h := br_f hb17 h
        refine zal ?_
        refine za1 ?_
        refine za0 ?_
        refine o_q rfl rfl (za2 rfl) ?_
        refine o_q rfl rfl (q_add64 rfl rfl) ?_
        refine o_q rfl rfl (q_asg rfl) ?_
        refine o_end ?_
        refine zav ?_
        refine za1 ?_
        refine za0 ?_
        refine o_q rfl rfl (za2 rfl) ?_
        refine o_q rfl rfl (q_add64 rfl rfl) ?_
        refine o_q rfl rfl (q_asg rfl) ?_
        refine o_end ?_
        refine zao k5 (w64 (i1 + 1), w64 (i2 + 1)) (Nat.lt_succ_self _) h ⟨rfl, rfl, trivial⟩ (fun w h => za8 [] (by decide) rfl w h) ?_
        repeat (first | exact zad _ _ | refine zai rfl ?_ | refine zae rfl ?_ | refine zaj rfl ?_)
    · skip
      replace h := br_f hb13 h
      refine c_exit ?_
      refine za6 ?_
      refine za6 ?_
      have e_ := Option.some.inj h; replace h := hR8; rw [← e_] at h; clear e_
      refine x_hit ?_
      refine za1 ?_
      refine c_seq ?_
      refine za0 ?_
      refine o_q rfl rfl (za2 rfl) ?_
      refine o_q rfl rfl (q_asg rfl) ?_
      refine o_end ?_
      refine za1 ?_
      refine c_ret ?_
      have e0_ := Option.some.inj h; clear h
      subst e0_
      exact x_r1 () Try.results30 (zaf rfl) rfl (fun w h => za8 [] (by decide) rfl w h)

/-! ### loop.example/g01098/laws.heldRegOpS: function 46 -/
def laws_heldRegOpS.l0 (l0 : List SRegOp) : Nat → Int → Int → Option ((Int) ⊕ (Int))
  | 0, _, _ => none
  | k5 + 1, i1, i2 => if i2 < (l0.length : Int) then ((gt l0 i2).bind fun y16 => if y16.f0 ≠ i1 then (some (.inl (-1))) else ((gt l0 i2).bind fun y19 => if y19.f1 ≠ w64 (i1 + 1) then (some (.inl (-1))) else ((gt l0 i2).bind fun y22 => if y22.f2 ≠ w64 (w64 (i1 + 1) + 1) then (some (.inl (-1))) else (laws_heldRegOpS.l0 l0 k5 (w64 (w64 (w64 (i1 + 1) + 1) + 1)) (w64 (i2 + 1)))))) else (some (.inr i1))
def laws_heldRegOpS.f (k : Nat) (l0 : List SRegOp) (a1 : Int) : Option Int := (laws_heldRegOpS.l0 l0 k a1 0).bind fun o_ => match o_ with | .inl r_ => some r_ | .inr i1 => some i1
set_option maxHeartbeats 600000 in
set_option maxRecDepth 100000 in
theorem laws_heldRegOpS.calls (k : Nat) {w0 ws : World} {P0 : Nat → Prop} (A0 : Option Addr) (c0 : Nat) (n0 : Nat) (l0 : List SRegOp) (a1 : Int) (Z : Below w0.heap.size w0 ws) (hF : Fr w0 ws P0 [] ws) (R0 : Stable ws P0 (fun w => Kd.C zat w A0 n0 l0)) (hc0 : n0 ≤ c0) (r_1 : Int) (h : laws_heldRegOpS.f k l0 a1 = some r_1) :
    Calls Try.prog 46 #[.slice A0 n0 c0, .int .i64 a1] ws (Post1 w0 ws P0 (fun (_ : Unit) => .int .i64 r_1) (fun (_ : Unit) => [])) := by
  unfold laws_heldRegOpS.f at h
  obtain rfl := (R0 ws (KeptB.refl _ _)).1
  refine enter Try.func46 rfl Try.ntmps46 rfl hF ?_
  refine c_seq ?_
  refine za0 ?_
  refine o_q rfl rfl (q_asg rfl) ?_
  refine o_end ?_
  refine za1 ?_
  refine c_seq ?_
  refine c_seq ?_
  refine za0 ?_
  refine o_q rfl rfl (q_asg rfl) ?_
  refine o_end ?_
  refine za1 ?_
  refine zak ?_
  refine za7 h (fun o10 hl9 hR8 => ?_) rfl
  clear h
  refine zay (σ := Int × Int) (fun k5 ((i1, i2) : Int × Int) => laws_heldRegOpS.l0 l0 k5 i1 i2 = some o10) [1, 4, 5, 6, 7, 8, 9, 10, 11, 12, 13, 14, 15, 16, 17, 18, 19, 20, 21, 22, 23, 24, 25, 26, 27, 28, 29, 30, 31, 32, 33, 34, 35, 36, 37, 38] (fun ((i1, i2) : Int × Int) => [(1, .int .i64 i1), (5, .int .i64 i2)]) (fun ((i1, i2) : Int × Int) => []) k (a1, 0) hl9 ⟨rfl, rfl, trivial⟩ (fun w h => h) ?_
  refine natC (cur2 (fun i1 i2 => fun U11 hJ_ => ?_)) (fun k5 => (cur2 (fun i1 i2 => fun U11 hJ_ => ?_)))
  · skip
    replace hJ_ : laws_heldRegOpS.l0 l0 0 i1 i2 = some o10 := hJ_
    rw [laws_heldRegOpS.l0] at hJ_
    exact noneE hJ_
  · skip
    clear hl9
    have h := hJ_; clear hJ_
    replace h : laws_heldRegOpS.l0 l0 (k5 + 1) i1 i2 = some o10 := h
    rw [laws_heldRegOpS.l0] at h
    refine c_seq ?_
    refine c_seq ?_
    refine za0 ?_
    refine o_q rfl rfl (za2 rfl) ?_
    refine o_q rfl rfl (za2 rfl) ?_
    refine o_q rfl rfl (q_len Try.underlying27 rfl) ?_
    refine o_q rfl rfl (q_lss rfl rfl) ?_
    refine o_end ?_
    refine za1 ?_
    refine zar _ rfl (fun hb13 => ?_) (fun hb13 => ?_)
    · skip
      replace h := br_t hb13 h
      refine zal ?_
      refine za1 ?_
      refine c_seq ?_
      refine zak ?_
      refine c_seq ?_
      refine c_seq ?_
      refine za0 ?_
      refine o_q rfl rfl (za2 rfl) ?_
      refine o_q rfl rfl (za2 rfl) ?_
      refine zaw (p := Sh A0 l0.length l0.length) (fun w h => f_sh (dk := zat) h (fun w h => R0.now Z h)) (fun hq14 => ?_)
      refine za7 h (fun y16 hg15 h => ?_) rfl
      refine o_q rfl rfl (q_ix Try.underlying27 Z56 rfl rfl hq14 hg15) ?_
      refine o_q rfl rfl (q_fe F56_0 rfl) ?_
      refine o_q rfl rfl (q_lde (off := 0) Y3 rfl rfl (fun w h => R0.now Z h) hg15 (fun _ _ h => h) rfl) ?_
      refine o_q rfl rfl (za2 rfl) ?_
      refine o_q rfl rfl (q_neq rfl rfl) ?_
      refine o_end ?_
      refine za1 ?_
      refine zar _ rfl (fun hb17 => ?_) (fun hb17 => ?_)
      · skip
        replace h := br_t hb17 h
        refine c_seq ?_
        refine za0 ?_
        refine o_q rfl rfl (q_asg rfl) ?_
        refine o_end ?_
        refine za1 ?_
        refine c_ret ?_
        refine za5 ?_
        refine zah ?_
        refine za5 ?_
        refine za5 ?_
        have e_ := Option.some.inj h; replace h := hR8; rw [← e_] at h; clear e_
        refine zah ?_
        refine za5 ?_
        have e0_ := Option.some.inj h; clear h
        subst e0_
        exact x_r1 () Try.results46 (zaf rfl) rfl (fun w h => za8 [] (by decide) rfl w h)
      · skip
        replace h := br_f hb17 h
        refine zal ?_
        refine za1 ?_
        refine c_seq ?_
        refine za0 ?_
        refine o_q rfl rfl (za2 rfl) ?_
        refine o_q rfl rfl (q_add64 rfl rfl) ?_
        refine o_q rfl rfl (q_asg rfl) ?_
        refine o_end ?_
        refine za1 ?_
        refine c_seq ?_
        refine c_seq ?_
        refine za0 ?_
        refine o_q rfl rfl (za2 rfl) ?_
        refine o_q rfl rfl (za2 rfl) ?_
        refine za7 h (fun y19 hg18 h => ?_) rfl
        refine o_q rfl rfl (q_ix Try.underlying27 Z56 rfl rfl hq14 hg18) ?_
        refine o_q rfl rfl (q_fe F56_1 rfl) ?_
        refine o_q rfl rfl (q_lde (off := 1) Y3 rfl rfl (fun w h => R0.now Z h) hg18 (fun _ _ h => h) rfl) ?_
        refine o_q rfl rfl (za2 rfl) ?_
        refine o_q rfl rfl (q_neq rfl rfl) ?_
        refine o_end ?_
        refine za1 ?_
        refine zar _ rfl (fun hb20 => ?_) (fun hb20 => ?_)
        · skip
          replace h := br_t hb20 h
          refine c_seq ?_
          refine za0 ?_
          refine o_q rfl rfl (q_asg rfl) ?_
          refine o_end ?_
          refine za1 ?_
          refine c_ret ?_
          refine za5 ?_
          refine zah ?_
          refine za5 ?_
          refine za5 ?_
          have e_ := Option.some.inj h; replace h := hR8; rw [← e_] at h; clear e_
          refine zah ?_
          refine za5 ?_
          have e0_ := Option.some.inj h; clear h
          subst e0_
          exact x_r1 () Try.results46 (zaf rfl) rfl (fun w h => za8 [] (by decide) rfl w h)
        · skip
          replace h := br_f hb20 h
          refine zal ?_
          refine za1 ?_
          refine c_seq ?_
          refine za0 ?_
          refine o_q rfl rfl (za2 rfl) ?_
          refine o_q rfl rfl (q_add64 rfl rfl) ?_
          refine o_q rfl rfl (q_asg rfl) ?_
          refine o_end ?_
          refine za1 ?_
          refine c_seq ?_
          refine c_seq ?_
          refine za0 ?_
          refine o_q rfl rfl (za2 rfl) ?_
          refine o_q rfl rfl (za2 rfl) ?_
          refine za7 h (fun y22 hg21 h => ?_) rfl
          refine o_q rfl rfl (q_ix Try.underlying27 Z56 rfl rfl hq14 hg21) ?_
          refine o_q rfl rfl (q_fe F56_2 rfl) ?_
          refine o_q rfl rfl (q_lde (off := 2) Y3 rfl rfl (fun w h => R0.now Z h) hg21 (fun _ _ h => h) rfl) ?_
          refine o_q rfl rfl (za2 rfl) ?_
          refine o_q rfl rfl (q_neq rfl rfl) ?_
          refine o_end ?_
          refine za1 ?_
          refine zar _ rfl (fun hb23 => ?_) (fun hb23 => ?_)
          · skip
            replace h := br_t hb23 h
            refine c_seq ?_
            refine za0 ?_
            refine o_q rfl rfl (q_asg rfl) ?_
            refine o_end ?_
            refine za1 ?_
            refine c_ret ?_
            refine za5 ?_
            refine zah ?_
            refine za5 ?_
            refine za5 ?_
            have e_ := Option.some.inj h; replace h := hR8; rw [← e_] at h; clear e_
            refine zah ?_
            refine za5 ?_
            have e0_ := Option.some.inj h; clear h
            subst e0_
            exact x_r1 () Try.results46 (zaf rfl) rfl (fun w h => za8 [] (by decide) rfl w h)
          · skip
            replace h := br_f hb23 h
            refine zal ?_
            refine za1 ?_
            refine za0 ?_
            refine o_q rfl rfl (za2 rfl) ?_
            refine o_q rfl rfl (q_add64 rfl rfl) ?_
            refine o_q rfl rfl (q_asg rfl) ?_
            refine o_end ?_
            refine zav ?_
            refine za1 ?_
            refine za0 ?_
            refine o_q rfl rfl (za2 rfl) ?_
            refine o_q rfl rfl (q_add64 rfl rfl) ?_
            refine o_q rfl rfl (q_asg rfl) ?_
            refine o_end ?_
            refine zao k5 (w64 (w64 (w64 (i1 + 1) + 1) + 1), w64 (i2 + 1)) (Nat.lt_succ_self _) h ⟨rfl, rfl, trivial⟩ (fun w h => za8 [] (by decide) rfl w h) ?_
            repeat (first | exact zad _ _ | refine zai rfl ?_ | refine zae rfl ?_ | refine zaj rfl ?_)
    · skip
      replace h := br_f hb13 h
      refine c_exit ?_
      refine za6 ?_
      refine za6 ?_
      have e_ := Option.some.inj h; replace h := hR8; rw [← e_] at h; clear e_
      refine x_hit ?_
      refine za1 ?_
      refine c_seq ?_
      refine za0 ?_
      refine o_q rfl rfl (za2 rfl) ?_
      refine o_q rfl rfl (q_asg rfl) ?_
      refine o_end ?_
      refine za1 ?_
      refine c_ret ?_
      have e0_ := Option.some.inj h; clear h
      subst e0_
      exact x_r1 () Try.results46 (zaf rfl) rfl (fun w h => za8 [] (by decide) rfl w h)

/-! ### loop.example/g01098/laws.heldRegCode: function 15 -/
def laws_heldRegCode.f (k : Nat) (a0_0 : Int) (l0_1 : List Int) (l0_2 : List SRegOp) (l0_3 : List Int) (a1 : Int) : Option Int := (laws_heldIntS.f k l0_1 a1).bind fun i4 => if i4 < 0 then (some (-1)) else ((laws_heldRegOpS.f k l0_2 i4).bind fun i7 => if i7 < 0 then (some (-1)) else ((laws_heldIntS.f k l0_3 i7).bind fun i10 => if i10 < 0 then (some (-1)) else (some i10)))
set_option maxHeartbeats 600000 in
set_option maxRecDepth 100000 in
theorem laws_heldRegCode.calls (k : Nat) {w0 ws : World} {P0 : Nat → Prop} (a0_0 : Int) (A0_1 : Option Addr) (c0_1 : Nat) (n0_1 : Nat) (l0_1 : List Int) (A0_2 : Option Addr) (c0_2 : Nat) (n0_2 : Nat) (l0_2 : List SRegOp) (A0_3 : Option Addr) (c0_3 : Nat) (n0_3 : Nat) (l0_3 : List Int) (a1 : Int) (Z : Below w0.heap.size w0 ws) (hF : Fr w0 ws P0 [] ws) (R0_1 : Stable ws P0 (fun w => Kd.C (Kd.int .i64) w A0_1 n0_1 l0_1)) (hc0_1 : n0_1 ≤ c0_1) (R0_2 : Stable ws P0 (fun w => Kd.C zat w A0_2 n0_2 l0_2)) (hc0_2 : n0_2 ≤ c0_2) (R0_3 : Stable ws P0 (fun w => Kd.C (Kd.int .i64) w A0_3 n0_3 l0_3)) (hc0_3 : n0_3 ≤ c0_3) (r_1 : Int) (h : laws_heldRegCode.f k a0_0 l0_1 l0_2 l0_3 a1 = some r_1) :
    Calls Try.prog 15 #[.agg #[.int .i64 a0_0, .slice A0_1 n0_1 c0_1, .slice A0_2 n0_2 c0_2, .slice A0_3 n0_3 c0_3], .int .i64 a1] ws (Post1 w0 ws P0 (fun (_ : Unit) => .int .i64 r_1) (fun (_ : Unit) => [])) := by
  unfold laws_heldRegCode.f at h
  obtain rfl := (R0_1 ws (KeptB.refl _ _)).1
  obtain rfl := (R0_2 ws (KeptB.refl _ _)).1
  obtain rfl := (R0_3 ws (KeptB.refl _ _)).1
  refine enter Try.func15 rfl Try.ntmps15 rfl hF ?_
  refine c_seq ?_
  refine za0 ?_
  refine o_e rfl (e_box rfl) (fun g1 => ?_)
  refine o_q rfl rfl (q_asg rfl) ?_
  refine o_end ?_
  refine za1 ?_
  refine c_seq ?_
  refine za0 ?_
  refine o_q rfl rfl (q_f F29_1 rfl) ?_
  refine o_q rfl rfl (q_ldb Y22 rfl (fun w h => h.za9 (i := 0) rfl) rfl) ?_
  refine o_q rfl rfl (za2 rfl) ?_
  refine za7 h (fun i4 hx3 h => ?_) rfl
  refine o_e rfl (zab 0 Z Try.func30 N30 rfl rfl rfl (fun w P1 hF hB hS hT => laws_heldIntS.calls k A0_1 c0_1 l0_1.length l0_1 a1 hB hF (hS _ R0_1) hc0_1 _ hx3)) (fun _ => ?_)
  refine o_q rfl rfl (q_asg rfl) ?_
  refine o_end ?_
  refine za1 ?_
  refine c_seq ?_
  refine c_seq ?_
  refine za0 ?_
  refine o_q rfl rfl (za2 rfl) ?_
  refine o_q rfl rfl (q_lss rfl rfl) ?_
  refine o_end ?_
  refine za1 ?_
  refine zar _ rfl (fun hb5 => ?_) (fun hb5 => ?_)
  · skip
    replace h := br_t hb5 h
    refine c_seq ?_
    refine za0 ?_
    refine o_q rfl rfl (q_asg rfl) ?_
    refine o_end ?_
    refine za1 ?_
    refine c_ret ?_
    refine za5 ?_
    have e0_ := Option.some.inj h; clear h
    subst e0_
    exact x_r1 () Try.results15 (zaf rfl) rfl (fun w h => za8 [] (by decide) rfl w h)
  · skip
    replace h := br_f hb5 h
    refine zal ?_
    refine za1 ?_
    refine c_seq ?_
    refine za0 ?_
    refine o_q rfl rfl (q_f F29_2 rfl) ?_
    refine o_q rfl rfl (q_ldb Y27 rfl (fun w h => h.za9 (i := 0) rfl) rfl) ?_
    refine o_q rfl rfl (za2 rfl) ?_
    refine za7 h (fun i7 hx6 h => ?_) rfl
    refine o_e rfl (zab 0 Z Try.func46 N46 rfl rfl rfl (fun w P1 hF hB hS hT => laws_heldRegOpS.calls k A0_2 c0_2 l0_2.length l0_2 i4 hB hF (hS _ R0_2) hc0_2 _ hx6)) (fun _ => ?_)
    refine o_q rfl rfl (q_asg rfl) ?_
    refine o_end ?_
    refine za1 ?_
    refine c_seq ?_
    refine c_seq ?_
    refine za0 ?_
    refine o_q rfl rfl (za2 rfl) ?_
    refine o_q rfl rfl (q_lss rfl rfl) ?_
    refine o_end ?_
    refine za1 ?_
    refine zar _ rfl (fun hb8 => ?_) (fun hb8 => ?_)
    · skip
      replace h := br_t hb8 h
      refine c_seq ?_
      refine za0 ?_
      refine o_q rfl rfl (q_asg rfl) ?_
      refine o_end ?_
      refine za1 ?_
      refine c_ret ?_
      refine za5 ?_
      have e0_ := Option.some.inj h; clear h
      subst e0_
      exact x_r1 () Try.results15 (zaf rfl) rfl (fun w h => za8 [] (by decide) rfl w h)
    · skip
      replace h := br_f hb8 h
      refine zal ?_
      refine za1 ?_
      refine c_seq ?_
      refine za0 ?_
      refine o_q rfl rfl (q_f F29_3 rfl) ?_
      refine o_q rfl rfl (q_ldb Y22 rfl (fun w h => h.za9 (i := 0) rfl) rfl) ?_
      refine o_q rfl rfl (za2 rfl) ?_
      refine za7 h (fun i10 hx9 h => ?_) rfl
      refine o_e rfl (zab 0 Z Try.func30 N30 rfl rfl rfl (fun w P1 hF hB hS hT => laws_heldIntS.calls k A0_3 c0_3 l0_3.length l0_3 i7 hB hF (hS _ R0_3) hc0_3 _ hx9)) (fun _ => ?_)
      refine o_q rfl rfl (q_asg rfl) ?_
      refine o_end ?_
      refine za1 ?_
      refine c_seq ?_
      refine c_seq ?_
      refine za0 ?_
      refine o_q rfl rfl (za2 rfl) ?_
      refine o_q rfl rfl (q_lss rfl rfl) ?_
      refine o_end ?_
      refine za1 ?_
      refine zar _ rfl (fun hb11 => ?_) (fun hb11 => ?_)
      · skip
        replace h := br_t hb11 h
        refine c_seq ?_
        refine za0 ?_
        refine o_q rfl rfl (q_asg rfl) ?_
        refine o_end ?_
        refine za1 ?_
        refine c_ret ?_
        refine za5 ?_
        have e0_ := Option.some.inj h; clear h
        subst e0_
        exact x_r1 () Try.results15 (zaf rfl) rfl (fun w h => za8 [] (by decide) rfl w h)
      · skip
        replace h := br_f hb11 h
        refine zal ?_
        refine za1 ?_
        refine c_seq ?_
        refine za0 ?_
        refine o_q rfl rfl (za2 rfl) ?_
        refine o_q rfl rfl (q_asg rfl) ?_
        refine o_end ?_
        refine za1 ?_
        refine c_ret ?_
        have e0_ := Option.some.inj h; clear h
        subst e0_
        exact x_r1 () Try.results15 (zaf rfl) rfl (fun w h => za8 [] (by decide) rfl w h)

/-! ### loop.example/g01098/laws.FnExactPackRegisters: function 3 -/
def laws_FnExactPackRegisters.f (k : Nat) (a0_0 : Int) (l0_1 : List Int) (l0_2 : List SRegOp) (l0_3 : List Int) : Option Bool := (laws_szRegCode.f a0_0 l0_1 l0_2 l0_3 1048576).bind fun i4 => if i4 < 0 then (some true) else ((laws_toRegCode.f k a0_0 l0_1 l0_2 l0_3).bind fun (l7, l8, l9) => (spec_PackRegisters.f k a0_0 l7 l8 l9).bind fun (i17, l18, l19, l20, b21) => (laws_toRegCode.f k a0_0 l0_1 l0_2 l0_3).bind fun (l31, l32, l33) => (impl_PackRegisters.f k a0_0 l31 l32 l33).bind fun (i43, l44, l45, l46, b47) => (laws_eqRegCode.f k i43 l44 l45 l46 i17 l18 l19 l20).bind fun b57 => if b57 = true then (if (b47 != b21) = true then (some false) else ((laws_toRegCode.f k a0_0 l0_1 l0_2 l0_3).bind fun (l61, l62, l63) => (laws_eqRegCode.f k a0_0 l31 l32 l33 a0_0 l61 l62 l63).bind fun b71 => if b71 = true then ((laws_markRegCode.f k a0_0 l31 l32 l33 1).bind fun (i74, l75, l76, l77) => if i74 < 0 then (some false) else ((laws_eqRegCode.f k i43 l44 l45 l46 i17 l18 l19 l20).bind fun b80 => if b80 = true then ((laws_markRegCode.f k i43 l44 l45 l46 1).bind fun (i83, l84, l85, l86) => (laws_heldRegCode.f k i43 l84 l85 l86 1).bind fun i88 => if i88 < 0 then (some false) else (if i88 ≠ i83 then (some false) else ((laws_toRegCode.f k a0_0 l0_1 l0_2 l0_3).bind fun (l92, l93, l94) => (impl_PackRegisters.f k a0_0 l92 l93 l94).bind fun (i102, l103, l104, l105, b106) => (laws_eqRegCode.f k i102 l103 l104 l105 i17 l18 l19 l20).bind fun b116 => if b116 = true then (if (b106 != b21) = true then (some false) else ((laws_heldRegCode.f k i43 l84 l85 l86 1).bind fun i120 => if i120 < 0 then (some false) else (if i120 ≠ i83 then (some false) else (some true)))) else (some false)))) else (some false))) else (some false))) else (some false))
set_option maxHeartbeats 600000 in
set_option maxRecDepth 100000 in
theorem laws_FnExactPackRegisters.calls (k : Nat) {w0 ws : World} {P0 : Nat → Prop} (a0_0 : Int) (A0_1 : Option Addr) (c0_1 : Nat) (n0_1 : Nat) (l0_1 : List Int) (A0_2 : Option Addr) (c0_2 : Nat) (n0_2 : Nat) (l0_2 : List SRegOp) (A0_3 : Option Addr) (c0_3 : Nat) (n0_3 : Nat) (l0_3 : List Int) (Z : Below w0.heap.size w0 ws) (hF : Fr w0 ws P0 [] ws) (R0_1 : Stable ws P0 (fun w => Kd.C (Kd.int .i64) w A0_1 n0_1 l0_1)) (hc0_1 : n0_1 ≤ c0_1) (R0_2 : Stable ws P0 (fun w => Kd.C zat w A0_2 n0_2 l0_2)) (hc0_2 : n0_2 ≤ c0_2) (R0_3 : Stable ws P0 (fun w => Kd.C (Kd.int .i64) w A0_3 n0_3 l0_3)) (hc0_3 : n0_3 ≤ c0_3) (r_1 : Bool) (h : laws_FnExactPackRegisters.f k a0_0 l0_1 l0_2 l0_3 = some r_1) :
    Calls Try.prog 3 #[.agg #[.int .i64 a0_0, .slice A0_1 n0_1 c0_1, .slice A0_2 n0_2 c0_2, .slice A0_3 n0_3 c0_3]] ws (Post1 w0 ws P0 (fun (_ : Unit) => .bool r_1) (fun (_ : Unit) => [])) := by
  unfold laws_FnExactPackRegisters.f at h
  obtain rfl := (R0_1 ws (KeptB.refl _ _)).1
  obtain rfl := (R0_2 ws (KeptB.refl _ _)).1
  obtain rfl := (R0_3 ws (KeptB.refl _ _)).1
  refine enter Try.func3 rfl Try.ntmps3 rfl hF ?_
  refine c_seq ?_
  refine za0 ?_
  refine o_e rfl (e_box rfl) (fun g1 => ?_)
  refine o_q rfl rfl (q_asg rfl) ?_
  refine o_end ?_
  refine za1 ?_
  refine c_seq ?_
  refine za0 ?_
  refine o_q rfl rfl (q_asg rfl) ?_
  refine o_end ?_
  refine za1 ?_
  refine c_seq ?_
  refine za0 ?_
  refine o_q rfl rfl (q_ldB G25 Z25 rfl (fun w h => h.za9 (i := 0) rfl) rfl) ?_
  refine o_q rfl rfl (za2 rfl) ?_
  refine za7 h (fun i4 hx3 h => ?_) rfl
  refine o_e rfl (zab 0 Z Try.func9 N9 rfl rfl rfl (fun w P1 hF hB hS hT => laws_szRegCode.calls a0_0 A0_1 c0_1 l0_1.length l0_1 A0_2 c0_2 l0_2.length l0_2 A0_3 c0_3 l0_3.length l0_3 1048576 hB hF (hS _ R0_1) hc0_1 (hS _ R0_2) hc0_2 (hS _ R0_3) hc0_3 _ hx3)) (fun _ => ?_)
  refine o_q rfl rfl (q_asg rfl) ?_
  refine o_end ?_
  refine za1 ?_
  refine c_seq ?_
  refine c_seq ?_
  refine za0 ?_
  refine o_q rfl rfl (za2 rfl) ?_
  refine o_q rfl rfl (q_lss rfl rfl) ?_
  refine o_end ?_
  refine za1 ?_
  refine zar _ rfl (fun hb5 => ?_) (fun hb5 => ?_)
  · skip
    replace h := br_t hb5 h
    refine c_seq ?_
    refine za0 ?_
    refine o_q rfl rfl (q_asg rfl) ?_
    refine o_end ?_
    refine za1 ?_
    refine c_ret ?_
    refine za5 ?_
    have e0_ := Option.some.inj h; clear h
    subst e0_
    exact x_r1 () Try.results3 (zaf rfl) rfl (fun w h => za8 [] (by decide) rfl w h)
  · skip
    replace h := br_f hb5 h
    refine zal ?_
    refine za1 ?_
    refine c_seq ?_
    refine za0 ?_
    refine o_q rfl rfl (q_ldB G25 Z25 rfl (fun w h => h.za9 (i := 0) rfl) rfl) ?_
    refine bindE3 h (fun l7 l8 l9 hx6 h => ?_) rfl
    refine o_e rfl (zab 0 Z Try.func11 N11 rfl rfl rfl (fun w P1 hF hB hS hT => laws_toRegCode.calls k a0_0 A0_1 c0_1 l0_1.length l0_1 A0_2 c0_2 l0_2.length l0_2 A0_3 c0_3 l0_3.length l0_3 hB hF (hS _ R0_1) hc0_1 (hS _ R0_2) hc0_2 (hS _ R0_3) hc0_3 _ _ _ hx6)) (cur6 (fun A10 c11 A12 c13 A14 c15 => ?_))
    refine bindE5 h (fun i17 l18 l19 l20 b21 hx16 h => ?_) rfl
    refine o_e rfl (zab 0 Z Try.func10 N10 rfl rfl rfl (fun w P1 hF hB hS hT => spec_PackRegisters.calls k a0_0 A10 c11 l7.length l7 A12 c13 l8.length l8 A14 c15 l9.length l9 hB hF (hT 0 _ rfl).row (hT 0 _ rfl).cap (hT 1 _ rfl).row (hT 1 _ rfl).cap (hT 2 _ rfl).row (hT 2 _ rfl).cap _ _ _ _ _ hx16)) (cur6 (fun A22 c23 A24 c25 A26 c27 => ?_))
    refine o_q rfl rfl (za2 rfl) ?_
    refine o_q rfl rfl (q_ext rfl rfl) ?_
    refine o_q rfl rfl (q_ext rfl rfl) ?_
    refine o_e rfl (zan V29 rfl) (fun g28 => ?_)
    refine o_e rfl (zam (i := 0) rfl rfl rfl Z29 rfl rfl) (fun _ => ?_)
    refine o_q rfl rfl (q_asg rfl) ?_
    refine o_end ?_
    refine za1 ?_
    refine c_seq ?_
    refine za0 ?_
    refine o_q rfl rfl (q_ldB G25 Z25 rfl (fun w h => h.za9 (i := 7) rfl) rfl) ?_
    refine bindE3 h (fun l31 l32 l33 hx30 h => ?_) rfl
    refine o_e rfl (zab 0 Z Try.func11 N11 rfl rfl rfl (fun w P1 hF hB hS hT => laws_toRegCode.calls k a0_0 A0_1 c0_1 l0_1.length l0_1 A0_2 c0_2 l0_2.length l0_2 A0_3 c0_3 l0_3.length l0_3 hB hF (hS _ R0_1) hc0_1 (hS _ R0_2) hc0_2 (hS _ R0_3) hc0_3 _ _ _ hx30)) (cur6 (fun A34 c35 A36 c37 A38 c39 => ?_))
    refine o_e rfl (zan V29 rfl) (fun g40 => ?_)
    refine o_e rfl (zam (i := 0) rfl rfl rfl Z29 rfl rfl) (fun _ => ?_)
    refine o_end ?_
    refine za1 ?_
    refine c_seq ?_
    refine za0 ?_
    refine o_q rfl rfl (q_ldB G29 Z29 rfl (fun w h => h.za9 (i := 0) rfl) rfl) ?_
    refine bindE5 h (fun i43 l44 l45 l46 b47 hx42 h => ?_) rfl
    refine o_e rfl (zab 0 Z Try.func12 N12 rfl rfl rfl (fun w P1 hF hB hS hT => impl_PackRegisters.calls k a0_0 A34 c35 l31.length l31 A36 c37 l32.length l32 A38 c39 l33.length l33 hB hF (hT 1 _ rfl).row (hT 1 _ rfl).cap (hT 2 _ rfl).row (hT 2 _ rfl).cap (hT 3 _ rfl).row (hT 3 _ rfl).cap _ _ _ _ _ hx42)) (cur6 (fun A48 c49 A50 c51 A52 c53 => ?_))
    refine o_q rfl rfl (za2 rfl) ?_
    refine o_q rfl rfl (q_ext rfl rfl) ?_
    refine o_q rfl rfl (q_ext rfl rfl) ?_
    refine o_e rfl (zan V29 rfl) (fun g54 => ?_)
    refine o_e rfl (zam (i := 0) rfl rfl rfl Z29 rfl rfl) (fun _ => ?_)
    refine o_q rfl rfl (q_asg rfl) ?_
    refine o_end ?_
    refine za1 ?_
    refine c_seq ?_
    refine c_seq ?_
    refine za0 ?_
    refine o_q rfl rfl (q_ldB G29 Z29 rfl (fun w h => h.za9 (i := 0) rfl) rfl) ?_
    refine o_q rfl rfl (q_ldB G29 Z29 rfl (fun w h => h.za9 (i := 8) rfl) rfl) ?_
    refine za7 h (fun b57 hx56 h => ?_) rfl
    refine o_e rfl (zab 0 Z Try.func13 N13 rfl rfl rfl (fun w P1 hF hB hS hT => laws_eqRegCode.calls k i43 A48 c49 l44.length l44 A50 c51 l45.length l45 A52 c53 l46.length l46 i17 A22 c23 l18.length l18 A24 c25 l19.length l19 A26 c27 l20.length l20 hB hF (hT 1 _ rfl).row (hT 1 _ rfl).cap (hT 2 _ rfl).row (hT 2 _ rfl).cap (hT 3 _ rfl).row (hT 3 _ rfl).cap (hT 9 _ rfl).row (hT 9 _ rfl).cap (hT 10 _ rfl).row (hT 10 _ rfl).cap (hT 11 _ rfl).row (hT 11 _ rfl).cap _ hx56)) (fun _ => ?_)
    refine o_q rfl rfl (q_not rfl) ?_
    refine o_q rfl rfl (za2 rfl) ?_
    refine byB b57 (fun hb58 => ?_) (fun hb58 => ?_)
    · replace h := bb_t hb58 h
      refine o_w (za4 rfl rfl rfl (congrArg (fun b => Value.bool (!(b))) hb58)) rfl (za2 rfl) ?_
      refine o_w (za4 rfl rfl rfl (congrArg (fun b => Value.bool (!(b))) hb58)) rfl (za2 rfl) ?_
      refine o_w (za4 rfl rfl rfl (congrArg (fun b => Value.bool (!(b))) hb58)) rfl (q_bneq Try.underlying4 rfl rfl) ?_
      refine o_q rfl rfl (zas false (congrArg (fun b => Value.bool (!(b))) hb58) rfl) ?_
      refine o_end ?_
      refine za1 ?_
      refine zar _ rfl (fun hb59 => ?_) (fun hb59 => ?_)
      · skip
        replace h := bb_t hb59 h
        refine c_seq ?_
        refine za0 ?_
        refine o_q rfl rfl (q_asg rfl) ?_
        refine o_end ?_
        refine za1 ?_
        refine c_ret ?_
        refine za5 ?_
        have e0_ := Option.some.inj h; clear h
        subst e0_
        exact x_r1 () Try.results3 (zaf rfl) rfl (fun w h => za8 [] (by decide) rfl w h)
      · skip
        replace h := bb_f hb59 h
        refine zal ?_
        refine za1 ?_
        refine c_seq ?_
        refine c_seq ?_
        refine a_start (ds := []) MO rfl ?_
        refine zaz 0 rfl rfl rfl (by kernel_rfl) (fun _ _ _ h => h) (fun w h => h) (q_ldB G29 Z29 rfl (fun w h => h.za9 (i := 4) rfl) rfl) ?_
        refine zaz 1 rfl rfl rfl (by kernel_rfl) (fun _ _ _ h => h) (fun w h => h) (q_ldB G25 Z25 rfl (fun w h => h.za9 (i := 15) rfl) rfl) ?_
        refine bindE3 h (fun l61 l62 l63 hx60 h => ?_) rfl
        refine a_one 2 rfl rfl (by kernel_rfl) rfl (zab 0 Z Try.func11 N11 rfl rfl rfl (fun w P1 hF hB hS hT => laws_toRegCode.calls k a0_0 A0_1 c0_1 l0_1.length l0_1 A0_2 c0_2 l0_2.length l0_2 A0_3 c0_3 l0_3.length l0_3 hB hF (hS _ R0_1) hc0_1 (hS _ R0_2) hc0_2 (hS _ R0_3) hc0_3 _ _ _ hx60)) (fun s w h => zaa [some 3, some 4, some 5, some 6, some 7, some 8, some 9, some 10, some 11, some 12, some 13, some 14, some 15, some 16, some 17, some 18] (by decide) w h rfl) (cur6 (fun A64 c65 A66 c67 A68 c69 => ?_))
        refine za7 h (fun b71 hx70 h => ?_) rfl
        refine a_one 3 rfl rfl (by kernel_rfl) rfl (zab 0 Z Try.func13 N13 rfl rfl rfl (fun w P1 hF hB hS hT => laws_eqRegCode.calls k a0_0 A34 c35 l31.length l31 A36 c37 l32.length l32 A38 c39 l33.length l33 a0_0 A64 c65 l61.length l61 A66 c67 l62.length l62 A68 c69 l63.length l63 hB hF (hT 8 _ rfl).row (hT 8 _ rfl).cap (hT 9 _ rfl).row (hT 9 _ rfl).cap (hT 10 _ rfl).row (hT 10 _ rfl).cap (hT 0 _ rfl).row (hT 0 _ rfl).cap (hT 1 _ rfl).row (hT 1 _ rfl).cap (hT 2 _ rfl).row (hT 2 _ rfl).cap _ hx70)) (fun s w h => zaa [some 3, some 4, some 5, some 6, some 7, some 8, some 9, some 10, some 11, some 12, some 13, some 14, some 15, some 16, some 17, some 18] (by decide) w h rfl) (fun _ => ?_)
        refine zac 4 rfl rfl rfl (by kernel_rfl) (fun _ _ _ h => h) (q_not rfl) ?_
        refine a_done (by kernel_rfl) ?_
        refine za1 ?_
        refine zar _ rfl (fun hb72 => ?_) (fun hb72 => ?_)
        · replace hb72 := nt_t hb72
          replace h := bb_f hb72 h
          refine c_seq ?_
          refine za0 ?_
          refine o_q rfl rfl (q_asg rfl) ?_
          refine o_end ?_
          refine za1 ?_
          refine c_ret ?_
          refine za5 ?_
          have e0_ := Option.some.inj h; clear h
          subst e0_
          exact x_r1 () Try.results3 (zaf rfl) rfl (fun w h => za8 [] (by decide) rfl w h)
        · replace hb72 := nt_f hb72
          replace h := bb_t hb72 h
          refine zal ?_
          refine za1 ?_
          refine c_seq ?_
          refine za0 ?_
          refine o_q rfl rfl (q_asg rfl) ?_
          refine o_end ?_
          refine za1 ?_
          refine c_seq ?_
          refine za0 ?_
          refine o_q rfl rfl (q_ldB G29 Z29 rfl (fun w h => h.za9 (i := 7) rfl) rfl) ?_
          refine o_q rfl rfl (za2 rfl) ?_
          refine o_pick [8, 9, 10, 0, 1, 2, 3, 4, 5, 6, 7, 11, 12, 13, 14, 15, 16, 17, 18] (by decide) rfl ?_
          refine bindE4 h (fun i74 l75 l76 l77 hx73 h => ?_) rfl
          refine o_e rfl (zab 3 Z Try.func14 N14 rfl rfl rfl (fun w P1 hF hB hS hT => laws_markRegCode.calls k a0_0 A34 c35 l31.length l31 A36 c37 l32.length l32 A38 c39 l33.length l33 1 hB hF _ _ _ _ hx73)) (fun _ => ?_)
          refine o_q rfl rfl (q_asg rfl) ?_
          refine o_end ?_
          refine za1 ?_
          refine c_seq ?_
          refine c_seq ?_
          refine za0 ?_
          refine o_q rfl rfl (za2 rfl) ?_
          refine o_q rfl rfl (q_lss rfl rfl) ?_
          refine o_q rfl rfl (za2 rfl) ?_
          refine byB (decide (i74 < 0)) (fun hb78 => ?_) (fun hb78 => ?_)
          · replace h := br_t hb78 h
            refine @o_n _ _ _ _ _ _ _ _ _ _ _ 52 (za3 rfl rfl rfl (congrArg Value.bool hb78) rfl) (Eq.refl (some 52)) ?_
            refine @o_n _ _ _ _ _ _ _ _ _ _ _ 53 (za3 rfl rfl rfl (congrArg Value.bool hb78) rfl) (Eq.refl (some 53)) ?_
            refine @o_n _ _ _ _ _ _ _ _ _ _ _ 54 (za3 rfl rfl rfl (congrArg Value.bool hb78) rfl) (Eq.refl (some 54)) ?_
            refine @o_n _ _ _ _ _ _ _ _ _ _ _ 55 (za3 rfl rfl rfl (congrArg Value.bool hb78) rfl) (Eq.refl (some 55)) ?_
            refine o_q rfl rfl (zas true (congrArg Value.bool hb78) rfl) ?_
            refine o_q rfl rfl (za2 rfl) ?_
            refine @o_n _ _ _ _ _ _ _ _ _ _ _ 58 (za3 rfl rfl rfl rfl rfl) (Eq.refl (some 58)) ?_
            refine @o_n _ _ _ _ _ _ _ _ _ _ _ 59 (za3 rfl rfl rfl rfl rfl) (Eq.refl (some 59)) ?_
            refine @o_n _ _ _ _ _ _ _ _ _ _ _ 60 (za3 rfl rfl rfl rfl rfl) (Eq.refl (some 60)) ?_
            refine o_q rfl rfl (zas true rfl rfl) ?_
            refine o_end ?_
            refine za1 ?_
            refine c_true rfl ?_
            refine c_seq ?_
            refine za0 ?_
            refine o_q rfl rfl (q_asg rfl) ?_
            refine o_end ?_
            refine za1 ?_
            refine c_ret ?_
            refine za5 ?_
            have e0_ := Option.some.inj h; clear h
            subst e0_
            exact x_r1 () Try.results3 (zaf rfl) rfl (fun w h => za8 [] (by decide) rfl w h)
          · replace h := br_f hb78 h
            refine o_w (za4 rfl rfl rfl (congrArg Value.bool hb78)) rfl (q_ldB G29 Z29 rfl (fun w h => h.za9 (i := 6) rfl) rfl) ?_
            refine o_w (za4 rfl rfl rfl (congrArg Value.bool hb78)) rfl (q_ldB G29 Z29 rfl (fun w h => h.za9 (i := 11) rfl) rfl) ?_
            refine za7 h (fun b80 hx79 h => ?_) rfl
            refine o_ew (za4 rfl rfl rfl (congrArg Value.bool hb78)) (zab 0 Z Try.func13 N13 rfl rfl rfl (fun w P1 hF hB hS hT => laws_eqRegCode.calls k i43 A48 c49 l44.length l44 A50 c51 l45.length l45 A52 c53 l46.length l46 i17 A22 c23 l18.length l18 A24 c25 l19.length l19 A26 c27 l20.length l20 hB hF (hT 7 _ rfl).row (hT 7 _ rfl).cap (hT 8 _ rfl).row (hT 8 _ rfl).cap (hT 9 _ rfl).row (hT 9 _ rfl).cap (hT 12 _ rfl).row (hT 12 _ rfl).cap (hT 13 _ rfl).row (hT 13 _ rfl).cap (hT 14 _ rfl).row (hT 14 _ rfl).cap _ hx79)) (fun _ => ?_)
            refine o_w (za4 rfl rfl rfl (congrArg Value.bool hb78)) rfl (q_not rfl) ?_
            refine o_q rfl rfl (zas false (congrArg Value.bool hb78) rfl) ?_
            refine o_q rfl rfl (za2 rfl) ?_
            refine byB b80 (fun hb81 => ?_) (fun hb81 => ?_)
            · replace h := bb_t hb81 h
              refine o_w (za4 rfl rfl rfl (congrArg (fun b => Value.bool (!(b))) hb81)) rfl (za2 rfl) ?_
              refine o_w (za4 rfl rfl rfl (congrArg (fun b => Value.bool (!(b))) hb81)) rfl (za2 rfl) ?_
              refine o_w (za4 rfl rfl rfl (congrArg (fun b => Value.bool (!(b))) hb81)) rfl (q_bneq Try.underlying4 rfl rfl) ?_
              refine o_q rfl rfl (zas false (congrArg (fun b => Value.bool (!(b))) hb81) rfl) ?_
              refine o_end ?_
              refine za1 ?_
              refine c_false (congrArg Value.bool hb59) ?_
              refine zal ?_
              refine za1 ?_
              refine c_seq ?_
              refine za0 ?_
              refine o_q rfl rfl (q_asg rfl) ?_
              refine o_end ?_
              refine za1 ?_
              refine c_seq ?_
              refine za0 ?_
              refine o_q rfl rfl (q_ldB G29 Z29 rfl (fun w h => h.za9 (i := 6) rfl) rfl) ?_
              refine o_q rfl rfl (za2 rfl) ?_
              refine o_pick [7, 8, 9, 0, 1, 2, 3, 4, 5, 6, 10, 11, 12, 13, 14, 15, 16, 17, 18] (by decide) rfl ?_
              refine bindE4 h (fun i83 l84 l85 l86 hx82 h => ?_) rfl
              refine o_e rfl (zab 3 Z Try.func14 N14 rfl rfl rfl (fun w P1 hF hB hS hT => laws_markRegCode.calls k i43 A48 c49 l44.length l44 A50 c51 l45.length l45 A52 c53 l46.length l46 1 hB hF _ _ _ _ hx82)) (fun _ => ?_)
              refine o_q rfl rfl (q_asg rfl) ?_
              refine o_end ?_
              refine za1 ?_
              refine c_seq ?_
              refine za0 ?_
              refine o_q rfl rfl (q_asg rfl) ?_
              refine o_end ?_
              refine za1 ?_
              refine c_seq ?_
              refine za0 ?_
              refine o_q rfl rfl (q_ldB G29 Z29 rfl (fun w h => h.za9 (i := 9) rfl) rfl) ?_
              refine o_q rfl rfl (za2 rfl) ?_
              refine za7 h (fun i88 hx87 h => ?_) rfl
              refine o_e rfl (zab 0 Z Try.func15 N15 rfl rfl rfl (fun w P1 hF hB hS hT => laws_heldRegCode.calls k i43 A48 c49 l44.length l84 A50 c51 l45.length l85 A52 c53 l46.length l86 1 hB hF (hT 0 _ rfl).row (hT 0 _ rfl).cap (hT 1 _ rfl).row (hT 1 _ rfl).cap (hT 2 _ rfl).row (hT 2 _ rfl).cap _ hx87)) (fun _ => ?_)
              refine o_q rfl rfl (q_asg rfl) ?_
              refine o_end ?_
              refine za1 ?_
              refine c_seq ?_
              refine c_seq ?_
              refine za0 ?_
              refine o_q rfl rfl (za2 rfl) ?_
              refine o_q rfl rfl (q_lss rfl rfl) ?_
              refine o_end ?_
              refine za1 ?_
              refine zar _ rfl (fun hb89 => ?_) (fun hb89 => ?_)
              · skip
                replace h := br_t hb89 h
                refine c_seq ?_
                refine za0 ?_
                refine o_q rfl rfl (q_asg rfl) ?_
                refine o_end ?_
                refine za1 ?_
                refine c_ret ?_
                refine za5 ?_
                have e0_ := Option.some.inj h; clear h
                subst e0_
                exact x_r1 () Try.results3 (zaf rfl) rfl (fun w h => za8 [] (by decide) rfl w h)
              · skip
                replace h := br_f hb89 h
                refine zal ?_
                refine za1 ?_
                refine c_seq ?_
                refine c_seq ?_
                refine za0 ?_
                refine o_q rfl rfl (za2 rfl) ?_
                refine o_q rfl rfl (za2 rfl) ?_
                refine o_q rfl rfl (q_neq rfl rfl) ?_
                refine o_end ?_
                refine za1 ?_
                refine zar _ rfl (fun hb90 => ?_) (fun hb90 => ?_)
                · skip
                  replace h := br_t hb90 h
                  refine c_seq ?_
                  refine za0 ?_
                  refine o_q rfl rfl (q_asg rfl) ?_
                  refine o_end ?_
                  refine za1 ?_
                  refine c_ret ?_
                  refine za5 ?_
                  have e0_ := Option.some.inj h; clear h
                  subst e0_
                  exact x_r1 () Try.results3 (zaf rfl) rfl (fun w h => za8 [] (by decide) rfl w h)
                · skip
                  replace h := br_f hb90 h
                  refine zal ?_
                  refine za1 ?_
                  refine c_seq ?_
                  refine za0 ?_
                  refine o_q rfl rfl (q_ldB G25 Z25 rfl (fun w h => h.za9 (i := 18) rfl) rfl) ?_
                  refine bindE3 h (fun l92 l93 l94 hx91 h => ?_) rfl
                  refine o_e rfl (zab 0 Z Try.func11 N11 rfl rfl rfl (fun w P1 hF hB hS hT => laws_toRegCode.calls k a0_0 A0_1 c0_1 l0_1.length l0_1 A0_2 c0_2 l0_2.length l0_2 A0_3 c0_3 l0_3.length l0_3 hB hF (hS _ R0_1) hc0_1 (hS _ R0_2) hc0_2 (hS _ R0_3) hc0_3 _ _ _ hx91)) (cur6 (fun A95 c96 A97 c98 A99 c100 => ?_))
                  refine bindE5 h (fun i102 l103 l104 l105 b106 hx101 h => ?_) rfl
                  refine o_e rfl (zab 0 Z Try.func12 N12 rfl rfl rfl (fun w P1 hF hB hS hT => impl_PackRegisters.calls k a0_0 A95 c96 l92.length l92 A97 c98 l93.length l93 A99 c100 l94.length l94 hB hF (hT 0 _ rfl).row (hT 0 _ rfl).cap (hT 1 _ rfl).row (hT 1 _ rfl).cap (hT 2 _ rfl).row (hT 2 _ rfl).cap _ _ _ _ _ hx101)) (cur6 (fun A107 c108 A109 c110 A111 c112 => ?_))
                  refine o_q rfl rfl (za2 rfl) ?_
                  refine o_q rfl rfl (q_ext rfl rfl) ?_
                  refine o_q rfl rfl (q_ext rfl rfl) ?_
                  refine o_e rfl (zan V29 rfl) (fun g113 => ?_)
                  refine o_e rfl (zam (i := 0) rfl rfl rfl Z29 rfl rfl) (fun _ => ?_)
                  refine o_q rfl rfl (q_asg rfl) ?_
                  refine o_end ?_
                  refine za1 ?_
                  refine c_seq ?_
                  refine c_seq ?_
                  refine za0 ?_
                  refine o_q rfl rfl (q_ldB G29 Z29 rfl (fun w h => h.za9 (i := 0) rfl) rfl) ?_
                  refine o_q rfl rfl (q_ldB G29 Z29 rfl (fun w h => h.za9 (i := 18) rfl) rfl) ?_
                  refine za7 h (fun b116 hx115 h => ?_) rfl
                  refine o_e rfl (zab 0 Z Try.func13 N13 rfl rfl rfl (fun w P1 hF hB hS hT => laws_eqRegCode.calls k i102 A107 c108 l103.length l103 A109 c110 l104.length l104 A111 c112 l105.length l105 i17 A22 c23 l18.length l18 A24 c25 l19.length l19 A26 c27 l20.length l20 hB hF (hT 1 _ rfl).row (hT 1 _ rfl).cap (hT 2 _ rfl).row (hT 2 _ rfl).cap (hT 3 _ rfl).row (hT 3 _ rfl).cap (hT 19 _ rfl).row (hT 19 _ rfl).cap (hT 20 _ rfl).row (hT 20 _ rfl).cap (hT 21 _ rfl).row (hT 21 _ rfl).cap _ hx115)) (fun _ => ?_)
                  refine o_q rfl rfl (q_not rfl) ?_
                  refine o_q rfl rfl (za2 rfl) ?_
                  refine byB b116 (fun hb117 => ?_) (fun hb117 => ?_)
                  · replace h := bb_t hb117 h
                    refine o_w (za4 rfl rfl rfl (congrArg (fun b => Value.bool (!(b))) hb117)) rfl (za2 rfl) ?_
                    refine o_w (za4 rfl rfl rfl (congrArg (fun b => Value.bool (!(b))) hb117)) rfl (za2 rfl) ?_
                    refine o_w (za4 rfl rfl rfl (congrArg (fun b => Value.bool (!(b))) hb117)) rfl (q_bneq Try.underlying4 rfl rfl) ?_
                    refine o_q rfl rfl (zas false (congrArg (fun b => Value.bool (!(b))) hb117) rfl) ?_
                    refine o_end ?_
                    refine za1 ?_
                    refine zar _ rfl (fun hb118 => ?_) (fun hb118 => ?_)
                    · skip
                      replace h := bb_t hb118 h
                      refine c_seq ?_
                      refine za0 ?_
                      refine o_q rfl rfl (q_asg rfl) ?_
                      refine o_end ?_
                      refine za1 ?_
                      refine c_ret ?_
                      refine za5 ?_
                      have e0_ := Option.some.inj h; clear h
                      subst e0_
                      exact x_r1 () Try.results3 (zaf rfl) rfl (fun w h => za8 [] (by decide) rfl w h)
                    · skip
                      replace h := bb_f hb118 h
                      refine zal ?_
                      refine za1 ?_
                      refine c_seq ?_
                      refine za0 ?_
                      refine o_q rfl rfl (q_asg rfl) ?_
                      refine o_end ?_
                      refine za1 ?_
                      refine c_seq ?_
                      refine za0 ?_
                      refine o_q rfl rfl (q_ldB G29 Z29 rfl (fun w h => h.za9 (i := 16) rfl) rfl) ?_
                      refine o_q rfl rfl (za2 rfl) ?_
                      refine za7 h (fun i120 hx119 h => ?_) rfl
                      refine o_e rfl (zab 0 Z Try.func15 N15 rfl rfl rfl (fun w P1 hF hB hS hT => laws_heldRegCode.calls k i43 A48 c49 l44.length l84 A50 c51 l45.length l85 A52 c53 l46.length l86 1 hB hF (hT 7 _ rfl).row (hT 7 _ rfl).cap (hT 8 _ rfl).row (hT 8 _ rfl).cap (hT 9 _ rfl).row (hT 9 _ rfl).cap _ hx119)) (fun _ => ?_)
                      refine o_q rfl rfl (q_asg rfl) ?_
                      refine o_end ?_
                      refine za1 ?_
                      refine c_seq ?_
                      refine c_seq ?_
                      refine za0 ?_
                      refine o_q rfl rfl (za2 rfl) ?_
                      refine o_q rfl rfl (q_lss rfl rfl) ?_
                      refine o_end ?_
                      refine za1 ?_
                      refine zar _ rfl (fun hb121 => ?_) (fun hb121 => ?_)
                      · skip
                        replace h := br_t hb121 h
                        refine c_seq ?_
                        refine za0 ?_
                        refine o_q rfl rfl (q_asg rfl) ?_
                        refine o_end ?_
                        refine za1 ?_
                        refine c_ret ?_
                        refine za5 ?_
                        have e0_ := Option.some.inj h; clear h
                        subst e0_
                        exact x_r1 () Try.results3 (zaf rfl) rfl (fun w h => za8 [] (by decide) rfl w h)
                      · skip
                        replace h := br_f hb121 h
                        refine zal ?_
                        refine za1 ?_
                        refine c_seq ?_
                        refine c_seq ?_
                        refine za0 ?_
                        refine o_q rfl rfl (za2 rfl) ?_
                        refine o_q rfl rfl (za2 rfl) ?_
                        refine o_q rfl rfl (q_neq rfl rfl) ?_
                        refine o_end ?_
                        refine za1 ?_
                        refine zar _ rfl (fun hb122 => ?_) (fun hb122 => ?_)
                        · skip
                          replace h := br_t hb122 h
                          refine c_seq ?_
                          refine za0 ?_
                          refine o_q rfl rfl (q_asg rfl) ?_
                          refine o_end ?_
                          refine za1 ?_
                          refine c_ret ?_
                          refine za5 ?_
                          have e0_ := Option.some.inj h; clear h
                          subst e0_
                          exact x_r1 () Try.results3 (zaf rfl) rfl (fun w h => za8 [] (by decide) rfl w h)
                        · skip
                          replace h := br_f hb122 h
                          refine zal ?_
                          refine za1 ?_
                          refine c_seq ?_
                          refine za0 ?_
                          refine o_q rfl rfl (q_asg rfl) ?_
                          refine o_end ?_
                          refine za1 ?_
                          refine c_ret ?_
                          have e0_ := Option.some.inj h; clear h
                          subst e0_
                          exact x_r1 () Try.results3 (zaf rfl) rfl (fun w h => za8 [] (by decide) rfl w h)
                  · replace h := bb_f hb117 h
                    refine @o_n _ _ _ _ _ _ _ _ _ _ _ 84 (za3 rfl rfl rfl (congrArg (fun b => Value.bool (!(b))) hb117) rfl) (Eq.refl (some 84)) ?_
                    refine @o_n _ _ _ _ _ _ _ _ _ _ _ 85 (za3 rfl rfl rfl (congrArg (fun b => Value.bool (!(b))) hb117) rfl) (Eq.refl (some 85)) ?_
                    refine @o_n _ _ _ _ _ _ _ _ _ _ _ 86 (za3 rfl rfl rfl (congrArg (fun b => Value.bool (!(b))) hb117) rfl) (Eq.refl (some 86)) ?_
                    refine o_q rfl rfl (zas true (congrArg (fun b => Value.bool (!(b))) hb117) rfl) ?_
                    refine o_end ?_
                    refine za1 ?_
                    refine c_true rfl ?_
                    refine c_seq ?_
                    refine za0 ?_
                    refine o_q rfl rfl (q_asg rfl) ?_
                    refine o_end ?_
                    refine za1 ?_
                    refine c_ret ?_
                    refine za5 ?_
                    have e0_ := Option.some.inj h; clear h
                    subst e0_
                    exact x_r1 () Try.results3 (zaf rfl) rfl (fun w h => za8 [] (by decide) rfl w h)
            · replace h := bb_f hb81 h
              refine @o_n _ _ _ _ _ _ _ _ _ _ _ 58 (za3 rfl rfl rfl (congrArg (fun b => Value.bool (!(b))) hb81) rfl) (Eq.refl (some 58)) ?_
              refine @o_n _ _ _ _ _ _ _ _ _ _ _ 59 (za3 rfl rfl rfl (congrArg (fun b => Value.bool (!(b))) hb81) rfl) (Eq.refl (some 59)) ?_
              refine @o_n _ _ _ _ _ _ _ _ _ _ _ 60 (za3 rfl rfl rfl (congrArg (fun b => Value.bool (!(b))) hb81) rfl) (Eq.refl (some 60)) ?_
              refine o_q rfl rfl (zas true (congrArg (fun b => Value.bool (!(b))) hb81) rfl) ?_
              refine o_end ?_
              refine za1 ?_
              refine c_true rfl ?_
              refine c_seq ?_
              refine za0 ?_
              refine o_q rfl rfl (q_asg rfl) ?_
              refine o_end ?_
              refine za1 ?_
              refine c_ret ?_
              refine za5 ?_
              have e0_ := Option.some.inj h; clear h
              subst e0_
              exact x_r1 () Try.results3 (zaf rfl) rfl (fun w h => za8 [] (by decide) rfl w h)
    · replace h := bb_f hb58 h
      refine @o_n _ _ _ _ _ _ _ _ _ _ _ 37 (za3 rfl rfl rfl (congrArg (fun b => Value.bool (!(b))) hb58) rfl) (Eq.refl (some 37)) ?_
      refine @o_n _ _ _ _ _ _ _ _ _ _ _ 38 (za3 rfl rfl rfl (congrArg (fun b => Value.bool (!(b))) hb58) rfl) (Eq.refl (some 38)) ?_
      refine @o_n _ _ _ _ _ _ _ _ _ _ _ 39 (za3 rfl rfl rfl (congrArg (fun b => Value.bool (!(b))) hb58) rfl) (Eq.refl (some 39)) ?_
      refine o_q rfl rfl (zas true (congrArg (fun b => Value.bool (!(b))) hb58) rfl) ?_
      refine o_end ?_
      refine za1 ?_
      refine c_true rfl ?_
      refine c_seq ?_
      refine za0 ?_
      refine o_q rfl rfl (q_asg rfl) ?_
      refine o_end ?_
      refine za1 ?_
      refine c_ret ?_
      refine za5 ?_
      have e0_ := Option.some.inj h; clear h
      subst e0_
      exact x_r1 () Try.results3 (zaf rfl) rfl (fun w h => za8 [] (by decide) rfl w h)

/-- THE ONE PURE STATEMENT of laws_FnExactPackRegisters. -/
def laws_FnExactPackRegisters.Pure : Prop := ∀ (a0_0 : Int) (l0_1 : List Int) (l0_2 : List SRegOp) (l0_3 : List Int), (Lit.int .i64 a0_0).wf = true → l0_1.length ≤ maxLen → (∀ y ∈ l0_1, (Lit.int .i64 y).wf = true) → l0_2.length ≤ maxLen → (∀ y ∈ l0_2, (Lit.int .i64 y.f0).wf = true ∧ (Lit.int .i64 y.f1).wf = true ∧ (Lit.int .i64 y.f2).wf = true) → l0_3.length ≤ maxLen → (∀ y ∈ l0_3, (Lit.int .i64 y).wf = true) → ∃ k, laws_FnExactPackRegisters.f k a0_0 l0_1 l0_2 l0_3 = some true
theorem laws_FnExactPackRegisters.walk (P : laws_FnExactPackRegisters.Pure) (a0_0 : Int) (A0_1 : Option Addr) (c0_1 : Nat) (l0_1 : List Int) (A0_2 : Option Addr) (c0_2 : Nat) (l0_2 : List SRegOp) (A0_3 : Option Addr) (c0_3 : Nat) (l0_3 : List Int) (w : World) (hr0_1 : Kd.C (Kd.int .i64) w A0_1 l0_1.length l0_1) (hc0_1 : l0_1.length ≤ c0_1) (hr0_2 : Kd.C zat w A0_2 l0_2.length l0_2) (hc0_2 : l0_2.length ≤ c0_2) (hr0_3 : Kd.C (Kd.int .i64) w A0_3 l0_3.length l0_3) (hc0_3 : l0_3.length ≤ c0_3) (q0 : (Lit.int .i64 a0_0).wf = true) (q1 : l0_1.length ≤ maxLen) (q2 : (∀ y ∈ l0_1, (Lit.int .i64 y).wf = true)) (q3 : l0_2.length ≤ maxLen) (q4 : (∀ y ∈ l0_2, (Lit.int .i64 y.f0).wf = true ∧ (Lit.int .i64 y.f1).wf = true ∧ (Lit.int .i64 y.f2).wf = true)) (q5 : l0_3.length ≤ maxLen) (q6 : (∀ y ∈ l0_3, (Lit.int .i64 y).wf = true)) :
    Calls Try.prog 3 #[.agg #[.int .i64 a0_0, .slice A0_1 l0_1.length c0_1, .slice A0_2 l0_2.length c0_2, .slice A0_3 l0_3.length c0_3]] w fun e w' => e = .returned (.bool true) ∧ Below w.heap.size w w' := by
  obtain ⟨k, h⟩ := P a0_0 l0_1 l0_2 l0_3 q0 q1 q2 q3 q4 q5 q6
  refine (laws_FnExactPackRegisters.calls k a0_0 A0_1 c0_1 l0_1.length l0_1 A0_2 c0_2 l0_2.length l0_2 A0_3 c0_3 l0_3.length l0_3 (Below.refl _ _) (Fr.start w) (fun W hW => Kd.C_below hr0_1 hW.below) hc0_1 (fun W hW => Kd.C_below hr0_2 hW.below) hc0_2 (fun W hW => Kd.C_below hr0_3 hW.below) hc0_3 true h).mono ?_
  rintro e w' ⟨s, rfl, hF⟩
  exact ⟨rfl, hF.bel⟩
end Go.Proofs.Ytjioedcbcdppeaa.G3
