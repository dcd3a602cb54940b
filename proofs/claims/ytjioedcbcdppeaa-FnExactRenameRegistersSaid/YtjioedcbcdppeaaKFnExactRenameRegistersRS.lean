import Derived.Test.YtjioedcbcdppeaaKFnExactRenameRegistersRSp3
namespace Go.Proofs.Ytjioedcbcdppeaa.RS
open Go.RowKit Go.Proofs.Ytjioedcbcdppeaa.Frame Go.Proofs.YtjioedcbcdppeaaW.PrintLast Go.Proofs.Ytjioedcbcdppeaa.Hand
open Go.Proofs.YtjioedcbcdppeaaW.PrintWords hiding mn mx
set_option linter.unusedVariables false
/-! ### loop.example/g01098/laws.eqRegOpS: function 44 -/
def laws_eqRegOpS.l0 (l0 : List SRegOp) (l1 : List SRegOp) : Nat → Int → Option ((Bool) ⊕ (Unit))
  | 0, _ => none
  | k5 + 1, i2 => if i2 < (l0.length : Int) then ((gt l0 i2).bind fun y16 => (gt l1 i2).bind fun y19 => (laws_eqRegOp.f y16 y19).bind fun b21 => if b21 = true then (laws_eqRegOpS.l0 l0 l1 k5 (w64 (i2 + 1))) else (some (.inl false))) else (some (.inr ()))
def laws_eqRegOpS.f (k : Nat) (l0 : List SRegOp) (l1 : List SRegOp) : Option Bool := if (l0.length : Int) ≠ (l1.length : Int) then (some false) else ((laws_eqRegOpS.l0 l0 l1 k 0).bind fun o_ => match o_ with | .inl r_ => some r_ | .inr _ => some true)
set_option maxHeartbeats 600000 in
set_option maxRecDepth 100000 in
theorem laws_eqRegOpS.calls (k : Nat) {w0 ws : World} {P0 : Nat → Prop} (A0 : Option Addr) (c0 : Nat) (n0 : Nat) (l0 : List SRegOp) (A1 : Option Addr) (c1 : Nat) (n1 : Nat) (l1 : List SRegOp) (Z : Below w0.heap.size w0 ws) (hF : Fr w0 ws P0 [] ws) (R0 : Stable ws P0 (fun w => Kd.C zat w A0 n0 l0)) (hc0 : n0 ≤ c0) (R1 : Stable ws P0 (fun w => Kd.C zat w A1 n1 l1)) (hc1 : n1 ≤ c1) (r_1 : Bool) (h : laws_eqRegOpS.f k l0 l1 = some r_1) :
    Calls Try.prog 44 #[.slice A0 n0 c0, .slice A1 n1 c1] ws (Post1 w0 ws P0 (fun (_ : Unit) => .bool r_1) (fun (_ : Unit) => [])) := by
  unfold laws_eqRegOpS.f at h
  obtain rfl := (R0 ws (KeptB.refl _ _)).1
  obtain rfl := (R1 ws (KeptB.refl _ _)).1
  refine enter Try.func44 rfl Try.ntmps44 rfl hF ?_
  refine c_seq ?_
  refine za0 ?_
  refine o_q rfl rfl (q_asg rfl) ?_
  refine o_end ?_
  refine za1 ?_
  refine c_seq ?_
  refine c_seq ?_
  refine za0 ?_
  refine o_q rfl rfl (za2 rfl) ?_
  refine o_q rfl rfl (q_len Try.underlying27 rfl) ?_
  refine o_q rfl rfl (za2 rfl) ?_
  refine o_q rfl rfl (q_len Try.underlying27 rfl) ?_
  refine o_q rfl rfl (q_neq rfl rfl) ?_
  refine o_end ?_
  refine za1 ?_
  refine zaq _ rfl (fun hb1 => ?_) (fun hb1 => ?_)
  · skip
    replace h := br_t hb1 h
    refine c_seq ?_
    refine za0 ?_
    refine o_q rfl rfl (q_asg rfl) ?_
    refine o_end ?_
    refine za1 ?_
    refine c_ret ?_
    refine za5 ?_
    have e0_ := Option.some.inj h; clear h
    subst e0_
    exact x_r1 () Try.results44 (zae rfl) rfl (fun w h => za6 [] (by decide) rfl w h)
  · skip
    replace h := br_f hb1 h
    refine zal ?_
    refine za1 ?_
    refine c_seq ?_
    refine c_seq ?_
    refine za0 ?_
    refine o_q rfl rfl (q_asg rfl) ?_
    refine o_end ?_
    refine za1 ?_
    refine zak ?_
    refine za7 h (fun o10 hl9 hR8 => ?_) rfl
    clear h
    refine zaz (σ := Int) (fun k5 (i2 : Int) => laws_eqRegOpS.l0 l0 l1 k5 i2 = some o10) [4, 5, 11, 12, 13, 14, 15, 16, 17, 18, 19, 20, 21, 22, 23, 24, 25, 26] (fun (i2 : Int) => [(5, .int .i64 i2)]) (fun (i2 : Int) => []) k 0 hl9 ⟨rfl, trivial⟩ (fun w h => h) ?_
    refine natC (fun i2 => fun U11 hJ_ => ?_) (fun k5 => (fun i2 => fun U11 hJ_ => ?_))
    · skip
      replace hJ_ : laws_eqRegOpS.l0 l0 l1 0 i2 = some o10 := hJ_
      rw [laws_eqRegOpS.l0] at hJ_
      exact noneE hJ_
    · skip
      clear hl9
      have h := hJ_; clear hJ_
      replace h : laws_eqRegOpS.l0 l0 l1 (k5 + 1) i2 = some o10 := h
      rw [laws_eqRegOpS.l0] at h
      refine c_seq ?_
      refine c_seq ?_
      refine za0 ?_
      refine o_q rfl rfl (za2 rfl) ?_
      refine o_q rfl rfl (za2 rfl) ?_
      refine o_q rfl rfl (q_len Try.underlying27 rfl) ?_
      refine o_q rfl rfl (q_lss rfl rfl) ?_
      refine o_end ?_
      refine za1 ?_
      refine zaq _ rfl (fun hb13 => ?_) (fun hb13 => ?_)
      · skip
        replace h := br_t hb13 h
        refine zal ?_
        refine za1 ?_
        refine c_seq ?_
        refine zak ?_
        refine c_seq ?_
        refine a_start (ds := []) MO rfl ?_
        refine zac 0 rfl rfl rfl (by kernel_rfl) (fun _ _ _ h => h) (za2 rfl) ?_
        refine zac 1 rfl rfl rfl (by kernel_rfl) (fun _ _ _ h => h) (za2 rfl) ?_
        refine a_fact (p := Sh A0 l0.length l0.length) (fun w h => f_sh (dk := zat) h (fun w h => R0.now Z h)) (fun hq14 => ?_)
        refine za7 h (fun y16 hg15 h => ?_) rfl
        refine zac 2 rfl rfl rfl (by kernel_rfl) (fun _ _ _ h => h) (q_ix Try.underlying27 Z56 rfl rfl hq14 hg15) ?_
        refine zay 3 rfl rfl rfl (by kernel_rfl) (fun _ _ _ h => h) (fun w h => h) (q_ldE G56 Z56 rfl rfl (fun w h => R0.now Z h) hg15 (fun _ _ h => h) rfl) ?_
        refine zac 4 rfl rfl rfl (by kernel_rfl) (fun _ _ _ h => h) (za2 rfl) ?_
        refine zac 5 rfl rfl rfl (by kernel_rfl) (fun _ _ _ h => h) (za2 rfl) ?_
        refine a_fact (p := Sh A1 l1.length l1.length) (fun w h => f_sh (dk := zat) h (fun w h => R1.now Z h)) (fun hq17 => ?_)
        refine za7 h (fun y19 hg18 h => ?_) rfl
        refine zac 6 rfl rfl rfl (by kernel_rfl) (fun _ _ _ h => h) (q_ix Try.underlying27 Z56 rfl rfl hq17 hg18) ?_
        refine zay 7 rfl rfl rfl (by kernel_rfl) (fun _ _ _ h => h) (fun w h => h) (q_ldE G56 Z56 rfl rfl (fun w h => R1.now Z h) hg18 (fun _ _ h => h) rfl) ?_
        refine za7 h (fun b21 hx20 h => ?_) rfl
        refine a_one 8 rfl rfl (by kernel_rfl) rfl (zab 0 Z Try.func80 N80 rfl rfl rfl (fun w P1 hF hB hS hT => laws_eqRegOp.calls y16 y19 hB hF _ hx20)) (fun s w h => h) (fun _ => ?_)
        refine zac 9 rfl rfl rfl (by kernel_rfl) (fun _ _ _ h => h) (q_not rfl) ?_
        refine a_done (by kernel_rfl) ?_
        refine za1 ?_
        refine zaq _ rfl (fun hb22 => ?_) (fun hb22 => ?_)
        · replace hb22 := nt_t hb22
          replace h := bb_f hb22 h
          refine c_seq ?_
          refine za0 ?_
          refine o_q rfl rfl (q_asg rfl) ?_
          refine o_end ?_
          refine za1 ?_
          refine c_ret ?_
          refine zah ?_
          refine za5 ?_
          refine za5 ?_
          have e_ := Option.some.inj h; replace h := hR8; rw [← e_] at h; clear e_
          refine zah ?_
          refine za5 ?_
          have e0_ := Option.some.inj h; clear h
          subst e0_
          exact x_r1 () Try.results44 (zae rfl) rfl (fun w h => za6 [] (by decide) rfl w h)
        · replace hb22 := nt_f hb22
          replace h := bb_t hb22 h
          refine zal ?_
          refine zau ?_
          refine za1 ?_
          refine za0 ?_
          refine o_q rfl rfl (za2 rfl) ?_
          refine o_q rfl rfl (q_add64 rfl rfl) ?_
          refine o_q rfl rfl (q_asg rfl) ?_
          refine o_end ?_
          refine zas k5 (w64 (i2 + 1)) (Nat.lt_succ_self _) h ⟨rfl, trivial⟩ (fun w h => za6 [] (by decide) rfl w h) ?_
          repeat (first | exact zad _ _ | refine zai rfl ?_ | refine zaf rfl ?_ | refine zaj rfl ?_)
      · skip
        replace h := br_f hb13 h
        refine c_exit ?_
        refine za8 ?_
        refine za8 ?_
        have e_ := Option.some.inj h; replace h := hR8; rw [← e_] at h; clear e_
        refine x_hit ?_
        refine za1 ?_
        refine c_seq ?_
        refine za0 ?_
        refine o_q rfl rfl (q_asg rfl) ?_
        refine o_end ?_
        refine za1 ?_
        refine c_ret ?_
        have e0_ := Option.some.inj h; clear h
        subst e0_
        exact x_r1 () Try.results44 (zae rfl) rfl (fun w h => za6 [] (by decide) rfl w h)

/-! ### loop.example/g01098/laws.eqRegCode: function 13 -/
def laws_eqRegCode.f (k : Nat) (a0_0 : Int) (l0_1 : List Int) (l0_2 : List SRegOp) (l0_3 : List Int) (a1_0 : Int) (l1_1 : List Int) (l1_2 : List SRegOp) (l1_3 : List Int) : Option Bool := if a0_0 ≠ a1_0 then (some false) else ((laws_eqIntS.f k l0_1 l1_1).bind fun b7 => if b7 = true then ((laws_eqRegOpS.f k l0_2 l1_2).bind fun b10 => if b10 = true then ((laws_eqIntS.f k l0_3 l1_3).bind fun b13 => if b13 = true then (some true) else (some false)) else (some false)) else (some false))
set_option maxHeartbeats 600000 in
set_option maxRecDepth 100000 in
theorem laws_eqRegCode.calls (k : Nat) {w0 ws : World} {P0 : Nat → Prop} (a0_0 : Int) (A0_1 : Option Addr) (c0_1 : Nat) (n0_1 : Nat) (l0_1 : List Int) (A0_2 : Option Addr) (c0_2 : Nat) (n0_2 : Nat) (l0_2 : List SRegOp) (A0_3 : Option Addr) (c0_3 : Nat) (n0_3 : Nat) (l0_3 : List Int) (a1_0 : Int) (A1_1 : Option Addr) (c1_1 : Nat) (n1_1 : Nat) (l1_1 : List Int) (A1_2 : Option Addr) (c1_2 : Nat) (n1_2 : Nat) (l1_2 : List SRegOp) (A1_3 : Option Addr) (c1_3 : Nat) (n1_3 : Nat) (l1_3 : List Int) (Z : Below w0.heap.size w0 ws) (hF : Fr w0 ws P0 [] ws) (R0_1 : Stable ws P0 (fun w => Kd.C (Kd.int .i64) w A0_1 n0_1 l0_1)) (hc0_1 : n0_1 ≤ c0_1) (R0_2 : Stable ws P0 (fun w => Kd.C zat w A0_2 n0_2 l0_2)) (hc0_2 : n0_2 ≤ c0_2) (R0_3 : Stable ws P0 (fun w => Kd.C (Kd.int .i64) w A0_3 n0_3 l0_3)) (hc0_3 : n0_3 ≤ c0_3) (R1_1 : Stable ws P0 (fun w => Kd.C (Kd.int .i64) w A1_1 n1_1 l1_1)) (hc1_1 : n1_1 ≤ c1_1) (R1_2 : Stable ws P0 (fun w => Kd.C zat w A1_2 n1_2 l1_2)) (hc1_2 : n1_2 ≤ c1_2) (R1_3 : Stable ws P0 (fun w => Kd.C (Kd.int .i64) w A1_3 n1_3 l1_3)) (hc1_3 : n1_3 ≤ c1_3) (r_1 : Bool) (h : laws_eqRegCode.f k a0_0 l0_1 l0_2 l0_3 a1_0 l1_1 l1_2 l1_3 = some r_1) :
    Calls Try.prog 13 #[.agg #[.int .i64 a0_0, .slice A0_1 n0_1 c0_1, .slice A0_2 n0_2 c0_2, .slice A0_3 n0_3 c0_3], .agg #[.int .i64 a1_0, .slice A1_1 n1_1 c1_1, .slice A1_2 n1_2 c1_2, .slice A1_3 n1_3 c1_3]] ws (Post1 w0 ws P0 (fun (_ : Unit) => .bool r_1) (fun (_ : Unit) => [])) := by
  unfold laws_eqRegCode.f at h
  obtain rfl := (R0_1 ws (KeptB.refl _ _)).1
  obtain rfl := (R0_2 ws (KeptB.refl _ _)).1
  obtain rfl := (R0_3 ws (KeptB.refl _ _)).1
  obtain rfl := (R1_1 ws (KeptB.refl _ _)).1
  obtain rfl := (R1_2 ws (KeptB.refl _ _)).1
  obtain rfl := (R1_3 ws (KeptB.refl _ _)).1
  refine enter Try.func13 rfl Try.ntmps13 rfl hF ?_
  refine c_seq ?_
  refine za0 ?_
  refine o_e rfl (e_box rfl) (fun g1 => ?_)
  refine o_e rfl (e_box rfl) (fun g3 => ?_)
  refine o_q rfl rfl (q_asg rfl) ?_
  refine o_end ?_
  refine za1 ?_
  refine c_seq ?_
  refine c_seq ?_
  refine za0 ?_
  refine o_q rfl rfl (q_f F29_0 rfl) ?_
  refine o_q rfl rfl (q_ldb Y3 rfl (fun w h => h.za9 (i := 1) rfl) rfl) ?_
  refine o_q rfl rfl (q_f F29_0 rfl) ?_
  refine o_q rfl rfl (q_ldb Y3 rfl (fun w h => h.za9 (i := 0) rfl) rfl) ?_
  refine o_q rfl rfl (q_neq rfl rfl) ?_
  refine o_end ?_
  refine za1 ?_
  refine zaq _ rfl (fun hb5 => ?_) (fun hb5 => ?_)
  · skip
    replace h := br_t hb5 h
    refine c_seq ?_
    refine za0 ?_
    refine o_q rfl rfl (q_asg rfl) ?_
    refine o_end ?_
    refine za1 ?_
    refine c_ret ?_
    refine za5 ?_
    have e0_ := Option.some.inj h; clear h
    subst e0_
    exact x_r1 () Try.results13 (zae rfl) rfl (fun w h => za6 [] (by decide) rfl w h)
  · skip
    replace h := br_f hb5 h
    refine zal ?_
    refine za1 ?_
    refine c_seq ?_
    refine c_seq ?_
    refine za0 ?_
    refine o_q rfl rfl (q_f F29_1 rfl) ?_
    refine o_q rfl rfl (q_ldb Y22 rfl (fun w h => h.za9 (i := 1) rfl) rfl) ?_
    refine o_q rfl rfl (q_f F29_1 rfl) ?_
    refine o_q rfl rfl (q_ldb Y22 rfl (fun w h => h.za9 (i := 0) rfl) rfl) ?_
    refine za7 h (fun b7 hx6 h => ?_) rfl
    refine o_e rfl (zab 0 Z Try.func19 N19 rfl rfl rfl (fun w P1 hF hB hS hT => laws_eqIntS.calls k A0_1 c0_1 l0_1.length l0_1 A1_1 c1_1 l1_1.length l1_1 hB hF (hS _ R0_1) hc0_1 (hS _ R1_1) hc1_1 _ hx6)) (fun _ => ?_)
    refine o_q rfl rfl (q_not rfl) ?_
    refine o_end ?_
    refine za1 ?_
    refine zaq _ rfl (fun hb8 => ?_) (fun hb8 => ?_)
    · replace hb8 := nt_t hb8
      replace h := bb_f hb8 h
      refine c_seq ?_
      refine za0 ?_
      refine o_q rfl rfl (q_asg rfl) ?_
      refine o_end ?_
      refine za1 ?_
      refine c_ret ?_
      refine za5 ?_
      have e0_ := Option.some.inj h; clear h
      subst e0_
      exact x_r1 () Try.results13 (zae rfl) rfl (fun w h => za6 [] (by decide) rfl w h)
    · replace hb8 := nt_f hb8
      replace h := bb_t hb8 h
      refine zal ?_
      refine za1 ?_
      refine c_seq ?_
      refine c_seq ?_
      refine za0 ?_
      refine o_q rfl rfl (q_f F29_2 rfl) ?_
      refine o_q rfl rfl (q_ldb Y27 rfl (fun w h => h.za9 (i := 1) rfl) rfl) ?_
      refine o_q rfl rfl (q_f F29_2 rfl) ?_
      refine o_q rfl rfl (q_ldb Y27 rfl (fun w h => h.za9 (i := 0) rfl) rfl) ?_
      refine za7 h (fun b10 hx9 h => ?_) rfl
      refine o_e rfl (zab 0 Z Try.func44 N44 rfl rfl rfl (fun w P1 hF hB hS hT => laws_eqRegOpS.calls k A0_2 c0_2 l0_2.length l0_2 A1_2 c1_2 l1_2.length l1_2 hB hF (hS _ R0_2) hc0_2 (hS _ R1_2) hc1_2 _ hx9)) (fun _ => ?_)
      refine o_q rfl rfl (q_not rfl) ?_
      refine o_end ?_
      refine za1 ?_
      refine zaq _ rfl (fun hb11 => ?_) (fun hb11 => ?_)
      · replace hb11 := nt_t hb11
        replace h := bb_f hb11 h
        refine c_seq ?_
        refine za0 ?_
        refine o_q rfl rfl (q_asg rfl) ?_
        refine o_end ?_
        refine za1 ?_
        refine c_ret ?_
        refine za5 ?_
        have e0_ := Option.some.inj h; clear h
        subst e0_
        exact x_r1 () Try.results13 (zae rfl) rfl (fun w h => za6 [] (by decide) rfl w h)
      · replace hb11 := nt_f hb11
        replace h := bb_t hb11 h
        refine zal ?_
        refine za1 ?_
        refine c_seq ?_
        refine c_seq ?_
        refine za0 ?_
        refine o_q rfl rfl (q_f F29_3 rfl) ?_
        refine o_q rfl rfl (q_ldb Y22 rfl (fun w h => h.za9 (i := 1) rfl) rfl) ?_
        refine o_q rfl rfl (q_f F29_3 rfl) ?_
        refine o_q rfl rfl (q_ldb Y22 rfl (fun w h => h.za9 (i := 0) rfl) rfl) ?_
        refine za7 h (fun b13 hx12 h => ?_) rfl
        refine o_e rfl (zab 0 Z Try.func19 N19 rfl rfl rfl (fun w P1 hF hB hS hT => laws_eqIntS.calls k A0_3 c0_3 l0_3.length l0_3 A1_3 c1_3 l1_3.length l1_3 hB hF (hS _ R0_3) hc0_3 (hS _ R1_3) hc1_3 _ hx12)) (fun _ => ?_)
        refine o_q rfl rfl (q_not rfl) ?_
        refine o_end ?_
        refine za1 ?_
        refine zaq _ rfl (fun hb14 => ?_) (fun hb14 => ?_)
        · replace hb14 := nt_t hb14
          replace h := bb_f hb14 h
          refine c_seq ?_
          refine za0 ?_
          refine o_q rfl rfl (q_asg rfl) ?_
          refine o_end ?_
          refine za1 ?_
          refine c_ret ?_
          refine za5 ?_
          have e0_ := Option.some.inj h; clear h
          subst e0_
          exact x_r1 () Try.results13 (zae rfl) rfl (fun w h => za6 [] (by decide) rfl w h)
        · replace hb14 := nt_f hb14
          replace h := bb_t hb14 h
          refine zal ?_
          refine za1 ?_
          refine c_seq ?_
          refine za0 ?_
          refine o_q rfl rfl (q_asg rfl) ?_
          refine o_end ?_
          refine za1 ?_
          refine c_ret ?_
          have e0_ := Option.some.inj h; clear h
          subst e0_
          exact x_r1 () Try.results13 (zae rfl) rfl (fun w h => za6 [] (by decide) rfl w h)

/-! ### loop.example/g01098/laws.markIntS: function 20 -/
def laws_markIntS.l0 (l0 : List Int) : Nat → (List Int) → Int → Int → Option ((List Int) × Int)
  | 0, _, _, _ => none
  | k6 + 1, l1, i2, i3 => if i3 < (l0.length : Int) then ((gt l1 i3).bind fun y17 => (st l1 i3 i2).bind fun l18 => laws_markIntS.l0 l0 k6 l18 (w64 (i2 + 1)) (w64 (i3 + 1))) else (some (l1, i2))
def laws_markIntS.f (k : Nat) (l0 : List Int) (a1 : Int) : Option (Int × (List Int)) := (laws_markIntS.l0 l0 k l0 a1 0).bind fun (l1, i2) => some (i2, l1)
set_option maxHeartbeats 600000 in
set_option maxRecDepth 100000 in
theorem laws_markIntS.calls (k : Nat) {w0 ws : World} {P0 : Nat → Prop} (A0 : Option Addr) (c0 : Nat) (n0 : Nat) (l0 : List Int) (a1 : Int) (Z : Below w0.heap.size w0 ws) (hF : Fr w0 ws P0 [row (Kd.int .i64) 3 (.slice A0 n0 c0) l0] ws)  (r_1 : Int) (r_2 : List Int) (h : laws_markIntS.f k l0 a1 = some (r_1, r_2)) :
    Calls Try.prog 20 #[.slice A0 n0 c0, .int .i64 a1] ws (Post1 w0 ws P0 (fun (_ : Unit) => .int .i64 r_1) (fun (_ : Unit) => [row (Kd.int .i64) 3 (.slice A0 n0 c0) r_2])) := by
  unfold laws_markIntS.f at h
  obtain rfl := (hF.row_C (i := 0) rfl).2.1
  refine enter Try.func20 rfl Try.ntmps20 rfl hF ?_
  refine c_seq ?_
  refine za0 ?_
  refine o_q rfl rfl (q_asg rfl) ?_
  refine o_end ?_
  refine za1 ?_
  refine c_seq ?_
  refine c_seq ?_
  refine za0 ?_
  refine o_q rfl rfl (q_asg rfl) ?_
  refine o_end ?_
  refine za1 ?_
  refine zak ?_
  refine za7 h (fun o11 hl10 hR9 => ?_) rfl
  clear h
  refine zaz (σ := (List Int) × Int × Int) (fun k6 ((l1, i2, i3) : (List Int) × Int × Int) => laws_markIntS.l0 l0 k6 l1 i2 i3 = some o11) [1, 5, 6, 7, 8, 9, 10, 11, 12, 13, 14, 15, 16, 17] (fun ((l1, i2, i3) : (List Int) × Int × Int) => [(1, .int .i64 i2), (5, .int .i64 i3)]) (fun ((l1, i2, i3) : (List Int) × Int × Int) => [row (Kd.int .i64) 3 (.slice A0 l0.length c0) l1]) k (l0, a1, 0) hl10 ⟨rfl, rfl, trivial⟩ (fun w h => h) ?_
  refine natC (cur3 (fun l1 i2 i3 => fun U12 hJ_ => ?_)) (fun k6 => (cur3 (fun l1 i2 i3 => fun U12 hJ_ => ?_)))
  · skip
    replace hJ_ : laws_markIntS.l0 l0 0 l1 i2 i3 = some o11 := hJ_
    rw [laws_markIntS.l0] at hJ_
    exact noneE hJ_
  · skip
    clear hl10
    have h := hJ_; clear hJ_
    replace h : laws_markIntS.l0 l0 (k6 + 1) l1 i2 i3 = some o11 := h
    rw [laws_markIntS.l0] at h
    refine c_seq ?_
    refine c_seq ?_
    refine za0 ?_
    refine o_q rfl rfl (za2 rfl) ?_
    refine o_q rfl rfl (za2 rfl) ?_
    refine o_q rfl rfl (q_len Try.underlying22 rfl) ?_
    refine o_q rfl rfl (q_lss rfl rfl) ?_
    refine o_end ?_
    refine za1 ?_
    refine zaq _ rfl (fun hb14 => ?_) (fun hb14 => ?_)
    · skip
      replace h := br_t hb14 h
      refine zal ?_
      refine za1 ?_
      refine c_seq ?_
      refine zak ?_
      refine c_seq ?_
      refine za0 ?_
      refine o_q rfl rfl (za2 rfl) ?_
      refine o_q rfl rfl (za2 rfl) ?_
      refine o_q rfl rfl (za2 rfl) ?_
      refine zb0 (p := Sh A0 l0.length l1.length) (fun w h => f_sh (dk := (Kd.int .i64)) h (fun w h => h.zav (i := 0) rfl)) (fun hq15 => ?_)
      refine za7 h (fun y17 hg16 h => ?_) rfl
      refine o_q rfl rfl (q_ix Try.underlying22 Z3 rfl rfl hq15 hg16) ?_
      refine za7 h (fun l18 hs19 h => ?_) rfl
      refine o_e rfl (e_set (i := 0) rfl rfl rfl Z3 hs19) (fun _ => ?_)
      refine o_end ?_
      refine za1 ?_
      refine za0 ?_
      refine o_q rfl rfl (za2 rfl) ?_
      refine o_q rfl rfl (q_add64 rfl rfl) ?_
      refine o_q rfl rfl (q_asg rfl) ?_
      refine o_end ?_
      refine zau ?_
      refine za1 ?_
      refine za0 ?_
      refine o_q rfl rfl (za2 rfl) ?_
      refine o_q rfl rfl (q_add64 rfl rfl) ?_
      refine o_q rfl rfl (q_asg rfl) ?_
      refine o_end ?_
      refine zas k6 (l18, w64 (i2 + 1), w64 (i3 + 1)) (Nat.lt_succ_self _) h ⟨rfl, rfl, trivial⟩ (fun w h => za6 [0] (by decide) rfl w h) ?_
      repeat (first | exact zad _ _ | refine zai rfl ?_ | refine zaf rfl ?_ | refine zaj rfl ?_)
    · skip
      replace h := br_f hb14 h
      refine c_exit ?_
      refine za8 ?_
      refine za8 ?_
      have e_ := Option.some.inj h; replace h := hR9; rw [← e_] at h; clear e_
      refine x_hit ?_
      refine za1 ?_
      refine c_seq ?_
      refine za0 ?_
      refine o_q rfl rfl (za2 rfl) ?_
      refine o_q rfl rfl (q_asg rfl) ?_
      refine o_end ?_
      refine za1 ?_
      refine c_ret ?_
      have e0_ := Option.some.inj h; clear h
      have d0_ := (Prod.mk.inj e0_).1; have e1_ := (Prod.mk.inj e0_).2; clear e0_; subst d0_
      subst e1_
      exact x_r1 () Try.results20 (zae rfl) rfl (fun w h => za6 [0] (by decide) rfl w h)

/-! ### loop.example/g01098/laws.markRegOpS: function 45 -/
def laws_markRegOpS.l0 (l0 : List SRegOp) : Nat → (List SRegOp) → Int → Int → Option ((List SRegOp) × Int)
  | 0, _, _, _ => none
  | k6 + 1, l1, i2, i3 => if i3 < (l0.length : Int) then ((gt l1 i3).bind fun y17 => (st l1 i3 (⟨i2, y17.f1, y17.f2⟩ : SRegOp)).bind fun l18 => (gt l18 i3).bind fun y22 => (st l18 i3 (⟨y22.f0, w64 (i2 + 1), y22.f2⟩ : SRegOp)).bind fun l23 => (gt l23 i3).bind fun y27 => (st l23 i3 (⟨y27.f0, y27.f1, w64 (w64 (i2 + 1) + 1)⟩ : SRegOp)).bind fun l28 => laws_markRegOpS.l0 l0 k6 l28 (w64 (w64 (w64 (i2 + 1) + 1) + 1)) (w64 (i3 + 1))) else (some (l1, i2))
def laws_markRegOpS.f (k : Nat) (l0 : List SRegOp) (a1 : Int) : Option (Int × (List SRegOp)) := (laws_markRegOpS.l0 l0 k l0 a1 0).bind fun (l1, i2) => some (i2, l1)
set_option maxHeartbeats 600000 in
set_option maxRecDepth 100000 in
theorem laws_markRegOpS.calls (k : Nat) {w0 ws : World} {P0 : Nat → Prop} (A0 : Option Addr) (c0 : Nat) (n0 : Nat) (l0 : List SRegOp) (a1 : Int) (Z : Below w0.heap.size w0 ws) (hF : Fr w0 ws P0 [row zat 56 (.slice A0 n0 c0) l0] ws)  (r_1 : Int) (r_2 : List SRegOp) (h : laws_markRegOpS.f k l0 a1 = some (r_1, r_2)) :
    Calls Try.prog 45 #[.slice A0 n0 c0, .int .i64 a1] ws (Post1 w0 ws P0 (fun (_ : Unit) => .int .i64 r_1) (fun (_ : Unit) => [row zat 56 (.slice A0 n0 c0) r_2])) := by
  unfold laws_markRegOpS.f at h
  obtain rfl := (hF.row_C (i := 0) rfl).2.1
  refine enter Try.func45 rfl Try.ntmps45 rfl hF ?_
  refine c_seq ?_
  refine za0 ?_
  refine o_q rfl rfl (q_asg rfl) ?_
  refine o_end ?_
  refine za1 ?_
  refine c_seq ?_
  refine c_seq ?_
  refine za0 ?_
  refine o_q rfl rfl (q_asg rfl) ?_
  refine o_end ?_
  refine za1 ?_
  refine zak ?_
  refine za7 h (fun o11 hl10 hR9 => ?_) rfl
  clear h
  refine zaz (σ := (List SRegOp) × Int × Int) (fun k6 ((l1, i2, i3) : (List SRegOp) × Int × Int) => laws_markRegOpS.l0 l0 k6 l1 i2 i3 = some o11) [1, 5, 6, 7, 8, 9, 10, 11, 12, 13, 14, 15, 16, 17, 18, 19, 20, 21, 22, 23, 24, 25, 26, 27, 28, 29, 30, 31, 32] (fun ((l1, i2, i3) : (List SRegOp) × Int × Int) => [(1, .int .i64 i2), (5, .int .i64 i3)]) (fun ((l1, i2, i3) : (List SRegOp) × Int × Int) => [row zat 56 (.slice A0 l0.length c0) l1]) k (l0, a1, 0) hl10 ⟨rfl, rfl, trivial⟩ (fun w h => h) ?_
  refine natC (cur3 (fun l1 i2 i3 => fun U12 hJ_ => ?_)) (fun k6 => (cur3 (fun l1 i2 i3 => fun U12 hJ_ => ?_)))
  · skip
    replace hJ_ : laws_markRegOpS.l0 l0 0 l1 i2 i3 = some o11 := hJ_
    rw [laws_markRegOpS.l0] at hJ_
    exact noneE hJ_
  · skip
    clear hl10
    have h := hJ_; clear hJ_
    replace h : laws_markRegOpS.l0 l0 (k6 + 1) l1 i2 i3 = some o11 := h
    rw [laws_markRegOpS.l0] at h
    refine c_seq ?_
    refine c_seq ?_
    refine za0 ?_
    refine o_q rfl rfl (za2 rfl) ?_
    refine o_q rfl rfl (za2 rfl) ?_
    refine o_q rfl rfl (q_len Try.underlying27 rfl) ?_
    refine o_q rfl rfl (q_lss rfl rfl) ?_
    refine o_end ?_
    refine za1 ?_
    refine zaq _ rfl (fun hb14 => ?_) (fun hb14 => ?_)
    · skip
      replace h := br_t hb14 h
      refine zal ?_
      refine za1 ?_
      refine c_seq ?_
      refine zak ?_
      refine c_seq ?_
      refine za0 ?_
      refine o_q rfl rfl (za2 rfl) ?_
      refine o_q rfl rfl (za2 rfl) ?_
      refine o_q rfl rfl (za2 rfl) ?_
      refine zb0 (p := Sh A0 l0.length l1.length) (fun w h => f_sh (dk := zat) h (fun w h => h.zav (i := 0) rfl)) (fun hq15 => ?_)
      refine za7 h (fun y17 hg16 h => ?_) rfl
      refine o_q rfl rfl (q_ix Try.underlying27 Z56 rfl rfl hq15 hg16) ?_
      refine o_q rfl rfl (q_fe F56_0 rfl) ?_
      refine za7 h (fun l18 hs19 h => ?_) rfl
      refine o_e rfl (e_setF (i := 0) (off := 0) (vs := [.int .i64 i2]) (q' := (⟨i2, y17.f1, y17.f2⟩ : SRegOp)) rfl rfl rfl rfl rfl rfl Z3 hg16 rfl rfl hs19) (fun _ => ?_)
      refine o_end ?_
      refine za1 ?_
      refine c_seq ?_
      refine za0 ?_
      refine o_q rfl rfl (za2 rfl) ?_
      refine o_q rfl rfl (q_add64 rfl rfl) ?_
      refine o_q rfl rfl (q_asg rfl) ?_
      refine o_end ?_
      refine za1 ?_
      refine c_seq ?_
      refine za0 ?_
      refine o_q rfl rfl (za2 rfl) ?_
      refine o_q rfl rfl (za2 rfl) ?_
      refine o_q rfl rfl (za2 rfl) ?_
      refine zb0 (p := Sh A0 l0.length l18.length) (fun w h => f_sh (dk := zat) h (fun w h => h.zav (i := 0) rfl)) (fun hq20 => ?_)
      refine za7 h (fun y22 hg21 h => ?_) rfl
      refine o_q rfl rfl (q_ix Try.underlying27 Z56 rfl rfl hq20 hg21) ?_
      refine o_q rfl rfl (q_fe F56_1 rfl) ?_
      refine za7 h (fun l23 hs24 h => ?_) rfl
      refine o_e rfl (e_setF (i := 0) (off := 1) (vs := [.int .i64 (w64 (i2 + 1))]) (q' := (⟨y22.f0, w64 (i2 + 1), y22.f2⟩ : SRegOp)) rfl rfl rfl rfl rfl rfl Z3 hg21 rfl rfl hs24) (fun _ => ?_)
      refine o_end ?_
      refine za1 ?_
      refine c_seq ?_
      refine za0 ?_
      refine o_q rfl rfl (za2 rfl) ?_
      refine o_q rfl rfl (q_add64 rfl rfl) ?_
      refine o_q rfl rfl (q_asg rfl) ?_
      refine o_end ?_
      refine za1 ?_
      refine c_seq ?_
      refine za0 ?_
      refine o_q rfl rfl (za2 rfl) ?_
      refine o_q rfl rfl (za2 rfl) ?_
      refine o_q rfl rfl (za2 rfl) ?_
      refine zb0 (p := Sh A0 l0.length l23.length) (fun w h => f_sh (dk := zat) h (fun w h => h.zav (i := 0) rfl)) (fun hq25 => ?_)
      refine za7 h (fun y27 hg26 h => ?_) rfl
      refine o_q rfl rfl (q_ix Try.underlying27 Z56 rfl rfl hq25 hg26) ?_
      refine o_q rfl rfl (q_fe F56_2 rfl) ?_
      refine za7 h (fun l28 hs29 h => ?_) rfl
      refine o_e rfl (e_setF (i := 0) (off := 2) (vs := [.int .i64 (w64 (w64 (i2 + 1) + 1))]) (q' := (⟨y27.f0, y27.f1, w64 (w64 (i2 + 1) + 1)⟩ : SRegOp)) rfl rfl rfl rfl rfl rfl Z3 hg26 rfl rfl hs29) (fun _ => ?_)
      refine o_end ?_
      refine za1 ?_
      refine za0 ?_
      refine o_q rfl rfl (za2 rfl) ?_
      refine o_q rfl rfl (q_add64 rfl rfl) ?_
      refine o_q rfl rfl (q_asg rfl) ?_
      refine o_end ?_
      refine zau ?_
      refine za1 ?_
      refine za0 ?_
      refine o_q rfl rfl (za2 rfl) ?_
      refine o_q rfl rfl (q_add64 rfl rfl) ?_
      refine o_q rfl rfl (q_asg rfl) ?_
      refine o_end ?_
      refine zas k6 (l28, w64 (w64 (w64 (i2 + 1) + 1) + 1), w64 (i3 + 1)) (Nat.lt_succ_self _) h ⟨rfl, rfl, trivial⟩ (fun w h => za6 [0] (by decide) rfl w h) ?_
      repeat (first | exact zad _ _ | refine zai rfl ?_ | refine zaf rfl ?_ | refine zaj rfl ?_)
    · skip
      replace h := br_f hb14 h
      refine c_exit ?_
      refine za8 ?_
      refine za8 ?_
      have e_ := Option.some.inj h; replace h := hR9; rw [← e_] at h; clear e_
      refine x_hit ?_
      refine za1 ?_
      refine c_seq ?_
      refine za0 ?_
      refine o_q rfl rfl (za2 rfl) ?_
      refine o_q rfl rfl (q_asg rfl) ?_
      refine o_end ?_
      refine za1 ?_
      refine c_ret ?_
      have e0_ := Option.some.inj h; clear h
      have d0_ := (Prod.mk.inj e0_).1; have e1_ := (Prod.mk.inj e0_).2; clear e0_; subst d0_
      subst e1_
      exact x_r1 () Try.results45 (zae rfl) rfl (fun w h => za6 [0] (by decide) rfl w h)

/-! ### loop.example/g01098/laws.markRegCode: function 14 -/
def laws_markRegCode.f (k : Nat) (a0_0 : Int) (l0_1 : List Int) (l0_2 : List SRegOp) (l0_3 : List Int) (a1 : Int) : Option (Int × (List Int) × (List SRegOp) × (List Int)) := (laws_markIntS.f k l0_1 a1).bind fun (i4, l5) => (laws_markRegOpS.f k l0_2 i4).bind fun (i7, l8) => (laws_markIntS.f k l0_3 i7).bind fun (i10, l11) => some (i10, l5, l8, l11)
set_option maxHeartbeats 600000 in
set_option maxRecDepth 100000 in
theorem laws_markRegCode.calls (k : Nat) {w0 ws : World} {P0 : Nat → Prop} (a0_0 : Int) (A0_1 : Option Addr) (c0_1 : Nat) (n0_1 : Nat) (l0_1 : List Int) (A0_2 : Option Addr) (c0_2 : Nat) (n0_2 : Nat) (l0_2 : List SRegOp) (A0_3 : Option Addr) (c0_3 : Nat) (n0_3 : Nat) (l0_3 : List Int) (a1 : Int) (Z : Below w0.heap.size w0 ws) (hF : Fr w0 ws P0 [row (Kd.int .i64) 3 (.slice A0_1 n0_1 c0_1) l0_1, row zat 56 (.slice A0_2 n0_2 c0_2) l0_2, row (Kd.int .i64) 3 (.slice A0_3 n0_3 c0_3) l0_3] ws)  (r_1 : Int) (r_2 : List Int) (r_3 : List SRegOp) (r_4 : List Int) (h : laws_markRegCode.f k a0_0 l0_1 l0_2 l0_3 a1 = some (r_1, r_2, r_3, r_4)) :
    Calls Try.prog 14 #[.agg #[.int .i64 a0_0, .slice A0_1 n0_1 c0_1, .slice A0_2 n0_2 c0_2, .slice A0_3 n0_3 c0_3], .int .i64 a1] ws (Post1 w0 ws P0 (fun (_ : Unit) => .int .i64 r_1) (fun (_ : Unit) => [row (Kd.int .i64) 3 (.slice A0_1 n0_1 c0_1) r_2, row zat 56 (.slice A0_2 n0_2 c0_2) r_3, row (Kd.int .i64) 3 (.slice A0_3 n0_3 c0_3) r_4])) := by
  unfold laws_markRegCode.f at h
  obtain rfl := (hF.row_C (i := 0) rfl).2.1
  obtain rfl := (hF.row_C (i := 1) rfl).2.1
  obtain rfl := (hF.row_C (i := 2) rfl).2.1
  refine enter Try.func14 rfl Try.ntmps14 rfl hF ?_
  refine c_seq ?_
  refine za0 ?_
  refine o_e rfl (e_box rfl) (fun g1 => ?_)
  refine o_q rfl rfl (q_asg rfl) ?_
  refine o_end ?_
  refine za1 ?_
  refine c_seq ?_
  refine za0 ?_
  refine o_q rfl rfl (q_f F29_1 rfl) ?_
  refine o_q rfl rfl (q_ldb Y22 rfl (fun w h => h.za9 (i := 0) rfl) rfl) ?_
  refine o_q rfl rfl (za2 rfl) ?_
  refine o_pick [1, 0, 2, 3] (by decide) rfl ?_
  refine bindE2 h (fun i4 l5 hx3 h => ?_) rfl
  refine o_e rfl (zab 1 Z Try.func20 N20 rfl rfl rfl (fun w P1 hF hB hS hT => laws_markIntS.calls k A0_1 c0_1 l0_1.length l0_1 a1 hB hF _ _ hx3)) (fun _ => ?_)
  refine o_q rfl rfl (q_asg rfl) ?_
  refine o_end ?_
  refine za1 ?_
  refine c_seq ?_
  refine za0 ?_
  refine o_q rfl rfl (q_f F29_2 rfl) ?_
  refine o_q rfl rfl (q_ldb Y27 rfl (fun w h => h.za9 (i := 1) rfl) rfl) ?_
  refine o_q rfl rfl (za2 rfl) ?_
  refine o_pick [2, 0, 1, 3] (by decide) rfl ?_
  refine bindE2 h (fun i7 l8 hx6 h => ?_) rfl
  refine o_e rfl (zab 1 Z Try.func45 N45 rfl rfl rfl (fun w P1 hF hB hS hT => laws_markRegOpS.calls k A0_2 c0_2 l0_2.length l0_2 i4 hB hF _ _ hx6)) (fun _ => ?_)
  refine o_q rfl rfl (q_asg rfl) ?_
  refine o_end ?_
  refine za1 ?_
  refine c_seq ?_
  refine za0 ?_
  refine o_q rfl rfl (q_f F29_3 rfl) ?_
  refine o_q rfl rfl (q_ldb Y22 rfl (fun w h => h.za9 (i := 2) rfl) rfl) ?_
  refine o_q rfl rfl (za2 rfl) ?_
  refine o_pick [3, 0, 1, 2] (by decide) rfl ?_
  refine bindE2 h (fun i10 l11 hx9 h => ?_) rfl
  refine o_e rfl (zab 1 Z Try.func20 N20 rfl rfl rfl (fun w P1 hF hB hS hT => laws_markIntS.calls k A0_3 c0_3 l0_3.length l0_3 i7 hB hF _ _ hx9)) (fun _ => ?_)
  refine o_q rfl rfl (q_asg rfl) ?_
  refine o_end ?_
  refine za1 ?_
  refine c_seq ?_
  refine za0 ?_
  refine o_q rfl rfl (za2 rfl) ?_
  refine o_q rfl rfl (q_asg rfl) ?_
  refine o_end ?_
  refine za1 ?_
  refine c_ret ?_
  have e0_ := Option.some.inj h; clear h
  have d0_ := (Prod.mk.inj e0_).1; have e1_ := (Prod.mk.inj e0_).2; clear e0_; subst d0_
  have d1_ := (Prod.mk.inj e1_).1; have e2_ := (Prod.mk.inj e1_).2; clear e1_; subst d1_
  have d2_ := (Prod.mk.inj e2_).1; have e3_ := (Prod.mk.inj e2_).2; clear e2_; subst d2_
  subst e3_
  exact x_r1 () Try.results14 (zae rfl) rfl (fun w h => za6 [2, 1, 0] (by decide) rfl w h)

/-! ### loop.example/g01098/laws.heldIntS: function 30 -/
def laws_heldIntS.l0 (l0 : List Int) : Nat → Int → Int → Option ((Int) ⊕ (Int))
  | 0, _, _ => none
  | k5 + 1, i1, i2 => if i2 < (l0.length : Int) then ((gt l0 i2).bind fun y16 => if y16 ≠ i1 then (some (.inl (-1))) else (laws_heldIntS.l0 l0 k5 (w64 (i1 + 1)) (w64 (i2 + 1)))) else (some (.inr i1))
def laws_heldIntS.f (k : Nat) (l0 : List Int) (a1 : Int) : Option Int := (laws_heldIntS.l0 l0 k a1 0).bind fun o_ => match o_ with | .inl r_ => some r_ | .inr i1 => some i1
set_option maxHeartbeats 600000 in
set_option maxRecDepth 100000 in
theorem laws_heldIntS.calls (k : Nat) {w0 ws : World} {P0 : Nat → Prop} (A0 : Option Addr) (c0 : Nat) (n0 : Nat) (l0 : List Int) (a1 : Int) (Z : Below w0.heap.size w0 ws) (hF : Fr w0 ws P0 [] ws) (R0 : Stable ws P0 (fun w => Kd.C (Kd.int .i64) w A0 n0 l0)) (hc0 : n0 ≤ c0) (r_1 : Int) (h : laws_heldIntS.f k l0 a1 = some r_1) :
    Calls Try.prog 30 #[.slice A0 n0 c0, .int .i64 a1] ws (Post1 w0 ws P0 (fun (_ : Unit) => .int .i64 r_1) (fun (_ : Unit) => [])) := by
  unfold laws_heldIntS.f at h
  obtain rfl := (R0 ws (KeptB.refl _ _)).1
  refine enter Try.func30 rfl Try.ntmps30 rfl hF ?_
  refine c_seq ?_
  refine za0 ?_
  refine o_q rfl rfl (q_asg rfl) ?_
  refine o_end ?_
  refine za1 ?_
  refine c_seq ?_
  refine c_seq ?_
  refine za0 ?_
  refine o_q rfl rfl (q_asg rfl) ?_
  refine o_end ?_
  refine za1 ?_
  refine zak ?_
  refine za7 h (fun o10 hl9 hR8 => ?_) rfl
  clear h
  refine zaz (σ := Int × Int) (fun k5 ((i1, i2) : Int × Int) => laws_heldIntS.l0 l0 k5 i1 i2 = some o10) [1, 4, 5, 6, 7, 8, 9, 10, 11, 12, 13, 14, 15, 16, 17, 18, 19] (fun ((i1, i2) : Int × Int) => [(1, .int .i64 i1), (5, .int .i64 i2)]) (fun ((i1, i2) : Int × Int) => []) k (a1, 0) hl9 ⟨rfl, rfl, trivial⟩ (fun w h => h) ?_
  refine natC (cur2 (fun i1 i2 => fun U11 hJ_ => ?_)) (fun k5 => (cur2 (fun i1 i2 => fun U11 hJ_ => ?_)))
  · skip
    replace hJ_ : laws_heldIntS.l0 l0 0 i1 i2 = some o10 := hJ_
    rw [laws_heldIntS.l0] at hJ_
    exact noneE hJ_
  · skip
    clear hl9
    have h := hJ_; clear hJ_
    replace h : laws_heldIntS.l0 l0 (k5 + 1) i1 i2 = some o10 := h
    rw [laws_heldIntS.l0] at h
    refine c_seq ?_
    refine c_seq ?_
    refine za0 ?_
    refine o_q rfl rfl (za2 rfl) ?_
    refine o_q rfl rfl (za2 rfl) ?_
    refine o_q rfl rfl (q_len Try.underlying22 rfl) ?_
    refine o_q rfl rfl (q_lss rfl rfl) ?_
    refine o_end ?_
    refine za1 ?_
    refine zaq _ rfl (fun hb13 => ?_) (fun hb13 => ?_)
    · skip
      replace h := br_t hb13 h
      refine zal ?_
      refine za1 ?_
      refine c_seq ?_
      refine zak ?_
      refine c_seq ?_
      refine c_seq ?_
      refine za0 ?_
      refine o_q rfl rfl (za2 rfl) ?_
      refine o_q rfl rfl (za2 rfl) ?_
      refine zb0 (p := Sh A0 l0.length l0.length) (fun w h => f_sh (dk := (Kd.int .i64)) h (fun w h => R0.now Z h)) (fun hq14 => ?_)
      refine za7 h (fun y16 hg15 h => ?_) rfl
      refine o_q rfl rfl (q_ix Try.underlying22 Z3 rfl rfl hq14 hg15) ?_
      refine o_q rfl rfl (q_lde (off := 0) Y3 rfl rfl (fun w h => R0.now Z h) hg15 (fun _ _ h => h) rfl) ?_
      refine o_q rfl rfl (za2 rfl) ?_
      refine o_q rfl rfl (q_neq rfl rfl) ?_
      refine o_end ?_
      refine za1 ?_
      refine zaq _ rfl (fun hb17 => ?_) (fun hb17 => ?_)
      · skip
        replace h := br_t hb17 h
        refine c_seq ?_
        refine za0 ?_
        refine o_q rfl rfl (q_asg rfl) ?_
        refine o_end ?_
        refine za1 ?_
        refine c_ret ?_
        refine za5 ?_
        refine zah ?_
        refine za5 ?_
        refine za5 ?_
        have e_ := Option.some.inj h; replace h := hR8; rw [← e_] at h; clear e_
        refine zah ?_
        refine za5 ?_
        have e0_ := Option.some.inj h; clear h
        subst e0_
        exact x_r1 () Try.results30 (zae rfl) rfl (fun w h => za6 [] (by decide) rfl w h)
      · skip
        replace h := br_f hb17 h
        refine zal ?_
        refine za1 ?_
        refine za0 ?_
        refine o_q rfl rfl (za2 rfl) ?_
        refine o_q rfl rfl (q_add64 rfl rfl) ?_
        refine o_q rfl rfl (q_asg rfl) ?_
        refine o_end ?_
        refine zau ?_
        refine za1 ?_
        refine za0 ?_
        refine o_q rfl rfl (za2 rfl) ?_
        refine o_q rfl rfl (q_add64 rfl rfl) ?_
        refine o_q rfl rfl (q_asg rfl) ?_
        refine o_end ?_
        refine zas k5 (w64 (i1 + 1), w64 (i2 + 1)) (Nat.lt_succ_self _) h ⟨rfl, rfl, trivial⟩ (fun w h => za6 [] (by decide) rfl w h) ?_
        repeat (first | exact zad _ _ | refine zai rfl ?_ | refine zaf rfl ?_ | refine zaj rfl ?_)
    · skip
      replace h := br_f hb13 h
      refine c_exit ?_
      refine za8 ?_
      refine za8 ?_
      have e_ := Option.some.inj h; replace h := hR8; rw [← e_] at h; clear e_
      refine x_hit ?_
      refine za1 ?_
      refine c_seq ?_
      refine za0 ?_
      refine o_q rfl rfl (za2 rfl) ?_
      refine o_q rfl rfl (q_asg rfl) ?_
      refine o_end ?_
      refine za1 ?_
      refine c_ret ?_
      have e0_ := Option.some.inj h; clear h
      subst e0_
      exact x_r1 () Try.results30 (zae rfl) rfl (fun w h => za6 [] (by decide) rfl w h)

/-! ### loop.example/g01098/laws.heldRegOpS: function 46 -/
def laws_heldRegOpS.l0 (l0 : List SRegOp) : Nat → Int → Int → Option ((Int) ⊕ (Int))
  | 0, _, _ => none
  | k5 + 1, i1, i2 => if i2 < (l0.length : Int) then ((gt l0 i2).bind fun y16 => if y16.f0 ≠ i1 then (some (.inl (-1))) else ((gt l0 i2).bind fun y19 => if y19.f1 ≠ w64 (i1 + 1) then (some (.inl (-1))) else ((gt l0 i2).bind fun y22 => if y22.f2 ≠ w64 (w64 (i1 + 1) + 1) then (some (.inl (-1))) else (laws_heldRegOpS.l0 l0 k5 (w64 (w64 (w64 (i1 + 1) + 1) + 1)) (w64 (i2 + 1)))))) else (some (.inr i1))
def laws_heldRegOpS.f (k : Nat) (l0 : List SRegOp) (a1 : Int) : Option Int := (laws_heldRegOpS.l0 l0 k a1 0).bind fun o_ => match o_ with | .inl r_ => some r_ | .inr i1 => some i1
set_option maxHeartbeats 600000 in
set_option maxRecDepth 100000 in
theorem laws_heldRegOpS.calls (k : Nat) {w0 ws : World} {P0 : Nat → Prop} (A0 : Option Addr) (c0 : Nat) (n0 : Nat) (l0 : List SRegOp) (a1 : Int) (Z : Below w0.heap.size w0 ws) (hF : Fr w0 ws P0 [] ws) (R0 : Stable ws P0 (fun w => Kd.C zat w A0 n0 l0)) (hc0 : n0 ≤ c0) (r_1 : Int) (h : laws_heldRegOpS.f k l0 a1 = some r_1) :
    Calls Try.prog 46 #[.slice A0 n0 c0, .int .i64 a1] ws (Post1 w0 ws P0 (fun (_ : Unit) => .int .i64 r_1) (fun (_ : Unit) => [])) := by
  unfold laws_heldRegOpS.f at h
  obtain rfl := (R0 ws (KeptB.refl _ _)).1
  refine enter Try.func46 rfl Try.ntmps46 rfl hF ?_
  refine c_seq ?_
  refine za0 ?_
  refine o_q rfl rfl (q_asg rfl) ?_
  refine o_end ?_
  refine za1 ?_
  refine c_seq ?_
  refine c_seq ?_
  refine za0 ?_
  refine o_q rfl rfl (q_asg rfl) ?_
  refine o_end ?_
  refine za1 ?_
  refine zak ?_
  refine za7 h (fun o10 hl9 hR8 => ?_) rfl
  clear h
  refine zaz (σ := Int × Int) (fun k5 ((i1, i2) : Int × Int) => laws_heldRegOpS.l0 l0 k5 i1 i2 = some o10) [1, 4, 5, 6, 7, 8, 9, 10, 11, 12, 13, 14, 15, 16, 17, 18, 19, 20, 21, 22, 23, 24, 25, 26, 27, 28, 29, 30, 31, 32, 33, 34, 35, 36, 37, 38] (fun ((i1, i2) : Int × Int) => [(1, .int .i64 i1), (5, .int .i64 i2)]) (fun ((i1, i2) : Int × Int) => []) k (a1, 0) hl9 ⟨rfl, rfl, trivial⟩ (fun w h => h) ?_
  refine natC (cur2 (fun i1 i2 => fun U11 hJ_ => ?_)) (fun k5 => (cur2 (fun i1 i2 => fun U11 hJ_ => ?_)))
  · skip
    replace hJ_ : laws_heldRegOpS.l0 l0 0 i1 i2 = some o10 := hJ_
    rw [laws_heldRegOpS.l0] at hJ_
    exact noneE hJ_
  · skip
    clear hl9
    have h := hJ_; clear hJ_
    replace h : laws_heldRegOpS.l0 l0 (k5 + 1) i1 i2 = some o10 := h
    rw [laws_heldRegOpS.l0] at h
    refine c_seq ?_
    refine c_seq ?_
    refine za0 ?_
    refine o_q rfl rfl (za2 rfl) ?_
    refine o_q rfl rfl (za2 rfl) ?_
    refine o_q rfl rfl (q_len Try.underlying27 rfl) ?_
    refine o_q rfl rfl (q_lss rfl rfl) ?_
    refine o_end ?_
    refine za1 ?_
    refine zaq _ rfl (fun hb13 => ?_) (fun hb13 => ?_)
    · skip
      replace h := br_t hb13 h
      refine zal ?_
      refine za1 ?_
      refine c_seq ?_
      refine zak ?_
      refine c_seq ?_
      refine c_seq ?_
      refine za0 ?_
      refine o_q rfl rfl (za2 rfl) ?_
      refine o_q rfl rfl (za2 rfl) ?_
      refine zb0 (p := Sh A0 l0.length l0.length) (fun w h => f_sh (dk := zat) h (fun w h => R0.now Z h)) (fun hq14 => ?_)
      refine za7 h (fun y16 hg15 h => ?_) rfl
      refine o_q rfl rfl (q_ix Try.underlying27 Z56 rfl rfl hq14 hg15) ?_
      refine o_q rfl rfl (q_fe F56_0 rfl) ?_
      refine o_q rfl rfl (q_lde (off := 0) Y3 rfl rfl (fun w h => R0.now Z h) hg15 (fun _ _ h => h) rfl) ?_
      refine o_q rfl rfl (za2 rfl) ?_
      refine o_q rfl rfl (q_neq rfl rfl) ?_
      refine o_end ?_
      refine za1 ?_
      refine zaq _ rfl (fun hb17 => ?_) (fun hb17 => ?_)
      · skip
        replace h := br_t hb17 h
        refine c_seq ?_
        refine za0 ?_
        refine o_q rfl rfl (q_asg rfl) ?_
        refine o_end ?_
        refine za1 ?_
        refine c_ret ?_
        refine za5 ?_
        refine zah ?_
        refine za5 ?_
        refine za5 ?_
        have e_ := Option.some.inj h; replace h := hR8; rw [← e_] at h; clear e_
        refine zah ?_
        refine za5 ?_
        have e0_ := Option.some.inj h; clear h
        subst e0_
        exact x_r1 () Try.results46 (zae rfl) rfl (fun w h => za6 [] (by decide) rfl w h)
      · skip
        replace h := br_f hb17 h
        refine zal ?_
        refine za1 ?_
        refine c_seq ?_
        refine za0 ?_
        refine o_q rfl rfl (za2 rfl) ?_
        refine o_q rfl rfl (q_add64 rfl rfl) ?_
        refine o_q rfl rfl (q_asg rfl) ?_
        refine o_end ?_
        refine za1 ?_
        refine c_seq ?_
        refine c_seq ?_
        refine za0 ?_
        refine o_q rfl rfl (za2 rfl) ?_
        refine o_q rfl rfl (za2 rfl) ?_
        refine za7 h (fun y19 hg18 h => ?_) rfl
        refine o_q rfl rfl (q_ix Try.underlying27 Z56 rfl rfl hq14 hg18) ?_
        refine o_q rfl rfl (q_fe F56_1 rfl) ?_
        refine o_q rfl rfl (q_lde (off := 1) Y3 rfl rfl (fun w h => R0.now Z h) hg18 (fun _ _ h => h) rfl) ?_
        refine o_q rfl rfl (za2 rfl) ?_
        refine o_q rfl rfl (q_neq rfl rfl) ?_
        refine o_end ?_
        refine za1 ?_
        refine zaq _ rfl (fun hb20 => ?_) (fun hb20 => ?_)
        · skip
          replace h := br_t hb20 h
          refine c_seq ?_
          refine za0 ?_
          refine o_q rfl rfl (q_asg rfl) ?_
          refine o_end ?_
          refine za1 ?_
          refine c_ret ?_
          refine za5 ?_
          refine zah ?_
          refine za5 ?_
          refine za5 ?_
          have e_ := Option.some.inj h; replace h := hR8; rw [← e_] at h; clear e_
          refine zah ?_
          refine za5 ?_
          have e0_ := Option.some.inj h; clear h
          subst e0_
          exact x_r1 () Try.results46 (zae rfl) rfl (fun w h => za6 [] (by decide) rfl w h)
        · skip
          replace h := br_f hb20 h
          refine zal ?_
          refine za1 ?_
          refine c_seq ?_
          refine za0 ?_
          refine o_q rfl rfl (za2 rfl) ?_
          refine o_q rfl rfl (q_add64 rfl rfl) ?_
          refine o_q rfl rfl (q_asg rfl) ?_
          refine o_end ?_
          refine za1 ?_
          refine c_seq ?_
          refine c_seq ?_
          refine za0 ?_
          refine o_q rfl rfl (za2 rfl) ?_
          refine o_q rfl rfl (za2 rfl) ?_
          refine za7 h (fun y22 hg21 h => ?_) rfl
          refine o_q rfl rfl (q_ix Try.underlying27 Z56 rfl rfl hq14 hg21) ?_
          refine o_q rfl rfl (q_fe F56_2 rfl) ?_
          refine o_q rfl rfl (q_lde (off := 2) Y3 rfl rfl (fun w h => R0.now Z h) hg21 (fun _ _ h => h) rfl) ?_
          refine o_q rfl rfl (za2 rfl) ?_
          refine o_q rfl rfl (q_neq rfl rfl) ?_
          refine o_end ?_
          refine za1 ?_
          refine zaq _ rfl (fun hb23 => ?_) (fun hb23 => ?_)
          · skip
            replace h := br_t hb23 h
            refine c_seq ?_
            refine za0 ?_
            refine o_q rfl rfl (q_asg rfl) ?_
            refine o_end ?_
            refine za1 ?_
            refine c_ret ?_
            refine za5 ?_
            refine zah ?_
            refine za5 ?_
            refine za5 ?_
            have e_ := Option.some.inj h; replace h := hR8; rw [← e_] at h; clear e_
            refine zah ?_
            refine za5 ?_
            have e0_ := Option.some.inj h; clear h
            subst e0_
            exact x_r1 () Try.results46 (zae rfl) rfl (fun w h => za6 [] (by decide) rfl w h)
          · skip
            replace h := br_f hb23 h
            refine zal ?_
            refine za1 ?_
            refine za0 ?_
            refine o_q rfl rfl (za2 rfl) ?_
            refine o_q rfl rfl (q_add64 rfl rfl) ?_
            refine o_q rfl rfl (q_asg rfl) ?_
            refine o_end ?_
            refine zau ?_
            refine za1 ?_
            refine za0 ?_
            refine o_q rfl rfl (za2 rfl) ?_
            refine o_q rfl rfl (q_add64 rfl rfl) ?_
            refine o_q rfl rfl (q_asg rfl) ?_
            refine o_end ?_
            refine zas k5 (w64 (w64 (w64 (i1 + 1) + 1) + 1), w64 (i2 + 1)) (Nat.lt_succ_self _) h ⟨rfl, rfl, trivial⟩ (fun w h => za6 [] (by decide) rfl w h) ?_
            repeat (first | exact zad _ _ | refine zai rfl ?_ | refine zaf rfl ?_ | refine zaj rfl ?_)
    · skip
      replace h := br_f hb13 h
      refine c_exit ?_
      refine za8 ?_
      refine za8 ?_
      have e_ := Option.some.inj h; replace h := hR8; rw [← e_] at h; clear e_
      refine x_hit ?_
      refine za1 ?_
      refine c_seq ?_
      refine za0 ?_
      refine o_q rfl rfl (za2 rfl) ?_
      refine o_q rfl rfl (q_asg rfl) ?_
      refine o_end ?_
      refine za1 ?_
      refine c_ret ?_
      have e0_ := Option.some.inj h; clear h
      subst e0_
      exact x_r1 () Try.results46 (zae rfl) rfl (fun w h => za6 [] (by decide) rfl w h)

/-! ### loop.example/g01098/laws.heldRegCode: function 15 -/
def laws_heldRegCode.f (k : Nat) (a0_0 : Int) (l0_1 : List Int) (l0_2 : List SRegOp) (l0_3 : List Int) (a1 : Int) : Option Int := (laws_heldIntS.f k l0_1 a1).bind fun i4 => if i4 < 0 then (some (-1)) else ((laws_heldRegOpS.f k l0_2 i4).bind fun i7 => if i7 < 0 then (some (-1)) else ((laws_heldIntS.f k l0_3 i7).bind fun i10 => if i10 < 0 then (some (-1)) else (some i10)))
set_option maxHeartbeats 600000 in
set_option maxRecDepth 100000 in
theorem laws_heldRegCode.calls (k : Nat) {w0 ws : World} {P0 : Nat → Prop} (a0_0 : Int) (A0_1 : Option Addr) (c0_1 : Nat) (n0_1 : Nat) (l0_1 : List Int) (A0_2 : Option Addr) (c0_2 : Nat) (n0_2 : Nat) (l0_2 : List SRegOp) (A0_3 : Option Addr) (c0_3 : Nat) (n0_3 : Nat) (l0_3 : List Int) (a1 : Int) (Z : Below w0.heap.size w0 ws) (hF : Fr w0 ws P0 [] ws) (R0_1 : Stable ws P0 (fun w => Kd.C (Kd.int .i64) w A0_1 n0_1 l0_1)) (hc0_1 : n0_1 ≤ c0_1) (R0_2 : Stable ws P0 (fun w => Kd.C zat w A0_2 n0_2 l0_2)) (hc0_2 : n0_2 ≤ c0_2) (R0_3 : Stable ws P0 (fun w => Kd.C (Kd.int .i64) w A0_3 n0_3 l0_3)) (hc0_3 : n0_3 ≤ c0_3) (r_1 : Int) (h : laws_heldRegCode.f k a0_0 l0_1 l0_2 l0_3 a1 = some r_1) :
    Calls Try.prog 15 #[.agg #[.int .i64 a0_0, .slice A0_1 n0_1 c0_1, .slice A0_2 n0_2 c0_2, .slice A0_3 n0_3 c0_3], .int .i64 a1] ws (Post1 w0 ws P0 (fun (_ : Unit) => .int .i64 r_1) (fun (_ : Unit) => [])) := by
  unfold laws_heldRegCode.f at h
  obtain rfl := (R0_1 ws (KeptB.refl _ _)).1
  obtain rfl := (R0_2 ws (KeptB.refl _ _)).1
  obtain rfl := (R0_3 ws (KeptB.refl _ _)).1
  refine enter Try.func15 rfl Try.ntmps15 rfl hF ?_
  refine c_seq ?_
  refine za0 ?_
  refine o_e rfl (e_box rfl) (fun g1 => ?_)
  refine o_q rfl rfl (q_asg rfl) ?_
  refine o_end ?_
  refine za1 ?_
  refine c_seq ?_
  refine za0 ?_
  refine o_q rfl rfl (q_f F29_1 rfl) ?_
  refine o_q rfl rfl (q_ldb Y22 rfl (fun w h => h.za9 (i := 0) rfl) rfl) ?_
  refine o_q rfl rfl (za2 rfl) ?_
  refine za7 h (fun i4 hx3 h => ?_) rfl
  refine o_e rfl (zab 0 Z Try.func30 N30 rfl rfl rfl (fun w P1 hF hB hS hT => laws_heldIntS.calls k A0_1 c0_1 l0_1.length l0_1 a1 hB hF (hS _ R0_1) hc0_1 _ hx3)) (fun _ => ?_)
  refine o_q rfl rfl (q_asg rfl) ?_
  refine o_end ?_
  refine za1 ?_
  refine c_seq ?_
  refine c_seq ?_
  refine za0 ?_
  refine o_q rfl rfl (za2 rfl) ?_
  refine o_q rfl rfl (q_lss rfl rfl) ?_
  refine o_end ?_
  refine za1 ?_
  refine zaq _ rfl (fun hb5 => ?_) (fun hb5 => ?_)
  · skip
    replace h := br_t hb5 h
    refine c_seq ?_
    refine za0 ?_
    refine o_q rfl rfl (q_asg rfl) ?_
    refine o_end ?_
    refine za1 ?_
    refine c_ret ?_
    refine za5 ?_
    have e0_ := Option.some.inj h; clear h
    subst e0_
    exact x_r1 () Try.results15 (zae rfl) rfl (fun w h => za6 [] (by decide) rfl w h)
  · skip
    replace h := br_f hb5 h
    refine zal ?_
    refine za1 ?_
    refine c_seq ?_
    refine za0 ?_
    refine o_q rfl rfl (q_f F29_2 rfl) ?_
    refine o_q rfl rfl (q_ldb Y27 rfl (fun w h => h.za9 (i := 0) rfl) rfl) ?_
    refine o_q rfl rfl (za2 rfl) ?_
    refine za7 h (fun i7 hx6 h => ?_) rfl
    refine o_e rfl (zab 0 Z Try.func46 N46 rfl rfl rfl (fun w P1 hF hB hS hT => laws_heldRegOpS.calls k A0_2 c0_2 l0_2.length l0_2 i4 hB hF (hS _ R0_2) hc0_2 _ hx6)) (fun _ => ?_)
    refine o_q rfl rfl (q_asg rfl) ?_
    refine o_end ?_
    refine za1 ?_
    refine c_seq ?_
    refine c_seq ?_
    refine za0 ?_
    refine o_q rfl rfl (za2 rfl) ?_
    refine o_q rfl rfl (q_lss rfl rfl) ?_
    refine o_end ?_
    refine za1 ?_
    refine zaq _ rfl (fun hb8 => ?_) (fun hb8 => ?_)
    · skip
      replace h := br_t hb8 h
      refine c_seq ?_
      refine za0 ?_
      refine o_q rfl rfl (q_asg rfl) ?_
      refine o_end ?_
      refine za1 ?_
      refine c_ret ?_
      refine za5 ?_
      have e0_ := Option.some.inj h; clear h
      subst e0_
      exact x_r1 () Try.results15 (zae rfl) rfl (fun w h => za6 [] (by decide) rfl w h)
    · skip
      replace h := br_f hb8 h
      refine zal ?_
      refine za1 ?_
      refine c_seq ?_
      refine za0 ?_
      refine o_q rfl rfl (q_f F29_3 rfl) ?_
      refine o_q rfl rfl (q_ldb Y22 rfl (fun w h => h.za9 (i := 0) rfl) rfl) ?_
      refine o_q rfl rfl (za2 rfl) ?_
      refine za7 h (fun i10 hx9 h => ?_) rfl
      refine o_e rfl (zab 0 Z Try.func30 N30 rfl rfl rfl (fun w P1 hF hB hS hT => laws_heldIntS.calls k A0_3 c0_3 l0_3.length l0_3 i7 hB hF (hS _ R0_3) hc0_3 _ hx9)) (fun _ => ?_)
      refine o_q rfl rfl (q_asg rfl) ?_
      refine o_end ?_
      refine za1 ?_
      refine c_seq ?_
      refine c_seq ?_
      refine za0 ?_
      refine o_q rfl rfl (za2 rfl) ?_
      refine o_q rfl rfl (q_lss rfl rfl) ?_
      refine o_end ?_
      refine za1 ?_
      refine zaq _ rfl (fun hb11 => ?_) (fun hb11 => ?_)
      · skip
        replace h := br_t hb11 h
        refine c_seq ?_
        refine za0 ?_
        refine o_q rfl rfl (q_asg rfl) ?_
        refine o_end ?_
        refine za1 ?_
        refine c_ret ?_
        refine za5 ?_
        have e0_ := Option.some.inj h; clear h
        subst e0_
        exact x_r1 () Try.results15 (zae rfl) rfl (fun w h => za6 [] (by decide) rfl w h)
      · skip
        replace h := br_f hb11 h
        refine zal ?_
        refine za1 ?_
        refine c_seq ?_
        refine za0 ?_
        refine o_q rfl rfl (za2 rfl) ?_
        refine o_q rfl rfl (q_asg rfl) ?_
        refine o_end ?_
        refine za1 ?_
        refine c_ret ?_
        have e0_ := Option.some.inj h; clear h
        subst e0_
        exact x_r1 () Try.results15 (zae rfl) rfl (fun w h => za6 [] (by decide) rfl w h)

/-! ### loop.example/g01098/laws.FnExactRenameRegisters: function 4 -/
def laws_FnExactRenameRegisters.f (k : Nat) (a0_0 : Int) (l0_1 : List Int) (l0_2 : List SRegOp) (l0_3 : List Int) (l1 : List Int) : Option Bool := if 1048576 < (l1.length : Int) then (some true) else ((laws_szRegCode.f a0_0 l0_1 l0_2 l0_3 1048576).bind fun i5 => if i5 < 0 then (some true) else ((laws_toRegCode.f k a0_0 l0_1 l0_2 l0_3).bind fun (l8, l9, l10) => (laws_toIntS.f k l1).bind fun l18 => (spec_RenameRegisters.f k a0_0 l8 l9 l10 l18).bind fun (i22, l23, l24, l25, b26) => (laws_toRegCode.f k a0_0 l0_1 l0_2 l0_3).bind fun (l36, l37, l38) => (laws_toIntS.f k l1).bind fun l48 => (impl_RenameRegisters.f k a0_0 l36 l37 l38 l48).bind fun (i52, l53, l54, l55, b56) => (laws_eqRegCode.f k i52 l53 l54 l55 i22 l23 l24 l25).bind fun b66 => if b66 = true then (if (b56 != b26) = true then (some false) else ((laws_toRegCode.f k a0_0 l0_1 l0_2 l0_3).bind fun (l70, l71, l72) => (laws_eqRegCode.f k a0_0 l36 l37 l38 a0_0 l70 l71 l72).bind fun b80 => if b80 = true then ((laws_toIntS.f k l1).bind fun l83 => (laws_eqIntS.f k l48 l83).bind fun b87 => if b87 = true then ((laws_markRegCode.f k a0_0 l36 l37 l38 1).bind fun (i90, l91, l92, l93) => (laws_markIntS.f k l48 i90).bind fun (i95, l96) => if i95 < 0 then (some false) else ((laws_eqRegCode.f k i52 l53 l54 l55 i22 l23 l24 l25).bind fun b99 => if b99 = true then ((laws_markRegCode.f k i52 l53 l54 l55 1).bind fun (i102, l103, l104, l105) => (laws_heldRegCode.f k i52 l103 l104 l105 1).bind fun i107 => if i107 < 0 then (some false) else (if i107 ≠ i102 then (some false) else ((laws_toRegCode.f k a0_0 l0_1 l0_2 l0_3).bind fun (l111, l112, l113) => (laws_toIntS.f k l1).bind fun l121 => (impl_RenameRegisters.f k a0_0 l111 l112 l113 l121).bind fun (i125, l126, l127, l128, b129) => (laws_eqRegCode.f k i125 l126 l127 l128 i22 l23 l24 l25).bind fun b139 => if b139 = true then (if (b129 != b26) = true then (some false) else ((laws_heldRegCode.f k i52 l103 l104 l105 1).bind fun i143 => if i143 < 0 then (some false) else (if i143 ≠ i102 then (some false) else (some true)))) else (some false)))) else (some false))) else (some false)) else (some false))) else (some false)))
set_option maxHeartbeats 600000 in
set_option maxRecDepth 100000 in
theorem laws_FnExactRenameRegisters.calls (k : Nat) {w0 ws : World} {P0 : Nat → Prop} (a0_0 : Int) (A0_1 : Option Addr) (c0_1 : Nat) (n0_1 : Nat) (l0_1 : List Int) (A0_2 : Option Addr) (c0_2 : Nat) (n0_2 : Nat) (l0_2 : List SRegOp) (A0_3 : Option Addr) (c0_3 : Nat) (n0_3 : Nat) (l0_3 : List Int) (A1 : Option Addr) (c1 : Nat) (n1 : Nat) (l1 : List Int) (Z : Below w0.heap.size w0 ws) (hF : Fr w0 ws P0 [] ws) (R0_1 : Stable ws P0 (fun w => Kd.C (Kd.int .i64) w A0_1 n0_1 l0_1)) (hc0_1 : n0_1 ≤ c0_1) (R0_2 : Stable ws P0 (fun w => Kd.C zat w A0_2 n0_2 l0_2)) (hc0_2 : n0_2 ≤ c0_2) (R0_3 : Stable ws P0 (fun w => Kd.C (Kd.int .i64) w A0_3 n0_3 l0_3)) (hc0_3 : n0_3 ≤ c0_3) (R1 : Stable ws P0 (fun w => Kd.C (Kd.int .i64) w A1 n1 l1)) (hc1 : n1 ≤ c1) (r_1 : Bool) (h : laws_FnExactRenameRegisters.f k a0_0 l0_1 l0_2 l0_3 l1 = some r_1) :
    Calls Try.prog 4 #[.agg #[.int .i64 a0_0, .slice A0_1 n0_1 c0_1, .slice A0_2 n0_2 c0_2, .slice A0_3 n0_3 c0_3], .slice A1 n1 c1] ws (Post1 w0 ws P0 (fun (_ : Unit) => .bool r_1) (fun (_ : Unit) => [])) := by
  unfold laws_FnExactRenameRegisters.f at h
  obtain rfl := (R0_1 ws (KeptB.refl _ _)).1
  obtain rfl := (R0_2 ws (KeptB.refl _ _)).1
  obtain rfl := (R0_3 ws (KeptB.refl _ _)).1
  obtain rfl := (R1 ws (KeptB.refl _ _)).1
  refine enter Try.func4 rfl Try.ntmps4 rfl hF ?_
  refine c_seq ?_
  refine za0 ?_
  refine o_e rfl (e_box rfl) (fun g1 => ?_)
  refine o_q rfl rfl (q_asg rfl) ?_
  refine o_end ?_
  refine za1 ?_
  refine c_seq ?_
  refine c_seq ?_
  refine za0 ?_
  refine o_q rfl rfl (za2 rfl) ?_
  refine o_q rfl rfl (q_len Try.underlying22 rfl) ?_
  refine o_q rfl rfl (q_gtr rfl rfl) ?_
  refine o_end ?_
  refine za1 ?_
  refine zaq _ rfl (fun hb3 => ?_) (fun hb3 => ?_)
  · skip
    replace h := br_t hb3 h
    refine c_seq ?_
    refine za0 ?_
    refine o_q rfl rfl (q_asg rfl) ?_
    refine o_end ?_
    refine za1 ?_
    refine c_ret ?_
    refine za5 ?_
    have e0_ := Option.some.inj h; clear h
    subst e0_
    exact x_r1 () Try.results4 (zae rfl) rfl (fun w h => za6 [] (by decide) rfl w h)
  · skip
    replace h := br_f hb3 h
    refine zal ?_
    refine za1 ?_
    refine c_seq ?_
    refine za0 ?_
    refine o_q rfl rfl (q_asg rfl) ?_
    refine o_end ?_
    refine za1 ?_
    refine c_seq ?_
    refine za0 ?_
    refine o_q rfl rfl (q_ldB G25 Z25 rfl (fun w h => h.za9 (i := 0) rfl) rfl) ?_
    refine o_q rfl rfl (za2 rfl) ?_
    refine za7 h (fun i5 hx4 h => ?_) rfl
    refine o_e rfl (zab 0 Z Try.func9 N9 rfl rfl rfl (fun w P1 hF hB hS hT => laws_szRegCode.calls a0_0 A0_1 c0_1 l0_1.length l0_1 A0_2 c0_2 l0_2.length l0_2 A0_3 c0_3 l0_3.length l0_3 1048576 hB hF (hS _ R0_1) hc0_1 (hS _ R0_2) hc0_2 (hS _ R0_3) hc0_3 _ hx4)) (fun _ => ?_)
    refine o_q rfl rfl (q_asg rfl) ?_
    refine o_end ?_
    refine za1 ?_
    refine c_seq ?_
    refine c_seq ?_
    refine za0 ?_
    refine o_q rfl rfl (za2 rfl) ?_
    refine o_q rfl rfl (q_lss rfl rfl) ?_
    refine o_end ?_
    refine za1 ?_
    refine zaq _ rfl (fun hb6 => ?_) (fun hb6 => ?_)
    · skip
      replace h := br_t hb6 h
      refine c_seq ?_
      refine za0 ?_
      refine o_q rfl rfl (q_asg rfl) ?_
      refine o_end ?_
      refine za1 ?_
      refine c_ret ?_
      refine za5 ?_
      have e0_ := Option.some.inj h; clear h
      subst e0_
      exact x_r1 () Try.results4 (zae rfl) rfl (fun w h => za6 [] (by decide) rfl w h)
    · skip
      replace h := br_f hb6 h
      refine zal ?_
      refine za1 ?_
      refine c_seq ?_
      refine za0 ?_
      refine o_q rfl rfl (q_ldB G25 Z25 rfl (fun w h => h.za9 (i := 0) rfl) rfl) ?_
      refine bindE3 h (fun l8 l9 l10 hx7 h => ?_) rfl
      refine o_e rfl (zab 0 Z Try.func11 N11 rfl rfl rfl (fun w P1 hF hB hS hT => laws_toRegCode.calls k a0_0 A0_1 c0_1 l0_1.length l0_1 A0_2 c0_2 l0_2.length l0_2 A0_3 c0_3 l0_3.length l0_3 hB hF (hS _ R0_1) hc0_1 (hS _ R0_2) hc0_2 (hS _ R0_3) hc0_3 _ _ _ hx7)) (cur6 (fun A11 c12 A13 c14 A15 c16 => ?_))
      refine o_q rfl rfl (za2 rfl) ?_
      refine za7 h (fun l18 hx17 h => ?_) rfl
      refine o_e rfl (zab 0 Z Try.func17 N17 rfl rfl rfl (fun w P1 hF hB hS hT => laws_toIntS.calls k A1 c1 l1.length l1 hB hF (hS _ R1) hc1 _ hx17)) (cur2 (fun A19 c20 => ?_))
      refine bindE5 h (fun i22 l23 l24 l25 b26 hx21 h => ?_) rfl
      refine o_e rfl (zab 0 Z Try.func16 N16 rfl rfl rfl (fun w P1 hF hB hS hT => spec_RenameRegisters.calls k a0_0 A11 c12 l8.length l8 A13 c14 l9.length l9 A15 c16 l10.length l10 A19 c20 l18.length l18 hB hF (hT 1 _ rfl).row (hT 1 _ rfl).cap (hT 2 _ rfl).row (hT 2 _ rfl).cap (hT 3 _ rfl).row (hT 3 _ rfl).cap (hT 0 _ rfl).row (hT 0 _ rfl).cap _ _ _ _ _ hx21)) (cur6 (fun A27 c28 A29 c30 A31 c32 => ?_))
      refine o_q rfl rfl (za2 rfl) ?_
      refine o_q rfl rfl (q_ext rfl rfl) ?_
      refine o_q rfl rfl (q_ext rfl rfl) ?_
      refine o_e rfl (zar V29 rfl) (fun g33 => ?_)
      refine o_e rfl (zam (i := 0) rfl rfl rfl Z29 rfl rfl) (fun _ => ?_)
      refine o_q rfl rfl (q_asg rfl) ?_
      refine o_end ?_
      refine za1 ?_
      refine c_seq ?_
      refine za0 ?_
      refine o_q rfl rfl (q_ldB G25 Z25 rfl (fun w h => h.za9 (i := 8) rfl) rfl) ?_
      refine bindE3 h (fun l36 l37 l38 hx35 h => ?_) rfl
      refine o_e rfl (zab 0 Z Try.func11 N11 rfl rfl rfl (fun w P1 hF hB hS hT => laws_toRegCode.calls k a0_0 A0_1 c0_1 l0_1.length l0_1 A0_2 c0_2 l0_2.length l0_2 A0_3 c0_3 l0_3.length l0_3 hB hF (hS _ R0_1) hc0_1 (hS _ R0_2) hc0_2 (hS _ R0_3) hc0_3 _ _ _ hx35)) (cur6 (fun A39 c40 A41 c42 A43 c44 => ?_))
      refine o_e rfl (zar V29 rfl) (fun g45 => ?_)
      refine o_e rfl (zam (i := 0) rfl rfl rfl Z29 rfl rfl) (fun _ => ?_)
      refine o_end ?_
      refine za1 ?_
      refine c_seq ?_
      refine za0 ?_
      refine o_q rfl rfl (za2 rfl) ?_
      refine za7 h (fun l48 hx47 h => ?_) rfl
      refine o_e rfl (zab 0 Z Try.func17 N17 rfl rfl rfl (fun w P1 hF hB hS hT => laws_toIntS.calls k A1 c1 l1.length l1 hB hF (hS _ R1) hc1 _ hx47)) (cur2 (fun A49 c50 => ?_))
      refine o_q rfl rfl (q_asg rfl) ?_
      refine o_end ?_
      refine za1 ?_
      refine c_seq ?_
      refine za0 ?_
      refine o_q rfl rfl (q_ldB G29 Z29 rfl (fun w h => h.za9 (i := 1) rfl) rfl) ?_
      refine o_q rfl rfl (za2 rfl) ?_
      refine bindE5 h (fun i52 l53 l54 l55 b56 hx51 h => ?_) rfl
      refine o_e rfl (zab 0 Z Try.func18 N18 rfl rfl rfl (fun w P1 hF hB hS hT => impl_RenameRegisters.calls k a0_0 A39 c40 l36.length l36 A41 c42 l37.length l37 A43 c44 l38.length l38 A49 c50 l48.length l48 hB hF (hT 2 _ rfl).row (hT 2 _ rfl).cap (hT 3 _ rfl).row (hT 3 _ rfl).cap (hT 4 _ rfl).row (hT 4 _ rfl).cap (hT 0 _ rfl).row (hT 0 _ rfl).cap _ _ _ _ _ hx51)) (cur6 (fun A57 c58 A59 c60 A61 c62 => ?_))
      refine o_q rfl rfl (za2 rfl) ?_
      refine o_q rfl rfl (q_ext rfl rfl) ?_
      refine o_q rfl rfl (q_ext rfl rfl) ?_
      refine o_e rfl (zar V29 rfl) (fun g63 => ?_)
      refine o_e rfl (zam (i := 0) rfl rfl rfl Z29 rfl rfl) (fun _ => ?_)
      refine o_q rfl rfl (q_asg rfl) ?_
      refine o_end ?_
      refine za1 ?_
      refine c_seq ?_
      refine c_seq ?_
      refine za0 ?_
      refine o_q rfl rfl (q_ldB G29 Z29 rfl (fun w h => h.za9 (i := 0) rfl) rfl) ?_
      refine o_q rfl rfl (q_ldB G29 Z29 rfl (fun w h => h.za9 (i := 9) rfl) rfl) ?_
      refine za7 h (fun b66 hx65 h => ?_) rfl
      refine o_e rfl (zab 0 Z Try.func13 N13 rfl rfl rfl (fun w P1 hF hB hS hT => laws_eqRegCode.calls k i52 A57 c58 l53.length l53 A59 c60 l54.length l54 A61 c62 l55.length l55 i22 A27 c28 l23.length l23 A29 c30 l24.length l24 A31 c32 l25.length l25 hB hF (hT 1 _ rfl).row (hT 1 _ rfl).cap (hT 2 _ rfl).row (hT 2 _ rfl).cap (hT 3 _ rfl).row (hT 3 _ rfl).cap (hT 10 _ rfl).row (hT 10 _ rfl).cap (hT 11 _ rfl).row (hT 11 _ rfl).cap (hT 12 _ rfl).row (hT 12 _ rfl).cap _ hx65)) (fun _ => ?_)
      refine o_q rfl rfl (q_not rfl) ?_
      refine o_q rfl rfl (za2 rfl) ?_
      refine byB b66 (fun hb67 => ?_) (fun hb67 => ?_)
      · replace h := bb_t hb67 h
        refine o_w (za4 rfl rfl rfl (congrArg (fun b => Value.bool (!(b))) hb67)) rfl (za2 rfl) ?_
        refine o_w (za4 rfl rfl rfl (congrArg (fun b => Value.bool (!(b))) hb67)) rfl (za2 rfl) ?_
        refine o_w (za4 rfl rfl rfl (congrArg (fun b => Value.bool (!(b))) hb67)) rfl (q_bneq Try.underlying4 rfl rfl) ?_
        refine o_q rfl rfl (zao false (congrArg (fun b => Value.bool (!(b))) hb67) rfl) ?_
        refine o_end ?_
        refine za1 ?_
        refine zaq _ rfl (fun hb68 => ?_) (fun hb68 => ?_)
        · skip
          replace h := bb_t hb68 h
          refine c_seq ?_
          refine za0 ?_
          refine o_q rfl rfl (q_asg rfl) ?_
          refine o_end ?_
          refine za1 ?_
          refine c_ret ?_
          refine za5 ?_
          have e0_ := Option.some.inj h; clear h
          subst e0_
          exact x_r1 () Try.results4 (zae rfl) rfl (fun w h => za6 [] (by decide) rfl w h)
        · skip
          replace h := bb_f hb68 h
          refine zal ?_
          refine za1 ?_
          refine c_seq ?_
          refine c_seq ?_
          refine a_start (ds := []) MO rfl ?_
          refine zay 0 rfl rfl rfl (by kernel_rfl) (fun _ _ _ h => h) (fun w h => h) (q_ldB G29 Z29 rfl (fun w h => h.za9 (i := 5) rfl) rfl) ?_
          refine zay 1 rfl rfl rfl (by kernel_rfl) (fun _ _ _ h => h) (fun w h => h) (q_ldB G25 Z25 rfl (fun w h => h.za9 (i := 17) rfl) rfl) ?_
          refine bindE3 h (fun l70 l71 l72 hx69 h => ?_) rfl
          refine a_one 2 rfl rfl (by kernel_rfl) rfl (zab 0 Z Try.func11 N11 rfl rfl rfl (fun w P1 hF hB hS hT => laws_toRegCode.calls k a0_0 A0_1 c0_1 l0_1.length l0_1 A0_2 c0_2 l0_2.length l0_2 A0_3 c0_3 l0_3.length l0_3 hB hF (hS _ R0_1) hc0_1 (hS _ R0_2) hc0_2 (hS _ R0_3) hc0_3 _ _ _ hx69)) (fun s w h => zaa [some 3, some 4, some 5, some 6, some 7, some 8, some 9, some 10, some 11, some 12, some 13, some 14, some 15, some 16, some 17, some 18, some 19, some 20] (by decide) w h rfl) (cur6 (fun A73 c74 A75 c76 A77 c78 => ?_))
          refine za7 h (fun b80 hx79 h => ?_) rfl
          refine a_one 3 rfl rfl (by kernel_rfl) rfl (zab 0 Z Try.func13 N13 rfl rfl rfl (fun w P1 hF hB hS hT => laws_eqRegCode.calls k a0_0 A39 c40 l36.length l36 A41 c42 l37.length l37 A43 c44 l38.length l38 a0_0 A73 c74 l70.length l70 A75 c76 l71.length l71 A77 c78 l72.length l72 hB hF (hT 9 _ rfl).row (hT 9 _ rfl).cap (hT 10 _ rfl).row (hT 10 _ rfl).cap (hT 11 _ rfl).row (hT 11 _ rfl).cap (hT 0 _ rfl).row (hT 0 _ rfl).cap (hT 1 _ rfl).row (hT 1 _ rfl).cap (hT 2 _ rfl).row (hT 2 _ rfl).cap _ hx79)) (fun s w h => zaa [some 3, some 4, some 5, some 6, some 7, some 8, some 9, some 10, some 11, some 12, some 13, some 14, some 15, some 16, some 17, some 18, some 19, some 20] (by decide) w h rfl) (fun _ => ?_)
          refine zac 4 rfl rfl rfl (by kernel_rfl) (fun _ _ _ h => h) (q_not rfl) ?_
          refine a_done (by kernel_rfl) ?_
          refine za1 ?_
          refine zaq _ rfl (fun hb81 => ?_) (fun hb81 => ?_)
          · replace hb81 := nt_t hb81
            replace h := bb_f hb81 h
            refine c_seq ?_
            refine za0 ?_
            refine o_q rfl rfl (q_asg rfl) ?_
            refine o_end ?_
            refine za1 ?_
            refine c_ret ?_
            refine za5 ?_
            have e0_ := Option.some.inj h; clear h
            subst e0_
            exact x_r1 () Try.results4 (zae rfl) rfl (fun w h => za6 [] (by decide) rfl w h)
          · replace hb81 := nt_f hb81
            replace h := bb_t hb81 h
            refine zal ?_
            refine za1 ?_
            refine c_seq ?_
            refine c_seq ?_
            refine za0 ?_
            refine o_q rfl rfl (za2 rfl) ?_
            refine o_q rfl rfl (za2 rfl) ?_
            refine za7 h (fun l83 hx82 h => ?_) rfl
            refine o_e rfl (zab 0 Z Try.func17 N17 rfl rfl rfl (fun w P1 hF hB hS hT => laws_toIntS.calls k A1 c1 l1.length l1 hB hF (hS _ R1) hc1 _ hx82)) (cur2 (fun A84 c85 => ?_))
            refine za7 h (fun b87 hx86 h => ?_) rfl
            refine o_e rfl (zab 0 Z Try.func19 N19 rfl rfl rfl (fun w P1 hF hB hS hT => laws_eqIntS.calls k A49 c50 l48.length l48 A84 c85 l83.length l83 hB hF (hT 8 _ rfl).row (hT 8 _ rfl).cap (hT 0 _ rfl).row (hT 0 _ rfl).cap _ hx86)) (fun _ => ?_)
            refine o_q rfl rfl (q_not rfl) ?_
            refine o_end ?_
            refine za1 ?_
            refine zaq _ rfl (fun hb88 => ?_) (fun hb88 => ?_)
            · replace hb88 := nt_t hb88
              replace h := bb_f hb88 h
              refine c_seq ?_
              refine za0 ?_
              refine o_q rfl rfl (q_asg rfl) ?_
              refine o_end ?_
              refine za1 ?_
              refine c_ret ?_
              refine za5 ?_
              have e0_ := Option.some.inj h; clear h
              subst e0_
              exact x_r1 () Try.results4 (zae rfl) rfl (fun w h => za6 [] (by decide) rfl w h)
            · replace hb88 := nt_f hb88
              replace h := bb_t hb88 h
              refine zal ?_
              refine za1 ?_
              refine c_seq ?_
              refine za0 ?_
              refine o_q rfl rfl (q_asg rfl) ?_
              refine o_end ?_
              refine za1 ?_
              refine c_seq ?_
              refine za0 ?_
              refine o_q rfl rfl (q_ldB G29 Z29 rfl (fun w h => h.za9 (i := 9) rfl) rfl) ?_
              refine o_q rfl rfl (za2 rfl) ?_
              refine o_pick [10, 11, 12, 0, 1, 2, 3, 4, 5, 6, 7, 8, 9, 13, 14, 15, 16, 17, 18, 19, 20, 21] (by decide) rfl ?_
              refine bindE4 h (fun i90 l91 l92 l93 hx89 h => ?_) rfl
              refine o_e rfl (zab 3 Z Try.func14 N14 rfl rfl rfl (fun w P1 hF hB hS hT => laws_markRegCode.calls k a0_0 A39 c40 l36.length l36 A41 c42 l37.length l37 A43 c44 l38.length l38 1 hB hF _ _ _ _ hx89)) (fun _ => ?_)
              refine o_q rfl rfl (q_asg rfl) ?_
              refine o_end ?_
              refine za1 ?_
              refine c_seq ?_
              refine za0 ?_
              refine o_q rfl rfl (za2 rfl) ?_
              refine o_q rfl rfl (za2 rfl) ?_
              refine o_pick [11, 0, 1, 2, 3, 4, 5, 6, 7, 8, 9, 10, 12, 13, 14, 15, 16, 17, 18, 19, 20, 21] (by decide) rfl ?_
              refine bindE2 h (fun i95 l96 hx94 h => ?_) rfl
              refine o_e rfl (zab 1 Z Try.func20 N20 rfl rfl rfl (fun w P1 hF hB hS hT => laws_markIntS.calls k A49 c50 l48.length l48 i90 hB hF _ _ hx94)) (fun _ => ?_)
              refine o_q rfl rfl (q_asg rfl) ?_
              refine o_end ?_
              refine za1 ?_
              refine c_seq ?_
              refine c_seq ?_
              refine za0 ?_
              refine o_q rfl rfl (za2 rfl) ?_
              refine o_q rfl rfl (q_lss rfl rfl) ?_
              refine o_q rfl rfl (za2 rfl) ?_
              refine byB (decide (i95 < 0)) (fun hb97 => ?_) (fun hb97 => ?_)
              · replace h := br_t hb97 h
                refine @o_n _ _ _ _ _ _ _ _ _ _ _ 71 (za3 rfl rfl rfl (congrArg Value.bool hb97) rfl) (Eq.refl (some 71)) ?_
                refine @o_n _ _ _ _ _ _ _ _ _ _ _ 72 (za3 rfl rfl rfl (congrArg Value.bool hb97) rfl) (Eq.refl (some 72)) ?_
                refine @o_n _ _ _ _ _ _ _ _ _ _ _ 73 (za3 rfl rfl rfl (congrArg Value.bool hb97) rfl) (Eq.refl (some 73)) ?_
                refine @o_n _ _ _ _ _ _ _ _ _ _ _ 74 (za3 rfl rfl rfl (congrArg Value.bool hb97) rfl) (Eq.refl (some 74)) ?_
                refine o_q rfl rfl (zao true (congrArg Value.bool hb97) rfl) ?_
                refine o_q rfl rfl (za2 rfl) ?_
                refine @o_n _ _ _ _ _ _ _ _ _ _ _ 77 (za3 rfl rfl rfl rfl rfl) (Eq.refl (some 77)) ?_
                refine @o_n _ _ _ _ _ _ _ _ _ _ _ 78 (za3 rfl rfl rfl rfl rfl) (Eq.refl (some 78)) ?_
                refine @o_n _ _ _ _ _ _ _ _ _ _ _ 79 (za3 rfl rfl rfl rfl rfl) (Eq.refl (some 79)) ?_
                refine o_q rfl rfl (zao true rfl rfl) ?_
                refine o_end ?_
                refine za1 ?_
                refine c_true rfl ?_
                refine c_seq ?_
                refine za0 ?_
                refine o_q rfl rfl (q_asg rfl) ?_
                refine o_end ?_
                refine za1 ?_
                refine c_ret ?_
                refine za5 ?_
                have e0_ := Option.some.inj h; clear h
                subst e0_
                exact x_r1 () Try.results4 (zae rfl) rfl (fun w h => za6 [] (by decide) rfl w h)
              · replace h := br_f hb97 h
                refine o_w (za4 rfl rfl rfl (congrArg Value.bool hb97)) rfl (q_ldB G29 Z29 rfl (fun w h => h.za9 (i := 8) rfl) rfl) ?_
                refine o_w (za4 rfl rfl rfl (congrArg Value.bool hb97)) rfl (q_ldB G29 Z29 rfl (fun w h => h.za9 (i := 13) rfl) rfl) ?_
                refine za7 h (fun b99 hx98 h => ?_) rfl
                refine o_ew (za4 rfl rfl rfl (congrArg Value.bool hb97)) (zab 0 Z Try.func13 N13 rfl rfl rfl (fun w P1 hF hB hS hT => laws_eqRegCode.calls k i52 A57 c58 l53.length l53 A59 c60 l54.length l54 A61 c62 l55.length l55 i22 A27 c28 l23.length l23 A29 c30 l24.length l24 A31 c32 l25.length l25 hB hF (hT 9 _ rfl).row (hT 9 _ rfl).cap (hT 10 _ rfl).row (hT 10 _ rfl).cap (hT 11 _ rfl).row (hT 11 _ rfl).cap (hT 14 _ rfl).row (hT 14 _ rfl).cap (hT 15 _ rfl).row (hT 15 _ rfl).cap (hT 16 _ rfl).row (hT 16 _ rfl).cap _ hx98)) (fun _ => ?_)
                refine o_w (za4 rfl rfl rfl (congrArg Value.bool hb97)) rfl (q_not rfl) ?_
                refine o_q rfl rfl (zao false (congrArg Value.bool hb97) rfl) ?_
                refine o_q rfl rfl (za2 rfl) ?_
                refine byB b99 (fun hb100 => ?_) (fun hb100 => ?_)
                · replace h := bb_t hb100 h
                  refine o_w (za4 rfl rfl rfl (congrArg (fun b => Value.bool (!(b))) hb100)) rfl (za2 rfl) ?_
                  refine o_w (za4 rfl rfl rfl (congrArg (fun b => Value.bool (!(b))) hb100)) rfl (za2 rfl) ?_
                  refine o_w (za4 rfl rfl rfl (congrArg (fun b => Value.bool (!(b))) hb100)) rfl (q_bneq Try.underlying4 rfl rfl) ?_
                  refine o_q rfl rfl (zao false (congrArg (fun b => Value.bool (!(b))) hb100) rfl) ?_
                  refine o_end ?_
                  refine za1 ?_
                  refine c_false (congrArg Value.bool hb68) ?_
                  refine zal ?_
                  refine za1 ?_
                  refine c_seq ?_
                  refine za0 ?_
                  refine o_q rfl rfl (q_asg rfl) ?_
                  refine o_end ?_
                  refine za1 ?_
                  refine c_seq ?_
                  refine za0 ?_
                  refine o_q rfl rfl (q_ldB G29 Z29 rfl (fun w h => h.za9 (i := 8) rfl) rfl) ?_
                  refine o_q rfl rfl (za2 rfl) ?_
                  refine o_pick [9, 10, 11, 0, 1, 2, 3, 4, 5, 6, 7, 8, 12, 13, 14, 15, 16, 17, 18, 19, 20, 21] (by decide) rfl ?_
                  refine bindE4 h (fun i102 l103 l104 l105 hx101 h => ?_) rfl
                  refine o_e rfl (zab 3 Z Try.func14 N14 rfl rfl rfl (fun w P1 hF hB hS hT => laws_markRegCode.calls k i52 A57 c58 l53.length l53 A59 c60 l54.length l54 A61 c62 l55.length l55 1 hB hF _ _ _ _ hx101)) (fun _ => ?_)
                  refine o_q rfl rfl (q_asg rfl) ?_
                  refine o_end ?_
                  refine za1 ?_
                  refine c_seq ?_
                  refine za0 ?_
                  refine o_q rfl rfl (q_asg rfl) ?_
                  refine o_end ?_
                  refine za1 ?_
                  refine c_seq ?_
                  refine za0 ?_
                  refine o_q rfl rfl (q_ldB G29 Z29 rfl (fun w h => h.za9 (i := 11) rfl) rfl) ?_
                  refine o_q rfl rfl (za2 rfl) ?_
                  refine za7 h (fun i107 hx106 h => ?_) rfl
                  refine o_e rfl (zab 0 Z Try.func15 N15 rfl rfl rfl (fun w P1 hF hB hS hT => laws_heldRegCode.calls k i52 A57 c58 l53.length l103 A59 c60 l54.length l104 A61 c62 l55.length l105 1 hB hF (hT 0 _ rfl).row (hT 0 _ rfl).cap (hT 1 _ rfl).row (hT 1 _ rfl).cap (hT 2 _ rfl).row (hT 2 _ rfl).cap _ hx106)) (fun _ => ?_)
                  refine o_q rfl rfl (q_asg rfl) ?_
                  refine o_end ?_
                  refine za1 ?_
                  refine c_seq ?_
                  refine c_seq ?_
                  refine za0 ?_
                  refine o_q rfl rfl (za2 rfl) ?_
                  refine o_q rfl rfl (q_lss rfl rfl) ?_
                  refine o_end ?_
                  refine za1 ?_
                  refine zaq _ rfl (fun hb108 => ?_) (fun hb108 => ?_)
                  · skip
                    replace h := br_t hb108 h
                    refine c_seq ?_
                    refine za0 ?_
                    refine o_q rfl rfl (q_asg rfl) ?_
                    refine o_end ?_
                    refine za1 ?_
                    refine c_ret ?_
                    refine za5 ?_
                    have e0_ := Option.some.inj h; clear h
                    subst e0_
                    exact x_r1 () Try.results4 (zae rfl) rfl (fun w h => za6 [] (by decide) rfl w h)
                  · skip
                    replace h := br_f hb108 h
                    refine zal ?_
                    refine za1 ?_
                    refine c_seq ?_
                    refine c_seq ?_
                    refine za0 ?_
                    refine o_q rfl rfl (za2 rfl) ?_
                    refine o_q rfl rfl (za2 rfl) ?_
                    refine o_q rfl rfl (q_neq rfl rfl) ?_
                    refine o_end ?_
                    refine za1 ?_
                    refine zaq _ rfl (fun hb109 => ?_) (fun hb109 => ?_)
                    · skip
                      replace h := br_t hb109 h
                      refine c_seq ?_
                      refine za0 ?_
                      refine o_q rfl rfl (q_asg rfl) ?_
                      refine o_end ?_
                      refine za1 ?_
                      refine c_ret ?_
                      refine za5 ?_
                      have e0_ := Option.some.inj h; clear h
                      subst e0_
                      exact x_r1 () Try.results4 (zae rfl) rfl (fun w h => za6 [] (by decide) rfl w h)
                    · skip
                      replace h := br_f hb109 h
                      refine zal ?_
                      refine za1 ?_
                      refine c_seq ?_
                      refine za0 ?_
                      refine o_q rfl rfl (q_ldB G25 Z25 rfl (fun w h => h.za9 (i := 21) rfl) rfl) ?_
                      refine bindE3 h (fun l111 l112 l113 hx110 h => ?_) rfl
                      refine o_e rfl (zab 0 Z Try.func11 N11 rfl rfl rfl (fun w P1 hF hB hS hT => laws_toRegCode.calls k a0_0 A0_1 c0_1 l0_1.length l0_1 A0_2 c0_2 l0_2.length l0_2 A0_3 c0_3 l0_3.length l0_3 hB hF (hS _ R0_1) hc0_1 (hS _ R0_2) hc0_2 (hS _ R0_3) hc0_3 _ _ _ hx110)) (cur6 (fun A114 c115 A116 c117 A118 c119 => ?_))
                      refine o_q rfl rfl (za2 rfl) ?_
                      refine za7 h (fun l121 hx120 h => ?_) rfl
                      refine o_e rfl (zab 0 Z Try.func17 N17 rfl rfl rfl (fun w P1 hF hB hS hT => laws_toIntS.calls k A1 c1 l1.length l1 hB hF (hS _ R1) hc1 _ hx120)) (cur2 (fun A122 c123 => ?_))
                      refine bindE5 h (fun i125 l126 l127 l128 b129 hx124 h => ?_) rfl
                      refine o_e rfl (zab 0 Z Try.func18 N18 rfl rfl rfl (fun w P1 hF hB hS hT => impl_RenameRegisters.calls k a0_0 A114 c115 l111.length l111 A116 c117 l112.length l112 A118 c119 l113.length l113 A122 c123 l121.length l121 hB hF (hT 1 _ rfl).row (hT 1 _ rfl).cap (hT 2 _ rfl).row (hT 2 _ rfl).cap (hT 3 _ rfl).row (hT 3 _ rfl).cap (hT 0 _ rfl).row (hT 0 _ rfl).cap _ _ _ _ _ hx124)) (cur6 (fun A130 c131 A132 c133 A134 c135 => ?_))
                      refine o_q rfl rfl (za2 rfl) ?_
                      refine o_q rfl rfl (q_ext rfl rfl) ?_
                      refine o_q rfl rfl (q_ext rfl rfl) ?_
                      refine o_e rfl (zar V29 rfl) (fun g136 => ?_)
                      refine o_e rfl (zam (i := 0) rfl rfl rfl Z29 rfl rfl) (fun _ => ?_)
                      refine o_q rfl rfl (q_asg rfl) ?_
                      refine o_end ?_
                      refine za1 ?_
                      refine c_seq ?_
                      refine c_seq ?_
                      refine za0 ?_
                      refine o_q rfl rfl (q_ldB G29 Z29 rfl (fun w h => h.za9 (i := 0) rfl) rfl) ?_
                      refine o_q rfl rfl (q_ldB G29 Z29 rfl (fun w h => h.za9 (i := 21) rfl) rfl) ?_
                      refine za7 h (fun b139 hx138 h => ?_) rfl
                      refine o_e rfl (zab 0 Z Try.func13 N13 rfl rfl rfl (fun w P1 hF hB hS hT => laws_eqRegCode.calls k i125 A130 c131 l126.length l126 A132 c133 l127.length l127 A134 c135 l128.length l128 i22 A27 c28 l23.length l23 A29 c30 l24.length l24 A31 c32 l25.length l25 hB hF (hT 1 _ rfl).row (hT 1 _ rfl).cap (hT 2 _ rfl).row (hT 2 _ rfl).cap (hT 3 _ rfl).row (hT 3 _ rfl).cap (hT 22 _ rfl).row (hT 22 _ rfl).cap (hT 23 _ rfl).row (hT 23 _ rfl).cap (hT 24 _ rfl).row (hT 24 _ rfl).cap _ hx138)) (fun _ => ?_)
                      refine o_q rfl rfl (q_not rfl) ?_
                      refine o_q rfl rfl (za2 rfl) ?_
                      refine byB b139 (fun hb140 => ?_) (fun hb140 => ?_)
                      · replace h := bb_t hb140 h
                        refine o_w (za4 rfl rfl rfl (congrArg (fun b => Value.bool (!(b))) hb140)) rfl (za2 rfl) ?_
                        refine o_w (za4 rfl rfl rfl (congrArg (fun b => Value.bool (!(b))) hb140)) rfl (za2 rfl) ?_
                        refine o_w (za4 rfl rfl rfl (congrArg (fun b => Value.bool (!(b))) hb140)) rfl (q_bneq Try.underlying4 rfl rfl) ?_
                        refine o_q rfl rfl (zao false (congrArg (fun b => Value.bool (!(b))) hb140) rfl) ?_
                        refine o_end ?_
                        refine za1 ?_
                        refine zaq _ rfl (fun hb141 => ?_) (fun hb141 => ?_)
                        · skip
                          replace h := bb_t hb141 h
                          refine c_seq ?_
                          refine za0 ?_
                          refine o_q rfl rfl (q_asg rfl) ?_
                          refine o_end ?_
                          refine za1 ?_
                          refine c_ret ?_
                          refine za5 ?_
                          have e0_ := Option.some.inj h; clear h
                          subst e0_
                          exact x_r1 () Try.results4 (zae rfl) rfl (fun w h => za6 [] (by decide) rfl w h)
                        · skip
                          replace h := bb_f hb141 h
                          refine zal ?_
                          refine za1 ?_
                          refine c_seq ?_
                          refine za0 ?_
                          refine o_q rfl rfl (q_asg rfl) ?_
                          refine o_end ?_
                          refine za1 ?_
                          refine c_seq ?_
                          refine za0 ?_
                          refine o_q rfl rfl (q_ldB G29 Z29 rfl (fun w h => h.za9 (i := 19) rfl) rfl) ?_
                          refine o_q rfl rfl (za2 rfl) ?_
                          refine za7 h (fun i143 hx142 h => ?_) rfl
                          refine o_e rfl (zab 0 Z Try.func15 N15 rfl rfl rfl (fun w P1 hF hB hS hT => laws_heldRegCode.calls k i52 A57 c58 l53.length l103 A59 c60 l54.length l104 A61 c62 l55.length l105 1 hB hF (hT 8 _ rfl).row (hT 8 _ rfl).cap (hT 9 _ rfl).row (hT 9 _ rfl).cap (hT 10 _ rfl).row (hT 10 _ rfl).cap _ hx142)) (fun _ => ?_)
                          refine o_q rfl rfl (q_asg rfl) ?_
                          refine o_end ?_
                          refine za1 ?_
                          refine c_seq ?_
                          refine c_seq ?_
                          refine za0 ?_
                          refine o_q rfl rfl (za2 rfl) ?_
                          refine o_q rfl rfl (q_lss rfl rfl) ?_
                          refine o_end ?_
                          refine za1 ?_
                          refine zaq _ rfl (fun hb144 => ?_) (fun hb144 => ?_)
                          · skip
                            replace h := br_t hb144 h
                            refine c_seq ?_
                            refine za0 ?_
                            refine o_q rfl rfl (q_asg rfl) ?_
                            refine o_end ?_
                            refine za1 ?_
                            refine c_ret ?_
                            refine za5 ?_
                            have e0_ := Option.some.inj h; clear h
                            subst e0_
                            exact x_r1 () Try.results4 (zae rfl) rfl (fun w h => za6 [] (by decide) rfl w h)
                          · skip
                            replace h := br_f hb144 h
                            refine zal ?_
                            refine za1 ?_
                            refine c_seq ?_
                            refine c_seq ?_
                            refine za0 ?_
                            refine o_q rfl rfl (za2 rfl) ?_
                            refine o_q rfl rfl (za2 rfl) ?_
                            refine o_q rfl rfl (q_neq rfl rfl) ?_
                            refine o_end ?_
                            refine za1 ?_
                            refine zaq _ rfl (fun hb145 => ?_) (fun hb145 => ?_)
                            · skip
                              replace h := br_t hb145 h
                              refine c_seq ?_
                              refine za0 ?_
                              refine o_q rfl rfl (q_asg rfl) ?_
                              refine o_end ?_
                              refine za1 ?_
                              refine c_ret ?_
                              refine za5 ?_
                              have e0_ := Option.some.inj h; clear h
                              subst e0_
                              exact x_r1 () Try.results4 (zae rfl) rfl (fun w h => za6 [] (by decide) rfl w h)
                            · skip
                              replace h := br_f hb145 h
                              refine zal ?_
                              refine za1 ?_
                              refine c_seq ?_
                              refine za0 ?_
                              refine o_q rfl rfl (q_asg rfl) ?_
                              refine o_end ?_
                              refine za1 ?_
                              refine c_ret ?_
                              have e0_ := Option.some.inj h; clear h
                              subst e0_
                              exact x_r1 () Try.results4 (zae rfl) rfl (fun w h => za6 [] (by decide) rfl w h)
                      · replace h := bb_f hb140 h
                        refine @o_n _ _ _ _ _ _ _ _ _ _ _ 105 (za3 rfl rfl rfl (congrArg (fun b => Value.bool (!(b))) hb140) rfl) (Eq.refl (some 105)) ?_
                        refine @o_n _ _ _ _ _ _ _ _ _ _ _ 106 (za3 rfl rfl rfl (congrArg (fun b => Value.bool (!(b))) hb140) rfl) (Eq.refl (some 106)) ?_
                        refine @o_n _ _ _ _ _ _ _ _ _ _ _ 107 (za3 rfl rfl rfl (congrArg (fun b => Value.bool (!(b))) hb140) rfl) (Eq.refl (some 107)) ?_
                        refine o_q rfl rfl (zao true (congrArg (fun b => Value.bool (!(b))) hb140) rfl) ?_
                        refine o_end ?_
                        refine za1 ?_
                        refine c_true rfl ?_
                        refine c_seq ?_
                        refine za0 ?_
                        refine o_q rfl rfl (q_asg rfl) ?_
                        refine o_end ?_
                        refine za1 ?_
                        refine c_ret ?_
                        refine za5 ?_
                        have e0_ := Option.some.inj h; clear h
                        subst e0_
                        exact x_r1 () Try.results4 (zae rfl) rfl (fun w h => za6 [] (by decide) rfl w h)
                · replace h := bb_f hb100 h
                  refine @o_n _ _ _ _ _ _ _ _ _ _ _ 77 (za3 rfl rfl rfl (congrArg (fun b => Value.bool (!(b))) hb100) rfl) (Eq.refl (some 77)) ?_
                  refine @o_n _ _ _ _ _ _ _ _ _ _ _ 78 (za3 rfl rfl rfl (congrArg (fun b => Value.bool (!(b))) hb100) rfl) (Eq.refl (some 78)) ?_
                  refine @o_n _ _ _ _ _ _ _ _ _ _ _ 79 (za3 rfl rfl rfl (congrArg (fun b => Value.bool (!(b))) hb100) rfl) (Eq.refl (some 79)) ?_
                  refine o_q rfl rfl (zao true (congrArg (fun b => Value.bool (!(b))) hb100) rfl) ?_
                  refine o_end ?_
                  refine za1 ?_
                  refine c_true rfl ?_
                  refine c_seq ?_
                  refine za0 ?_
                  refine o_q rfl rfl (q_asg rfl) ?_
                  refine o_end ?_
                  refine za1 ?_
                  refine c_ret ?_
                  refine za5 ?_
                  have e0_ := Option.some.inj h; clear h
                  subst e0_
                  exact x_r1 () Try.results4 (zae rfl) rfl (fun w h => za6 [] (by decide) rfl w h)
      · replace h := bb_f hb67 h
        refine @o_n _ _ _ _ _ _ _ _ _ _ _ 48 (za3 rfl rfl rfl (congrArg (fun b => Value.bool (!(b))) hb67) rfl) (Eq.refl (some 48)) ?_
        refine @o_n _ _ _ _ _ _ _ _ _ _ _ 49 (za3 rfl rfl rfl (congrArg (fun b => Value.bool (!(b))) hb67) rfl) (Eq.refl (some 49)) ?_
        refine @o_n _ _ _ _ _ _ _ _ _ _ _ 50 (za3 rfl rfl rfl (congrArg (fun b => Value.bool (!(b))) hb67) rfl) (Eq.refl (some 50)) ?_
        refine o_q rfl rfl (zao true (congrArg (fun b => Value.bool (!(b))) hb67) rfl) ?_
        refine o_end ?_
        refine za1 ?_
        refine c_true rfl ?_
        refine c_seq ?_
        refine za0 ?_
        refine o_q rfl rfl (q_asg rfl) ?_
        refine o_end ?_
        refine za1 ?_
        refine c_ret ?_
        refine za5 ?_
        have e0_ := Option.some.inj h; clear h
        subst e0_
        exact x_r1 () Try.results4 (zae rfl) rfl (fun w h => za6 [] (by decide) rfl w h)

/-- THE ONE PURE STATEMENT of laws_FnExactRenameRegisters. -/
def laws_FnExactRenameRegisters.Pure : Prop := ∀ (a0_0 : Int) (l0_1 : List Int) (l0_2 : List SRegOp) (l0_3 : List Int) (l1 : List Int), (Lit.int .i64 a0_0).wf = true → l0_1.length ≤ maxLen → (∀ y ∈ l0_1, (Lit.int .i64 y).wf = true) → l0_2.length ≤ maxLen → (∀ y ∈ l0_2, (Lit.int .i64 y.f0).wf = true ∧ (Lit.int .i64 y.f1).wf = true ∧ (Lit.int .i64 y.f2).wf = true) → l0_3.length ≤ maxLen → (∀ y ∈ l0_3, (Lit.int .i64 y).wf = true) → l1.length ≤ maxLen → (∀ y ∈ l1, (Lit.int .i64 y).wf = true) → ∃ k, laws_FnExactRenameRegisters.f k a0_0 l0_1 l0_2 l0_3 l1 = some true
theorem laws_FnExactRenameRegisters.walk (P : laws_FnExactRenameRegisters.Pure) (a0_0 : Int) (A0_1 : Option Addr) (c0_1 : Nat) (l0_1 : List Int) (A0_2 : Option Addr) (c0_2 : Nat) (l0_2 : List SRegOp) (A0_3 : Option Addr) (c0_3 : Nat) (l0_3 : List Int) (A1 : Option Addr) (c1 : Nat) (l1 : List Int) (w : World) (hr0_1 : Kd.C (Kd.int .i64) w A0_1 l0_1.length l0_1) (hc0_1 : l0_1.length ≤ c0_1) (hr0_2 : Kd.C zat w A0_2 l0_2.length l0_2) (hc0_2 : l0_2.length ≤ c0_2) (hr0_3 : Kd.C (Kd.int .i64) w A0_3 l0_3.length l0_3) (hc0_3 : l0_3.length ≤ c0_3) (hr1 : Kd.C (Kd.int .i64) w A1 l1.length l1) (hc1 : l1.length ≤ c1) (q0 : (Lit.int .i64 a0_0).wf = true) (q1 : l0_1.length ≤ maxLen) (q2 : (∀ y ∈ l0_1, (Lit.int .i64 y).wf = true)) (q3 : l0_2.length ≤ maxLen) (q4 : (∀ y ∈ l0_2, (Lit.int .i64 y.f0).wf = true ∧ (Lit.int .i64 y.f1).wf = true ∧ (Lit.int .i64 y.f2).wf = true)) (q5 : l0_3.length ≤ maxLen) (q6 : (∀ y ∈ l0_3, (Lit.int .i64 y).wf = true)) (q7 : l1.length ≤ maxLen) (q8 : (∀ y ∈ l1, (Lit.int .i64 y).wf = true)) :
    Calls Try.prog 4 #[.agg #[.int .i64 a0_0, .slice A0_1 l0_1.length c0_1, .slice A0_2 l0_2.length c0_2, .slice A0_3 l0_3.length c0_3], .slice A1 l1.length c1] w fun e w' => e = .returned (.bool true) ∧ Below w.heap.size w w' := by
  obtain ⟨k, h⟩ := P a0_0 l0_1 l0_2 l0_3 l1 q0 q1 q2 q3 q4 q5 q6 q7 q8
  refine (laws_FnExactRenameRegisters.calls k a0_0 A0_1 c0_1 l0_1.length l0_1 A0_2 c0_2 l0_2.length l0_2 A0_3 c0_3 l0_3.length l0_3 A1 c1 l1.length l1 (Below.refl _ _) (Fr.start w) (fun W hW => Kd.C_below hr0_1 hW.below) hc0_1 (fun W hW => Kd.C_below hr0_2 hW.below) hc0_2 (fun W hW => Kd.C_below hr0_3 hW.below) hc0_3 (fun W hW => Kd.C_below hr1 hW.below) hc1 true h).mono ?_
  rintro e w' ⟨s, rfl, hF⟩
  exact ⟨rfl, hF.bel⟩
end Go.Proofs.Ytjioedcbcdppeaa.RS
