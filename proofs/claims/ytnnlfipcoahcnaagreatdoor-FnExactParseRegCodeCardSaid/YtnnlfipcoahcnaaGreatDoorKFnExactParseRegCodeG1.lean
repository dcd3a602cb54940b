import Derived.Test.YtnnlfipcoahcnaaGreatDoorKFnExactParseRegCodeG1p3
namespace Go.Proofs.YtnnlfipcoahcnaaGreatDoor.G1
open Go.RowKit Go.Proofs.YtnnlfipcoahcnaaGreatDoor.Frame Go.Proofs.YtnnlfipcoahcnaaGreatDoorW.PrintLast Go.Proofs.YtnnlfipcoahcnaaGreatDoor.Hand
open Go.Proofs.YtnnlfipcoahcnaaGreatDoorW.PrintWords hiding mn mx
set_option linter.unusedVariables false
/-! ### loop.example/g01098/laws.eqIntS: function 59 -/
def laws_eqIntS.l0 (l0 : List Int) (l1 : List Int) : Nat → Int → Option ((Bool) ⊕ (Unit))
  | 0, _ => none
  | k5 + 1, i2 => if i2 < (l0.length : Int) then ((gt l0 i2).bind fun y16 => (gt l1 i2).bind fun y19 => if y16 ≠ y19 then (some (.inl false)) else (laws_eqIntS.l0 l0 l1 k5 (w64 (i2 + 1)))) else (some (.inr ()))
def laws_eqIntS.f (k : Nat) (l0 : List Int) (l1 : List Int) : Option Bool := if (l0.length : Int) ≠ (l1.length : Int) then (some false) else ((laws_eqIntS.l0 l0 l1 k 0).bind fun o_ => match o_ with | .inl r_ => some r_ | .inr _ => some true)
set_option maxHeartbeats 600000 in
set_option maxRecDepth 100000 in
theorem laws_eqIntS.calls (k : Nat) {w0 ws : World} {P0 : Nat → Prop} (A0 : Option Addr) (c0 : Nat) (n0 : Nat) (l0 : List Int) (A1 : Option Addr) (c1 : Nat) (n1 : Nat) (l1 : List Int) (Z : Below w0.heap.size w0 ws) (hF : Fr w0 ws P0 [] ws) (R0 : Stable ws P0 (fun w => Kd.C (Kd.int .i64) w A0 n0 l0)) (hc0 : n0 ≤ c0) (R1 : Stable ws P0 (fun w => Kd.C (Kd.int .i64) w A1 n1 l1)) (hc1 : n1 ≤ c1) (r_1 : Bool) (h : laws_eqIntS.f k l0 l1 = some r_1) :
    Calls Tryz.prog 59 #[.slice A0 n0 c0, .slice A1 n1 c1] ws (Post1 w0 ws P0 (fun (_ : Unit) => .bool r_1) (fun (_ : Unit) => [])) := by
  unfold laws_eqIntS.f at h
  obtain rfl := (R0 ws (KeptB.refl _ _)).1
  obtain rfl := (R1 ws (KeptB.refl _ _)).1
  refine enter Tryz.func59 rfl Tryz.ntmps59 rfl hF ?_
  refine c_seq ?_
  refine za0 ?_
  refine o_q rfl rfl (q_asg rfl) ?_
  refine o_end ?_
  refine za1 ?_
  refine c_seq ?_
  refine c_seq ?_
  refine za0 ?_
  refine o_q rfl rfl (za2 rfl) ?_
  refine o_q rfl rfl (q_len Tryz.underlying25 rfl) ?_
  refine o_q rfl rfl (za2 rfl) ?_
  refine o_q rfl rfl (q_len Tryz.underlying25 rfl) ?_
  refine o_q rfl rfl (q_neq rfl rfl) ?_
  refine o_end ?_
  refine za1 ?_
  refine zaq _ rfl (fun hb1 => ?_) (fun hb1 => ?_)
  · skip
    replace h := br_t hb1 h
    refine c_seq ?_
    refine za0 ?_
    refine o_q rfl rfl (q_asg rfl) ?_
    refine o_end ?_
    refine za1 ?_
    refine c_ret ?_
    refine za5 ?_
    have e0_ := Option.some.inj h; clear h
    subst e0_
    exact x_r1 () Tryz.results59 (zaf rfl) rfl (fun w h => za7 [] (by decide) rfl w h)
  · skip
    replace h := br_f hb1 h
    refine zak ?_
    refine za1 ?_
    refine c_seq ?_
    refine c_seq ?_
    refine za0 ?_
    refine o_q rfl rfl (q_asg rfl) ?_
    refine o_end ?_
    refine za1 ?_
    refine zal ?_
    refine za6 h (fun o10 hl9 hR8 => ?_) rfl
    clear h
    refine zb1 (σ := Int) (fun k5 (i2 : Int) => laws_eqIntS.l0 l0 l1 k5 i2 = some o10) [4, 5, 11, 12, 13, 14, 15, 16, 17, 18, 19, 20, 21, 22, 23, 24, 25] (fun (i2 : Int) => [(5, .int .i64 i2)]) (fun (i2 : Int) => []) k 0 hl9 ⟨rfl, trivial⟩ (fun w h => h) ?_
    refine natC (fun i2 => fun U11 hJ_ => ?_) (fun k5 => (fun i2 => fun U11 hJ_ => ?_))
    · skip
      replace hJ_ : laws_eqIntS.l0 l0 l1 0 i2 = some o10 := hJ_
      rw [laws_eqIntS.l0] at hJ_
      exact noneE hJ_
    · skip
      clear hl9
      have h := hJ_; clear hJ_
      replace h : laws_eqIntS.l0 l0 l1 (k5 + 1) i2 = some o10 := h
      rw [laws_eqIntS.l0] at h
      refine c_seq ?_
      refine c_seq ?_
      refine za0 ?_
      refine o_q rfl rfl (za2 rfl) ?_
      refine o_q rfl rfl (za2 rfl) ?_
      refine o_q rfl rfl (q_len Tryz.underlying25 rfl) ?_
      refine o_q rfl rfl (q_lss rfl rfl) ?_
      refine o_end ?_
      refine za1 ?_
      refine zaq _ rfl (fun hb13 => ?_) (fun hb13 => ?_)
      · skip
        replace h := br_t hb13 h
        refine zak ?_
        refine za1 ?_
        refine c_seq ?_
        refine zal ?_
        refine c_seq ?_
        refine a_start (ds := []) MO rfl ?_
        refine zab 0 rfl rfl rfl (by kernel_rfl) (fun _ _ _ h => h) (za2 rfl) ?_
        refine zab 1 rfl rfl rfl (by kernel_rfl) (fun _ _ _ h => h) (za2 rfl) ?_
        refine a_fact (p := Sh A0 l0.length l0.length) (fun w h => f_sh (dk := (Kd.int .i64)) h (fun w h => R0.now Z h)) (fun hq14 => ?_)
        refine za6 h (fun y16 hg15 h => ?_) rfl
        refine zab 2 rfl rfl rfl (by kernel_rfl) (fun _ _ _ h => h) (q_ix Tryz.underlying25 Z3 rfl rfl hq14 hg15) ?_
        refine zaz 3 rfl rfl rfl (by kernel_rfl) (fun _ _ _ h => h) (fun w h => h) (q_lde (off := 0) Y3 rfl rfl (fun w h => R0.now Z h) hg15 (fun _ _ h => h) rfl) ?_
        refine zab 4 rfl rfl rfl (by kernel_rfl) (fun _ _ _ h => h) (za2 rfl) ?_
        refine zab 5 rfl rfl rfl (by kernel_rfl) (fun _ _ _ h => h) (za2 rfl) ?_
        refine a_fact (p := Sh A1 l1.length l1.length) (fun w h => f_sh (dk := (Kd.int .i64)) h (fun w h => R1.now Z h)) (fun hq17 => ?_)
        refine za6 h (fun y19 hg18 h => ?_) rfl
        refine zab 6 rfl rfl rfl (by kernel_rfl) (fun _ _ _ h => h) (q_ix Tryz.underlying25 Z3 rfl rfl hq17 hg18) ?_
        refine zaz 7 rfl rfl rfl (by kernel_rfl) (fun _ _ _ h => h) (fun w h => h) (q_lde (off := 0) Y3 rfl rfl (fun w h => R1.now Z h) hg18 (fun _ _ h => h) rfl) ?_
        refine zab 8 rfl rfl rfl (by kernel_rfl) (fun _ _ _ h => h) (q_neq rfl rfl) ?_
        refine zay (by kernel_rfl) ?_
        refine za1 ?_
        refine zaq _ rfl (fun hb20 => ?_) (fun hb20 => ?_)
        · skip
          replace h := br_t hb20 h
          refine c_seq ?_
          refine za0 ?_
          refine o_q rfl rfl (q_asg rfl) ?_
          refine o_end ?_
          refine za1 ?_
          refine c_ret ?_
          refine zah ?_
          refine za5 ?_
          refine za5 ?_
          have e_ := Option.some.inj h; replace h := hR8; rw [← e_] at h; clear e_
          refine zah ?_
          refine za5 ?_
          have e0_ := Option.some.inj h; clear h
          subst e0_
          exact x_r1 () Tryz.results59 (zaf rfl) rfl (fun w h => za7 [] (by decide) rfl w h)
        · skip
          replace h := br_f hb20 h
          refine zak ?_
          refine zaw ?_
          refine za1 ?_
          refine za0 ?_
          refine o_q rfl rfl (za2 rfl) ?_
          refine o_q rfl rfl (q_add64 rfl rfl) ?_
          refine o_q rfl rfl (q_asg rfl) ?_
          refine o_end ?_
          refine zao k5 (w64 (i2 + 1)) (Nat.lt_succ_self _) h ⟨rfl, trivial⟩ (fun w h => za7 [] (by decide) rfl w h) ?_
          repeat (first | exact zac _ _ | refine zai rfl ?_ | refine zad rfl ?_ | refine zaj rfl ?_)
      · skip
        replace h := br_f hb13 h
        refine c_exit ?_
        refine zaa ?_
        refine zaa ?_
        have e_ := Option.some.inj h; replace h := hR8; rw [← e_] at h; clear e_
        refine x_hit ?_
        refine za1 ?_
        refine c_seq ?_
        refine za0 ?_
        refine o_q rfl rfl (q_asg rfl) ?_
        refine o_end ?_
        refine za1 ?_
        refine c_ret ?_
        have e0_ := Option.some.inj h; clear h
        subst e0_
        exact x_r1 () Tryz.results59 (zaf rfl) rfl (fun w h => za7 [] (by decide) rfl w h)

/-! ### loop.example/g01098/laws.eqRegOp: function 100 -/
def laws_eqRegOp.f (a0 : SRegOp) (a1 : SRegOp) : Option Bool := if a0.f0 ≠ a1.f0 then (some false) else (if a0.f1 ≠ a1.f1 then (some false) else (if a0.f2 ≠ a1.f2 then (some false) else (some true)))
set_option maxHeartbeats 600000 in
set_option maxRecDepth 100000 in
theorem laws_eqRegOp.calls {w0 ws : World} {P0 : Nat → Prop} (a0 : SRegOp) (a1 : SRegOp) (Z : Below w0.heap.size w0 ws) (hF : Fr w0 ws P0 [] ws)  (r_1 : Bool) (h : laws_eqRegOp.f a0 a1 = some r_1) :
    Calls Tryz.prog 100 #[.agg #[.int .i64 a0.f0, .int .i64 a0.f1, .int .i64 a0.f2], .agg #[.int .i64 a1.f0, .int .i64 a1.f1, .int .i64 a1.f2]] ws (Post1 w0 ws P0 (fun (_ : Unit) => .bool r_1) (fun (_ : Unit) => [])) := by
  unfold laws_eqRegOp.f at h
  refine enter Tryz.func100 rfl Tryz.ntmps100 rfl hF ?_
  refine c_seq ?_
  refine za0 ?_
  refine o_e rfl (e_box rfl) (fun g1 => ?_)
  refine o_e rfl (e_box rfl) (fun g3 => ?_)
  refine o_q rfl rfl (q_asg rfl) ?_
  refine o_end ?_
  refine za1 ?_
  refine c_seq ?_
  refine c_seq ?_
  refine za0 ?_
  refine o_q rfl rfl (q_f F84_0 rfl) ?_
  refine o_q rfl rfl (q_ldb Y3 rfl (fun w h => h.zae (i := 1) rfl) rfl) ?_
  refine o_q rfl rfl (q_f F84_0 rfl) ?_
  refine o_q rfl rfl (q_ldb Y3 rfl (fun w h => h.zae (i := 0) rfl) rfl) ?_
  refine o_q rfl rfl (q_neq rfl rfl) ?_
  refine o_end ?_
  refine za1 ?_
  refine zaq _ rfl (fun hb5 => ?_) (fun hb5 => ?_)
  · skip
    replace h := br_t hb5 h
    refine c_seq ?_
    refine za0 ?_
    refine o_q rfl rfl (q_asg rfl) ?_
    refine o_end ?_
    refine za1 ?_
    refine c_ret ?_
    refine za5 ?_
    have e0_ := Option.some.inj h; clear h
    subst e0_
    exact x_r1 () Tryz.results100 (zaf rfl) rfl (fun w h => za7 [] (by decide) rfl w h)
  · skip
    replace h := br_f hb5 h
    refine zak ?_
    refine za1 ?_
    refine c_seq ?_
    refine c_seq ?_
    refine za0 ?_
    refine o_q rfl rfl (q_f F84_1 rfl) ?_
    refine o_q rfl rfl (q_ldb Y3 rfl (fun w h => h.zae (i := 1) rfl) rfl) ?_
    refine o_q rfl rfl (q_f F84_1 rfl) ?_
    refine o_q rfl rfl (q_ldb Y3 rfl (fun w h => h.zae (i := 0) rfl) rfl) ?_
    refine o_q rfl rfl (q_neq rfl rfl) ?_
    refine o_end ?_
    refine za1 ?_
    refine zaq _ rfl (fun hb6 => ?_) (fun hb6 => ?_)
    · skip
      replace h := br_t hb6 h
      refine c_seq ?_
      refine za0 ?_
      refine o_q rfl rfl (q_asg rfl) ?_
      refine o_end ?_
      refine za1 ?_
      refine c_ret ?_
      refine za5 ?_
      have e0_ := Option.some.inj h; clear h
      subst e0_
      exact x_r1 () Tryz.results100 (zaf rfl) rfl (fun w h => za7 [] (by decide) rfl w h)
    · skip
      replace h := br_f hb6 h
      refine zak ?_
      refine za1 ?_
      refine c_seq ?_
      refine c_seq ?_
      refine za0 ?_
      refine o_q rfl rfl (q_f F84_2 rfl) ?_
      refine o_q rfl rfl (q_ldb Y3 rfl (fun w h => h.zae (i := 1) rfl) rfl) ?_
      refine o_q rfl rfl (q_f F84_2 rfl) ?_
      refine o_q rfl rfl (q_ldb Y3 rfl (fun w h => h.zae (i := 0) rfl) rfl) ?_
      refine o_q rfl rfl (q_neq rfl rfl) ?_
      refine o_end ?_
      refine za1 ?_
      refine zaq _ rfl (fun hb7 => ?_) (fun hb7 => ?_)
      · skip
        replace h := br_t hb7 h
        refine c_seq ?_
        refine za0 ?_
        refine o_q rfl rfl (q_asg rfl) ?_
        refine o_end ?_
        refine za1 ?_
        refine c_ret ?_
        refine za5 ?_
        have e0_ := Option.some.inj h; clear h
        subst e0_
        exact x_r1 () Tryz.results100 (zaf rfl) rfl (fun w h => za7 [] (by decide) rfl w h)
      · skip
        replace h := br_f hb7 h
        refine zak ?_
        refine za1 ?_
        refine c_seq ?_
        refine za0 ?_
        refine o_q rfl rfl (q_asg rfl) ?_
        refine o_end ?_
        refine za1 ?_
        refine c_ret ?_
        have e0_ := Option.some.inj h; clear h
        subst e0_
        exact x_r1 () Tryz.results100 (zaf rfl) rfl (fun w h => za7 [] (by decide) rfl w h)

/-! ### loop.example/g01098/laws.eqRegOpS: function 60 -/
def laws_eqRegOpS.l0 (l0 : List SRegOp) (l1 : List SRegOp) : Nat → Int → Option ((Bool) ⊕ (Unit))
  | 0, _ => none
  | k5 + 1, i2 => if i2 < (l0.length : Int) then ((gt l0 i2).bind fun y16 => (gt l1 i2).bind fun y19 => (laws_eqRegOp.f y16 y19).bind fun b21 => if b21 = true then (laws_eqRegOpS.l0 l0 l1 k5 (w64 (i2 + 1))) else (some (.inl false))) else (some (.inr ()))
def laws_eqRegOpS.f (k : Nat) (l0 : List SRegOp) (l1 : List SRegOp) : Option Bool := if (l0.length : Int) ≠ (l1.length : Int) then (some false) else ((laws_eqRegOpS.l0 l0 l1 k 0).bind fun o_ => match o_ with | .inl r_ => some r_ | .inr _ => some true)
set_option maxHeartbeats 600000 in
set_option maxRecDepth 100000 in
theorem laws_eqRegOpS.calls (k : Nat) {w0 ws : World} {P0 : Nat → Prop} (A0 : Option Addr) (c0 : Nat) (n0 : Nat) (l0 : List SRegOp) (A1 : Option Addr) (c1 : Nat) (n1 : Nat) (l1 : List SRegOp) (Z : Below w0.heap.size w0 ws) (hF : Fr w0 ws P0 [] ws) (R0 : Stable ws P0 (fun w => Kd.C zax w A0 n0 l0)) (hc0 : n0 ≤ c0) (R1 : Stable ws P0 (fun w => Kd.C zax w A1 n1 l1)) (hc1 : n1 ≤ c1) (r_1 : Bool) (h : laws_eqRegOpS.f k l0 l1 = some r_1) :
    Calls Tryz.prog 60 #[.slice A0 n0 c0, .slice A1 n1 c1] ws (Post1 w0 ws P0 (fun (_ : Unit) => .bool r_1) (fun (_ : Unit) => [])) := by
  unfold laws_eqRegOpS.f at h
  obtain rfl := (R0 ws (KeptB.refl _ _)).1
  obtain rfl := (R1 ws (KeptB.refl _ _)).1
  refine enter Tryz.func60 rfl Tryz.ntmps60 rfl hF ?_
  refine c_seq ?_
  refine za0 ?_
  refine o_q rfl rfl (q_asg rfl) ?_
  refine o_end ?_
  refine za1 ?_
  refine c_seq ?_
  refine c_seq ?_
  refine za0 ?_
  refine o_q rfl rfl (za2 rfl) ?_
  refine o_q rfl rfl (q_len Tryz.underlying36 rfl) ?_
  refine o_q rfl rfl (za2 rfl) ?_
  refine o_q rfl rfl (q_len Tryz.underlying36 rfl) ?_
  refine o_q rfl rfl (q_neq rfl rfl) ?_
  refine o_end ?_
  refine za1 ?_
  refine zaq _ rfl (fun hb1 => ?_) (fun hb1 => ?_)
  · skip
    replace h := br_t hb1 h
    refine c_seq ?_
    refine za0 ?_
    refine o_q rfl rfl (q_asg rfl) ?_
    refine o_end ?_
    refine za1 ?_
    refine c_ret ?_
    refine za5 ?_
    have e0_ := Option.some.inj h; clear h
    subst e0_
    exact x_r1 () Tryz.results60 (zaf rfl) rfl (fun w h => za7 [] (by decide) rfl w h)
  · skip
    replace h := br_f hb1 h
    refine zak ?_
    refine za1 ?_
    refine c_seq ?_
    refine c_seq ?_
    refine za0 ?_
    refine o_q rfl rfl (q_asg rfl) ?_
    refine o_end ?_
    refine za1 ?_
    refine zal ?_
    refine za6 h (fun o10 hl9 hR8 => ?_) rfl
    clear h
    refine zb1 (σ := Int) (fun k5 (i2 : Int) => laws_eqRegOpS.l0 l0 l1 k5 i2 = some o10) [4, 5, 11, 12, 13, 14, 15, 16, 17, 18, 19, 20, 21, 22, 23, 24, 25, 26] (fun (i2 : Int) => [(5, .int .i64 i2)]) (fun (i2 : Int) => []) k 0 hl9 ⟨rfl, trivial⟩ (fun w h => h) ?_
    refine natC (fun i2 => fun U11 hJ_ => ?_) (fun k5 => (fun i2 => fun U11 hJ_ => ?_))
    · skip
      replace hJ_ : laws_eqRegOpS.l0 l0 l1 0 i2 = some o10 := hJ_
      rw [laws_eqRegOpS.l0] at hJ_
      exact noneE hJ_
    · skip
      clear hl9
      have h := hJ_; clear hJ_
      replace h : laws_eqRegOpS.l0 l0 l1 (k5 + 1) i2 = some o10 := h
      rw [laws_eqRegOpS.l0] at h
      refine c_seq ?_
      refine c_seq ?_
      refine za0 ?_
      refine o_q rfl rfl (za2 rfl) ?_
      refine o_q rfl rfl (za2 rfl) ?_
      refine o_q rfl rfl (q_len Tryz.underlying36 rfl) ?_
      refine o_q rfl rfl (q_lss rfl rfl) ?_
      refine o_end ?_
      refine za1 ?_
      refine zaq _ rfl (fun hb13 => ?_) (fun hb13 => ?_)
      · skip
        replace h := br_t hb13 h
        refine zak ?_
        refine za1 ?_
        refine c_seq ?_
        refine zal ?_
        refine c_seq ?_
        refine a_start (ds := []) MO rfl ?_
        refine zab 0 rfl rfl rfl (by kernel_rfl) (fun _ _ _ h => h) (za2 rfl) ?_
        refine zab 1 rfl rfl rfl (by kernel_rfl) (fun _ _ _ h => h) (za2 rfl) ?_
        refine a_fact (p := Sh A0 l0.length l0.length) (fun w h => f_sh (dk := zax) h (fun w h => R0.now Z h)) (fun hq14 => ?_)
        refine za6 h (fun y16 hg15 h => ?_) rfl
        refine zab 2 rfl rfl rfl (by kernel_rfl) (fun _ _ _ h => h) (q_ix Tryz.underlying36 Z84 rfl rfl hq14 hg15) ?_
        refine zaz 3 rfl rfl rfl (by kernel_rfl) (fun _ _ _ h => h) (fun w h => h) (q_ldE G84 Z84 rfl rfl (fun w h => R0.now Z h) hg15 (fun _ _ h => h) rfl) ?_
        refine zab 4 rfl rfl rfl (by kernel_rfl) (fun _ _ _ h => h) (za2 rfl) ?_
        refine zab 5 rfl rfl rfl (by kernel_rfl) (fun _ _ _ h => h) (za2 rfl) ?_
        refine a_fact (p := Sh A1 l1.length l1.length) (fun w h => f_sh (dk := zax) h (fun w h => R1.now Z h)) (fun hq17 => ?_)
        refine za6 h (fun y19 hg18 h => ?_) rfl
        refine zab 6 rfl rfl rfl (by kernel_rfl) (fun _ _ _ h => h) (q_ix Tryz.underlying36 Z84 rfl rfl hq17 hg18) ?_
        refine zaz 7 rfl rfl rfl (by kernel_rfl) (fun _ _ _ h => h) (fun w h => h) (q_ldE G84 Z84 rfl rfl (fun w h => R1.now Z h) hg18 (fun _ _ h => h) rfl) ?_
        refine za6 h (fun b21 hx20 h => ?_) rfl
        refine a_one 8 rfl rfl (by kernel_rfl) rfl (za9 0 Z Tryz.func100 N100 rfl rfl rfl (fun w P1 hF hB hS hT => laws_eqRegOp.calls y16 y19 hB hF _ hx20)) (fun s w h => h) (fun _ => ?_)
        refine zab 9 rfl rfl rfl (by kernel_rfl) (fun _ _ _ h => h) (q_not rfl) ?_
        refine zay (by kernel_rfl) ?_
        refine za1 ?_
        refine zaq _ rfl (fun hb22 => ?_) (fun hb22 => ?_)
        · replace hb22 := nt_t hb22
          replace h := bb_f hb22 h
          refine c_seq ?_
          refine za0 ?_
          refine o_q rfl rfl (q_asg rfl) ?_
          refine o_end ?_
          refine za1 ?_
          refine c_ret ?_
          refine zah ?_
          refine za5 ?_
          refine za5 ?_
          have e_ := Option.some.inj h; replace h := hR8; rw [← e_] at h; clear e_
          refine zah ?_
          refine za5 ?_
          have e0_ := Option.some.inj h; clear h
          subst e0_
          exact x_r1 () Tryz.results60 (zaf rfl) rfl (fun w h => za7 [] (by decide) rfl w h)
        · replace hb22 := nt_f hb22
          replace h := bb_t hb22 h
          refine zak ?_
          refine zaw ?_
          refine za1 ?_
          refine za0 ?_
          refine o_q rfl rfl (za2 rfl) ?_
          refine o_q rfl rfl (q_add64 rfl rfl) ?_
          refine o_q rfl rfl (q_asg rfl) ?_
          refine o_end ?_
          refine zao k5 (w64 (i2 + 1)) (Nat.lt_succ_self _) h ⟨rfl, trivial⟩ (fun w h => za7 [] (by decide) rfl w h) ?_
          repeat (first | exact zac _ _ | refine zai rfl ?_ | refine zad rfl ?_ | refine zaj rfl ?_)
      · skip
        replace h := br_f hb13 h
        refine c_exit ?_
        refine zaa ?_
        refine zaa ?_
        have e_ := Option.some.inj h; replace h := hR8; rw [← e_] at h; clear e_
        refine x_hit ?_
        refine za1 ?_
        refine c_seq ?_
        refine za0 ?_
        refine o_q rfl rfl (q_asg rfl) ?_
        refine o_end ?_
        refine za1 ?_
        refine c_ret ?_
        have e0_ := Option.some.inj h; clear h
        subst e0_
        exact x_r1 () Tryz.results60 (zaf rfl) rfl (fun w h => za7 [] (by decide) rfl w h)

/-! ### loop.example/g01098/laws.eqRegCode: function 17 -/
def laws_eqRegCode.f (k : Nat) (a0_0 : Int) (l0_1 : List Int) (l0_2 : List SRegOp) (l0_3 : List Int) (a1_0 : Int) (l1_1 : List Int) (l1_2 : List SRegOp) (l1_3 : List Int) : Option Bool := if a0_0 ≠ a1_0 then (some false) else ((laws_eqIntS.f k l0_1 l1_1).bind fun b7 => if b7 = true then ((laws_eqRegOpS.f k l0_2 l1_2).bind fun b10 => if b10 = true then ((laws_eqIntS.f k l0_3 l1_3).bind fun b13 => if b13 = true then (some true) else (some false)) else (some false)) else (some false))
set_option maxHeartbeats 600000 in
set_option maxRecDepth 100000 in
theorem laws_eqRegCode.calls (k : Nat) {w0 ws : World} {P0 : Nat → Prop} (a0_0 : Int) (A0_1 : Option Addr) (c0_1 : Nat) (n0_1 : Nat) (l0_1 : List Int) (A0_2 : Option Addr) (c0_2 : Nat) (n0_2 : Nat) (l0_2 : List SRegOp) (A0_3 : Option Addr) (c0_3 : Nat) (n0_3 : Nat) (l0_3 : List Int) (a1_0 : Int) (A1_1 : Option Addr) (c1_1 : Nat) (n1_1 : Nat) (l1_1 : List Int) (A1_2 : Option Addr) (c1_2 : Nat) (n1_2 : Nat) (l1_2 : List SRegOp) (A1_3 : Option Addr) (c1_3 : Nat) (n1_3 : Nat) (l1_3 : List Int) (Z : Below w0.heap.size w0 ws) (hF : Fr w0 ws P0 [] ws) (R0_1 : Stable ws P0 (fun w => Kd.C (Kd.int .i64) w A0_1 n0_1 l0_1)) (hc0_1 : n0_1 ≤ c0_1) (R0_2 : Stable ws P0 (fun w => Kd.C zax w A0_2 n0_2 l0_2)) (hc0_2 : n0_2 ≤ c0_2) (R0_3 : Stable ws P0 (fun w => Kd.C (Kd.int .i64) w A0_3 n0_3 l0_3)) (hc0_3 : n0_3 ≤ c0_3) (R1_1 : Stable ws P0 (fun w => Kd.C (Kd.int .i64) w A1_1 n1_1 l1_1)) (hc1_1 : n1_1 ≤ c1_1) (R1_2 : Stable ws P0 (fun w => Kd.C zax w A1_2 n1_2 l1_2)) (hc1_2 : n1_2 ≤ c1_2) (R1_3 : Stable ws P0 (fun w => Kd.C (Kd.int .i64) w A1_3 n1_3 l1_3)) (hc1_3 : n1_3 ≤ c1_3) (r_1 : Bool) (h : laws_eqRegCode.f k a0_0 l0_1 l0_2 l0_3 a1_0 l1_1 l1_2 l1_3 = some r_1) :
    Calls Tryz.prog 17 #[.agg #[.int .i64 a0_0, .slice A0_1 n0_1 c0_1, .slice A0_2 n0_2 c0_2, .slice A0_3 n0_3 c0_3], .agg #[.int .i64 a1_0, .slice A1_1 n1_1 c1_1, .slice A1_2 n1_2 c1_2, .slice A1_3 n1_3 c1_3]] ws (Post1 w0 ws P0 (fun (_ : Unit) => .bool r_1) (fun (_ : Unit) => [])) := by
  unfold laws_eqRegCode.f at h
  obtain rfl := (R0_1 ws (KeptB.refl _ _)).1
  obtain rfl := (R0_2 ws (KeptB.refl _ _)).1
  obtain rfl := (R0_3 ws (KeptB.refl _ _)).1
  obtain rfl := (R1_1 ws (KeptB.refl _ _)).1
  obtain rfl := (R1_2 ws (KeptB.refl _ _)).1
  obtain rfl := (R1_3 ws (KeptB.refl _ _)).1
  refine enter Tryz.func17 rfl Tryz.ntmps17 rfl hF ?_
  refine c_seq ?_
  refine za0 ?_
  refine o_e rfl (e_box rfl) (fun g1 => ?_)
  refine o_e rfl (e_box rfl) (fun g3 => ?_)
  refine o_q rfl rfl (q_asg rfl) ?_
  refine o_end ?_
  refine za1 ?_
  refine c_seq ?_
  refine c_seq ?_
  refine za0 ?_
  refine o_q rfl rfl (q_f F38_0 rfl) ?_
  refine o_q rfl rfl (q_ldb Y3 rfl (fun w h => h.zae (i := 1) rfl) rfl) ?_
  refine o_q rfl rfl (q_f F38_0 rfl) ?_
  refine o_q rfl rfl (q_ldb Y3 rfl (fun w h => h.zae (i := 0) rfl) rfl) ?_
  refine o_q rfl rfl (q_neq rfl rfl) ?_
  refine o_end ?_
  refine za1 ?_
  refine zaq _ rfl (fun hb5 => ?_) (fun hb5 => ?_)
  · skip
    replace h := br_t hb5 h
    refine c_seq ?_
    refine za0 ?_
    refine o_q rfl rfl (q_asg rfl) ?_
    refine o_end ?_
    refine za1 ?_
    refine c_ret ?_
    refine za5 ?_
    have e0_ := Option.some.inj h; clear h
    subst e0_
    exact x_r1 () Tryz.results17 (zaf rfl) rfl (fun w h => za7 [] (by decide) rfl w h)
  · skip
    replace h := br_f hb5 h
    refine zak ?_
    refine za1 ?_
    refine c_seq ?_
    refine c_seq ?_
    refine za0 ?_
    refine o_q rfl rfl (q_f F38_1 rfl) ?_
    refine o_q rfl rfl (q_ldb Y25 rfl (fun w h => h.zae (i := 1) rfl) rfl) ?_
    refine o_q rfl rfl (q_f F38_1 rfl) ?_
    refine o_q rfl rfl (q_ldb Y25 rfl (fun w h => h.zae (i := 0) rfl) rfl) ?_
    refine za6 h (fun b7 hx6 h => ?_) rfl
    refine o_e rfl (za9 0 Z Tryz.func59 N59 rfl rfl rfl (fun w P1 hF hB hS hT => laws_eqIntS.calls k A0_1 c0_1 l0_1.length l0_1 A1_1 c1_1 l1_1.length l1_1 hB hF (hS _ R0_1) hc0_1 (hS _ R1_1) hc1_1 _ hx6)) (fun _ => ?_)
    refine o_q rfl rfl (q_not rfl) ?_
    refine o_end ?_
    refine za1 ?_
    refine zaq _ rfl (fun hb8 => ?_) (fun hb8 => ?_)
    · replace hb8 := nt_t hb8
      replace h := bb_f hb8 h
      refine c_seq ?_
      refine za0 ?_
      refine o_q rfl rfl (q_asg rfl) ?_
      refine o_end ?_
      refine za1 ?_
      refine c_ret ?_
      refine za5 ?_
      have e0_ := Option.some.inj h; clear h
      subst e0_
      exact x_r1 () Tryz.results17 (zaf rfl) rfl (fun w h => za7 [] (by decide) rfl w h)
    · replace hb8 := nt_f hb8
      replace h := bb_t hb8 h
      refine zak ?_
      refine za1 ?_
      refine c_seq ?_
      refine c_seq ?_
      refine za0 ?_
      refine o_q rfl rfl (q_f F38_2 rfl) ?_
      refine o_q rfl rfl (q_ldb Y36 rfl (fun w h => h.zae (i := 1) rfl) rfl) ?_
      refine o_q rfl rfl (q_f F38_2 rfl) ?_
      refine o_q rfl rfl (q_ldb Y36 rfl (fun w h => h.zae (i := 0) rfl) rfl) ?_
      refine za6 h (fun b10 hx9 h => ?_) rfl
      refine o_e rfl (za9 0 Z Tryz.func60 N60 rfl rfl rfl (fun w P1 hF hB hS hT => laws_eqRegOpS.calls k A0_2 c0_2 l0_2.length l0_2 A1_2 c1_2 l1_2.length l1_2 hB hF (hS _ R0_2) hc0_2 (hS _ R1_2) hc1_2 _ hx9)) (fun _ => ?_)
      refine o_q rfl rfl (q_not rfl) ?_
      refine o_end ?_
      refine za1 ?_
      refine zaq _ rfl (fun hb11 => ?_) (fun hb11 => ?_)
      · replace hb11 := nt_t hb11
        replace h := bb_f hb11 h
        refine c_seq ?_
        refine za0 ?_
        refine o_q rfl rfl (q_asg rfl) ?_
        refine o_end ?_
        refine za1 ?_
        refine c_ret ?_
        refine za5 ?_
        have e0_ := Option.some.inj h; clear h
        subst e0_
        exact x_r1 () Tryz.results17 (zaf rfl) rfl (fun w h => za7 [] (by decide) rfl w h)
      · replace hb11 := nt_f hb11
        replace h := bb_t hb11 h
        refine zak ?_
        refine za1 ?_
        refine c_seq ?_
        refine c_seq ?_
        refine za0 ?_
        refine o_q rfl rfl (q_f F38_3 rfl) ?_
        refine o_q rfl rfl (q_ldb Y25 rfl (fun w h => h.zae (i := 1) rfl) rfl) ?_
        refine o_q rfl rfl (q_f F38_3 rfl) ?_
        refine o_q rfl rfl (q_ldb Y25 rfl (fun w h => h.zae (i := 0) rfl) rfl) ?_
        refine za6 h (fun b13 hx12 h => ?_) rfl
        refine o_e rfl (za9 0 Z Tryz.func59 N59 rfl rfl rfl (fun w P1 hF hB hS hT => laws_eqIntS.calls k A0_3 c0_3 l0_3.length l0_3 A1_3 c1_3 l1_3.length l1_3 hB hF (hS _ R0_3) hc0_3 (hS _ R1_3) hc1_3 _ hx12)) (fun _ => ?_)
        refine o_q rfl rfl (q_not rfl) ?_
        refine o_end ?_
        refine za1 ?_
        refine zaq _ rfl (fun hb14 => ?_) (fun hb14 => ?_)
        · replace hb14 := nt_t hb14
          replace h := bb_f hb14 h
          refine c_seq ?_
          refine za0 ?_
          refine o_q rfl rfl (q_asg rfl) ?_
          refine o_end ?_
          refine za1 ?_
          refine c_ret ?_
          refine za5 ?_
          have e0_ := Option.some.inj h; clear h
          subst e0_
          exact x_r1 () Tryz.results17 (zaf rfl) rfl (fun w h => za7 [] (by decide) rfl w h)
        · replace hb14 := nt_f hb14
          replace h := bb_t hb14 h
          refine zak ?_
          refine za1 ?_
          refine c_seq ?_
          refine za0 ?_
          refine o_q rfl rfl (q_asg rfl) ?_
          refine o_end ?_
          refine za1 ?_
          refine c_ret ?_
          have e0_ := Option.some.inj h; clear h
          subst e0_
          exact x_r1 () Tryz.results17 (zaf rfl) rfl (fun w h => za7 [] (by decide) rfl w h)

/-! ### loop.example/g01098/laws.markIntS: function 61 -/
def laws_markIntS.l0 (l0 : List Int) : Nat → (List Int) → Int → Int → Option ((List Int) × Int)
  | 0, _, _, _ => none
  | k6 + 1, l1, i2, i3 => if i3 < (l0.length : Int) then ((gt l1 i3).bind fun y17 => (st l1 i3 i2).bind fun l18 => laws_markIntS.l0 l0 k6 l18 (w64 (i2 + 1)) (w64 (i3 + 1))) else (some (l1, i2))
def laws_markIntS.f (k : Nat) (l0 : List Int) (a1 : Int) : Option (Int × (List Int)) := (laws_markIntS.l0 l0 k l0 a1 0).bind fun (l1, i2) => some (i2, l1)
set_option maxHeartbeats 600000 in
set_option maxRecDepth 100000 in
theorem laws_markIntS.calls (k : Nat) {w0 ws : World} {P0 : Nat → Prop} (A0 : Option Addr) (c0 : Nat) (n0 : Nat) (l0 : List Int) (a1 : Int) (Z : Below w0.heap.size w0 ws) (hF : Fr w0 ws P0 [row (Kd.int .i64) 3 (.slice A0 n0 c0) l0] ws)  (r_1 : Int) (r_2 : List Int) (h : laws_markIntS.f k l0 a1 = some (r_1, r_2)) :
    Calls Tryz.prog 61 #[.slice A0 n0 c0, .int .i64 a1] ws (Post1 w0 ws P0 (fun (_ : Unit) => .int .i64 r_1) (fun (_ : Unit) => [row (Kd.int .i64) 3 (.slice A0 n0 c0) r_2])) := by
  unfold laws_markIntS.f at h
  obtain rfl := (hF.row_C (i := 0) rfl).2.1
  refine enter Tryz.func61 rfl Tryz.ntmps61 rfl hF ?_
  refine c_seq ?_
  refine za0 ?_
  refine o_q rfl rfl (q_asg rfl) ?_
  refine o_end ?_
  refine za1 ?_
  refine c_seq ?_
  refine c_seq ?_
  refine za0 ?_
  refine o_q rfl rfl (q_asg rfl) ?_
  refine o_end ?_
  refine za1 ?_
  refine zal ?_
  refine za6 h (fun o11 hl10 hR9 => ?_) rfl
  clear h
  refine zb1 (σ := (List Int) × Int × Int) (fun k6 ((l1, i2, i3) : (List Int) × Int × Int) => laws_markIntS.l0 l0 k6 l1 i2 i3 = some o11) [1, 5, 6, 7, 8, 9, 10, 11, 12, 13, 14, 15, 16, 17] (fun ((l1, i2, i3) : (List Int) × Int × Int) => [(1, .int .i64 i2), (5, .int .i64 i3)]) (fun ((l1, i2, i3) : (List Int) × Int × Int) => [row (Kd.int .i64) 3 (.slice A0 l0.length c0) l1]) k (l0, a1, 0) hl10 ⟨rfl, rfl, trivial⟩ (fun w h => h) ?_
  refine natC (cur3 (fun l1 i2 i3 => fun U12 hJ_ => ?_)) (fun k6 => (cur3 (fun l1 i2 i3 => fun U12 hJ_ => ?_)))
  · skip
    replace hJ_ : laws_markIntS.l0 l0 0 l1 i2 i3 = some o11 := hJ_
    rw [laws_markIntS.l0] at hJ_
    exact noneE hJ_
  · skip
    clear hl10
    have h := hJ_; clear hJ_
    replace h : laws_markIntS.l0 l0 (k6 + 1) l1 i2 i3 = some o11 := h
    rw [laws_markIntS.l0] at h
    refine c_seq ?_
    refine c_seq ?_
    refine za0 ?_
    refine o_q rfl rfl (za2 rfl) ?_
    refine o_q rfl rfl (za2 rfl) ?_
    refine o_q rfl rfl (q_len Tryz.underlying25 rfl) ?_
    refine o_q rfl rfl (q_lss rfl rfl) ?_
    refine o_end ?_
    refine za1 ?_
    refine zaq _ rfl (fun hb14 => ?_) (fun hb14 => ?_)
    · skip
      replace h := br_t hb14 h
      refine zak ?_
      refine za1 ?_
      refine c_seq ?_
      refine zal ?_
      refine c_seq ?_
      refine za0 ?_
      refine o_q rfl rfl (za2 rfl) ?_
      refine o_q rfl rfl (za2 rfl) ?_
      refine o_q rfl rfl (za2 rfl) ?_
      refine zb2 (p := Sh A0 l0.length l1.length) (fun w h => f_sh (dk := (Kd.int .i64)) h (fun w h => h.zan (i := 0) rfl)) (fun hq15 => ?_)
      refine za6 h (fun y17 hg16 h => ?_) rfl
      refine o_q rfl rfl (q_ix Tryz.underlying25 Z3 rfl rfl hq15 hg16) ?_
      refine za6 h (fun l18 hs19 h => ?_) rfl
      refine o_e rfl (e_set (i := 0) rfl rfl rfl Z3 hs19) (fun _ => ?_)
      refine o_end ?_
      refine za1 ?_
      refine za0 ?_
      refine o_q rfl rfl (za2 rfl) ?_
      refine o_q rfl rfl (q_add64 rfl rfl) ?_
      refine o_q rfl rfl (q_asg rfl) ?_
      refine o_end ?_
      refine zaw ?_
      refine za1 ?_
      refine za0 ?_
      refine o_q rfl rfl (za2 rfl) ?_
      refine o_q rfl rfl (q_add64 rfl rfl) ?_
      refine o_q rfl rfl (q_asg rfl) ?_
      refine o_end ?_
      refine zao k6 (l18, w64 (i2 + 1), w64 (i3 + 1)) (Nat.lt_succ_self _) h ⟨rfl, rfl, trivial⟩ (fun w h => za7 [0] (by decide) rfl w h) ?_
      repeat (first | exact zac _ _ | refine zai rfl ?_ | refine zad rfl ?_ | refine zaj rfl ?_)
    · skip
      replace h := br_f hb14 h
      refine c_exit ?_
      refine zaa ?_
      refine zaa ?_
      have e_ := Option.some.inj h; replace h := hR9; rw [← e_] at h; clear e_
      refine x_hit ?_
      refine za1 ?_
      refine c_seq ?_
      refine za0 ?_
      refine o_q rfl rfl (za2 rfl) ?_
      refine o_q rfl rfl (q_asg rfl) ?_
      refine o_end ?_
      refine za1 ?_
      refine c_ret ?_
      have e0_ := Option.some.inj h; clear h
      have d0_ := (Prod.mk.inj e0_).1; have e1_ := (Prod.mk.inj e0_).2; clear e0_; subst d0_
      subst e1_
      exact x_r1 () Tryz.results61 (zaf rfl) rfl (fun w h => za7 [0] (by decide) rfl w h)

/-! ### loop.example/g01098/laws.markRegOpS: function 62 -/
def laws_markRegOpS.l0 (l0 : List SRegOp) : Nat → (List SRegOp) → Int → Int → Option ((List SRegOp) × Int)
  | 0, _, _, _ => none
  | k6 + 1, l1, i2, i3 => if i3 < (l0.length : Int) then ((gt l1 i3).bind fun y17 => (st l1 i3 (⟨i2, y17.f1, y17.f2⟩ : SRegOp)).bind fun l18 => (gt l18 i3).bind fun y22 => (st l18 i3 (⟨y22.f0, w64 (i2 + 1), y22.f2⟩ : SRegOp)).bind fun l23 => (gt l23 i3).bind fun y27 => (st l23 i3 (⟨y27.f0, y27.f1, w64 (w64 (i2 + 1) + 1)⟩ : SRegOp)).bind fun l28 => laws_markRegOpS.l0 l0 k6 l28 (w64 (w64 (w64 (i2 + 1) + 1) + 1)) (w64 (i3 + 1))) else (some (l1, i2))
def laws_markRegOpS.f (k : Nat) (l0 : List SRegOp) (a1 : Int) : Option (Int × (List SRegOp)) := (laws_markRegOpS.l0 l0 k l0 a1 0).bind fun (l1, i2) => some (i2, l1)
set_option maxHeartbeats 600000 in
set_option maxRecDepth 100000 in
theorem laws_markRegOpS.calls (k : Nat) {w0 ws : World} {P0 : Nat → Prop} (A0 : Option Addr) (c0 : Nat) (n0 : Nat) (l0 : List SRegOp) (a1 : Int) (Z : Below w0.heap.size w0 ws) (hF : Fr w0 ws P0 [row zax 84 (.slice A0 n0 c0) l0] ws)  (r_1 : Int) (r_2 : List SRegOp) (h : laws_markRegOpS.f k l0 a1 = some (r_1, r_2)) :
    Calls Tryz.prog 62 #[.slice A0 n0 c0, .int .i64 a1] ws (Post1 w0 ws P0 (fun (_ : Unit) => .int .i64 r_1) (fun (_ : Unit) => [row zax 84 (.slice A0 n0 c0) r_2])) := by
  unfold laws_markRegOpS.f at h
  obtain rfl := (hF.row_C (i := 0) rfl).2.1
  refine enter Tryz.func62 rfl Tryz.ntmps62 rfl hF ?_
  refine c_seq ?_
  refine za0 ?_
  refine o_q rfl rfl (q_asg rfl) ?_
  refine o_end ?_
  refine za1 ?_
  refine c_seq ?_
  refine c_seq ?_
  refine za0 ?_
  refine o_q rfl rfl (q_asg rfl) ?_
  refine o_end ?_
  refine za1 ?_
  refine zal ?_
  refine za6 h (fun o11 hl10 hR9 => ?_) rfl
  clear h
  refine zb1 (σ := (List SRegOp) × Int × Int) (fun k6 ((l1, i2, i3) : (List SRegOp) × Int × Int) => laws_markRegOpS.l0 l0 k6 l1 i2 i3 = some o11) [1, 5, 6, 7, 8, 9, 10, 11, 12, 13, 14, 15, 16, 17, 18, 19, 20, 21, 22, 23, 24, 25, 26, 27, 28, 29, 30, 31, 32] (fun ((l1, i2, i3) : (List SRegOp) × Int × Int) => [(1, .int .i64 i2), (5, .int .i64 i3)]) (fun ((l1, i2, i3) : (List SRegOp) × Int × Int) => [row zax 84 (.slice A0 l0.length c0) l1]) k (l0, a1, 0) hl10 ⟨rfl, rfl, trivial⟩ (fun w h => h) ?_
  refine natC (cur3 (fun l1 i2 i3 => fun U12 hJ_ => ?_)) (fun k6 => (cur3 (fun l1 i2 i3 => fun U12 hJ_ => ?_)))
  · skip
    replace hJ_ : laws_markRegOpS.l0 l0 0 l1 i2 i3 = some o11 := hJ_
    rw [laws_markRegOpS.l0] at hJ_
    exact noneE hJ_
  · skip
    clear hl10
    have h := hJ_; clear hJ_
    replace h : laws_markRegOpS.l0 l0 (k6 + 1) l1 i2 i3 = some o11 := h
    rw [laws_markRegOpS.l0] at h
    refine c_seq ?_
    refine c_seq ?_
    refine za0 ?_
    refine o_q rfl rfl (za2 rfl) ?_
    refine o_q rfl rfl (za2 rfl) ?_
    refine o_q rfl rfl (q_len Tryz.underlying36 rfl) ?_
    refine o_q rfl rfl (q_lss rfl rfl) ?_
    refine o_end ?_
    refine za1 ?_
    refine zaq _ rfl (fun hb14 => ?_) (fun hb14 => ?_)
    · skip
      replace h := br_t hb14 h
      refine zak ?_
      refine za1 ?_
      refine c_seq ?_
      refine zal ?_
      refine c_seq ?_
      refine za0 ?_
      refine o_q rfl rfl (za2 rfl) ?_
      refine o_q rfl rfl (za2 rfl) ?_
      refine o_q rfl rfl (za2 rfl) ?_
      refine zb2 (p := Sh A0 l0.length l1.length) (fun w h => f_sh (dk := zax) h (fun w h => h.zan (i := 0) rfl)) (fun hq15 => ?_)
      refine za6 h (fun y17 hg16 h => ?_) rfl
      refine o_q rfl rfl (q_ix Tryz.underlying36 Z84 rfl rfl hq15 hg16) ?_
      refine o_q rfl rfl (q_fe F84_0 rfl) ?_
      refine za6 h (fun l18 hs19 h => ?_) rfl
      refine o_e rfl (e_setF (i := 0) (off := 0) (vs := [.int .i64 i2]) (q' := (⟨i2, y17.f1, y17.f2⟩ : SRegOp)) rfl rfl rfl rfl rfl rfl Z3 hg16 rfl rfl hs19) (fun _ => ?_)
      refine o_end ?_
      refine za1 ?_
      refine c_seq ?_
      refine za0 ?_
      refine o_q rfl rfl (za2 rfl) ?_
      refine o_q rfl rfl (q_add64 rfl rfl) ?_
      refine o_q rfl rfl (q_asg rfl) ?_
      refine o_end ?_
      refine za1 ?_
      refine c_seq ?_
      refine za0 ?_
      refine o_q rfl rfl (za2 rfl) ?_
      refine o_q rfl rfl (za2 rfl) ?_
      refine o_q rfl rfl (za2 rfl) ?_
      refine zb2 (p := Sh A0 l0.length l18.length) (fun w h => f_sh (dk := zax) h (fun w h => h.zan (i := 0) rfl)) (fun hq20 => ?_)
      refine za6 h (fun y22 hg21 h => ?_) rfl
      refine o_q rfl rfl (q_ix Tryz.underlying36 Z84 rfl rfl hq20 hg21) ?_
      refine o_q rfl rfl (q_fe F84_1 rfl) ?_
      refine za6 h (fun l23 hs24 h => ?_) rfl
      refine o_e rfl (e_setF (i := 0) (off := 1) (vs := [.int .i64 (w64 (i2 + 1))]) (q' := (⟨y22.f0, w64 (i2 + 1), y22.f2⟩ : SRegOp)) rfl rfl rfl rfl rfl rfl Z3 hg21 rfl rfl hs24) (fun _ => ?_)
      refine o_end ?_
      refine za1 ?_
      refine c_seq ?_
      refine za0 ?_
      refine o_q rfl rfl (za2 rfl) ?_
      refine o_q rfl rfl (q_add64 rfl rfl) ?_
      refine o_q rfl rfl (q_asg rfl) ?_
      refine o_end ?_
      refine za1 ?_
      refine c_seq ?_
      refine za0 ?_
      refine o_q rfl rfl (za2 rfl) ?_
      refine o_q rfl rfl (za2 rfl) ?_
      refine o_q rfl rfl (za2 rfl) ?_
      refine zb2 (p := Sh A0 l0.length l23.length) (fun w h => f_sh (dk := zax) h (fun w h => h.zan (i := 0) rfl)) (fun hq25 => ?_)
      refine za6 h (fun y27 hg26 h => ?_) rfl
      refine o_q rfl rfl (q_ix Tryz.underlying36 Z84 rfl rfl hq25 hg26) ?_
      refine o_q rfl rfl (q_fe F84_2 rfl) ?_
      refine za6 h (fun l28 hs29 h => ?_) rfl
      refine o_e rfl (e_setF (i := 0) (off := 2) (vs := [.int .i64 (w64 (w64 (i2 + 1) + 1))]) (q' := (⟨y27.f0, y27.f1, w64 (w64 (i2 + 1) + 1)⟩ : SRegOp)) rfl rfl rfl rfl rfl rfl Z3 hg26 rfl rfl hs29) (fun _ => ?_)
      refine o_end ?_
      refine za1 ?_
      refine za0 ?_
      refine o_q rfl rfl (za2 rfl) ?_
      refine o_q rfl rfl (q_add64 rfl rfl) ?_
      refine o_q rfl rfl (q_asg rfl) ?_
      refine o_end ?_
      refine zaw ?_
      refine za1 ?_
      refine za0 ?_
      refine o_q rfl rfl (za2 rfl) ?_
      refine o_q rfl rfl (q_add64 rfl rfl) ?_
      refine o_q rfl rfl (q_asg rfl) ?_
      refine o_end ?_
      refine zao k6 (l28, w64 (w64 (w64 (i2 + 1) + 1) + 1), w64 (i3 + 1)) (Nat.lt_succ_self _) h ⟨rfl, rfl, trivial⟩ (fun w h => za7 [0] (by decide) rfl w h) ?_
      repeat (first | exact zac _ _ | refine zai rfl ?_ | refine zad rfl ?_ | refine zaj rfl ?_)
    · skip
      replace h := br_f hb14 h
      refine c_exit ?_
      refine zaa ?_
      refine zaa ?_
      have e_ := Option.some.inj h; replace h := hR9; rw [← e_] at h; clear e_
      refine x_hit ?_
      refine za1 ?_
      refine c_seq ?_
      refine za0 ?_
      refine o_q rfl rfl (za2 rfl) ?_
      refine o_q rfl rfl (q_asg rfl) ?_
      refine o_end ?_
      refine za1 ?_
      refine c_ret ?_
      have e0_ := Option.some.inj h; clear h
      have d0_ := (Prod.mk.inj e0_).1; have e1_ := (Prod.mk.inj e0_).2; clear e0_; subst d0_
      subst e1_
      exact x_r1 () Tryz.results62 (zaf rfl) rfl (fun w h => za7 [0] (by decide) rfl w h)

/-! ### loop.example/g01098/laws.markRegCode: function 18 -/
def laws_markRegCode.f (k : Nat) (a0_0 : Int) (l0_1 : List Int) (l0_2 : List SRegOp) (l0_3 : List Int) (a1 : Int) : Option (Int × (List Int) × (List SRegOp) × (List Int)) := (laws_markIntS.f k l0_1 a1).bind fun (i4, l5) => (laws_markRegOpS.f k l0_2 i4).bind fun (i7, l8) => (laws_markIntS.f k l0_3 i7).bind fun (i10, l11) => some (i10, l5, l8, l11)
set_option maxHeartbeats 600000 in
set_option maxRecDepth 100000 in
theorem laws_markRegCode.calls (k : Nat) {w0 ws : World} {P0 : Nat → Prop} (a0_0 : Int) (A0_1 : Option Addr) (c0_1 : Nat) (n0_1 : Nat) (l0_1 : List Int) (A0_2 : Option Addr) (c0_2 : Nat) (n0_2 : Nat) (l0_2 : List SRegOp) (A0_3 : Option Addr) (c0_3 : Nat) (n0_3 : Nat) (l0_3 : List Int) (a1 : Int) (Z : Below w0.heap.size w0 ws) (hF : Fr w0 ws P0 [row (Kd.int .i64) 3 (.slice A0_1 n0_1 c0_1) l0_1, row zax 84 (.slice A0_2 n0_2 c0_2) l0_2, row (Kd.int .i64) 3 (.slice A0_3 n0_3 c0_3) l0_3] ws)  (r_1 : Int) (r_2 : List Int) (r_3 : List SRegOp) (r_4 : List Int) (h : laws_markRegCode.f k a0_0 l0_1 l0_2 l0_3 a1 = some (r_1, r_2, r_3, r_4)) :
    Calls Tryz.prog 18 #[.agg #[.int .i64 a0_0, .slice A0_1 n0_1 c0_1, .slice A0_2 n0_2 c0_2, .slice A0_3 n0_3 c0_3], .int .i64 a1] ws (Post1 w0 ws P0 (fun (_ : Unit) => .int .i64 r_1) (fun (_ : Unit) => [row (Kd.int .i64) 3 (.slice A0_1 n0_1 c0_1) r_2, row zax 84 (.slice A0_2 n0_2 c0_2) r_3, row (Kd.int .i64) 3 (.slice A0_3 n0_3 c0_3) r_4])) := by
  unfold laws_markRegCode.f at h
  obtain rfl := (hF.row_C (i := 0) rfl).2.1
  obtain rfl := (hF.row_C (i := 1) rfl).2.1
  obtain rfl := (hF.row_C (i := 2) rfl).2.1
  refine enter Tryz.func18 rfl Tryz.ntmps18 rfl hF ?_
  refine c_seq ?_
  refine za0 ?_
  refine o_e rfl (e_box rfl) (fun g1 => ?_)
  refine o_q rfl rfl (q_asg rfl) ?_
  refine o_end ?_
  refine za1 ?_
  refine c_seq ?_
  refine za0 ?_
  refine o_q rfl rfl (q_f F38_1 rfl) ?_
  refine o_q rfl rfl (q_ldb Y25 rfl (fun w h => h.zae (i := 0) rfl) rfl) ?_
  refine o_q rfl rfl (za2 rfl) ?_
  refine o_pick [1, 0, 2, 3] (by decide) rfl ?_
  refine bindE2 h (fun i4 l5 hx3 h => ?_) rfl
  refine o_e rfl (za9 1 Z Tryz.func61 N61 rfl rfl rfl (fun w P1 hF hB hS hT => laws_markIntS.calls k A0_1 c0_1 l0_1.length l0_1 a1 hB hF _ _ hx3)) (fun _ => ?_)
  refine o_q rfl rfl (q_asg rfl) ?_
  refine o_end ?_
  refine za1 ?_
  refine c_seq ?_
  refine za0 ?_
  refine o_q rfl rfl (q_f F38_2 rfl) ?_
  refine o_q rfl rfl (q_ldb Y36 rfl (fun w h => h.zae (i := 1) rfl) rfl) ?_
  refine o_q rfl rfl (za2 rfl) ?_
  refine o_pick [2, 0, 1, 3] (by decide) rfl ?_
  refine bindE2 h (fun i7 l8 hx6 h => ?_) rfl
  refine o_e rfl (za9 1 Z Tryz.func62 N62 rfl rfl rfl (fun w P1 hF hB hS hT => laws_markRegOpS.calls k A0_2 c0_2 l0_2.length l0_2 i4 hB hF _ _ hx6)) (fun _ => ?_)
  refine o_q rfl rfl (q_asg rfl) ?_
  refine o_end ?_
  refine za1 ?_
  refine c_seq ?_
  refine za0 ?_
  refine o_q rfl rfl (q_f F38_3 rfl) ?_
  refine o_q rfl rfl (q_ldb Y25 rfl (fun w h => h.zae (i := 2) rfl) rfl) ?_
  refine o_q rfl rfl (za2 rfl) ?_
  refine o_pick [3, 0, 1, 2] (by decide) rfl ?_
  refine bindE2 h (fun i10 l11 hx9 h => ?_) rfl
  refine o_e rfl (za9 1 Z Tryz.func61 N61 rfl rfl rfl (fun w P1 hF hB hS hT => laws_markIntS.calls k A0_3 c0_3 l0_3.length l0_3 i7 hB hF _ _ hx9)) (fun _ => ?_)
  refine o_q rfl rfl (q_asg rfl) ?_
  refine o_end ?_
  refine za1 ?_
  refine c_seq ?_
  refine za0 ?_
  refine o_q rfl rfl (za2 rfl) ?_
  refine o_q rfl rfl (q_asg rfl) ?_
  refine o_end ?_
  refine za1 ?_
  refine c_ret ?_
  have e0_ := Option.some.inj h; clear h
  have d0_ := (Prod.mk.inj e0_).1; have e1_ := (Prod.mk.inj e0_).2; clear e0_; subst d0_
  have d1_ := (Prod.mk.inj e1_).1; have e2_ := (Prod.mk.inj e1_).2; clear e1_; subst d1_
  have d2_ := (Prod.mk.inj e2_).1; have e3_ := (Prod.mk.inj e2_).2; clear e2_; subst d2_
  subst e3_
  exact x_r1 () Tryz.results18 (zaf rfl) rfl (fun w h => za7 [2, 1, 0] (by decide) rfl w h)

/-! ### loop.example/g01098/laws.heldIntS: function 63 -/
def laws_heldIntS.l0 (l0 : List Int) : Nat → Int → Int → Option ((Int) ⊕ (Int))
  | 0, _, _ => none
  | k5 + 1, i1, i2 => if i2 < (l0.length : Int) then ((gt l0 i2).bind fun y16 => if y16 ≠ i1 then (some (.inl (-1))) else (laws_heldIntS.l0 l0 k5 (w64 (i1 + 1)) (w64 (i2 + 1)))) else (some (.inr i1))
def laws_heldIntS.f (k : Nat) (l0 : List Int) (a1 : Int) : Option Int := (laws_heldIntS.l0 l0 k a1 0).bind fun o_ => match o_ with | .inl r_ => some r_ | .inr i1 => some i1
set_option maxHeartbeats 600000 in
set_option maxRecDepth 100000 in
theorem laws_heldIntS.calls (k : Nat) {w0 ws : World} {P0 : Nat → Prop} (A0 : Option Addr) (c0 : Nat) (n0 : Nat) (l0 : List Int) (a1 : Int) (Z : Below w0.heap.size w0 ws) (hF : Fr w0 ws P0 [] ws) (R0 : Stable ws P0 (fun w => Kd.C (Kd.int .i64) w A0 n0 l0)) (hc0 : n0 ≤ c0) (r_1 : Int) (h : laws_heldIntS.f k l0 a1 = some r_1) :
    Calls Tryz.prog 63 #[.slice A0 n0 c0, .int .i64 a1] ws (Post1 w0 ws P0 (fun (_ : Unit) => .int .i64 r_1) (fun (_ : Unit) => [])) := by
  unfold laws_heldIntS.f at h
  obtain rfl := (R0 ws (KeptB.refl _ _)).1
  refine enter Tryz.func63 rfl Tryz.ntmps63 rfl hF ?_
  refine c_seq ?_
  refine za0 ?_
  refine o_q rfl rfl (q_asg rfl) ?_
  refine o_end ?_
  refine za1 ?_
  refine c_seq ?_
  refine c_seq ?_
  refine za0 ?_
  refine o_q rfl rfl (q_asg rfl) ?_
  refine o_end ?_
  refine za1 ?_
  refine zal ?_
  refine za6 h (fun o10 hl9 hR8 => ?_) rfl
  clear h
  refine zb1 (σ := Int × Int) (fun k5 ((i1, i2) : Int × Int) => laws_heldIntS.l0 l0 k5 i1 i2 = some o10) [1, 4, 5, 6, 7, 8, 9, 10, 11, 12, 13, 14, 15, 16, 17, 18, 19] (fun ((i1, i2) : Int × Int) => [(1, .int .i64 i1), (5, .int .i64 i2)]) (fun ((i1, i2) : Int × Int) => []) k (a1, 0) hl9 ⟨rfl, rfl, trivial⟩ (fun w h => h) ?_
  refine natC (cur2 (fun i1 i2 => fun U11 hJ_ => ?_)) (fun k5 => (cur2 (fun i1 i2 => fun U11 hJ_ => ?_)))
  · skip
    replace hJ_ : laws_heldIntS.l0 l0 0 i1 i2 = some o10 := hJ_
    rw [laws_heldIntS.l0] at hJ_
    exact noneE hJ_
  · skip
    clear hl9
    have h := hJ_; clear hJ_
    replace h : laws_heldIntS.l0 l0 (k5 + 1) i1 i2 = some o10 := h
    rw [laws_heldIntS.l0] at h
    refine c_seq ?_
    refine c_seq ?_
    refine za0 ?_
    refine o_q rfl rfl (za2 rfl) ?_
    refine o_q rfl rfl (za2 rfl) ?_
    refine o_q rfl rfl (q_len Tryz.underlying25 rfl) ?_
    refine o_q rfl rfl (q_lss rfl rfl) ?_
    refine o_end ?_
    refine za1 ?_
    refine zaq _ rfl (fun hb13 => ?_) (fun hb13 => ?_)
    · skip
      replace h := br_t hb13 h
      refine zak ?_
      refine za1 ?_
      refine c_seq ?_
      refine zal ?_
      refine c_seq ?_
      refine c_seq ?_
      refine za0 ?_
      refine o_q rfl rfl (za2 rfl) ?_
      refine o_q rfl rfl (za2 rfl) ?_
      refine zb2 (p := Sh A0 l0.length l0.length) (fun w h => f_sh (dk := (Kd.int .i64)) h (fun w h => R0.now Z h)) (fun hq14 => ?_)
      refine za6 h (fun y16 hg15 h => ?_) rfl
      refine o_q rfl rfl (q_ix Tryz.underlying25 Z3 rfl rfl hq14 hg15) ?_
      refine o_q rfl rfl (q_lde (off := 0) Y3 rfl rfl (fun w h => R0.now Z h) hg15 (fun _ _ h => h) rfl) ?_
      refine o_q rfl rfl (za2 rfl) ?_
      refine o_q rfl rfl (q_neq rfl rfl) ?_
      refine o_end ?_
      refine za1 ?_
      refine zaq _ rfl (fun hb17 => ?_) (fun hb17 => ?_)
      · skip
        replace h := br_t hb17 h
        refine c_seq ?_
        refine za0 ?_
        refine o_q rfl rfl (q_asg rfl) ?_
        refine o_end ?_
        refine za1 ?_
        refine c_ret ?_
        refine za5 ?_
        refine zah ?_
        refine za5 ?_
        refine za5 ?_
        have e_ := Option.some.inj h; replace h := hR8; rw [← e_] at h; clear e_
        refine zah ?_
        refine za5 ?_
        have e0_ := Option.some.inj h; clear h
        subst e0_
        exact x_r1 () Tryz.results63 (zaf rfl) rfl (fun w h => za7 [] (by decide) rfl w h)
      · skip
        replace h := br_f hb17 h
        refine zak ?_
        refine za1 ?_
        refine za0 ?_
        refine o_q rfl rfl (za2 rfl) ?_
        refine o_q rfl rfl (q_add64 rfl rfl) ?_
        refine o_q rfl rfl (q_asg rfl) ?_
        refine o_end ?_
        refine zaw ?_
        refine za1 ?_
        refine za0 ?_
        refine o_q rfl rfl (za2 rfl) ?_
        refine o_q rfl rfl (q_add64 rfl rfl) ?_
        refine o_q rfl rfl (q_asg rfl) ?_
        refine o_end ?_
        refine zao k5 (w64 (i1 + 1), w64 (i2 + 1)) (Nat.lt_succ_self _) h ⟨rfl, rfl, trivial⟩ (fun w h => za7 [] (by decide) rfl w h) ?_
        repeat (first | exact zac _ _ | refine zai rfl ?_ | refine zad rfl ?_ | refine zaj rfl ?_)
    · skip
      replace h := br_f hb13 h
      refine c_exit ?_
      refine zaa ?_
      refine zaa ?_
      have e_ := Option.some.inj h; replace h := hR8; rw [← e_] at h; clear e_
      refine x_hit ?_
      refine za1 ?_
      refine c_seq ?_
      refine za0 ?_
      refine o_q rfl rfl (za2 rfl) ?_
      refine o_q rfl rfl (q_asg rfl) ?_
      refine o_end ?_
      refine za1 ?_
      refine c_ret ?_
      have e0_ := Option.some.inj h; clear h
      subst e0_
      exact x_r1 () Tryz.results63 (zaf rfl) rfl (fun w h => za7 [] (by decide) rfl w h)

/-! ### loop.example/g01098/laws.heldRegOpS: function 64 -/
def laws_heldRegOpS.l0 (l0 : List SRegOp) : Nat → Int → Int → Option ((Int) ⊕ (Int))
  | 0, _, _ => none
  | k5 + 1, i1, i2 => if i2 < (l0.length : Int) then ((gt l0 i2).bind fun y16 => if y16.f0 ≠ i1 then (some (.inl (-1))) else ((gt l0 i2).bind fun y19 => if y19.f1 ≠ w64 (i1 + 1) then (some (.inl (-1))) else ((gt l0 i2).bind fun y22 => if y22.f2 ≠ w64 (w64 (i1 + 1) + 1) then (some (.inl (-1))) else (laws_heldRegOpS.l0 l0 k5 (w64 (w64 (w64 (i1 + 1) + 1) + 1)) (w64 (i2 + 1)))))) else (some (.inr i1))
def laws_heldRegOpS.f (k : Nat) (l0 : List SRegOp) (a1 : Int) : Option Int := (laws_heldRegOpS.l0 l0 k a1 0).bind fun o_ => match o_ with | .inl r_ => some r_ | .inr i1 => some i1
set_option maxHeartbeats 600000 in
set_option maxRecDepth 100000 in
theorem laws_heldRegOpS.calls (k : Nat) {w0 ws : World} {P0 : Nat → Prop} (A0 : Option Addr) (c0 : Nat) (n0 : Nat) (l0 : List SRegOp) (a1 : Int) (Z : Below w0.heap.size w0 ws) (hF : Fr w0 ws P0 [] ws) (R0 : Stable ws P0 (fun w => Kd.C zax w A0 n0 l0)) (hc0 : n0 ≤ c0) (r_1 : Int) (h : laws_heldRegOpS.f k l0 a1 = some r_1) :
    Calls Tryz.prog 64 #[.slice A0 n0 c0, .int .i64 a1] ws (Post1 w0 ws P0 (fun (_ : Unit) => .int .i64 r_1) (fun (_ : Unit) => [])) := by
  unfold laws_heldRegOpS.f at h
  obtain rfl := (R0 ws (KeptB.refl _ _)).1
  refine enter Tryz.func64 rfl Tryz.ntmps64 rfl hF ?_
  refine c_seq ?_
  refine za0 ?_
  refine o_q rfl rfl (q_asg rfl) ?_
  refine o_end ?_
  refine za1 ?_
  refine c_seq ?_
  refine c_seq ?_
  refine za0 ?_
  refine o_q rfl rfl (q_asg rfl) ?_
  refine o_end ?_
  refine za1 ?_
  refine zal ?_
  refine za6 h (fun o10 hl9 hR8 => ?_) rfl
  clear h
  refine zb1 (σ := Int × Int) (fun k5 ((i1, i2) : Int × Int) => laws_heldRegOpS.l0 l0 k5 i1 i2 = some o10) [1, 4, 5, 6, 7, 8, 9, 10, 11, 12, 13, 14, 15, 16, 17, 18, 19, 20, 21, 22, 23, 24, 25, 26, 27, 28, 29, 30, 31, 32, 33, 34, 35, 36, 37, 38] (fun ((i1, i2) : Int × Int) => [(1, .int .i64 i1), (5, .int .i64 i2)]) (fun ((i1, i2) : Int × Int) => []) k (a1, 0) hl9 ⟨rfl, rfl, trivial⟩ (fun w h => h) ?_
  refine natC (cur2 (fun i1 i2 => fun U11 hJ_ => ?_)) (fun k5 => (cur2 (fun i1 i2 => fun U11 hJ_ => ?_)))
  · skip
    replace hJ_ : laws_heldRegOpS.l0 l0 0 i1 i2 = some o10 := hJ_
    rw [laws_heldRegOpS.l0] at hJ_
    exact noneE hJ_
  · skip
    clear hl9
    have h := hJ_; clear hJ_
    replace h : laws_heldRegOpS.l0 l0 (k5 + 1) i1 i2 = some o10 := h
    rw [laws_heldRegOpS.l0] at h
    refine c_seq ?_
    refine c_seq ?_
    refine za0 ?_
    refine o_q rfl rfl (za2 rfl) ?_
    refine o_q rfl rfl (za2 rfl) ?_
    refine o_q rfl rfl (q_len Tryz.underlying36 rfl) ?_
    refine o_q rfl rfl (q_lss rfl rfl) ?_
    refine o_end ?_
    refine za1 ?_
    refine zaq _ rfl (fun hb13 => ?_) (fun hb13 => ?_)
    · skip
      replace h := br_t hb13 h
      refine zak ?_
      refine za1 ?_
      refine c_seq ?_
      refine zal ?_
      refine c_seq ?_
      refine c_seq ?_
      refine za0 ?_
      refine o_q rfl rfl (za2 rfl) ?_
      refine o_q rfl rfl (za2 rfl) ?_
      refine zb2 (p := Sh A0 l0.length l0.length) (fun w h => f_sh (dk := zax) h (fun w h => R0.now Z h)) (fun hq14 => ?_)
      refine za6 h (fun y16 hg15 h => ?_) rfl
      refine o_q rfl rfl (q_ix Tryz.underlying36 Z84 rfl rfl hq14 hg15) ?_
      refine o_q rfl rfl (q_fe F84_0 rfl) ?_
      refine o_q rfl rfl (q_lde (off := 0) Y3 rfl rfl (fun w h => R0.now Z h) hg15 (fun _ _ h => h) rfl) ?_
      refine o_q rfl rfl (za2 rfl) ?_
      refine o_q rfl rfl (q_neq rfl rfl) ?_
      refine o_end ?_
      refine za1 ?_
      refine zaq _ rfl (fun hb17 => ?_) (fun hb17 => ?_)
      · skip
        replace h := br_t hb17 h
        refine c_seq ?_
        refine za0 ?_
        refine o_q rfl rfl (q_asg rfl) ?_
        refine o_end ?_
        refine za1 ?_
        refine c_ret ?_
        refine za5 ?_
        refine zah ?_
        refine za5 ?_
        refine za5 ?_
        have e_ := Option.some.inj h; replace h := hR8; rw [← e_] at h; clear e_
        refine zah ?_
        refine za5 ?_
        have e0_ := Option.some.inj h; clear h
        subst e0_
        exact x_r1 () Tryz.results64 (zaf rfl) rfl (fun w h => za7 [] (by decide) rfl w h)
      · skip
        replace h := br_f hb17 h
        refine zak ?_
        refine za1 ?_
        refine c_seq ?_
        refine za0 ?_
        refine o_q rfl rfl (za2 rfl) ?_
        refine o_q rfl rfl (q_add64 rfl rfl) ?_
        refine o_q rfl rfl (q_asg rfl) ?_
        refine o_end ?_
        refine za1 ?_
        refine c_seq ?_
        refine c_seq ?_
        refine za0 ?_
        refine o_q rfl rfl (za2 rfl) ?_
        refine o_q rfl rfl (za2 rfl) ?_
        refine za6 h (fun y19 hg18 h => ?_) rfl
        refine o_q rfl rfl (q_ix Tryz.underlying36 Z84 rfl rfl hq14 hg18) ?_
        refine o_q rfl rfl (q_fe F84_1 rfl) ?_
        refine o_q rfl rfl (q_lde (off := 1) Y3 rfl rfl (fun w h => R0.now Z h) hg18 (fun _ _ h => h) rfl) ?_
        refine o_q rfl rfl (za2 rfl) ?_
        refine o_q rfl rfl (q_neq rfl rfl) ?_
        refine o_end ?_
        refine za1 ?_
        refine zaq _ rfl (fun hb20 => ?_) (fun hb20 => ?_)
        · skip
          replace h := br_t hb20 h
          refine c_seq ?_
          refine za0 ?_
          refine o_q rfl rfl (q_asg rfl) ?_
          refine o_end ?_
          refine za1 ?_
          refine c_ret ?_
          refine za5 ?_
          refine zah ?_
          refine za5 ?_
          refine za5 ?_
          have e_ := Option.some.inj h; replace h := hR8; rw [← e_] at h; clear e_
          refine zah ?_
          refine za5 ?_
          have e0_ := Option.some.inj h; clear h
          subst e0_
          exact x_r1 () Tryz.results64 (zaf rfl) rfl (fun w h => za7 [] (by decide) rfl w h)
        · skip
          replace h := br_f hb20 h
          refine zak ?_
          refine za1 ?_
          refine c_seq ?_
          refine za0 ?_
          refine o_q rfl rfl (za2 rfl) ?_
          refine o_q rfl rfl (q_add64 rfl rfl) ?_
          refine o_q rfl rfl (q_asg rfl) ?_
          refine o_end ?_
          refine za1 ?_
          refine c_seq ?_
          refine c_seq ?_
          refine za0 ?_
          refine o_q rfl rfl (za2 rfl) ?_
          refine o_q rfl rfl (za2 rfl) ?_
          refine za6 h (fun y22 hg21 h => ?_) rfl
          refine o_q rfl rfl (q_ix Tryz.underlying36 Z84 rfl rfl hq14 hg21) ?_
          refine o_q rfl rfl (q_fe F84_2 rfl) ?_
          refine o_q rfl rfl (q_lde (off := 2) Y3 rfl rfl (fun w h => R0.now Z h) hg21 (fun _ _ h => h) rfl) ?_
          refine o_q rfl rfl (za2 rfl) ?_
          refine o_q rfl rfl (q_neq rfl rfl) ?_
          refine o_end ?_
          refine za1 ?_
          refine zaq _ rfl (fun hb23 => ?_) (fun hb23 => ?_)
          · skip
            replace h := br_t hb23 h
            refine c_seq ?_
            refine za0 ?_
            refine o_q rfl rfl (q_asg rfl) ?_
            refine o_end ?_
            refine za1 ?_
            refine c_ret ?_
            refine za5 ?_
            refine zah ?_
            refine za5 ?_
            refine za5 ?_
            have e_ := Option.some.inj h; replace h := hR8; rw [← e_] at h; clear e_
            refine zah ?_
            refine za5 ?_
            have e0_ := Option.some.inj h; clear h
            subst e0_
            exact x_r1 () Tryz.results64 (zaf rfl) rfl (fun w h => za7 [] (by decide) rfl w h)
          · skip
            replace h := br_f hb23 h
            refine zak ?_
            refine za1 ?_
            refine za0 ?_
            refine o_q rfl rfl (za2 rfl) ?_
            refine o_q rfl rfl (q_add64 rfl rfl) ?_
            refine o_q rfl rfl (q_asg rfl) ?_
            refine o_end ?_
            refine zaw ?_
            refine za1 ?_
            refine za0 ?_
            refine o_q rfl rfl (za2 rfl) ?_
            refine o_q rfl rfl (q_add64 rfl rfl) ?_
            refine o_q rfl rfl (q_asg rfl) ?_
            refine o_end ?_
            refine zao k5 (w64 (w64 (w64 (i1 + 1) + 1) + 1), w64 (i2 + 1)) (Nat.lt_succ_self _) h ⟨rfl, rfl, trivial⟩ (fun w h => za7 [] (by decide) rfl w h) ?_
            repeat (first | exact zac _ _ | refine zai rfl ?_ | refine zad rfl ?_ | refine zaj rfl ?_)
    · skip
      replace h := br_f hb13 h
      refine c_exit ?_
      refine zaa ?_
      refine zaa ?_
      have e_ := Option.some.inj h; replace h := hR8; rw [← e_] at h; clear e_
      refine x_hit ?_
      refine za1 ?_
      refine c_seq ?_
      refine za0 ?_
      refine o_q rfl rfl (za2 rfl) ?_
      refine o_q rfl rfl (q_asg rfl) ?_
      refine o_end ?_
      refine za1 ?_
      refine c_ret ?_
      have e0_ := Option.some.inj h; clear h
      subst e0_
      exact x_r1 () Tryz.results64 (zaf rfl) rfl (fun w h => za7 [] (by decide) rfl w h)

/-! ### loop.example/g01098/laws.heldRegCode: function 19 -/
def laws_heldRegCode.f (k : Nat) (a0_0 : Int) (l0_1 : List Int) (l0_2 : List SRegOp) (l0_3 : List Int) (a1 : Int) : Option Int := (laws_heldIntS.f k l0_1 a1).bind fun i4 => if i4 < 0 then (some (-1)) else ((laws_heldRegOpS.f k l0_2 i4).bind fun i7 => if i7 < 0 then (some (-1)) else ((laws_heldIntS.f k l0_3 i7).bind fun i10 => if i10 < 0 then (some (-1)) else (some i10)))
set_option maxHeartbeats 600000 in
set_option maxRecDepth 100000 in
theorem laws_heldRegCode.calls (k : Nat) {w0 ws : World} {P0 : Nat → Prop} (a0_0 : Int) (A0_1 : Option Addr) (c0_1 : Nat) (n0_1 : Nat) (l0_1 : List Int) (A0_2 : Option Addr) (c0_2 : Nat) (n0_2 : Nat) (l0_2 : List SRegOp) (A0_3 : Option Addr) (c0_3 : Nat) (n0_3 : Nat) (l0_3 : List Int) (a1 : Int) (Z : Below w0.heap.size w0 ws) (hF : Fr w0 ws P0 [] ws) (R0_1 : Stable ws P0 (fun w => Kd.C (Kd.int .i64) w A0_1 n0_1 l0_1)) (hc0_1 : n0_1 ≤ c0_1) (R0_2 : Stable ws P0 (fun w => Kd.C zax w A0_2 n0_2 l0_2)) (hc0_2 : n0_2 ≤ c0_2) (R0_3 : Stable ws P0 (fun w => Kd.C (Kd.int .i64) w A0_3 n0_3 l0_3)) (hc0_3 : n0_3 ≤ c0_3) (r_1 : Int) (h : laws_heldRegCode.f k a0_0 l0_1 l0_2 l0_3 a1 = some r_1) :
    Calls Tryz.prog 19 #[.agg #[.int .i64 a0_0, .slice A0_1 n0_1 c0_1, .slice A0_2 n0_2 c0_2, .slice A0_3 n0_3 c0_3], .int .i64 a1] ws (Post1 w0 ws P0 (fun (_ : Unit) => .int .i64 r_1) (fun (_ : Unit) => [])) := by
  unfold laws_heldRegCode.f at h
  obtain rfl := (R0_1 ws (KeptB.refl _ _)).1
  obtain rfl := (R0_2 ws (KeptB.refl _ _)).1
  obtain rfl := (R0_3 ws (KeptB.refl _ _)).1
  refine enter Tryz.func19 rfl Tryz.ntmps19 rfl hF ?_
  refine c_seq ?_
  refine za0 ?_
  refine o_e rfl (e_box rfl) (fun g1 => ?_)
  refine o_q rfl rfl (q_asg rfl) ?_
  refine o_end ?_
  refine za1 ?_
  refine c_seq ?_
  refine za0 ?_
  refine o_q rfl rfl (q_f F38_1 rfl) ?_
  refine o_q rfl rfl (q_ldb Y25 rfl (fun w h => h.zae (i := 0) rfl) rfl) ?_
  refine o_q rfl rfl (za2 rfl) ?_
  refine za6 h (fun i4 hx3 h => ?_) rfl
  refine o_e rfl (za9 0 Z Tryz.func63 N63 rfl rfl rfl (fun w P1 hF hB hS hT => laws_heldIntS.calls k A0_1 c0_1 l0_1.length l0_1 a1 hB hF (hS _ R0_1) hc0_1 _ hx3)) (fun _ => ?_)
  refine o_q rfl rfl (q_asg rfl) ?_
  refine o_end ?_
  refine za1 ?_
  refine c_seq ?_
  refine c_seq ?_
  refine za0 ?_
  refine o_q rfl rfl (za2 rfl) ?_
  refine o_q rfl rfl (q_lss rfl rfl) ?_
  refine o_end ?_
  refine za1 ?_
  refine zaq _ rfl (fun hb5 => ?_) (fun hb5 => ?_)
  · skip
    replace h := br_t hb5 h
    refine c_seq ?_
    refine za0 ?_
    refine o_q rfl rfl (q_asg rfl) ?_
    refine o_end ?_
    refine za1 ?_
    refine c_ret ?_
    refine za5 ?_
    have e0_ := Option.some.inj h; clear h
    subst e0_
    exact x_r1 () Tryz.results19 (zaf rfl) rfl (fun w h => za7 [] (by decide) rfl w h)
  · skip
    replace h := br_f hb5 h
    refine zak ?_
    refine za1 ?_
    refine c_seq ?_
    refine za0 ?_
    refine o_q rfl rfl (q_f F38_2 rfl) ?_
    refine o_q rfl rfl (q_ldb Y36 rfl (fun w h => h.zae (i := 0) rfl) rfl) ?_
    refine o_q rfl rfl (za2 rfl) ?_
    refine za6 h (fun i7 hx6 h => ?_) rfl
    refine o_e rfl (za9 0 Z Tryz.func64 N64 rfl rfl rfl (fun w P1 hF hB hS hT => laws_heldRegOpS.calls k A0_2 c0_2 l0_2.length l0_2 i4 hB hF (hS _ R0_2) hc0_2 _ hx6)) (fun _ => ?_)
    refine o_q rfl rfl (q_asg rfl) ?_
    refine o_end ?_
    refine za1 ?_
    refine c_seq ?_
    refine c_seq ?_
    refine za0 ?_
    refine o_q rfl rfl (za2 rfl) ?_
    refine o_q rfl rfl (q_lss rfl rfl) ?_
    refine o_end ?_
    refine za1 ?_
    refine zaq _ rfl (fun hb8 => ?_) (fun hb8 => ?_)
    · skip
      replace h := br_t hb8 h
      refine c_seq ?_
      refine za0 ?_
      refine o_q rfl rfl (q_asg rfl) ?_
      refine o_end ?_
      refine za1 ?_
      refine c_ret ?_
      refine za5 ?_
      have e0_ := Option.some.inj h; clear h
      subst e0_
      exact x_r1 () Tryz.results19 (zaf rfl) rfl (fun w h => za7 [] (by decide) rfl w h)
    · skip
      replace h := br_f hb8 h
      refine zak ?_
      refine za1 ?_
      refine c_seq ?_
      refine za0 ?_
      refine o_q rfl rfl (q_f F38_3 rfl) ?_
      refine o_q rfl rfl (q_ldb Y25 rfl (fun w h => h.zae (i := 0) rfl) rfl) ?_
      refine o_q rfl rfl (za2 rfl) ?_
      refine za6 h (fun i10 hx9 h => ?_) rfl
      refine o_e rfl (za9 0 Z Tryz.func63 N63 rfl rfl rfl (fun w P1 hF hB hS hT => laws_heldIntS.calls k A0_3 c0_3 l0_3.length l0_3 i7 hB hF (hS _ R0_3) hc0_3 _ hx9)) (fun _ => ?_)
      refine o_q rfl rfl (q_asg rfl) ?_
      refine o_end ?_
      refine za1 ?_
      refine c_seq ?_
      refine c_seq ?_
      refine za0 ?_
      refine o_q rfl rfl (za2 rfl) ?_
      refine o_q rfl rfl (q_lss rfl rfl) ?_
      refine o_end ?_
      refine za1 ?_
      refine zaq _ rfl (fun hb11 => ?_) (fun hb11 => ?_)
      · skip
        replace h := br_t hb11 h
        refine c_seq ?_
        refine za0 ?_
        refine o_q rfl rfl (q_asg rfl) ?_
        refine o_end ?_
        refine za1 ?_
        refine c_ret ?_
        refine za5 ?_
        have e0_ := Option.some.inj h; clear h
        subst e0_
        exact x_r1 () Tryz.results19 (zaf rfl) rfl (fun w h => za7 [] (by decide) rfl w h)
      · skip
        replace h := br_f hb11 h
        refine zak ?_
        refine za1 ?_
        refine c_seq ?_
        refine za0 ?_
        refine o_q rfl rfl (za2 rfl) ?_
        refine o_q rfl rfl (q_asg rfl) ?_
        refine o_end ?_
        refine za1 ?_
        refine c_ret ?_
        have e0_ := Option.some.inj h; clear h
        subst e0_
        exact x_r1 () Tryz.results19 (zaf rfl) rfl (fun w h => za7 [] (by decide) rfl w h)

/-! ### loop.example/g01098/laws.FnExactParseRegCode: function 4 -/
def laws_FnExactParseRegCode.f (k : Nat) (a0 : ByteArray) : Option Bool := if 1048576 < (a0.size : Int) then (some true) else ((spec_ParseRegCode.f k a0).bind fun (i3, l4, l5, l6, b7) => (impl_ParseRegCode.f k a0).bind fun (i17, l18, l19, l20, b21) => (laws_eqRegCode.f k i17 l18 l19 l20 i3 l4 l5 l6).bind fun b31 => if b31 = true then (if (b21 != b7) = true then (some false) else ((laws_markRegCode.f k i17 l18 l19 l20 1).bind fun (i35, l36, l37, l38) => (laws_heldRegCode.f k i17 l36 l37 l38 1).bind fun i40 => if i40 < 0 then (some false) else (if i40 ≠ i35 then (some false) else ((impl_ParseRegCode.f k a0).bind fun (i44, l45, l46, l47, b48) => (laws_eqRegCode.f k i44 l45 l46 l47 i3 l4 l5 l6).bind fun b58 => if b58 = true then (if (b48 != b7) = true then (some false) else ((laws_heldRegCode.f k i17 l36 l37 l38 1).bind fun i62 => if i62 < 0 then (some false) else (if i62 ≠ i35 then (some false) else (some true)))) else (some false))))) else (some false))
set_option maxHeartbeats 600000 in
set_option maxRecDepth 100000 in
theorem laws_FnExactParseRegCode.calls (k : Nat) {w0 ws : World} {P0 : Nat → Prop} (a0 : ByteArray) (Z : Below w0.heap.size w0 ws) (hF : Fr w0 ws P0 [] ws) (GW : Stable ws P0 GP) (r_1 : Bool) (h : laws_FnExactParseRegCode.f k a0 = some r_1) :
    Calls Tryz.prog 4 #[.string a0] ws (Post1 w0 ws P0 (fun (_ : Unit) => .bool r_1) (fun (_ : Unit) => [])) := by
  unfold laws_FnExactParseRegCode.f at h
  refine enter Tryz.func4 rfl Tryz.ntmps4 rfl hF ?_
  refine c_seq ?_
  refine za0 ?_
  refine o_q rfl rfl (q_asg rfl) ?_
  refine o_end ?_
  refine za1 ?_
  refine c_seq ?_
  refine c_seq ?_
  refine za0 ?_
  refine o_q rfl rfl (za2 rfl) ?_
  refine o_q rfl rfl (q_lens Tryz.underlying9 rfl) ?_
  refine o_q rfl rfl (q_gtr rfl rfl) ?_
  refine o_end ?_
  refine za1 ?_
  refine zaq _ rfl (fun hb1 => ?_) (fun hb1 => ?_)
  · skip
    replace h := br_t hb1 h
    refine c_seq ?_
    refine za0 ?_
    refine o_q rfl rfl (q_asg rfl) ?_
    refine o_end ?_
    refine za1 ?_
    refine c_ret ?_
    refine za5 ?_
    have e0_ := Option.some.inj h; clear h
    subst e0_
    exact x_r1 () Tryz.results4 (zaf rfl) rfl (fun w h => za7 [] (by decide) rfl w h)
  · skip
    replace h := br_f hb1 h
    refine zak ?_
    refine za1 ?_
    refine c_seq ?_
    refine za0 ?_
    refine o_q rfl rfl (za2 rfl) ?_
    refine bindE5 h (fun i3 l4 l5 l6 b7 hx2 h => ?_) rfl
    refine o_e rfl (za9 0 Z Tryz.func15 N15 rfl rfl rfl (fun w P1 hF hB hS hT => spec_ParseRegCode.calls k a0 hB hF _ _ _ _ _ hx2)) (cur6 (fun A8 c9 A10 c11 A12 c13 => ?_))
    refine o_q rfl rfl (za2 rfl) ?_
    refine o_q rfl rfl (q_ext rfl rfl) ?_
    refine o_q rfl rfl (q_ext rfl rfl) ?_
    refine o_e rfl (zau V38 rfl) (fun g14 => ?_)
    refine o_e rfl (zam (i := 0) rfl rfl rfl Z38 rfl rfl) (fun _ => ?_)
    refine o_q rfl rfl (q_asg rfl) ?_
    refine o_end ?_
    refine za1 ?_
    refine c_seq ?_
    refine za0 ?_
    refine o_q rfl rfl (za2 rfl) ?_
    refine bindE5 h (fun i17 l18 l19 l20 b21 hx16 h => ?_) rfl
    refine o_e rfl (za9 0 Z Tryz.func16 N16 rfl rfl rfl (fun w P1 hF hB hS hT => impl_ParseRegCode.calls k a0 hB hF (hS _ GW) _ _ _ _ _ hx16)) (cur6 (fun A22 c23 A24 c25 A26 c27 => ?_))
    refine o_q rfl rfl (za2 rfl) ?_
    refine o_q rfl rfl (q_ext rfl rfl) ?_
    refine o_q rfl rfl (q_ext rfl rfl) ?_
    refine o_e rfl (zau V38 rfl) (fun g28 => ?_)
    refine o_e rfl (zam (i := 0) rfl rfl rfl Z38 rfl rfl) (fun _ => ?_)
    refine o_q rfl rfl (q_asg rfl) ?_
    refine o_end ?_
    refine za1 ?_
    refine c_seq ?_
    refine c_seq ?_
    refine za0 ?_
    refine o_q rfl rfl (q_ldB G38 Z38 rfl (fun w h => h.zae (i := 0) rfl) rfl) ?_
    refine o_q rfl rfl (q_ldB G38 Z38 rfl (fun w h => h.zae (i := 4) rfl) rfl) ?_
    refine za6 h (fun b31 hx30 h => ?_) rfl
    refine o_e rfl (za9 0 Z Tryz.func17 N17 rfl rfl rfl (fun w P1 hF hB hS hT => laws_eqRegCode.calls k i17 A22 c23 l18.length l18 A24 c25 l19.length l19 A26 c27 l20.length l20 i3 A8 c9 l4.length l4 A10 c11 l5.length l5 A12 c13 l6.length l6 hB hF (hT 1 _ rfl).row (hT 1 _ rfl).cap (hT 2 _ rfl).row (hT 2 _ rfl).cap (hT 3 _ rfl).row (hT 3 _ rfl).cap (hT 5 _ rfl).row (hT 5 _ rfl).cap (hT 6 _ rfl).row (hT 6 _ rfl).cap (hT 7 _ rfl).row (hT 7 _ rfl).cap _ hx30)) (fun _ => ?_)
    refine o_q rfl rfl (q_not rfl) ?_
    refine o_q rfl rfl (za2 rfl) ?_
    refine byB b31 (fun hb32 => ?_) (fun hb32 => ?_)
    · replace h := bb_t hb32 h
      refine o_w (za4 rfl rfl rfl (congrArg (fun b => Value.bool (!(b))) hb32)) rfl (za2 rfl) ?_
      refine o_w (za4 rfl rfl rfl (congrArg (fun b => Value.bool (!(b))) hb32)) rfl (za2 rfl) ?_
      refine o_w (za4 rfl rfl rfl (congrArg (fun b => Value.bool (!(b))) hb32)) rfl (q_bneq Tryz.underlying4 rfl rfl) ?_
      refine o_q rfl rfl (zas false (congrArg (fun b => Value.bool (!(b))) hb32) rfl) ?_
      refine o_end ?_
      refine za1 ?_
      refine zaq _ rfl (fun hb33 => ?_) (fun hb33 => ?_)
      · skip
        replace h := bb_t hb33 h
        refine c_seq ?_
        refine za0 ?_
        refine o_q rfl rfl (q_asg rfl) ?_
        refine o_end ?_
        refine za1 ?_
        refine c_ret ?_
        refine za5 ?_
        have e0_ := Option.some.inj h; clear h
        subst e0_
        exact x_r1 () Tryz.results4 (zaf rfl) rfl (fun w h => za7 [] (by decide) rfl w h)
      · skip
        replace h := bb_f hb33 h
        refine zak ?_
        refine za1 ?_
        refine c_seq ?_
        refine za0 ?_
        refine o_q rfl rfl (q_asg rfl) ?_
        refine o_end ?_
        refine za1 ?_
        refine c_seq ?_
        refine za0 ?_
        refine o_q rfl rfl (q_ldB G38 Z38 rfl (fun w h => h.zae (i := 0) rfl) rfl) ?_
        refine o_q rfl rfl (za2 rfl) ?_
        refine o_pick [1, 2, 3, 0, 4, 5, 6, 7] (by decide) rfl ?_
        refine bindE4 h (fun i35 l36 l37 l38 hx34 h => ?_) rfl
        refine o_e rfl (za9 3 Z Tryz.func18 N18 rfl rfl rfl (fun w P1 hF hB hS hT => laws_markRegCode.calls k i17 A22 c23 l18.length l18 A24 c25 l19.length l19 A26 c27 l20.length l20 1 hB hF _ _ _ _ hx34)) (fun _ => ?_)
        refine o_q rfl rfl (q_asg rfl) ?_
        refine o_end ?_
        refine za1 ?_
        refine c_seq ?_
        refine za0 ?_
        refine o_q rfl rfl (q_asg rfl) ?_
        refine o_end ?_
        refine za1 ?_
        refine c_seq ?_
        refine za0 ?_
        refine o_q rfl rfl (q_ldB G38 Z38 rfl (fun w h => h.zae (i := 3) rfl) rfl) ?_
        refine o_q rfl rfl (za2 rfl) ?_
        refine za6 h (fun i40 hx39 h => ?_) rfl
        refine o_e rfl (za9 0 Z Tryz.func19 N19 rfl rfl rfl (fun w P1 hF hB hS hT => laws_heldRegCode.calls k i17 A22 c23 l18.length l36 A24 c25 l19.length l37 A26 c27 l20.length l38 1 hB hF (hT 0 _ rfl).row (hT 0 _ rfl).cap (hT 1 _ rfl).row (hT 1 _ rfl).cap (hT 2 _ rfl).row (hT 2 _ rfl).cap _ hx39)) (fun _ => ?_)
        refine o_q rfl rfl (q_asg rfl) ?_
        refine o_end ?_
        refine za1 ?_
        refine c_seq ?_
        refine c_seq ?_
        refine za0 ?_
        refine o_q rfl rfl (za2 rfl) ?_
        refine o_q rfl rfl (q_lss rfl rfl) ?_
        refine o_end ?_
        refine za1 ?_
        refine zaq _ rfl (fun hb41 => ?_) (fun hb41 => ?_)
        · skip
          replace h := br_t hb41 h
          refine c_seq ?_
          refine za0 ?_
          refine o_q rfl rfl (q_asg rfl) ?_
          refine o_end ?_
          refine za1 ?_
          refine c_ret ?_
          refine za5 ?_
          have e0_ := Option.some.inj h; clear h
          subst e0_
          exact x_r1 () Tryz.results4 (zaf rfl) rfl (fun w h => za7 [] (by decide) rfl w h)
        · skip
          replace h := br_f hb41 h
          refine zak ?_
          refine za1 ?_
          refine c_seq ?_
          refine c_seq ?_
          refine za0 ?_
          refine o_q rfl rfl (za2 rfl) ?_
          refine o_q rfl rfl (za2 rfl) ?_
          refine o_q rfl rfl (q_neq rfl rfl) ?_
          refine o_end ?_
          refine za1 ?_
          refine zaq _ rfl (fun hb42 => ?_) (fun hb42 => ?_)
          · skip
            replace h := br_t hb42 h
            refine c_seq ?_
            refine za0 ?_
            refine o_q rfl rfl (q_asg rfl) ?_
            refine o_end ?_
            refine za1 ?_
            refine c_ret ?_
            refine za5 ?_
            have e0_ := Option.some.inj h; clear h
            subst e0_
            exact x_r1 () Tryz.results4 (zaf rfl) rfl (fun w h => za7 [] (by decide) rfl w h)
          · skip
            replace h := br_f hb42 h
            refine zak ?_
            refine za1 ?_
            refine c_seq ?_
            refine za0 ?_
            refine o_q rfl rfl (za2 rfl) ?_
            refine bindE5 h (fun i44 l45 l46 l47 b48 hx43 h => ?_) rfl
            refine o_e rfl (za9 0 Z Tryz.func16 N16 rfl rfl rfl (fun w P1 hF hB hS hT => impl_ParseRegCode.calls k a0 hB hF (hS _ GW) _ _ _ _ _ hx43)) (cur6 (fun A49 c50 A51 c52 A53 c54 => ?_))
            refine o_q rfl rfl (za2 rfl) ?_
            refine o_q rfl rfl (q_ext rfl rfl) ?_
            refine o_q rfl rfl (q_ext rfl rfl) ?_
            refine o_e rfl (zau V38 rfl) (fun g55 => ?_)
            refine o_e rfl (zam (i := 0) rfl rfl rfl Z38 rfl rfl) (fun _ => ?_)
            refine o_q rfl rfl (q_asg rfl) ?_
            refine o_end ?_
            refine za1 ?_
            refine c_seq ?_
            refine c_seq ?_
            refine za0 ?_
            refine o_q rfl rfl (q_ldB G38 Z38 rfl (fun w h => h.zae (i := 0) rfl) rfl) ?_
            refine o_q rfl rfl (q_ldB G38 Z38 rfl (fun w h => h.zae (i := 8) rfl) rfl) ?_
            refine za6 h (fun b58 hx57 h => ?_) rfl
            refine o_e rfl (za9 0 Z Tryz.func17 N17 rfl rfl rfl (fun w P1 hF hB hS hT => laws_eqRegCode.calls k i44 A49 c50 l45.length l45 A51 c52 l46.length l46 A53 c54 l47.length l47 i3 A8 c9 l4.length l4 A10 c11 l5.length l5 A12 c13 l6.length l6 hB hF (hT 1 _ rfl).row (hT 1 _ rfl).cap (hT 2 _ rfl).row (hT 2 _ rfl).cap (hT 3 _ rfl).row (hT 3 _ rfl).cap (hT 9 _ rfl).row (hT 9 _ rfl).cap (hT 10 _ rfl).row (hT 10 _ rfl).cap (hT 11 _ rfl).row (hT 11 _ rfl).cap _ hx57)) (fun _ => ?_)
            refine o_q rfl rfl (q_not rfl) ?_
            refine o_q rfl rfl (za2 rfl) ?_
            refine byB b58 (fun hb59 => ?_) (fun hb59 => ?_)
            · replace h := bb_t hb59 h
              refine o_w (za4 rfl rfl rfl (congrArg (fun b => Value.bool (!(b))) hb59)) rfl (za2 rfl) ?_
              refine o_w (za4 rfl rfl rfl (congrArg (fun b => Value.bool (!(b))) hb59)) rfl (za2 rfl) ?_
              refine o_w (za4 rfl rfl rfl (congrArg (fun b => Value.bool (!(b))) hb59)) rfl (q_bneq Tryz.underlying4 rfl rfl) ?_
              refine o_q rfl rfl (zas false (congrArg (fun b => Value.bool (!(b))) hb59) rfl) ?_
              refine o_end ?_
              refine za1 ?_
              refine zaq _ rfl (fun hb60 => ?_) (fun hb60 => ?_)
              · skip
                replace h := bb_t hb60 h
                refine c_seq ?_
                refine za0 ?_
                refine o_q rfl rfl (q_asg rfl) ?_
                refine o_end ?_
                refine za1 ?_
                refine c_ret ?_
                refine za5 ?_
                have e0_ := Option.some.inj h; clear h
                subst e0_
                exact x_r1 () Tryz.results4 (zaf rfl) rfl (fun w h => za7 [] (by decide) rfl w h)
              · skip
                replace h := bb_f hb60 h
                refine zak ?_
                refine za1 ?_
                refine c_seq ?_
                refine za0 ?_
                refine o_q rfl rfl (q_asg rfl) ?_
                refine o_end ?_
                refine za1 ?_
                refine c_seq ?_
                refine za0 ?_
                refine o_q rfl rfl (q_ldB G38 Z38 rfl (fun w h => h.zae (i := 7) rfl) rfl) ?_
                refine o_q rfl rfl (za2 rfl) ?_
                refine za6 h (fun i62 hx61 h => ?_) rfl
                refine o_e rfl (za9 0 Z Tryz.func19 N19 rfl rfl rfl (fun w P1 hF hB hS hT => laws_heldRegCode.calls k i17 A22 c23 l18.length l36 A24 c25 l19.length l37 A26 c27 l20.length l38 1 hB hF (hT 4 _ rfl).row (hT 4 _ rfl).cap (hT 5 _ rfl).row (hT 5 _ rfl).cap (hT 6 _ rfl).row (hT 6 _ rfl).cap _ hx61)) (fun _ => ?_)
                refine o_q rfl rfl (q_asg rfl) ?_
                refine o_end ?_
                refine za1 ?_
                refine c_seq ?_
                refine c_seq ?_
                refine za0 ?_
                refine o_q rfl rfl (za2 rfl) ?_
                refine o_q rfl rfl (q_lss rfl rfl) ?_
                refine o_end ?_
                refine za1 ?_
                refine zaq _ rfl (fun hb63 => ?_) (fun hb63 => ?_)
                · skip
                  replace h := br_t hb63 h
                  refine c_seq ?_
                  refine za0 ?_
                  refine o_q rfl rfl (q_asg rfl) ?_
                  refine o_end ?_
                  refine za1 ?_
                  refine c_ret ?_
                  refine za5 ?_
                  have e0_ := Option.some.inj h; clear h
                  subst e0_
                  exact x_r1 () Tryz.results4 (zaf rfl) rfl (fun w h => za7 [] (by decide) rfl w h)
                · skip
                  replace h := br_f hb63 h
                  refine zak ?_
                  refine za1 ?_
                  refine c_seq ?_
                  refine c_seq ?_
                  refine za0 ?_
                  refine o_q rfl rfl (za2 rfl) ?_
                  refine o_q rfl rfl (za2 rfl) ?_
                  refine o_q rfl rfl (q_neq rfl rfl) ?_
                  refine o_end ?_
                  refine za1 ?_
                  refine zaq _ rfl (fun hb64 => ?_) (fun hb64 => ?_)
                  · skip
                    replace h := br_t hb64 h
                    refine c_seq ?_
                    refine za0 ?_
                    refine o_q rfl rfl (q_asg rfl) ?_
                    refine o_end ?_
                    refine za1 ?_
                    refine c_ret ?_
                    refine za5 ?_
                    have e0_ := Option.some.inj h; clear h
                    subst e0_
                    exact x_r1 () Tryz.results4 (zaf rfl) rfl (fun w h => za7 [] (by decide) rfl w h)
                  · skip
                    replace h := br_f hb64 h
                    refine zak ?_
                    refine za1 ?_
                    refine c_seq ?_
                    refine za0 ?_
                    refine o_q rfl rfl (q_asg rfl) ?_
                    refine o_end ?_
                    refine za1 ?_
                    refine c_ret ?_
                    have e0_ := Option.some.inj h; clear h
                    subst e0_
                    exact x_r1 () Tryz.results4 (zaf rfl) rfl (fun w h => za7 [] (by decide) rfl w h)
            · replace h := bb_f hb59 h
              refine @o_n _ _ _ _ _ _ _ _ _ _ _ 54 (za3 rfl rfl rfl (congrArg (fun b => Value.bool (!(b))) hb59) rfl) (Eq.refl (some 54)) ?_
              refine @o_n _ _ _ _ _ _ _ _ _ _ _ 55 (za3 rfl rfl rfl (congrArg (fun b => Value.bool (!(b))) hb59) rfl) (Eq.refl (some 55)) ?_
              refine @o_n _ _ _ _ _ _ _ _ _ _ _ 56 (za3 rfl rfl rfl (congrArg (fun b => Value.bool (!(b))) hb59) rfl) (Eq.refl (some 56)) ?_
              refine o_q rfl rfl (zas true (congrArg (fun b => Value.bool (!(b))) hb59) rfl) ?_
              refine o_end ?_
              refine za1 ?_
              refine c_true rfl ?_
              refine c_seq ?_
              refine za0 ?_
              refine o_q rfl rfl (q_asg rfl) ?_
              refine o_end ?_
              refine za1 ?_
              refine c_ret ?_
              refine za5 ?_
              have e0_ := Option.some.inj h; clear h
              subst e0_
              exact x_r1 () Tryz.results4 (zaf rfl) rfl (fun w h => za7 [] (by decide) rfl w h)
    · replace h := bb_f hb32 h
      refine @o_n _ _ _ _ _ _ _ _ _ _ _ 29 (za3 rfl rfl rfl (congrArg (fun b => Value.bool (!(b))) hb32) rfl) (Eq.refl (some 29)) ?_
      refine @o_n _ _ _ _ _ _ _ _ _ _ _ 30 (za3 rfl rfl rfl (congrArg (fun b => Value.bool (!(b))) hb32) rfl) (Eq.refl (some 30)) ?_
      refine @o_n _ _ _ _ _ _ _ _ _ _ _ 31 (za3 rfl rfl rfl (congrArg (fun b => Value.bool (!(b))) hb32) rfl) (Eq.refl (some 31)) ?_
      refine o_q rfl rfl (zas true (congrArg (fun b => Value.bool (!(b))) hb32) rfl) ?_
      refine o_end ?_
      refine za1 ?_
      refine c_true rfl ?_
      refine c_seq ?_
      refine za0 ?_
      refine o_q rfl rfl (q_asg rfl) ?_
      refine o_end ?_
      refine za1 ?_
      refine c_ret ?_
      refine za5 ?_
      have e0_ := Option.some.inj h; clear h
      subst e0_
      exact x_r1 () Tryz.results4 (zaf rfl) rfl (fun w h => za7 [] (by decide) rfl w h)

/-- THE ONE PURE STATEMENT of laws_FnExactParseRegCode. -/
def laws_FnExactParseRegCode.Pure : Prop := ∀ (a0 : ByteArray), a0.size ≤ 140737488355328 → ∃ k, laws_FnExactParseRegCode.f k a0 = some true
theorem laws_FnExactParseRegCode.walk (P : laws_FnExactParseRegCode.Pure) (a0 : ByteArray) (w : World) (hG : GP w)  (q0 : a0.size ≤ 140737488355328) :
    Calls Tryz.prog 4 #[.string a0] w fun e w' => e = .returned (.bool true) ∧ Below w.heap.size w w' := by
  obtain ⟨k, h⟩ := P a0 q0
  refine (laws_FnExactParseRegCode.calls k a0 (Below.refl _ _) (Fr.start w) (fun W hW => GP_below hG hW.below) true h).mono ?_
  rintro e w' ⟨s, rfl, hF⟩
  exact ⟨rfl, hF.bel⟩
end Go.Proofs.YtnnlfipcoahcnaaGreatDoor.G1
