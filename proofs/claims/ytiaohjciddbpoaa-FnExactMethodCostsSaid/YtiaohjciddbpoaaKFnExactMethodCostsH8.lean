import Derived.Test.YtiaohjciddbpoaaKFnExactMethodCostsH8p5
namespace Go.Proofs.Ytiaohjciddbpoaa.H8
open Go.RowKit Go.Proofs.Ytiaohjciddbpoaa.Frame Go.Proofs.YtiaohjciddbpoaaW.PrintLast Go.Proofs.Ytiaohjciddbpoaa.Hand
open Go.Proofs.YtiaohjciddbpoaaW.PrintWords hiding mn mx
set_option linter.unusedVariables false
/-! ### loop.example/g01098/laws.eqIntS: function 19 -/
def laws_eqIntS.l0 (l0 : List Int) (l1 : List Int) : Nat → Int → Option ((Bool) ⊕ (Unit))
 | 0, _ => none
 | k5 + 1, i2 => if i2 < (l0.length : Int) then ((gt l0 i2).bind fun y16 => (gt l1 i2).bind fun y19 => if y16 ≠ y19 then (some (.inl false)) else (laws_eqIntS.l0 l0 l1 k5 (w64 (i2 + 1)))) else (some (.inr ()))
def laws_eqIntS.f (k : Nat) (l0 : List Int) (l1 : List Int) : Option Bool := if (l0.length : Int) ≠ (l1.length : Int) then (some false) else ((laws_eqIntS.l0 l0 l1 k 0).bind fun o_ => match o_ with | .inl r_ => some r_ | .inr _ => some true)
set_option maxHeartbeats 600000 in
set_option maxRecDepth 100000 in
theorem laws_eqIntS.calls (k : Nat) {w0 ws : World} {P0 : Nat → Prop} (A0 : Option Addr) (c0 : Nat) (n0 : Nat) (l0 : List Int) (A1 : Option Addr) (c1 : Nat) (n1 : Nat) (l1 : List Int) (Z : Below w0.heap.size w0 ws) (hF : Fr w0 ws P0 [] ws) (R0 : Stable ws P0 (fun w => Kd.C (Kd.int .i64) w A0 n0 l0)) (hc0 : n0 ≤ c0) (R1 : Stable ws P0 (fun w => Kd.C (Kd.int .i64) w A1 n1 l1)) (hc1 : n1 ≤ c1) (r_1 : Bool) (h : laws_eqIntS.f k l0 l1 = some r_1) :
  Calls Try.prog 19 #[.slice A0 n0 c0, .slice A1 n1 c1] ws (Post1 w0 ws P0 (fun (_ : Unit) => .bool r_1) (fun (_ : Unit) => [])) := by
 unfold laws_eqIntS.f at h
 obtain rfl := (R0 ws (KeptB.refl _ _)).1
 obtain rfl := (R1 ws (KeptB.refl _ _)).1
 refine enter Try.func19 rfl Try.ntmps19 rfl hF ?_
 refine c_seq ?_
 refine za0 ?_
 refine o_q rfl rfl (q_asg rfl) ?_
 refine o_end ?_
 refine za1 ?_
 refine c_seq ?_
 refine c_seq ?_
 refine za0 ?_
 refine o_q rfl rfl (za2 rfl) ?_
 refine o_q rfl rfl (q_len Try.underlying23 rfl) ?_
 refine o_q rfl rfl (za2 rfl) ?_
 refine o_q rfl rfl (q_len Try.underlying23 rfl) ?_
 refine o_q rfl rfl (q_neq rfl rfl) ?_
 refine o_end ?_
 refine za1 ?_
 refine zaw _ rfl (fun hb1 => ?_) (fun hb1 => ?_)
 ·skip
  replace h := br_t hb1 h
  refine c_seq ?_
  refine za0 ?_
  refine o_q rfl rfl (q_asg rfl) ?_
  refine o_end ?_
  refine za1 ?_
  refine c_ret ?_
  refine zaj ?_
  have e0_ := Option.some.inj h; clear h
  subst e0_
  exact x_r1 () Try.results19 (zan rfl) rfl (fun w h => za6 [] (by decide) rfl w h)
 ·skip
  replace h := br_f hb1 h
  refine zat ?_
  refine za1 ?_
  refine c_seq ?_
  refine c_seq ?_
  refine za0 ?_
  refine o_q rfl rfl (q_asg rfl) ?_
  refine o_end ?_
  refine za1 ?_
  refine zam ?_
  refine za9 h (fun o10 hl9 hR8 => ?_) rfl
  clear h
  refine zb2 (σ := Int) (fun k5 (i2 : Int) => laws_eqIntS.l0 l0 l1 k5 i2 = some o10) [4, 5, 11, 12, 13, 14, 15, 16, 17, 18, 19, 20, 21, 22, 23, 24, 25] (fun (i2 : Int) => [(5, .int .i64 i2)]) (fun (i2 : Int) => []) k 0 hl9 ⟨rfl, trivial⟩ (fun w h => h) ?_
  refine natC (fun i2 => fun U11 hJ_ => ?_) (fun k5 => (fun i2 => fun U11 hJ_ => ?_))
  ·skip
   replace hJ_ : laws_eqIntS.l0 l0 l1 0 i2 = some o10 := hJ_
   rw [laws_eqIntS.l0] at hJ_
   exact noneE hJ_
  ·skip
   clear hl9
   have h := hJ_; clear hJ_
   replace h : laws_eqIntS.l0 l0 l1 (k5 + 1) i2 = some o10 := h
   rw [laws_eqIntS.l0] at h
   refine c_seq ?_
   refine c_seq ?_
   refine za0 ?_
   refine o_q rfl rfl (za2 rfl) ?_
   refine o_q rfl rfl (za2 rfl) ?_
   refine o_q rfl rfl (q_len Try.underlying23 rfl) ?_
   refine o_q rfl rfl (q_lss rfl rfl) ?_
   refine o_end ?_
   refine za1 ?_
   refine zaw _ rfl (fun hb13 => ?_) (fun hb13 => ?_)
   ·skip
    replace h := br_t hb13 h
    refine zat ?_
    refine za1 ?_
    refine c_seq ?_
    refine zam ?_
    refine c_seq ?_
    refine a_start (ds := []) MO rfl ?_
    refine za5 0 rfl rfl rfl (by kernel_rfl) (fun _ _ _ h => h) (za2 rfl) ?_
    refine za5 1 rfl rfl rfl (by kernel_rfl) (fun _ _ _ h => h) (za2 rfl) ?_
    refine a_fact (p := Sh A0 l0.length l0.length) (fun w h => f_sh (dk := (Kd.int .i64)) h (fun w h => R0.now Z h)) (fun hq14 => ?_)
    refine za9 h (fun y16 hg15 h => ?_) rfl
    refine za5 2 rfl rfl rfl (by kernel_rfl) (fun _ _ _ h => h) (q_ix Try.underlying23 Z3 rfl rfl hq14 hg15) ?_
    refine zb0 3 rfl rfl rfl (by kernel_rfl) (fun _ _ _ h => h) (fun w h => h) (q_lde (off := 0) Y3 rfl rfl (fun w h => R0.now Z h) hg15 (fun _ _ h => h) rfl) ?_
    refine za5 4 rfl rfl rfl (by kernel_rfl) (fun _ _ _ h => h) (za2 rfl) ?_
    refine za5 5 rfl rfl rfl (by kernel_rfl) (fun _ _ _ h => h) (za2 rfl) ?_
    refine a_fact (p := Sh A1 l1.length l1.length) (fun w h => f_sh (dk := (Kd.int .i64)) h (fun w h => R1.now Z h)) (fun hq17 => ?_)
    refine za9 h (fun y19 hg18 h => ?_) rfl
    refine za5 6 rfl rfl rfl (by kernel_rfl) (fun _ _ _ h => h) (q_ix Try.underlying23 Z3 rfl rfl hq17 hg18) ?_
    refine zb0 7 rfl rfl rfl (by kernel_rfl) (fun _ _ _ h => h) (fun w h => h) (q_lde (off := 0) Y3 rfl rfl (fun w h => R1.now Z h) hg18 (fun _ _ h => h) rfl) ?_
    refine za5 8 rfl rfl rfl (by kernel_rfl) (fun _ _ _ h => h) (q_neq rfl rfl) ?_
    refine zar (by kernel_rfl) ?_
    refine za1 ?_
    refine zaw _ rfl (fun hb20 => ?_) (fun hb20 => ?_)
    ·skip
     replace h := br_t hb20 h
     refine c_seq ?_
     refine za0 ?_
     refine o_q rfl rfl (q_asg rfl) ?_
     refine o_end ?_
     refine za1 ?_
     refine c_ret ?_
     refine zax ?_
     refine zaj ?_
     refine zaj ?_
     have e_ := Option.some.inj h; replace h := hR8; rw [← e_] at h; clear e_
     refine zax ?_
     refine zaj ?_
     have e0_ := Option.some.inj h; clear h
     subst e0_
     exact x_r1 () Try.results19 (zan rfl) rfl (fun w h => za6 [] (by decide) rfl w h)
    ·skip
     replace h := br_f hb20 h
     refine zat ?_
     refine zao ?_
     refine za1 ?_
     refine za0 ?_
     refine o_q rfl rfl (za2 rfl) ?_
     refine o_q rfl rfl (zaz rfl rfl) ?_
     refine o_q rfl rfl (q_asg rfl) ?_
     refine o_end ?_
     refine zaq k5 (w64 (i2 + 1)) (Nat.lt_succ_self _) h ⟨rfl, trivial⟩ (fun w h => za6 [] (by decide) rfl w h) ?_
     repeat (first | exact za7 _ _ | refine zad rfl ?_ | refine za8 rfl ?_ | refine zae rfl ?_)
   ·skip
    replace h := br_f hb13 h
    refine zb6 ?_
    refine zaa ?_
    refine zaa ?_
    have e_ := Option.some.inj h; replace h := hR8; rw [← e_] at h; clear e_
    refine x_hit ?_
    refine za1 ?_
    refine c_seq ?_
    refine za0 ?_
    refine o_q rfl rfl (q_asg rfl) ?_
    refine o_end ?_
    refine za1 ?_
    refine c_ret ?_
    have e0_ := Option.some.inj h; clear h
    subst e0_
    exact x_r1 () Try.results19 (zan rfl) rfl (fun w h => za6 [] (by decide) rfl w h)

/-! ### loop.example/g01098/laws.markIntS: function 20 -/
def laws_markIntS.l0 (l0 : List Int) : Nat → (List Int) → Int → Int → Option ((List Int) × Int)
 | 0, _, _, _ => none
 | k6 + 1, l1, i2, i3 => if i3 < (l0.length : Int) then ((gt l1 i3).bind fun y17 => (st l1 i3 i2).bind fun l18 => laws_markIntS.l0 l0 k6 l18 (w64 (i2 + 1)) (w64 (i3 + 1))) else (some (l1, i2))
def laws_markIntS.f (k : Nat) (l0 : List Int) (a1 : Int) : Option (Int × (List Int)) := (laws_markIntS.l0 l0 k l0 a1 0).bind fun (l1, i2) => some (i2, l1)
set_option maxHeartbeats 600000 in
set_option maxRecDepth 100000 in
theorem laws_markIntS.calls (k : Nat) {w0 ws : World} {P0 : Nat → Prop} (A0 : Option Addr) (c0 : Nat) (n0 : Nat) (l0 : List Int) (a1 : Int) (Z : Below w0.heap.size w0 ws) (hF : Fr w0 ws P0 [row (Kd.int .i64) 3 (.slice A0 n0 c0) l0] ws)  (r_1 : Int) (r_2 : List Int) (h : laws_markIntS.f k l0 a1 = some (r_1, r_2)) :
  Calls Try.prog 20 #[.slice A0 n0 c0, .int .i64 a1] ws (Post1 w0 ws P0 (fun (_ : Unit) => .int .i64 r_1) (fun (_ : Unit) => [row (Kd.int .i64) 3 (.slice A0 n0 c0) r_2])) := by
 unfold laws_markIntS.f at h
 obtain rfl := (hF.row_C (i := 0) rfl).2.1
 refine enter Try.func20 rfl Try.ntmps20 rfl hF ?_
 refine c_seq ?_
 refine za0 ?_
 refine o_q rfl rfl (q_asg rfl) ?_
 refine o_end ?_
 refine za1 ?_
 refine c_seq ?_
 refine c_seq ?_
 refine za0 ?_
 refine o_q rfl rfl (q_asg rfl) ?_
 refine o_end ?_
 refine za1 ?_
 refine zam ?_
 refine za9 h (fun o11 hl10 hR9 => ?_) rfl
 clear h
 refine zb2 (σ := (List Int) × Int × Int) (fun k6 ((l1, i2, i3) : (List Int) × Int × Int) => laws_markIntS.l0 l0 k6 l1 i2 i3 = some o11) [1, 5, 6, 7, 8, 9, 10, 11, 12, 13, 14, 15, 16, 17] (fun ((l1, i2, i3) : (List Int) × Int × Int) => [(1, .int .i64 i2), (5, .int .i64 i3)]) (fun ((l1, i2, i3) : (List Int) × Int × Int) => [row (Kd.int .i64) 3 (.slice A0 l0.length c0) l1]) k (l0, a1, 0) hl10 ⟨rfl, rfl, trivial⟩ (fun w h => h) ?_
 refine natC (cur3 (fun l1 i2 i3 => fun U12 hJ_ => ?_)) (fun k6 => (cur3 (fun l1 i2 i3 => fun U12 hJ_ => ?_)))
 ·skip
  replace hJ_ : laws_markIntS.l0 l0 0 l1 i2 i3 = some o11 := hJ_
  rw [laws_markIntS.l0] at hJ_
  exact noneE hJ_
 ·skip
  clear hl10
  have h := hJ_; clear hJ_
  replace h : laws_markIntS.l0 l0 (k6 + 1) l1 i2 i3 = some o11 := h
  rw [laws_markIntS.l0] at h
  refine c_seq ?_
  refine c_seq ?_
  refine za0 ?_
  refine o_q rfl rfl (za2 rfl) ?_
  refine o_q rfl rfl (za2 rfl) ?_
  refine o_q rfl rfl (q_len Try.underlying23 rfl) ?_
  refine o_q rfl rfl (q_lss rfl rfl) ?_
  refine o_end ?_
  refine za1 ?_
  refine zaw _ rfl (fun hb14 => ?_) (fun hb14 => ?_)
  ·skip
   replace h := br_t hb14 h
   refine zat ?_
   refine za1 ?_
   refine c_seq ?_
   refine zam ?_
   refine c_seq ?_
   refine za0 ?_
   refine o_q rfl rfl (za2 rfl) ?_
   refine o_q rfl rfl (za2 rfl) ?_
   refine o_q rfl rfl (za2 rfl) ?_
   refine zb7 (p := Sh A0 l0.length l1.length) (fun w h => f_sh (dk := (Kd.int .i64)) h (fun w h => h.zau (i := 0) rfl)) (fun hq15 => ?_)
   refine za9 h (fun y17 hg16 h => ?_) rfl
   refine o_q rfl rfl (q_ix Try.underlying23 Z3 rfl rfl hq15 hg16) ?_
   refine za9 h (fun l18 hs19 h => ?_) rfl
   refine o_e rfl (e_set (i := 0) rfl rfl rfl Z3 hs19) (fun _ => ?_)
   refine o_end ?_
   refine za1 ?_
   refine za0 ?_
   refine o_q rfl rfl (za2 rfl) ?_
   refine o_q rfl rfl (zaz rfl rfl) ?_
   refine o_q rfl rfl (q_asg rfl) ?_
   refine o_end ?_
   refine zao ?_
   refine za1 ?_
   refine za0 ?_
   refine o_q rfl rfl (za2 rfl) ?_
   refine o_q rfl rfl (zaz rfl rfl) ?_
   refine o_q rfl rfl (q_asg rfl) ?_
   refine o_end ?_
   refine zaq k6 (l18, w64 (i2 + 1), w64 (i3 + 1)) (Nat.lt_succ_self _) h ⟨rfl, rfl, trivial⟩ (fun w h => za6 [0] (by decide) rfl w h) ?_
   repeat (first | exact za7 _ _ | refine zad rfl ?_ | refine za8 rfl ?_ | refine zae rfl ?_)
  ·skip
   replace h := br_f hb14 h
   refine zb6 ?_
   refine zaa ?_
   refine zaa ?_
   have e_ := Option.some.inj h; replace h := hR9; rw [← e_] at h; clear e_
   refine x_hit ?_
   refine za1 ?_
   refine c_seq ?_
   refine za0 ?_
   refine o_q rfl rfl (za2 rfl) ?_
   refine o_q rfl rfl (q_asg rfl) ?_
   refine o_end ?_
   refine za1 ?_
   refine c_ret ?_
   have e0_ := Option.some.inj h; clear h
   have d0_ := (Prod.mk.inj e0_).1; have e1_ := (Prod.mk.inj e0_).2; clear e0_; subst d0_
   subst e1_
   exact x_r1 () Try.results20 (zan rfl) rfl (fun w h => za6 [0] (by decide) rfl w h)

/-! ### loop.example/g01098/laws.heldIntS: function 21 -/
def laws_heldIntS.l0 (l0 : List Int) : Nat → Int → Int → Option ((Int) ⊕ (Int))
 | 0, _, _ => none
 | k5 + 1, i1, i2 => if i2 < (l0.length : Int) then ((gt l0 i2).bind fun y16 => if y16 ≠ i1 then (some (.inl (-1))) else (laws_heldIntS.l0 l0 k5 (w64 (i1 + 1)) (w64 (i2 + 1)))) else (some (.inr i1))
def laws_heldIntS.f (k : Nat) (l0 : List Int) (a1 : Int) : Option Int := (laws_heldIntS.l0 l0 k a1 0).bind fun o_ => match o_ with | .inl r_ => some r_ | .inr i1 => some i1
set_option maxHeartbeats 600000 in
set_option maxRecDepth 100000 in
theorem laws_heldIntS.calls (k : Nat) {w0 ws : World} {P0 : Nat → Prop} (A0 : Option Addr) (c0 : Nat) (n0 : Nat) (l0 : List Int) (a1 : Int) (Z : Below w0.heap.size w0 ws) (hF : Fr w0 ws P0 [] ws) (R0 : Stable ws P0 (fun w => Kd.C (Kd.int .i64) w A0 n0 l0)) (hc0 : n0 ≤ c0) (r_1 : Int) (h : laws_heldIntS.f k l0 a1 = some r_1) :
  Calls Try.prog 21 #[.slice A0 n0 c0, .int .i64 a1] ws (Post1 w0 ws P0 (fun (_ : Unit) => .int .i64 r_1) (fun (_ : Unit) => [])) := by
 unfold laws_heldIntS.f at h
 obtain rfl := (R0 ws (KeptB.refl _ _)).1
 refine enter Try.func21 rfl Try.ntmps21 rfl hF ?_
 refine c_seq ?_
 refine za0 ?_
 refine o_q rfl rfl (q_asg rfl) ?_
 refine o_end ?_
 refine za1 ?_
 refine c_seq ?_
 refine c_seq ?_
 refine za0 ?_
 refine o_q rfl rfl (q_asg rfl) ?_
 refine o_end ?_
 refine za1 ?_
 refine zam ?_
 refine za9 h (fun o10 hl9 hR8 => ?_) rfl
 clear h
 refine zb2 (σ := Int × Int) (fun k5 ((i1, i2) : Int × Int) => laws_heldIntS.l0 l0 k5 i1 i2 = some o10) [1, 4, 5, 6, 7, 8, 9, 10, 11, 12, 13, 14, 15, 16, 17, 18, 19] (fun ((i1, i2) : Int × Int) => [(1, .int .i64 i1), (5, .int .i64 i2)]) (fun ((i1, i2) : Int × Int) => []) k (a1, 0) hl9 ⟨rfl, rfl, trivial⟩ (fun w h => h) ?_
 refine natC (cur2 (fun i1 i2 => fun U11 hJ_ => ?_)) (fun k5 => (cur2 (fun i1 i2 => fun U11 hJ_ => ?_)))
 ·skip
  replace hJ_ : laws_heldIntS.l0 l0 0 i1 i2 = some o10 := hJ_
  rw [laws_heldIntS.l0] at hJ_
  exact noneE hJ_
 ·skip
  clear hl9
  have h := hJ_; clear hJ_
  replace h : laws_heldIntS.l0 l0 (k5 + 1) i1 i2 = some o10 := h
  rw [laws_heldIntS.l0] at h
  refine c_seq ?_
  refine c_seq ?_
  refine za0 ?_
  refine o_q rfl rfl (za2 rfl) ?_
  refine o_q rfl rfl (za2 rfl) ?_
  refine o_q rfl rfl (q_len Try.underlying23 rfl) ?_
  refine o_q rfl rfl (q_lss rfl rfl) ?_
  refine o_end ?_
  refine za1 ?_
  refine zaw _ rfl (fun hb13 => ?_) (fun hb13 => ?_)
  ·skip
   replace h := br_t hb13 h
   refine zat ?_
   refine za1 ?_
   refine c_seq ?_
   refine zam ?_
   refine c_seq ?_
   refine c_seq ?_
   refine za0 ?_
   refine o_q rfl rfl (za2 rfl) ?_
   refine o_q rfl rfl (za2 rfl) ?_
   refine zb7 (p := Sh A0 l0.length l0.length) (fun w h => f_sh (dk := (Kd.int .i64)) h (fun w h => R0.now Z h)) (fun hq14 => ?_)
   refine za9 h (fun y16 hg15 h => ?_) rfl
   refine o_q rfl rfl (q_ix Try.underlying23 Z3 rfl rfl hq14 hg15) ?_
   refine o_q rfl rfl (q_lde (off := 0) Y3 rfl rfl (fun w h => R0.now Z h) hg15 (fun _ _ h => h) rfl) ?_
   refine o_q rfl rfl (za2 rfl) ?_
   refine o_q rfl rfl (q_neq rfl rfl) ?_
   refine o_end ?_
   refine za1 ?_
   refine zaw _ rfl (fun hb17 => ?_) (fun hb17 => ?_)
   ·skip
    replace h := br_t hb17 h
    refine c_seq ?_
    refine za0 ?_
    refine o_q rfl rfl (q_asg rfl) ?_
    refine o_end ?_
    refine za1 ?_
    refine c_ret ?_
    refine zaj ?_
    refine zax ?_
    refine zaj ?_
    refine zaj ?_
    have e_ := Option.some.inj h; replace h := hR8; rw [← e_] at h; clear e_
    refine zax ?_
    refine zaj ?_
    have e0_ := Option.some.inj h; clear h
    subst e0_
    exact x_r1 () Try.results21 (zan rfl) rfl (fun w h => za6 [] (by decide) rfl w h)
   ·skip
    replace h := br_f hb17 h
    refine zat ?_
    refine za1 ?_
    refine za0 ?_
    refine o_q rfl rfl (za2 rfl) ?_
    refine o_q rfl rfl (zaz rfl rfl) ?_
    refine o_q rfl rfl (q_asg rfl) ?_
    refine o_end ?_
    refine zao ?_
    refine za1 ?_
    refine za0 ?_
    refine o_q rfl rfl (za2 rfl) ?_
    refine o_q rfl rfl (zaz rfl rfl) ?_
    refine o_q rfl rfl (q_asg rfl) ?_
    refine o_end ?_
    refine zaq k5 (w64 (i1 + 1), w64 (i2 + 1)) (Nat.lt_succ_self _) h ⟨rfl, rfl, trivial⟩ (fun w h => za6 [] (by decide) rfl w h) ?_
    repeat (first | exact za7 _ _ | refine zad rfl ?_ | refine za8 rfl ?_ | refine zae rfl ?_)
  ·skip
   replace h := br_f hb13 h
   refine zb6 ?_
   refine zaa ?_
   refine zaa ?_
   have e_ := Option.some.inj h; replace h := hR8; rw [← e_] at h; clear e_
   refine x_hit ?_
   refine za1 ?_
   refine c_seq ?_
   refine za0 ?_
   refine o_q rfl rfl (za2 rfl) ?_
   refine o_q rfl rfl (q_asg rfl) ?_
   refine o_end ?_
   refine za1 ?_
   refine c_ret ?_
   have e0_ := Option.some.inj h; clear h
   subst e0_
   exact x_r1 () Try.results21 (zan rfl) rfl (fun w h => za6 [] (by decide) rfl w h)

/-! ### loop.example/g01098/laws.FnExactMethodCosts: function 5 -/
def laws_FnExactMethodCosts.f (k : Nat) (a0 : Int) : Option Bool := (spec_MethodCosts.f k a0).bind fun (l2, b3) => (impl_MethodCosts.f k a0).bind fun (l7, b8) => (laws_eqIntS.f k l7 l2).bind fun b12 => if b12 = true then (if (b8 != b3) = true then (some false) else ((laws_markIntS.f k l7 1).bind fun (i16, l17) => (laws_heldIntS.f k l17 1).bind fun i19 => if i19 < 0 then (some false) else (if i19 ≠ i16 then (some false) else ((impl_MethodCosts.f k a0).bind fun (l23, b24) => (laws_eqIntS.f k l23 l2).bind fun b28 => if b28 = true then (if (b24 != b3) = true then (some false) else ((laws_heldIntS.f k l17 1).bind fun i32 => if i32 < 0 then (some false) else (if i32 ≠ i16 then (some false) else (some true)))) else (some false))))) else (some false)
set_option maxHeartbeats 600000 in
set_option maxRecDepth 100000 in
theorem laws_FnExactMethodCosts.calls (k : Nat) {w0 ws : World} {P0 : Nat → Prop} (a0 : Int) (Z : Below w0.heap.size w0 ws) (hF : Fr w0 ws P0 [] ws)  (r_1 : Bool) (h : laws_FnExactMethodCosts.f k a0 = some r_1) :
  Calls Try.prog 5 #[.int .i64 a0] ws (Post1 w0 ws P0 (fun (_ : Unit) => .bool r_1) (fun (_ : Unit) => [])) := by
 unfold laws_FnExactMethodCosts.f at h
 refine enter Try.func5 rfl Try.ntmps5 rfl hF ?_
 refine c_seq ?_
 refine za0 ?_
 refine o_q rfl rfl (q_asg rfl) ?_
 refine o_end ?_
 refine za1 ?_
 refine c_seq ?_
 refine za0 ?_
 refine o_q rfl rfl (za2 rfl) ?_
 refine bindE2 h (fun l2 b3 hx1 h => ?_) rfl
 refine o_e rfl (za4 0 Z Try.func17 N17 rfl rfl rfl (fun w P1 hF hB hS hT => spec_MethodCosts.calls k a0 hB hF _ _ hx1)) (cur2 (fun A4 c5 => ?_))
 refine o_q rfl rfl (za2 rfl) ?_
 refine o_q rfl rfl (q_ext rfl rfl) ?_
 refine o_q rfl rfl (q_ext rfl rfl) ?_
 refine o_q rfl rfl (q_asg rfl) ?_
 refine o_q rfl rfl (q_asg rfl) ?_
 refine o_end ?_
 refine za1 ?_
 refine c_seq ?_
 refine za0 ?_
 refine o_q rfl rfl (za2 rfl) ?_
 refine bindE2 h (fun l7 b8 hx6 h => ?_) rfl
 refine o_e rfl (za4 0 Z Try.func18 N18 rfl rfl rfl (fun w P1 hF hB hS hT => impl_MethodCosts.calls k a0 hB hF _ _ hx6)) (cur2 (fun A9 c10 => ?_))
 refine o_q rfl rfl (za2 rfl) ?_
 refine o_q rfl rfl (q_ext rfl rfl) ?_
 refine o_q rfl rfl (q_ext rfl rfl) ?_
 refine o_q rfl rfl (q_asg rfl) ?_
 refine o_q rfl rfl (q_asg rfl) ?_
 refine o_end ?_
 refine za1 ?_
 refine c_seq ?_
 refine c_seq ?_
 refine za0 ?_
 refine o_q rfl rfl (za2 rfl) ?_
 refine o_q rfl rfl (za2 rfl) ?_
 refine za9 h (fun b12 hx11 h => ?_) rfl
 refine o_e rfl (za4 0 Z Try.func19 N19 rfl rfl rfl (fun w P1 hF hB hS hT => laws_eqIntS.calls k A9 c10 l7.length l7 A4 c5 l2.length l2 hB hF (hT 0 _ rfl).row (hT 0 _ rfl).cap (hT 1 _ rfl).row (hT 1 _ rfl).cap _ hx11)) (fun _ => ?_)
 refine o_q rfl rfl (q_not rfl) ?_
 refine o_q rfl rfl (za2 rfl) ?_
 refine byB b12 (fun hb13 => ?_) (fun hb13 => ?_)
 ·replace h := bb_t hb13 h
  refine o_w (zai rfl rfl rfl (congrArg (fun b => Value.bool (!(b))) hb13)) rfl (za2 rfl) ?_
  refine o_w (zai rfl rfl rfl (congrArg (fun b => Value.bool (!(b))) hb13)) rfl (za2 rfl) ?_
  refine o_w (zai rfl rfl rfl (congrArg (fun b => Value.bool (!(b))) hb13)) rfl (q_bneq Try.underlying4 rfl rfl) ?_
  refine o_q rfl rfl (zb1 false (congrArg (fun b => Value.bool (!(b))) hb13) rfl) ?_
  refine o_end ?_
  refine za1 ?_
  refine zaw _ rfl (fun hb14 => ?_) (fun hb14 => ?_)
  ·skip
   replace h := bb_t hb14 h
   refine c_seq ?_
   refine za0 ?_
   refine o_q rfl rfl (q_asg rfl) ?_
   refine o_end ?_
   refine za1 ?_
   refine c_ret ?_
   refine zaj ?_
   have e0_ := Option.some.inj h; clear h
   subst e0_
   exact x_r1 () Try.results5 (zan rfl) rfl (fun w h => za6 [] (by decide) rfl w h)
  ·skip
   replace h := bb_f hb14 h
   refine zat ?_
   refine za1 ?_
   refine c_seq ?_
   refine za0 ?_
   refine o_q rfl rfl (q_asg rfl) ?_
   refine o_end ?_
   refine za1 ?_
   refine c_seq ?_
   refine za0 ?_
   refine o_q rfl rfl (za2 rfl) ?_
   refine o_q rfl rfl (za2 rfl) ?_
   refine bindE2 h (fun i16 l17 hx15 h => ?_) rfl
   refine o_e rfl (za4 1 Z Try.func20 N20 rfl rfl rfl (fun w P1 hF hB hS hT => laws_markIntS.calls k A9 c10 l7.length l7 1 hB hF _ _ hx15)) (fun _ => ?_)
   refine o_q rfl rfl (q_asg rfl) ?_
   refine o_end ?_
   refine za1 ?_
   refine c_seq ?_
   refine za0 ?_
   refine o_q rfl rfl (q_asg rfl) ?_
   refine o_end ?_
   refine za1 ?_
   refine c_seq ?_
   refine za0 ?_
   refine o_q rfl rfl (za2 rfl) ?_
   refine o_q rfl rfl (za2 rfl) ?_
   refine za9 h (fun i19 hx18 h => ?_) rfl
   refine o_e rfl (za4 0 Z Try.func21 N21 rfl rfl rfl (fun w P1 hF hB hS hT => laws_heldIntS.calls k A9 c10 l7.length l17 1 hB hF (hT 0 _ rfl).row (hT 0 _ rfl).cap _ hx18)) (fun _ => ?_)
   refine o_q rfl rfl (q_asg rfl) ?_
   refine o_end ?_
   refine za1 ?_
   refine c_seq ?_
   refine c_seq ?_
   refine za0 ?_
   refine o_q rfl rfl (za2 rfl) ?_
   refine o_q rfl rfl (q_lss rfl rfl) ?_
   refine o_end ?_
   refine za1 ?_
   refine zaw _ rfl (fun hb20 => ?_) (fun hb20 => ?_)
   ·skip
    replace h := br_t hb20 h
    refine c_seq ?_
    refine za0 ?_
    refine o_q rfl rfl (q_asg rfl) ?_
    refine o_end ?_
    refine za1 ?_
    refine c_ret ?_
    refine zaj ?_
    have e0_ := Option.some.inj h; clear h
    subst e0_
    exact x_r1 () Try.results5 (zan rfl) rfl (fun w h => za6 [] (by decide) rfl w h)
   ·skip
    replace h := br_f hb20 h
    refine zat ?_
    refine za1 ?_
    refine c_seq ?_
    refine c_seq ?_
    refine za0 ?_
    refine o_q rfl rfl (za2 rfl) ?_
    refine o_q rfl rfl (za2 rfl) ?_
    refine o_q rfl rfl (q_neq rfl rfl) ?_
    refine o_end ?_
    refine za1 ?_
    refine zaw _ rfl (fun hb21 => ?_) (fun hb21 => ?_)
    ·skip
     replace h := br_t hb21 h
     refine c_seq ?_
     refine za0 ?_
     refine o_q rfl rfl (q_asg rfl) ?_
     refine o_end ?_
     refine za1 ?_
     refine c_ret ?_
     refine zaj ?_
     have e0_ := Option.some.inj h; clear h
     subst e0_
     exact x_r1 () Try.results5 (zan rfl) rfl (fun w h => za6 [] (by decide) rfl w h)
    ·skip
     replace h := br_f hb21 h
     refine zat ?_
     refine za1 ?_
     refine c_seq ?_
     refine za0 ?_
     refine o_q rfl rfl (za2 rfl) ?_
     refine bindE2 h (fun l23 b24 hx22 h => ?_) rfl
     refine o_e rfl (za4 0 Z Try.func18 N18 rfl rfl rfl (fun w P1 hF hB hS hT => impl_MethodCosts.calls k a0 hB hF _ _ hx22)) (cur2 (fun A25 c26 => ?_))
     refine o_q rfl rfl (za2 rfl) ?_
     refine o_q rfl rfl (q_ext rfl rfl) ?_
     refine o_q rfl rfl (q_ext rfl rfl) ?_
     refine o_q rfl rfl (q_asg rfl) ?_
     refine o_q rfl rfl (q_asg rfl) ?_
     refine o_end ?_
     refine za1 ?_
     refine c_seq ?_
     refine c_seq ?_
     refine za0 ?_
     refine o_q rfl rfl (za2 rfl) ?_
     refine o_q rfl rfl (za2 rfl) ?_
     refine za9 h (fun b28 hx27 h => ?_) rfl
     refine o_e rfl (za4 0 Z Try.func19 N19 rfl rfl rfl (fun w P1 hF hB hS hT => laws_eqIntS.calls k A25 c26 l23.length l23 A4 c5 l2.length l2 hB hF (hT 0 _ rfl).row (hT 0 _ rfl).cap (hT 2 _ rfl).row (hT 2 _ rfl).cap _ hx27)) (fun _ => ?_)
     refine o_q rfl rfl (q_not rfl) ?_
     refine o_q rfl rfl (za2 rfl) ?_
     refine byB b28 (fun hb29 => ?_) (fun hb29 => ?_)
     ·replace h := bb_t hb29 h
      refine o_w (zai rfl rfl rfl (congrArg (fun b => Value.bool (!(b))) hb29)) rfl (za2 rfl) ?_
      refine o_w (zai rfl rfl rfl (congrArg (fun b => Value.bool (!(b))) hb29)) rfl (za2 rfl) ?_
      refine o_w (zai rfl rfl rfl (congrArg (fun b => Value.bool (!(b))) hb29)) rfl (q_bneq Try.underlying4 rfl rfl) ?_
      refine o_q rfl rfl (zb1 false (congrArg (fun b => Value.bool (!(b))) hb29) rfl) ?_
      refine o_end ?_
      refine za1 ?_
      refine zaw _ rfl (fun hb30 => ?_) (fun hb30 => ?_)
      ·skip
       replace h := bb_t hb30 h
       refine c_seq ?_
       refine za0 ?_
       refine o_q rfl rfl (q_asg rfl) ?_
       refine o_end ?_
       refine za1 ?_
       refine c_ret ?_
       refine zaj ?_
       have e0_ := Option.some.inj h; clear h
       subst e0_
       exact x_r1 () Try.results5 (zan rfl) rfl (fun w h => za6 [] (by decide) rfl w h)
      ·skip
       replace h := bb_f hb30 h
       refine zat ?_
       refine za1 ?_
       refine c_seq ?_
       refine za0 ?_
       refine o_q rfl rfl (q_asg rfl) ?_
       refine o_end ?_
       refine za1 ?_
       refine c_seq ?_
       refine za0 ?_
       refine o_q rfl rfl (za2 rfl) ?_
       refine o_q rfl rfl (za2 rfl) ?_
       refine za9 h (fun i32 hx31 h => ?_) rfl
       refine o_e rfl (za4 0 Z Try.func21 N21 rfl rfl rfl (fun w P1 hF hB hS hT => laws_heldIntS.calls k A9 c10 l7.length l17 1 hB hF (hT 1 _ rfl).row (hT 1 _ rfl).cap _ hx31)) (fun _ => ?_)
       refine o_q rfl rfl (q_asg rfl) ?_
       refine o_end ?_
       refine za1 ?_
       refine c_seq ?_
       refine c_seq ?_
       refine za0 ?_
       refine o_q rfl rfl (za2 rfl) ?_
       refine o_q rfl rfl (q_lss rfl rfl) ?_
       refine o_end ?_
       refine za1 ?_
       refine zaw _ rfl (fun hb33 => ?_) (fun hb33 => ?_)
       ·skip
        replace h := br_t hb33 h
        refine c_seq ?_
        refine za0 ?_
        refine o_q rfl rfl (q_asg rfl) ?_
        refine o_end ?_
        refine za1 ?_
        refine c_ret ?_
        refine zaj ?_
        have e0_ := Option.some.inj h; clear h
        subst e0_
        exact x_r1 () Try.results5 (zan rfl) rfl (fun w h => za6 [] (by decide) rfl w h)
       ·skip
        replace h := br_f hb33 h
        refine zat ?_
        refine za1 ?_
        refine c_seq ?_
        refine c_seq ?_
        refine za0 ?_
        refine o_q rfl rfl (za2 rfl) ?_
        refine o_q rfl rfl (za2 rfl) ?_
        refine o_q rfl rfl (q_neq rfl rfl) ?_
        refine o_end ?_
        refine za1 ?_
        refine zaw _ rfl (fun hb34 => ?_) (fun hb34 => ?_)
        ·skip
         replace h := br_t hb34 h
         refine c_seq ?_
         refine za0 ?_
         refine o_q rfl rfl (q_asg rfl) ?_
         refine o_end ?_
         refine za1 ?_
         refine c_ret ?_
         refine zaj ?_
         have e0_ := Option.some.inj h; clear h
         subst e0_
         exact x_r1 () Try.results5 (zan rfl) rfl (fun w h => za6 [] (by decide) rfl w h)
        ·skip
         replace h := br_f hb34 h
         refine zat ?_
         refine za1 ?_
         refine c_seq ?_
         refine za0 ?_
         refine o_q rfl rfl (q_asg rfl) ?_
         refine o_end ?_
         refine za1 ?_
         refine c_ret ?_
         have e0_ := Option.some.inj h; clear h
         subst e0_
         exact x_r1 () Try.results5 (zan rfl) rfl (fun w h => za6 [] (by decide) rfl w h)
     ·replace h := bb_f hb29 h
      refine @o_n _ _ _ _ _ _ _ _ _ _ _ 51 (zac rfl rfl rfl (congrArg (fun b => Value.bool (!(b))) hb29) rfl) (Eq.refl (some 51)) ?_
      refine @o_n _ _ _ _ _ _ _ _ _ _ _ 52 (zac rfl rfl rfl (congrArg (fun b => Value.bool (!(b))) hb29) rfl) (Eq.refl (some 52)) ?_
      refine @o_n _ _ _ _ _ _ _ _ _ _ _ 53 (zac rfl rfl rfl (congrArg (fun b => Value.bool (!(b))) hb29) rfl) (Eq.refl (some 53)) ?_
      refine o_q rfl rfl (zb1 true (congrArg (fun b => Value.bool (!(b))) hb29) rfl) ?_
      refine o_end ?_
      refine za1 ?_
      refine zb9 rfl ?_
      refine c_seq ?_
      refine za0 ?_
      refine o_q rfl rfl (q_asg rfl) ?_
      refine o_end ?_
      refine za1 ?_
      refine c_ret ?_
      refine zaj ?_
      have e0_ := Option.some.inj h; clear h
      subst e0_
      exact x_r1 () Try.results5 (zan rfl) rfl (fun w h => za6 [] (by decide) rfl w h)
 ·replace h := bb_f hb13 h
  refine @o_n _ _ _ _ _ _ _ _ _ _ _ 26 (zac rfl rfl rfl (congrArg (fun b => Value.bool (!(b))) hb13) rfl) (Eq.refl (some 26)) ?_
  refine @o_n _ _ _ _ _ _ _ _ _ _ _ 27 (zac rfl rfl rfl (congrArg (fun b => Value.bool (!(b))) hb13) rfl) (Eq.refl (some 27)) ?_
  refine @o_n _ _ _ _ _ _ _ _ _ _ _ 28 (zac rfl rfl rfl (congrArg (fun b => Value.bool (!(b))) hb13) rfl) (Eq.refl (some 28)) ?_
  refine o_q rfl rfl (zb1 true (congrArg (fun b => Value.bool (!(b))) hb13) rfl) ?_
  refine o_end ?_
  refine za1 ?_
  refine zb9 rfl ?_
  refine c_seq ?_
  refine za0 ?_
  refine o_q rfl rfl (q_asg rfl) ?_
  refine o_end ?_
  refine za1 ?_
  refine c_ret ?_
  refine zaj ?_
  have e0_ := Option.some.inj h; clear h
  subst e0_
  exact x_r1 () Try.results5 (zan rfl) rfl (fun w h => za6 [] (by decide) rfl w h)

/-- THE ONE PURE STATEMENT of laws_FnExactMethodCosts. -/
def laws_FnExactMethodCosts.Pure : Prop := ∀ (a0 : Int), (Lit.int .i64 a0).wf = true → ∃ k, laws_FnExactMethodCosts.f k a0 = some true
theorem laws_FnExactMethodCosts.walk (P : laws_FnExactMethodCosts.Pure) (a0 : Int) (w : World)  (q0 : (Lit.int .i64 a0).wf = true) :
  Calls Try.prog 5 #[.int .i64 a0] w fun e w' => e = .returned (.bool true) ∧ Below w.heap.size w w' := by
 obtain ⟨k, h⟩ := P a0 q0
 refine (laws_FnExactMethodCosts.calls k a0 (Below.refl _ _) (Fr.start w)  true h).mono ?_
 rintro e w' ⟨s, rfl, hF⟩
 exact ⟨rfl, hF.bel⟩
end Go.Proofs.Ytiaohjciddbpoaa.H8
