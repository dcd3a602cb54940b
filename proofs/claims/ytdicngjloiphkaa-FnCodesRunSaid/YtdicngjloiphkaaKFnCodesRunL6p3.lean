import Derived.Test.YtdicngjloiphkaaKFnCodesRunL6p2
namespace Go.Proofs.Ytdicngjloiphkaa.L6
open Go.RowKit Go.Proofs.Ytdicngjloiphkaa.Frame Go.Proofs.YtdicngjloiphkaaW.PrintLast Go.Proofs.Ytdicngjloiphkaa.Hand
open Go.Proofs.YtdicngjloiphkaaW.PrintWords hiding mn mx
set_option linter.unusedVariables false
/-! ### (*loop.example/g01098/spec.l1Cur).residues: function 96 -/
def spec_l1Cur_residues.l0 (l0_0 : List Int) (a2 : Int) : Nat → (List Int) → Int → Int → Int → Option ((List Int) × Int × Int)
 | 0, _, _, _, _ => none
 | k28 + 1, l20, i23, i24, i25 => if 0 < i25 then ((spec_l1Cur_residue.f l0_0 i23 i24 a2).bind fun (i38, i39, i40) => (ap l20 ([i38] : List Int)).bind fun l44 => spec_l1Cur_residues.l0 l0_0 a2 k28 l44 i39 i40 (w64 (i25 - 1))) else (some (l20, i23, i24))
def spec_l1Cur_residues.f (k : Nat) (l0_0 : List Int) (a0_1 : Int) (a0_2 : Int) (a1 : Int) (a2 : Int) : Option ((List Int) × Int × Int) := ((spec_l1Cur_one.f l0_0 a0_1 a0_2 30).bind fun (b15, i16, i17) => if b15 = true then (some (i16, i17, w64 (a1 + 1))) else (some (i16, i17, a1))).bind fun (i6, i7, i8) => (spec_l1Cur_residues.l0 l0_0 a2 k ([] : List Int) i6 i7 i8).bind fun (l20, i23, i24) => some (l20, i23, i24)
set_option maxHeartbeats 600000 in
set_option maxRecDepth 100000 in
theorem spec_l1Cur_residues.calls (k : Nat) {w0 ws : World} {P0 : Nat → Prop} (g0 : Nat) (A0_0 : Option Addr) (c0_0 : Nat) (n0_0 : Nat) (l0_0 : List Int) (a0_1 : Int) (a0_2 : Int) (a1 : Int) (a2 : Int) (Z : Below w0.heap.size w0 ws) (hF : Fr w0 ws P0 [box g0 67 #[.slice A0_0 n0_0 c0_0, .int .i64 a0_1, .int .u64 a0_2]] ws) (R0_0 : Stable ws P0 (fun w => Kd.C (Kd.int .u8) w A0_0 n0_0 l0_0)) (hc0_0 : n0_0 ≤ c0_0) (r_1 : List Int) (r_4 : Int) (r_5 : Int) (h : spec_l1Cur_residues.f k l0_0 a0_1 a0_2 a1 a2 = some (r_1, r_4, r_5)) :
  Calls Try.prog 96 #[.pointer (some ⟨g0, 0, none⟩), .int .i64 a1, .int .i64 a2] ws (Post1 w0 ws P0 (fun ((q_2, q_3) : (Option Addr) × Nat) => .slice q_2 r_1.length q_3) (fun ((q_2, q_3) : (Option Addr) × Nat) => [row (Kd.int .i64) 3 (.slice q_2 r_1.length q_3) r_1, box g0 67 #[.slice A0_0 n0_0 c0_0, .int .i64 r_4, .int .u64 r_5]])) := by
 unfold spec_l1Cur_residues.f at h
 obtain rfl := (R0_0 ws (KeptB.refl _ _)).1
 refine enter Try.func96 rfl Try.ntmps96 rfl hF ?_
 refine c_seq ?_
 refine za0 ?_
 refine o_q rfl rfl (q_asg rfl) ?_
 refine o_end ?_
 refine za1 ?_
 refine c_seq ?_
 refine za0 ?_
 refine o_q rfl rfl (q_asg rfl) ?_
 refine o_end ?_
 refine za1 ?_
 refine za7 h (fun o9 hl10 hR11 => ?_) rfl
 clear h
 refine c_cutJ (σ := Int × Int × Int) (fun (i6, i7, i8) => some (i6, i7, i8) = some o9) [1, 8, 9, 10, 11] (fun (i6, i7, i8) => [(1, .int .i64 i8)]) (fun (i6, i7, i8) => [box g0 67 #[.slice A0_0 l0_0.length c0_0, .int .i64 i6, .int .u64 i7]]) ?_ ?_
 ·skip
  have h := hl10; clear hl10
  clear hR11
  refine c_seq ?_
  refine za0 ?_
  refine o_q rfl rfl (za2 rfl) ?_
  refine bindE3 h (fun b15 i16 i17 hx14 h => ?_) rfl
  refine o_e rfl (zab 1 Z Try.func102 N102 rfl rfl rfl (fun w P1 hF hB hS hT => spec_l1Cur_one.calls g0 A0_0 c0_0 l0_0.length l0_0 a0_1 a0_2 30 hB hF (hS _ R0_0) hc0_0 _ _ _ hx14)) (fun _ => ?_)
  refine o_end ?_
  refine za1 ?_
  refine zau _ rfl (fun hb18 => ?_) (fun hb18 => ?_)
  ·skip
   replace h := bb_t hb18 h
   refine za0 ?_
   refine o_q rfl rfl (za2 rfl) ?_
   refine o_q rfl rfl (zb8 rfl rfl) ?_
   refine o_q rfl rfl (q_asg rfl) ?_
   refine o_end ?_
   refine zas (i16, i17, w64 (a1 + 1)) h ⟨rfl, trivial⟩ (fun w h => za6 [0] (by decide) rfl w h) ?_
   repeat (first | exact zac _ _ | refine zaf rfl ?_ | refine zad rfl ?_ | refine zah rfl ?_)
  ·skip
   replace h := bb_f hb18 h
   refine zao ?_
   refine zas (i16, i17, a1) h ⟨rfl, trivial⟩ (fun w h => za6 [0] (by decide) rfl w h) ?_
   repeat (first | exact zac _ _ | refine zaf rfl ?_ | refine zad rfl ?_ | refine zah rfl ?_)
 ·skip
  refine (cur3 (fun i6 i7 i8 => fun U12 hJ13 => ?_))
  have e_ := Option.some.inj hJ13; have h := hR11; rw [← e_] at h; clear e_ hJ13 hR11 hl10
  refine c_seq ?_
  refine zaj ?_
  refine c_nil (Kd.int .i64) 3 ?_
  refine za7 h (fun o33 hl32 hR31 => ?_) rfl
  clear h
  refine zax (σ := (List Int) × Int × Int × Int × (Option Addr) × Nat) (fun k28 ((l20, i23, i24, i25, A21, c22) : (List Int) × Int × Int × Int × (Option Addr) × Nat) => spec_l1Cur_residues.l0 l0_0 a2 k28 l20 i23 i24 i25 = some o33) [1, 7, 12, 13, 14, 15, 16, 17, 18, 19, 20, 21] (fun ((l20, i23, i24, i25, A21, c22) : (List Int) × Int × Int × Int × (Option Addr) × Nat) => [(1, .int .i64 i25), (7, .slice A21 l20.length c22)]) (fun ((l20, i23, i24, i25, A21, c22) : (List Int) × Int × Int × Int × (Option Addr) × Nat) => [row (Kd.int .i64) 3 (.slice A21 l20.length c22) l20, box g0 67 #[.slice A0_0 l0_0.length c0_0, .int .i64 i23, .int .u64 i24]]) k (([] : List Int), i6, i7, i8, none, 0) hl32 ⟨rfl, rfl, trivial⟩ (fun w h => h) ?_
  refine natC (cur6 (fun l20 i23 i24 i25 A21 c22 => fun U34 hJ_ => ?_)) (fun k28 => (cur6 (fun l20 i23 i24 i25 A21 c22 => fun U34 hJ_ => ?_)))
  ·skip
   replace hJ_ : spec_l1Cur_residues.l0 l0_0 a2 0 l20 i23 i24 i25 = some o33 := hJ_
   rw [spec_l1Cur_residues.l0] at hJ_
   exact noneE hJ_
  ·skip
   clear hl32
   have h := hJ_; clear hJ_
   replace h : spec_l1Cur_residues.l0 l0_0 a2 (k28 + 1) l20 i23 i24 i25 = some o33 := h
   rw [spec_l1Cur_residues.l0] at h
   refine c_seq ?_
   refine c_seq ?_
   refine za0 ?_
   refine o_q rfl rfl (za2 rfl) ?_
   refine o_q rfl rfl (q_gtr rfl rfl) ?_
   refine o_end ?_
   refine za1 ?_
   refine zau _ rfl (fun hb36 => ?_) (fun hb36 => ?_)
   ·skip
    replace h := br_t hb36 h
    refine zao ?_
    refine za1 ?_
    refine c_seq ?_
    refine zaj ?_
    refine za0 ?_
    refine o_q rfl rfl (za2 rfl) ?_
    refine o_q rfl rfl (za2 rfl) ?_
    refine o_q rfl rfl (za2 rfl) ?_
    refine o_pick [1, 0] (by decide) rfl ?_
    refine bindE3 h (fun i38 i39 i40 hx37 h => ?_) rfl
    refine o_e rfl (zab 1 Z Try.func149 N149 rfl rfl rfl (fun w P1 hF hB hS hT => spec_l1Cur_residue.calls g0 A0_0 c0_0 l0_0.length l0_0 i23 i24 a2 hB hF (hS _ R0_0) hc0_0 _ _ _ hx37)) (fun _ => ?_)
    refine o_e rfl (e_lit (vs := [(0, .int .i64 i38)]) (cs := [.int .i64 i38]) (Kd.int .i64) ([i38] : List Int) Try.underlying25 I3 (by decide) rfl (by decide) rfl rfl (fun _ _ => Kd.zak _)) (cur2 (fun A41 c42 => ?_))
    refine za7 h (fun l44 ha45 h => ?_) rfl
    refine o_e rfl (e_app (i := 2) (j := 0) Try.underlying25 I3 rfl (by decide) (by decide) rfl rfl rfl rfl rfl ha45) (cur2 (fun A46 c47 => ?_))
    refine o_q rfl rfl (q_asg rfl) ?_
    refine o_end ?_
    refine zal ?_
    refine za1 ?_
    refine za0 ?_
    refine o_q rfl rfl (za2 rfl) ?_
    refine o_q rfl rfl (q_sub64 rfl rfl) ?_
    refine o_q rfl rfl (q_asg rfl) ?_
    refine o_end ?_
    refine zam k28 (l44, i39, i40, w64 (i25 - 1), A46, c47) (Nat.lt_succ_self _) h ⟨rfl, rfl, trivial⟩ (fun w h => za6 [2, 1] (by decide) rfl w h) ?_
    repeat (first | exact zac _ _ | refine zaf rfl ?_ | refine zad rfl ?_ | refine zah rfl ?_)
   ·skip
    replace h := br_f hb36 h
    refine zb4 ?_
    refine za8 ?_
    refine za8 ?_
    have e_ := Option.some.inj h; replace h := hR31; rw [← e_] at h; clear e_
    refine x_hit ?_
    refine za1 ?_
    refine c_seq ?_
    refine za0 ?_
    refine o_q rfl rfl (za2 rfl) ?_
    refine o_q rfl rfl (q_asg rfl) ?_
    refine o_end ?_
    refine za1 ?_
    refine c_ret ?_
    have e0_ := Option.some.inj h; clear h
    have d0_ := (Prod.mk.inj e0_).1; have e1_ := (Prod.mk.inj e0_).2; clear e0_; subst d0_
    have d1_ := (Prod.mk.inj e1_).1; have e2_ := (Prod.mk.inj e1_).2; clear e1_; subst d1_
    subst e2_
    exact x_r1 (A21, c22) Try.results96 (zai rfl) rfl (fun w h => za6 [0, 1] (by decide) rfl w h)

/-! ### loop.example/g01098/spec.DrawRunRegCode: function 36 -/
def spec_DrawRunRegCode.f (k : Nat) (l0 : List Int) : Option (Int × (List Int) × (List SRegOp) × (List Int) × Int × (List Int)) := (spec_l1Cur_code9.f k l0 0 0).bind fun (i6, l7, l8, l9, i10, i11) => (spec_l1Cur_modulus6.f l0 i10 i11).bind fun (i21, i22, i23) => (spec_l1Cur_residues.f k l0 i22 i23 (l7.length : Int) i21).bind fun (l25, i26, i27) => some (i6, l7, l8, l9, i21, l25)
set_option maxHeartbeats 600000 in
set_option maxRecDepth 100000 in
theorem spec_DrawRunRegCode.calls (k : Nat) {w0 ws : World} {P0 : Nat → Prop} (A0 : Option Addr) (c0 : Nat) (n0 : Nat) (l0 : List Int) (Z : Below w0.heap.size w0 ws) (hF : Fr w0 ws P0 [] ws) (R0 : Stable ws P0 (fun w => Kd.C (Kd.int .u8) w A0 n0 l0)) (hc0 : n0 ≤ c0) (r_1 : Int) (r_2 : List Int) (r_5 : List SRegOp) (r_8 : List Int) (r_11 : Int) (r_12 : List Int) (h : spec_DrawRunRegCode.f k l0 = some (r_1, r_2, r_5, r_8, r_11, r_12)) :
  Calls Try.prog 36 #[.slice A0 n0 c0] ws (Post1 w0 ws P0 (fun ((q_3, q_4, q_6, q_7, q_9, q_10, q_13, q_14) : (Option Addr) × Nat × (Option Addr) × Nat × (Option Addr) × Nat × (Option Addr) × Nat) => .tuple #[.agg #[.int .i64 r_1, .slice q_3 r_2.length q_4, .slice q_6 r_5.length q_7, .slice q_9 r_8.length q_10], .int .i64 r_11, .slice q_13 r_12.length q_14]) (fun ((q_3, q_4, q_6, q_7, q_9, q_10, q_13, q_14) : (Option Addr) × Nat × (Option Addr) × Nat × (Option Addr) × Nat × (Option Addr) × Nat) => [row (Kd.int .i64) 3 (.slice q_3 r_2.length q_4) r_2, row zb6 94 (.slice q_6 r_5.length q_7) r_5, row (Kd.int .i64) 3 (.slice q_9 r_8.length q_10) r_8, row (Kd.int .i64) 3 (.slice q_13 r_12.length q_14) r_12])) := by
 unfold spec_DrawRunRegCode.f at h
 obtain rfl := (R0 ws (KeptB.refl _ _)).1
 refine enter Try.func36 rfl Try.ntmps36 rfl hF ?_
 refine c_seq ?_
 refine za0 ?_
 refine o_e rfl (zat V43 rfl) (fun g1 => ?_)
 refine o_q rfl rfl (q_asg rfl) ?_
 refine o_q rfl rfl (q_asg rfl) ?_
 refine o_end ?_
 refine za1 ?_
 refine c_seq ?_
 refine za0 ?_
 refine o_q rfl rfl (za2 rfl) ?_
 refine o_q rfl rfl (zb5 (vs := [(0, .slice A0 l0.length c0)]) (cs := [.slice A0 l0.length c0, .int .i64 0, .int .u64 0]) rfl rfl) ?_
 refine o_e rfl (e_box rfl) (fun g3 => ?_)
 refine o_q rfl rfl (q_asg rfl) ?_
 refine o_end ?_
 refine za1 ?_
 refine c_seq ?_
 refine za0 ?_
 refine o_q rfl rfl (za2 rfl) ?_
 refine bindE6 h (fun i6 l7 l8 l9 i10 i11 hx5 h => ?_) rfl
 refine o_e rfl (zab 1 Z Try.func94 N94 rfl rfl rfl (fun w P1 hF hB hS hT => spec_l1Cur_code9.calls k g3 A0 c0 l0.length l0 0 0 hB hF (hS _ R0) hc0 _ _ _ _ _ _ hx5)) (cur6 (fun A12 c13 A14 c15 A16 c17 => ?_))
 refine o_e rfl (zat V43 rfl) (fun g18 => ?_)
 refine o_e rfl (zan (i := 0) rfl rfl rfl Z43 rfl rfl) (fun _ => ?_)
 refine o_end ?_
 refine za1 ?_
 refine c_seq ?_
 refine za0 ?_
 refine o_q rfl rfl (za2 rfl) ?_
 refine o_pick [4, 0, 1, 2, 3, 5] (by decide) rfl ?_
 refine bindE3 h (fun i21 i22 i23 hx20 h => ?_) rfl
 refine o_e rfl (zab 1 Z Try.func95 N95 rfl rfl rfl (fun w P1 hF hB hS hT => spec_l1Cur_modulus6.calls g3 A0 c0 l0.length l0 i10 i11 hB hF (hS _ R0) hc0 _ _ _ hx20)) (fun _ => ?_)
 refine o_q rfl rfl (q_asg rfl) ?_
 refine o_end ?_
 refine za1 ?_
 refine c_seq ?_
 refine a_startS (ds := []) [none, some 1, some 2, some 3, some 4, none] MO rfl ?_
 refine zb0 0 rfl rfl rfl (by kernel_rfl) (fun _ _ _ h => h) (fun w h => za5 [none, some 1, some 2, some 3, some 4, none] (by decide) w h rfl) (q_ldB G43 Z43 rfl (fun w h => h.zae (i := 1) rfl) rfl) ?_
 refine za9 1 rfl rfl rfl (by kernel_rfl) (fun _ _ _ h => h) (za2 rfl) ?_
 refine za9 2 rfl rfl rfl (by kernel_rfl) (fun _ _ _ h => h) (za2 rfl) ?_
 refine za9 3 rfl rfl rfl (by kernel_rfl) (fun _ _ _ h => h) (q_f F43_1 rfl) ?_
 refine zb0 4 rfl rfl rfl (by kernel_rfl) (fun _ _ _ h => h) (fun w h => za5 [none, some 1, some 2, some 3, some 4, none] (by decide) w h rfl) (q_ldb Y25 rfl (fun w h => h.zae (i := 1) rfl) rfl) ?_
 refine za9 5 rfl rfl rfl (by kernel_rfl) (fun _ _ _ h => h) (q_len Try.underlying25 rfl) ?_
 refine za9 6 rfl rfl rfl (by kernel_rfl) (fun _ _ _ h => h) (za2 rfl) ?_
 refine bindE3 h (fun l25 i26 i27 hx24 h => ?_) rfl
 refine a_one 7 rfl rfl (by kernel_rfl) rfl (zab 1 Z Try.func96 N96 rfl rfl rfl (fun w P1 hF hB hS hT => spec_l1Cur_residues.calls k g3 A0 c0 l0.length l0 i22 i23 (l7.length : Int) i21 hB hF (hS _ R0) hc0 _ _ _ hx24)) (fun s w h => za5 [none, some 2, some 3, some 4, some 5, none] (by decide) w h rfl) (cur2 (fun A28 c29 => ?_))
 refine a_one 8 rfl rfl (by kernel_rfl) rfl (zan (i := 6) rfl rfl rfl Z43 rfl rfl) (fun s w h => za5 [none, some 2, some 3, some 4, some 5, none] (by decide) w h rfl) (fun _ => ?_)
 refine za9 9 rfl rfl rfl (by kernel_rfl) (fun _ _ _ h => h) (q_asg rfl) ?_
 refine za9 10 rfl rfl rfl (by kernel_rfl) (fun _ _ _ h => h) (q_asg rfl) ?_
 refine zav (by kernel_rfl) ?_
 refine za1 ?_
 refine c_ret ?_
 have e0_ := Option.some.inj h; clear h
 have d0_ := (Prod.mk.inj e0_).1; have e1_ := (Prod.mk.inj e0_).2; clear e0_; subst d0_
 have d1_ := (Prod.mk.inj e1_).1; have e2_ := (Prod.mk.inj e1_).2; clear e1_; subst d1_
 have d2_ := (Prod.mk.inj e2_).1; have e3_ := (Prod.mk.inj e2_).2; clear e2_; subst d2_
 have d3_ := (Prod.mk.inj e3_).1; have e4_ := (Prod.mk.inj e3_).2; clear e3_; subst d3_
 have d4_ := (Prod.mk.inj e4_).1; have e5_ := (Prod.mk.inj e4_).2; clear e4_; subst d4_
 subst e5_
 exact x_r3 (A12, c13, A14, c15, A16, c17, A28, c29) Try.results36 (rv_cell rfl G43 Z43 (fun w h => h.zae (i := 6) rfl) rfl) (zai rfl) (zai rfl) rfl (fun w h => za6 [3, 4, 5, 0] (by decide) rfl w h)

/-! ### loop.example/g01098/impl.in: function 58 -/
def impl_in.f (a0 : Int) (a1 : Int) (a2 : Int) : Option Bool := if a1 ≤ a0 then (some (decide (a0 ≤ a2))) else (some false)
set_option maxHeartbeats 600000 in
set_option maxRecDepth 100000 in
theorem impl_in.calls {w0 ws : World} {P0 : Nat → Prop} (a0 : Int) (a1 : Int) (a2 : Int) (Z : Below w0.heap.size w0 ws) (hF : Fr w0 ws P0 [] ws)  (r_1 : Bool) (h : impl_in.f a0 a1 a2 = some r_1) :
  Calls Try.prog 58 #[.int .i64 a0, .int .i64 a1, .int .i64 a2] ws (Post1 w0 ws P0 (fun (_ : Unit) => .bool r_1) (fun (_ : Unit) => [])) := by
 unfold impl_in.f at h
 refine enter Try.func58 rfl Try.ntmps58 rfl hF ?_
 refine c_seq ?_
 refine za0 ?_
 refine o_q rfl rfl (q_asg rfl) ?_
 refine o_end ?_
 refine za1 ?_
 refine c_seq ?_
 refine za0 ?_
 refine o_q rfl rfl (za2 rfl) ?_
 refine o_q rfl rfl (za2 rfl) ?_
 refine o_q rfl rfl (q_geq rfl rfl) ?_
 refine o_q rfl rfl (za2 rfl) ?_
 refine byB (decide (a1 ≤ a0)) (fun hb1 => ?_) (fun hb1 => ?_)
 ·replace h := br_t hb1 h
  refine o_w (za4 rfl rfl rfl (congrArg Value.bool hb1)) rfl (za2 rfl) ?_
  refine o_w (za4 rfl rfl rfl (congrArg Value.bool hb1)) rfl (za2 rfl) ?_
  refine o_w (za4 rfl rfl rfl (congrArg Value.bool hb1)) rfl (q_leq rfl rfl) ?_
  refine o_q rfl rfl (zaq true (congrArg Value.bool hb1) rfl) ?_
  refine o_q rfl rfl (q_asg rfl) ?_
  refine o_end ?_
  refine za1 ?_
  refine c_ret ?_
  have e0_ := Option.some.inj h; clear h
  subst e0_
  exact x_r1 () Try.results58 (zai rfl) rfl (fun w h => za6 [] (by decide) rfl w h)
 ·replace h := br_f hb1 h
  refine @o_n _ _ _ _ _ _ _ _ _ _ _ 11 (za3 rfl rfl rfl (congrArg Value.bool hb1) rfl) (Eq.refl (some 11)) ?_
  refine @o_n _ _ _ _ _ _ _ _ _ _ _ 12 (za3 rfl rfl rfl (congrArg Value.bool hb1) rfl) (Eq.refl (some 12)) ?_
  refine @o_n _ _ _ _ _ _ _ _ _ _ _ 13 (za3 rfl rfl rfl (congrArg Value.bool hb1) rfl) (Eq.refl (some 13)) ?_
  refine o_q rfl rfl (zaq false (congrArg Value.bool hb1) rfl) ?_
  refine o_q rfl rfl (q_asg rfl) ?_
  refine o_end ?_
  refine za1 ?_
  refine c_ret ?_
  have e0_ := Option.some.inj h; clear h
  subst e0_
  exact x_r1 () Try.results58 (zai rfl) rfl (fun w h => za6 [] (by decide) rfl w h)

/-! ### (*loop.example/g01098/impl.RegCode).read$1: function 181 -/
def impl_RegCode_read_1.f (a0 : Int) (l1_0 : List Int) : Option Bool := (impl_in.f a0 0 (w64 ((l1_0.length : Int) - 1))).bind fun b2 => some b2
set_option maxHeartbeats 600000 in
set_option maxRecDepth 100000 in
theorem impl_RegCode_read_1.calls {w0 ws : World} {P0 : Nat → Prop} (a0 : Int) (g1 : Nat) (A1_0 : Option Addr) (c1_0 : Nat) (n1_0 : Nat) (l1_0 : List Int) (Z : Below w0.heap.size w0 ws) (hF : Fr w0 ws P0 [] ws) (R1_0 : Stable ws P0 (fun w => Kd.C (Kd.int .i64) w A1_0 n1_0 l1_0)) (hc1_0 : n1_0 ≤ c1_0) (B1 : Stable ws P0 (fun w => w.heap[g1]? = some (.cells #[.slice A1_0 n1_0 c1_0] 25 (0, 0)))) (r_1 : Bool) (h : impl_RegCode_read_1.f a0 l1_0 = some r_1) :
  Calls Try.prog 181 #[.int .i64 a0, .pointer (some ⟨g1, 0, none⟩)] ws (Post1 w0 ws P0 (fun (_ : Unit) => .bool r_1) (fun (_ : Unit) => [])) := by
 unfold impl_RegCode_read_1.f at h
 obtain rfl := (R1_0 ws (KeptB.refl _ _)).1
 refine enter Try.func181 rfl Try.ntmps181 rfl hF ?_
 refine c_seq ?_
 refine za0 ?_
 refine o_q rfl rfl (q_asg rfl) ?_
 refine o_end ?_
 refine za1 ?_
 refine c_seq ?_
 refine za0 ?_
 refine o_q rfl rfl (za2 rfl) ?_
 refine o_q rfl rfl (q_ldb Y25 rfl (fun w h => B1.now Z h) rfl) ?_
 refine o_q rfl rfl (q_len Try.underlying25 rfl) ?_
 refine o_q rfl rfl (q_sub64 rfl rfl) ?_
 refine za7 h (fun b2 hx1 h => ?_) rfl
 refine o_e rfl (zab 0 Z Try.func58 N58 rfl rfl rfl (fun w P1 hF hB hS hT => impl_in.calls a0 0 (w64 ((l1_0.length : Int) - 1)) hB hF _ hx1)) (fun _ => ?_)
 refine o_q rfl rfl (q_asg rfl) ?_
 refine o_end ?_
 refine za1 ?_
 refine c_ret ?_
 have e0_ := Option.some.inj h; clear h
 subst e0_
 exact x_r1 () Try.results181 (zai rfl) rfl (fun w h => za6 [] (by decide) rfl w h)

/-! ### loop.example/g01098/impl.step: function 79 -/
def impl_step.f (a0 : Int) (a1 : Int) : Option Unit := some ()
set_option maxHeartbeats 600000 in
set_option maxRecDepth 100000 in
theorem impl_step.calls {w0 ws : World} {P0 : Nat → Prop} (a0 : Int) (a1 : Int) (Z : Below w0.heap.size w0 ws) (hF : Fr w0 ws P0 [] ws)   (h : impl_step.f a0 a1 = some ()) :
  Calls Try.prog 79 #[.int .i64 a0, .int .i64 a1] ws (Post1 w0 ws P0 (fun (_ : Unit) => .agg #[.int .i64 (mn a0 a1), .int .i64 (mx a0 a1)]) (fun (_ : Unit) => [])) := by
 unfold impl_step.f at h
 refine enter Try.func79 rfl Try.ntmps79 rfl hF ?_
 refine c_seq ?_
 refine za0 ?_
 refine o_e rfl (zat V88 rfl) (fun g1 => ?_)
 refine o_end ?_
 refine za1 ?_
 refine c_seq ?_
 refine za0 ?_
 refine o_q rfl rfl (za2 rfl) ?_
 refine o_q rfl rfl (za2 rfl) ?_
 refine o_q rfl rfl (q_min rfl rfl) ?_
 refine o_q rfl rfl (za2 rfl) ?_
 refine o_q rfl rfl (za2 rfl) ?_
 refine o_q rfl rfl (q_max rfl rfl) ?_
 refine o_q rfl rfl (zb5 (vs := [(0, .int .i64 (mn a0 a1)), (1, .int .i64 (mx a0 a1))]) (cs := [.int .i64 (mn a0 a1), .int .i64 (mx a0 a1)]) rfl rfl) ?_
 refine o_e rfl (zan (i := 0) rfl rfl rfl Z88 rfl rfl) (fun _ => ?_)
 refine o_end ?_
 refine za1 ?_
 refine c_ret ?_
 exact x_r1 () Try.results79 (rv_cell rfl G88 Z88 (fun w h => h.zae (i := 0) rfl) rfl) rfl (fun w h => za6 [] (by decide) rfl w h)

/-! ### (*loop.example/g01098/impl.Plan).many: function 84 -/
def impl_Plan_many.f (a0_0 : Int) (l0_1 : List SStep) (l0_2 : List Int) : Option Unit := some ()
set_option maxHeartbeats 600000 in
set_option maxRecDepth 100000 in
theorem impl_Plan_many.calls {w0 ws : World} {P0 : Nat → Prop} (g0 : Nat) (a0_0 : Int) (A0_1 : Option Addr) (c0_1 : Nat) (n0_1 : Nat) (l0_1 : List SStep) (A0_2 : Option Addr) (c0_2 : Nat) (n0_2 : Nat) (l0_2 : List Int) (Z : Below w0.heap.size w0 ws) (hF : Fr w0 ws P0 [] ws) (R0_1 : Stable ws P0 (fun w => Kd.C kStep w A0_1 n0_1 l0_1)) (hc0_1 : n0_1 ≤ c0_1) (R0_2 : Stable ws P0 (fun w => Kd.C (Kd.int .i64) w A0_2 n0_2 l0_2)) (hc0_2 : n0_2 ≤ c0_2) (B0 : Stable ws P0 (fun w => w.heap[g0]? = some (.cells #[.int .i64 a0_0, .slice A0_1 n0_1 c0_1, .slice A0_2 n0_2 c0_2] 27 (0, 0))))  (h : impl_Plan_many.f a0_0 l0_1 l0_2 = some ()) :
  Calls Try.prog 84 #[.pointer (some ⟨g0, 0, none⟩)] ws (Post1 w0 ws P0 (fun (_ : Unit) => .int .i64 (w64 (a0_0 + (l0_1.length : Int)))) (fun (_ : Unit) => [])) := by
 unfold impl_Plan_many.f at h
 obtain rfl := (R0_1 ws (KeptB.refl _ _)).1
 obtain rfl := (R0_2 ws (KeptB.refl _ _)).1
 refine enter Try.func84 rfl Try.ntmps84 rfl hF ?_
 refine c_seq ?_
 refine za0 ?_
 refine o_q rfl rfl (q_asg rfl) ?_
 refine o_end ?_
 refine za1 ?_
 refine c_seq ?_
 refine a_start (ds := []) MO rfl ?_
 refine za9 0 rfl rfl rfl (by kernel_rfl) (fun _ _ _ h => h) (za2 rfl) ?_
 refine za9 1 rfl rfl rfl (by kernel_rfl) (fun _ _ _ h => h) (q_nil rfl) ?_
 refine za9 2 rfl rfl rfl (by kernel_rfl) (fun _ _ _ h => h) (q_f F27_0 rfl) ?_
 refine zb0 3 rfl rfl rfl (by kernel_rfl) (fun _ _ _ h => h) (fun w h => h) (q_ldb Y3 rfl (fun w h => B0.now Z h) rfl) ?_
 refine za9 4 rfl rfl rfl (by kernel_rfl) (fun _ _ _ h => h) (za2 rfl) ?_
 refine za9 5 rfl rfl rfl (by kernel_rfl) (fun _ _ _ h => h) (q_nil rfl) ?_
 refine za9 6 rfl rfl rfl (by kernel_rfl) (fun _ _ _ h => h) (q_f F27_1 rfl) ?_
 refine zb0 7 rfl rfl rfl (by kernel_rfl) (fun _ _ _ h => h) (fun w h => h) (q_ldb Y24 rfl (fun w h => B0.now Z h) rfl) ?_
 refine za9 8 rfl rfl rfl (by kernel_rfl) (fun _ _ _ h => h) (q_len Try.underlying24 rfl) ?_
 refine za9 9 rfl rfl rfl (by kernel_rfl) (fun _ _ _ h => h) (zb8 rfl rfl) ?_
 refine za9 10 rfl rfl rfl (by kernel_rfl) (fun _ _ _ h => h) (q_asg rfl) ?_
 refine zav (by kernel_rfl) ?_
 refine za1 ?_
 refine c_ret ?_
 exact x_r1 () Try.results84 (zai rfl) rfl (fun w h => za6 [] (by decide) rfl w h)

/-! ### (*loop.example/g01098/impl.RegCode).read: function 143 -/
def impl_RegCode_read.l2 (l2308 : List Int) : (List Int) → (List Int) → Int → Option ((Int × (List SStep) × (List Int) × Bool) ⊕ ((List Int)))
 | [], l2324, i2327 => some (.inr l2324)
 | y2328 :: ys2329, l2324, i2327 => ((impl_RegCode_read_1.f y2328 l2308).bind fun b2354 => if b2354 = true then ((gt l2308 y2328).bind fun y2358 => some (decide (y2358 = (-1)))) else (some true)).bind fun b2347 => if b2347 = true then (some (.inl (0, ([] : List SStep), ([] : List Int), false))) else ((gt l2308 y2328).bind fun y2603 => (ap l2324 ([y2603] : List Int)).bind fun l2781 => impl_RegCode_read.l2 l2308 ys2329 l2781 (i2327 + 1))
def impl_RegCode_read.l1 (l0_1 : List Int) : (List SRegOp) → (List Int) → (List SStep) → Int → Option ((Int × (List SStep) × (List Int) × Bool) ⊕ ((List Int) × (List SStep)))
 | [], l2308, l2309, i2312 => some (.inr (l2308, l2309))
 | y2313 :: ys2314, l2308, l2309, i2312 => ((impl_RegCode_read_1.f y2313.f0 l2308).bind fun b3046 => if b3046 = true then ((impl_RegCode_read_1.f y2313.f1 l2308).bind fun b3049 => if b3049 = true then ((impl_RegCode_read_1.f y2313.f2 l2308).bind fun b3052 => if b3052 = true then ((gt l2308 y2313.f1).bind fun y3056 => if y3056 = (-1) then (some true) else ((gt l2308 y2313.f2).bind fun y3059 => some (decide (y3059 = (-1))))) else (some true)) else (some true)) else (some true)).bind fun b3039 => if b3039 = true then (some (.inl (0, ([] : List SStep), ([] : List Int), false))) else (((gt l2308 y2313.f1).bind fun y4453 => (gt l2308 y2313.f2).bind fun y4752 => (impl_step.f y4453 y4752).bind fun _ => (ap l2309 ([(⟨mn y4453 y4752, mx y4453 y4752⟩ : SStep)] : List SStep)).bind fun l4991 => some l4991).bind fun l4142 => (impl_Plan_many.f (l0_1.length : Int) l4142 []).bind fun _ => (gt l2308 y2313.f0).bind fun y5234 => (st l2308 y2313.f0 (w64 (w64 ((l0_1.length : Int) + (l4142.length : Int)) - 1))).bind fun l5235 => impl_RegCode_read.l1 l0_1 ys2314 l5235 l4142 (i2312 + 1))
def impl_RegCode_read.l0 : (List Int) → (List Int) → Int → Option ((Int × (List SStep) × (List Int) × Bool) ⊕ ((List Int)))
 | [], l2295, i2296 => some (.inr l2295)
 | y2297 :: ys2298, l2295, i2296 => ((impl_RegCode_read_1.f y2297 l2295).bind fun b5251 => if b5251 = true then ((gt l2295 y2297).bind fun y5255 => some (decide (y5255 ≠ (-1)))) else (some true)).bind fun b5244 => if b5244 = true then (some (.inl (0, ([] : List SStep), ([] : List Int), false))) else ((gt l2295 y2297).bind fun y5259 => (st l2295 y2297 i2296).bind fun l5260 => impl_RegCode_read.l0 ys2298 l5260 (i2296 + 1))
def impl_RegCode_read.f (a0_0 : Int) (l0_1 : List Int) (l0_2 : List SRegOp) (l0_3 : List Int) : Option (Int × (List SStep) × (List Int) × Bool) := ((slices_Repeat_int_int.f ([(-1)] : List Int) (mx (mn a0_0 46) 0)).bind fun l1936 => some l1936).bind fun l1146 => (impl_RegCode_read.l0 l0_1 l1146 0).bind fun o_ => match o_ with | .inl r_ => some r_ | .inr l2295 => (impl_RegCode_read.l1 l0_1 l0_2 l2295 ([] : List SStep) 0).bind fun o_ => match o_ with | .inl r_ => some r_ | .inr (l2308, l2309) => (impl_RegCode_read.l2 l2308 l0_3 ([] : List Int) 0).bind fun o_ => match o_ with | .inl r_ => some r_ | .inr l2324 => (impl_in.f a0_0 1 46).bind fun b2339 => some ((l0_1.length : Int), l2309, l2324, b2339)
set_option maxHeartbeats 600000 in
set_option maxRecDepth 100000 in
theorem impl_RegCode_read.calls {w0 ws : World} {P0 : Nat → Prop} (g0 : Nat) (a0_0 : Int) (A0_1 : Option Addr) (c0_1 : Nat) (n0_1 : Nat) (l0_1 : List Int) (A0_2 : Option Addr) (c0_2 : Nat) (n0_2 : Nat) (l0_2 : List SRegOp) (A0_3 : Option Addr) (c0_3 : Nat) (n0_3 : Nat) (l0_3 : List Int) (Z : Below w0.heap.size w0 ws) (hF : Fr w0 ws P0 [] ws) (R0_1 : Stable ws P0 (fun w => Kd.C (Kd.int .i64) w A0_1 n0_1 l0_1)) (hc0_1 : n0_1 ≤ c0_1) (R0_2 : Stable ws P0 (fun w => Kd.C zb6 w A0_2 n0_2 l0_2)) (hc0_2 : n0_2 ≤ c0_2) (R0_3 : Stable ws P0 (fun w => Kd.C (Kd.int .i64) w A0_3 n0_3 l0_3)) (hc0_3 : n0_3 ≤ c0_3) (B0 : Stable ws P0 (fun w => w.heap[g0]? = some (.cells #[.int .i64 a0_0, .slice A0_1 n0_1 c0_1, .slice A0_2 n0_2 c0_2, .slice A0_3 n0_3 c0_3] 43 (0, 0)))) (r_1 : Int) (r_2 : List SStep) (r_5 : List Int) (r_8 : Bool) (h : impl_RegCode_read.f a0_0 l0_1 l0_2 l0_3 = some (r_1, r_2, r_5, r_8)) :
  Calls Try.prog 143 #[.pointer (some ⟨g0, 0, none⟩)] ws (Post1 w0 ws P0 (fun ((q_3, q_4, q_6, q_7) : (Option Addr) × Nat × (Option Addr) × Nat) => .tuple #[.agg #[.int .i64 r_1, .slice q_3 r_2.length q_4, .slice q_6 r_5.length q_7], .bool r_8]) (fun ((q_3, q_4, q_6, q_7) : (Option Addr) × Nat × (Option Addr) × Nat) => [row kStep 88 (.slice q_3 r_2.length q_4) r_2, row (Kd.int .i64) 3 (.slice q_6 r_5.length q_7) r_5])) := by
 unfold impl_RegCode_read.f at h
 obtain rfl := (R0_1 ws (KeptB.refl _ _)).1
 obtain rfl := (R0_2 ws (KeptB.refl _ _)).1
 obtain rfl := (R0_3 ws (KeptB.refl _ _)).1
 refine enter Try.func143 rfl Try.ntmps143 rfl hF ?_
 refine c_seq ?_
 refine za0 ?_
 refine o_e rfl (zat V27 rfl) (fun g1 => ?_)
 refine o_q rfl rfl (q_asg rfl) ?_
 refine o_end ?_
 refine za1 ?_
 refine za7 h (fun o1149 hl1150 hR1151 => ?_) rfl
 clear h
 refine c_cutJ (σ := (List Int) × Nat × Nat × (Option Addr) × Nat) (fun (l1146, g1144, g1145, A1147, c1148) => some l1146 = some o1149) [4, 5, 13, 14, 15, 16, 17, 18, 19, 20, 21, 22, 23, 24, 25, 26] (fun (l1146, g1144, g1145, A1147, c1148) => [(4, .pointer (some ⟨g1144, 0, none⟩)), (5, .pointer (some ⟨g1145, 0, none⟩))]) (fun (l1146, g1144, g1145, A1147, c1148) => [box g1 27 #[.int .i64 0, .slice none 0 0, .slice none 0 0], box g1144 27 #[.int .i64 (l0_1.length : Int), .slice none 0 0, .slice none 0 0], box g1145 25 #[.slice A1147 l1146.length c1148], row (Kd.int .i64) 3 (.slice A1147 l1146.length c1148) l1146]) ?_ ?_
 ·skip
  have h := hl1150; clear hl1150
  clear hR1151
  refine za7 h (fun l1936 hx1935 h => ?_) rfl
  refine a_start (ds := []) MO rfl ?_
  refine za9 0 rfl rfl rfl (by kernel_rfl) (fun _ _ _ h => h) (za2 rfl) ?_
  refine za9 1 rfl rfl rfl (by kernel_rfl) (fun _ _ _ h => h) (q_nil rfl) ?_
  refine za9 2 rfl rfl rfl (by kernel_rfl) (fun _ _ _ h => h) (q_f F43_1 rfl) ?_
  refine zb0 3 rfl rfl rfl (by kernel_rfl) (fun _ _ _ h => h) (fun w h => h) (q_ldb Y25 rfl (fun w h => B0.now Z h) rfl) ?_
  refine za9 4 rfl rfl rfl (by kernel_rfl) (fun _ _ _ h => h) (q_len Try.underlying25 rfl) ?_
  refine za9 5 rfl rfl rfl (by kernel_rfl) (fun _ _ _ h => h) (zb5 (vs := [(0, .int .i64 (l0_1.length : Int))]) (cs := [.int .i64 (l0_1.length : Int), .slice none 0 0, .slice none 0 0]) rfl rfl) ?_
  refine za9 7 rfl rfl rfl (by kernel_rfl) (fun _ _ _ h => h) (za2 rfl) ?_
  refine za9 8 rfl rfl rfl (by kernel_rfl) (fun _ _ _ h => h) (q_nil rfl) ?_
  refine za9 9 rfl rfl rfl (by kernel_rfl) (fun _ _ _ h => h) (q_f F43_0 rfl) ?_
  refine zb0 10 rfl rfl rfl (by kernel_rfl) (fun _ _ _ h => h) (fun w h => h) (q_ldb Y3 rfl (fun w h => B0.now Z h) rfl) ?_
  refine za9 11 rfl rfl rfl (by kernel_rfl) (fun _ _ _ h => h) (q_min rfl rfl) ?_
  refine za9 12 rfl rfl rfl (by kernel_rfl) (fun _ _ _ h => h) (q_max rfl rfl) ?_
  refine a_three 6 14 15 rfl rfl rfl rfl rfl rfl (by kernel_rfl) rfl rfl rfl (e_lit (vs := [(0, .int .i64 (-1))]) (cs := [.int .i64 (-1)]) (Kd.int .i64) ([(-1)] : List Int) Try.underlying25 I3 (by decide) rfl (by decide) rfl rfl (fun _ _ => Kd.zak _)) (fun s w h => za5 [some 1] (by decide) w h rfl) (zat V27 rfl) (fun s w h => za5 [some 1] (by decide) w h rfl) (zat V25 rfl) (fun s w h => za5 [some 1] (by decide) w h rfl) (cur2 (fun A1515 c1516 => ?_)) (fun g1995 => ?_) (fun g2055 => ?_)
  ·skip
   refine a_three 13 14 15 rfl rfl rfl rfl rfl rfl (by kernel_rfl) rfl rfl rfl (zab 0 Z Try.func83 N83 rfl rfl rfl (fun w P1 hF hB hS hT => slices_Repeat_int_int.calls A1515 c1516 (([(-1)] : List Int).length) ([(-1)] : List Int) (mx (mn a0_0 46) 0) hB hF (hT 0 _ rfl).row (hT 0 _ rfl).cap _ hx1935)) (fun s w h => za5 [some 2] (by decide) w h rfl) (zat V27 rfl) (fun s w h => za5 [some 2] (by decide) w h rfl) (zat V25 rfl) (fun s w h => za5 [some 2] (by decide) w h rfl) (cur2 (fun A1937 c1938 => ?_)) (fun g1995 => ?_) (fun g2055 => ?_)
   ·skip
    refine a_two 14 15 rfl rfl rfl rfl (by kernel_rfl) rfl rfl (zat V27 rfl) (fun s w h => za5 [some 3] (by decide) w h rfl) (zat V25 rfl) (fun s w h => za5 [some 3] (by decide) w h rfl) (fun g1995 => ?_) (fun g2055 => ?_)
    ·skip
     refine a_one 15 rfl rfl (by kernel_rfl) rfl (zat V25 rfl) (fun s w h => za5 [some 4] (by decide) w h rfl) (fun g2055 => ?_)
     refine a_one 16 rfl rfl (by kernel_rfl) rfl (zan (i := 1) rfl rfl rfl Z27 rfl rfl) (fun s w h => za5 [some 4] (by decide) w h rfl) (fun _ => ?_)
     refine a_one 17 rfl rfl (by kernel_rfl) rfl (zay (i := 0) rfl rfl rfl rfl Z25 rfl rfl) (fun s w h => za5 [some 4] (by decide) w h rfl) (fun _ => ?_)
     refine zav (by kernel_rfl) ?_
     refine zas (l1936, g1995, g2055, A1937, c1938) h ⟨rfl, rfl, trivial⟩ (fun w h => za6 [4, 1, 0, 2] (by decide) rfl w h) ?_
     repeat (first | exact zac _ _ | refine zaf rfl ?_ | refine zad rfl ?_ | refine zah rfl ?_)
    ·skip
     refine a_one 14 rfl rfl (by kernel_rfl) rfl (zat V27 rfl) (fun s w h => za5 [some 4] (by decide) w h rfl) (fun g1995 => ?_)
     refine a_one 16 rfl rfl (by kernel_rfl) rfl (zan (i := 0) rfl rfl rfl Z27 rfl rfl) (fun s w h => za5 [some 4] (by decide) w h rfl) (fun _ => ?_)
     refine a_one 17 rfl rfl (by kernel_rfl) rfl (zay (i := 1) rfl rfl rfl rfl Z25 rfl rfl) (fun s w h => za5 [some 4] (by decide) w h rfl) (fun _ => ?_)
     refine zav (by kernel_rfl) ?_
     refine zas (l1936, g1995, g2055, A1937, c1938) h ⟨rfl, rfl, trivial⟩ (fun w h => za6 [4, 0, 1, 2] (by decide) rfl w h) ?_
     repeat (first | exact zac _ _ | refine zaf rfl ?_ | refine zad rfl ?_ | refine zah rfl ?_)
   ·skip
    refine a_two 13 15 rfl rfl rfl rfl (by kernel_rfl) rfl rfl (zab 0 Z Try.func83 N83 rfl rfl rfl (fun w P1 hF hB hS hT => slices_Repeat_int_int.calls A1515 c1516 (([(-1)] : List Int).length) ([(-1)] : List Int) (mx (mn a0_0 46) 0) hB hF (hT 1 _ rfl).row (hT 1 _ rfl).cap _ hx1935)) (fun s w h => za5 [some 3] (by decide) w h rfl) (zat V25 rfl) (fun s w h => za5 [some 3] (by decide) w h rfl) (cur2 (fun A1937 c1938 => ?_)) (fun g2055 => ?_)
    ·skip
     refine a_one 15 rfl rfl (by kernel_rfl) rfl (zat V25 rfl) (fun s w h => za5 [some 4] (by decide) w h rfl) (fun g2055 => ?_)
     refine a_one 16 rfl rfl (by kernel_rfl) rfl (zan (i := 2) rfl rfl rfl Z27 rfl rfl) (fun s w h => za5 [some 4] (by decide) w h rfl) (fun _ => ?_)
     refine a_one 17 rfl rfl (by kernel_rfl) rfl (zay (i := 0) rfl rfl rfl rfl Z25 rfl rfl) (fun s w h => za5 [some 4] (by decide) w h rfl) (fun _ => ?_)
     refine zav (by kernel_rfl) ?_
     refine zas (l1936, g1995, g2055, A1937, c1938) h ⟨rfl, rfl, trivial⟩ (fun w h => za6 [4, 2, 0, 1] (by decide) rfl w h) ?_
     repeat (first | exact zac _ _ | refine zaf rfl ?_ | refine zad rfl ?_ | refine zah rfl ?_)
    ·skip
     refine a_one 13 rfl rfl (by kernel_rfl) rfl (zab 0 Z Try.func83 N83 rfl rfl rfl (fun w P1 hF hB hS hT => slices_Repeat_int_int.calls A1515 c1516 (([(-1)] : List Int).length) ([(-1)] : List Int) (mx (mn a0_0 46) 0) hB hF (hT 2 _ rfl).row (hT 2 _ rfl).cap _ hx1935)) (fun s w h => za5 [some 4] (by decide) w h rfl) (cur2 (fun A1937 c1938 => ?_))
     refine a_one 16 rfl rfl (by kernel_rfl) rfl (zan (i := 2) rfl rfl rfl Z27 rfl rfl) (fun s w h => za5 [some 4] (by decide) w h rfl) (fun _ => ?_)
     refine a_one 17 rfl rfl (by kernel_rfl) rfl (zay (i := 1) rfl rfl rfl rfl Z25 rfl rfl) (fun s w h => za5 [some 4] (by decide) w h rfl) (fun _ => ?_)
     refine zav (by kernel_rfl) ?_
     refine zas (l1936, g1995, g2055, A1937, c1938) h ⟨rfl, rfl, trivial⟩ (fun w h => za6 [4, 2, 1, 0] (by decide) rfl w h) ?_
     repeat (first | exact zac _ _ | refine zaf rfl ?_ | refine zad rfl ?_ | refine zah rfl ?_)
   ·skip
    refine a_two 13 14 rfl rfl rfl rfl (by kernel_rfl) rfl rfl (zab 0 Z Try.func83 N83 rfl rfl rfl (fun w P1 hF hB hS hT => slices_Repeat_int_int.calls A1515 c1516 (([(-1)] : List Int).length) ([(-1)] : List Int) (mx (mn a0_0 46) 0) hB hF (hT 1 _ rfl).row (hT 1 _ rfl).cap _ hx1935)) (fun s w h => za5 [some 3] (by decide) w h rfl) (zat V27 rfl) (fun s w h => za5 [some 3] (by decide) w h rfl) (cur2 (fun A1937 c1938 => ?_)) (fun g1995 => ?_)
    ·skip
     refine a_one 14 rfl rfl (by kernel_rfl) rfl (zat V27 rfl) (fun s w h => za5 [some 4] (by decide) w h rfl) (fun g1995 => ?_)
     refine a_one 16 rfl rfl (by kernel_rfl) rfl (zan (i := 0) rfl rfl rfl Z27 rfl rfl) (fun s w h => za5 [some 4] (by decide) w h rfl) (fun _ => ?_)
     refine a_one 17 rfl rfl (by kernel_rfl) rfl (zay (i := 2) rfl rfl rfl rfl Z25 rfl rfl) (fun s w h => za5 [some 4] (by decide) w h rfl) (fun _ => ?_)
     refine zav (by kernel_rfl) ?_
     refine zas (l1936, g1995, g2055, A1937, c1938) h ⟨rfl, rfl, trivial⟩ (fun w h => za6 [4, 0, 2, 1] (by decide) rfl w h) ?_
     repeat (first | exact zac _ _ | refine zaf rfl ?_ | refine zad rfl ?_ | refine zah rfl ?_)
    ·skip
     refine a_one 13 rfl rfl (by kernel_rfl) rfl (zab 0 Z Try.func83 N83 rfl rfl rfl (fun w P1 hF hB hS hT => slices_Repeat_int_int.calls A1515 c1516 (([(-1)] : List Int).length) ([(-1)] : List Int) (mx (mn a0_0 46) 0) hB hF (hT 2 _ rfl).row (hT 2 _ rfl).cap _ hx1935)) (fun s w h => za5 [some 4] (by decide) w h rfl) (cur2 (fun A1937 c1938 => ?_))
     refine a_one 16 rfl rfl (by kernel_rfl) rfl (zan (i := 1) rfl rfl rfl Z27 rfl rfl) (fun s w h => za5 [some 4] (by decide) w h rfl) (fun _ => ?_)
     refine a_one 17 rfl rfl (by kernel_rfl) rfl (zay (i := 2) rfl rfl rfl rfl Z25 rfl rfl) (fun s w h => za5 [some 4] (by decide) w h rfl) (fun _ => ?_)
     refine zav (by kernel_rfl) ?_
     refine zas (l1936, g1995, g2055, A1937, c1938) h ⟨rfl, rfl, trivial⟩ (fun w h => za6 [4, 1, 2, 0] (by decide) rfl w h) ?_
     repeat (first | exact zac _ _ | refine zaf rfl ?_ | refine zad rfl ?_ | refine zah rfl ?_)
  ·skip
   refine a_two 6 15 rfl rfl rfl rfl (by kernel_rfl) rfl rfl (e_lit (vs := [(0, .int .i64 (-1))]) (cs := [.int .i64 (-1)]) (Kd.int .i64) ([(-1)] : List Int) Try.underlying25 I3 (by decide) rfl (by decide) rfl rfl (fun _ _ => Kd.zak _)) (fun s w h => za5 [some 2] (by decide) w h rfl) (zat V25 rfl) (fun s w h => za5 [some 2] (by decide) w h rfl) (cur2 (fun A1515 c1516 => ?_)) (fun g2055 => ?_)
   ·skip
    refine a_two 13 15 rfl rfl rfl rfl (by kernel_rfl) rfl rfl (zab 0 Z Try.func83 N83 rfl rfl rfl (fun w P1 hF hB hS hT => slices_Repeat_int_int.calls A1515 c1516 (([(-1)] : List Int).length) ([(-1)] : List Int) (mx (mn a0_0 46) 0) hB hF (hT 0 _ rfl).row (hT 0 _ rfl).cap _ hx1935)) (fun s w h => za5 [some 3] (by decide) w h rfl) (zat V25 rfl) (fun s w h => za5 [some 3] (by decide) w h rfl) (cur2 (fun A1937 c1938 => ?_)) (fun g2055 => ?_)
    ·skip
     refine a_one 15 rfl rfl (by kernel_rfl) rfl (zat V25 rfl) (fun s w h => za5 [some 4] (by decide) w h rfl) (fun g2055 => ?_)
     refine a_one 16 rfl rfl (by kernel_rfl) rfl (zan (i := 3) rfl rfl rfl Z27 rfl rfl) (fun s w h => za5 [some 4] (by decide) w h rfl) (fun _ => ?_)
     refine a_one 17 rfl rfl (by kernel_rfl) rfl (zay (i := 0) rfl rfl rfl rfl Z25 rfl rfl) (fun s w h => za5 [some 4] (by decide) w h rfl) (fun _ => ?_)
     refine zav (by kernel_rfl) ?_
     refine zas (l1936, g1995, g2055, A1937, c1938) h ⟨rfl, rfl, trivial⟩ (fun w h => za6 [4, 3, 0, 1] (by decide) rfl w h) ?_
     repeat (first | exact zac _ _ | refine zaf rfl ?_ | refine zad rfl ?_ | refine zah rfl ?_)
    ·skip
     refine a_one 13 rfl rfl (by kernel_rfl) rfl (zab 0 Z Try.func83 N83 rfl rfl rfl (fun w P1 hF hB hS hT => slices_Repeat_int_int.calls A1515 c1516 (([(-1)] : List Int).length) ([(-1)] : List Int) (mx (mn a0_0 46) 0) hB hF (hT 1 _ rfl).row (hT 1 _ rfl).cap _ hx1935)) (fun s w h => za5 [some 4] (by decide) w h rfl) (cur2 (fun A1937 c1938 => ?_))
     refine a_one 16 rfl rfl (by kernel_rfl) rfl (zan (i := 3) rfl rfl rfl Z27 rfl rfl) (fun s w h => za5 [some 4] (by decide) w h rfl) (fun _ => ?_)
     refine a_one 17 rfl rfl (by kernel_rfl) rfl (zay (i := 1) rfl rfl rfl rfl Z25 rfl rfl) (fun s w h => za5 [some 4] (by decide) w h rfl) (fun _ => ?_)
     refine zav (by kernel_rfl) ?_
     refine zas (l1936, g1995, g2055, A1937, c1938) h ⟨rfl, rfl, trivial⟩ (fun w h => za6 [4, 3, 1, 0] (by decide) rfl w h) ?_
     repeat (first | exact zac _ _ | refine zaf rfl ?_ | refine zad rfl ?_ | refine zah rfl ?_)
   ·skip
    refine a_one 6 rfl rfl (by kernel_rfl) rfl (e_lit (vs := [(0, .int .i64 (-1))]) (cs := [.int .i64 (-1)]) (Kd.int .i64) ([(-1)] : List Int) Try.underlying25 I3 (by decide) rfl (by decide) rfl rfl (fun _ _ => Kd.zak _)) (fun s w h => za5 [some 3] (by decide) w h rfl) (cur2 (fun A1515 c1516 => ?_))
    refine a_one 13 rfl rfl (by kernel_rfl) rfl (zab 0 Z Try.func83 N83 rfl rfl rfl (fun w P1 hF hB hS hT => slices_Repeat_int_int.calls A1515 c1516 (([(-1)] : List Int).length) ([(-1)] : List Int) (mx (mn a0_0 46) 0) hB hF (hT 0 _ rfl).row (hT 0 _ rfl).cap _ hx1935)) (fun s w h => za5 [some 4] (by decide) w h rfl) (cur2 (fun A1937 c1938 => ?_))
    refine a_one 16 rfl rfl (by kernel_rfl) rfl (zan (i := 3) rfl rfl rfl Z27 rfl rfl) (fun s w h => za5 [some 4] (by decide) w h rfl) (fun _ => ?_)
    refine a_one 17 rfl rfl (by kernel_rfl) rfl (zay (i := 2) rfl rfl rfl rfl Z25 rfl rfl) (fun s w h => za5 [some 4] (by decide) w h rfl) (fun _ => ?_)
    refine zav (by kernel_rfl) ?_
    refine zas (l1936, g1995, g2055, A1937, c1938) h ⟨rfl, rfl, trivial⟩ (fun w h => za6 [4, 3, 2, 0] (by decide) rfl w h) ?_
    repeat (first | exact zac _ _ | refine zaf rfl ?_ | refine zad rfl ?_ | refine zah rfl ?_)
  ·skip
   refine a_two 6 14 rfl rfl rfl rfl (by kernel_rfl) rfl rfl (e_lit (vs := [(0, .int .i64 (-1))]) (cs := [.int .i64 (-1)]) (Kd.int .i64) ([(-1)] : List Int) Try.underlying25 I3 (by decide) rfl (by decide) rfl rfl (fun _ _ => Kd.zak _)) (fun s w h => za5 [some 2] (by decide) w h rfl) (zat V27 rfl) (fun s w h => za5 [some 2] (by decide) w h rfl) (cur2 (fun A1515 c1516 => ?_)) (fun g1995 => ?_)
   ·skip
    refine a_two 13 14 rfl rfl rfl rfl (by kernel_rfl) rfl rfl (zab 0 Z Try.func83 N83 rfl rfl rfl (fun w P1 hF hB hS hT => slices_Repeat_int_int.calls A1515 c1516 (([(-1)] : List Int).length) ([(-1)] : List Int) (mx (mn a0_0 46) 0) hB hF (hT 0 _ rfl).row (hT 0 _ rfl).cap _ hx1935)) (fun s w h => za5 [some 3] (by decide) w h rfl) (zat V27 rfl) (fun s w h => za5 [some 3] (by decide) w h rfl) (cur2 (fun A1937 c1938 => ?_)) (fun g1995 => ?_)
    ·skip
     refine a_one 14 rfl rfl (by kernel_rfl) rfl (zat V27 rfl) (fun s w h => za5 [some 4] (by decide) w h rfl) (fun g1995 => ?_)
     refine a_one 16 rfl rfl (by kernel_rfl) rfl (zan (i := 0) rfl rfl rfl Z27 rfl rfl) (fun s w h => za5 [some 4] (by decide) w h rfl) (fun _ => ?_)
     refine a_one 17 rfl rfl (by kernel_rfl) rfl (zay (i := 3) rfl rfl rfl rfl Z25 rfl rfl) (fun s w h => za5 [some 4] (by decide) w h rfl) (fun _ => ?_)
     refine zav (by kernel_rfl) ?_
     refine zas (l1936, g1995, g2055, A1937, c1938) h ⟨rfl, rfl, trivial⟩ (fun w h => za6 [4, 0, 3, 1] (by decide) rfl w h) ?_
     repeat (first | exact zac _ _ | refine zaf rfl ?_ | refine zad rfl ?_ | refine zah rfl ?_)
    ·skip
     refine a_one 13 rfl rfl (by kernel_rfl) rfl (zab 0 Z Try.func83 N83 rfl rfl rfl (fun w P1 hF hB hS hT => slices_Repeat_int_int.calls A1515 c1516 (([(-1)] : List Int).length) ([(-1)] : List Int) (mx (mn a0_0 46) 0) hB hF (hT 1 _ rfl).row (hT 1 _ rfl).cap _ hx1935)) (fun s w h => za5 [some 4] (by decide) w h rfl) (cur2 (fun A1937 c1938 => ?_))
     refine a_one 16 rfl rfl (by kernel_rfl) rfl (zan (i := 1) rfl rfl rfl Z27 rfl rfl) (fun s w h => za5 [some 4] (by decide) w h rfl) (fun _ => ?_)
     refine a_one 17 rfl rfl (by kernel_rfl) rfl (zay (i := 3) rfl rfl rfl rfl Z25 rfl rfl) (fun s w h => za5 [some 4] (by decide) w h rfl) (fun _ => ?_)
     refine zav (by kernel_rfl) ?_
     refine zas (l1936, g1995, g2055, A1937, c1938) h ⟨rfl, rfl, trivial⟩ (fun w h => za6 [4, 1, 3, 0] (by decide) rfl w h) ?_
     repeat (first | exact zac _ _ | refine zaf rfl ?_ | refine zad rfl ?_ | refine zah rfl ?_)
   ·skip
    refine a_one 6 rfl rfl (by kernel_rfl) rfl (e_lit (vs := [(0, .int .i64 (-1))]) (cs := [.int .i64 (-1)]) (Kd.int .i64) ([(-1)] : List Int) Try.underlying25 I3 (by decide) rfl (by decide) rfl rfl (fun _ _ => Kd.zak _)) (fun s w h => za5 [some 3] (by decide) w h rfl) (cur2 (fun A1515 c1516 => ?_))
    refine a_one 13 rfl rfl (by kernel_rfl) rfl (zab 0 Z Try.func83 N83 rfl rfl rfl (fun w P1 hF hB hS hT => slices_Repeat_int_int.calls A1515 c1516 (([(-1)] : List Int).length) ([(-1)] : List Int) (mx (mn a0_0 46) 0) hB hF (hT 0 _ rfl).row (hT 0 _ rfl).cap _ hx1935)) (fun s w h => za5 [some 4] (by decide) w h rfl) (cur2 (fun A1937 c1938 => ?_))
    refine a_one 16 rfl rfl (by kernel_rfl) rfl (zan (i := 2) rfl rfl rfl Z27 rfl rfl) (fun s w h => za5 [some 4] (by decide) w h rfl) (fun _ => ?_)
    refine a_one 17 rfl rfl (by kernel_rfl) rfl (zay (i := 3) rfl rfl rfl rfl Z25 rfl rfl) (fun s w h => za5 [some 4] (by decide) w h rfl) (fun _ => ?_)
    refine zav (by kernel_rfl) ?_
    refine zas (l1936, g1995, g2055, A1937, c1938) h ⟨rfl, rfl, trivial⟩ (fun w h => za6 [4, 2, 3, 0] (by decide) rfl w h) ?_
    repeat (first | exact zac _ _ | refine zaf rfl ?_ | refine zad rfl ?_ | refine zah rfl ?_)
 ·skip
  refine (cur5 (fun l1146 g1144 g1145 A1147 c1148 => fun U1152 hJ1153 => ?_))
  have e_ := Option.some.inj hJ1153; have h := hR1151; rw [← e_] at h; clear e_ hJ1153 hR1151 hl1150
  refine c_seq ?_
  refine za0 ?_
  refine o_q rfl rfl (q_func rfl rfl) ?_
  refine o_q rfl rfl (q_asg rfl) ?_
  refine o_end ?_
  refine za1 ?_
  refine c_seq ?_
  refine c_seq ?_
  refine za0 ?_
  refine o_q rfl rfl (za2 rfl) ?_
  refine o_q rfl rfl (q_nil rfl) ?_
  refine o_q rfl rfl (q_f F43_1 rfl) ?_
  refine o_q rfl rfl (q_ldb Y25 rfl (fun w h => B0.now Z h) rfl) ?_
  refine o_q rfl rfl (q_len Try.underlying25 rfl) ?_
  refine o_q rfl rfl (za2 rfl) ?_
  refine o_end ?_
  refine za1 ?_
  refine zaj ?_
  refine za7 h (fun o2304 hl2303 hR2302 => ?_) rfl
  clear h
  refine zba (p := l0_1.length ≤ 9223372036854775807) (fun w h => (R0_1.now Z h).2.1) (fun hm2301 => ?_)
  refine zax (σ := (List Int) × (List Int) × Int) (fun k2299 ((ys2298, l2295, i2296) : (List Int) × (List Int) × Int) => Rg l0_1 i2296 ys2298 ∧ ys2298.length = k2299 ∧ impl_RegCode_read.l0 ys2298 l2295 i2296 = some o2304) [3, 7, 8, 33, 34, 35, 36, 37, 38, 39, 40, 41, 42, 43, 44, 45, 46, 47, 48, 49, 50, 51, 52, 53, 54] (fun ((ys2298, l2295, i2296) : (List Int) × (List Int) × Int) => [(33, .int .i64 i2296)]) (fun ((ys2298, l2295, i2296) : (List Int) × (List Int) × Int) => [box g1 27 #[.int .i64 0, .slice none 0 0, .slice none 0 0], box g1144 27 #[.int .i64 (l0_1.length : Int), .slice none 0 0, .slice none 0 0], box g1145 25 #[.slice A1147 l1146.length c1148], row (Kd.int .i64) 3 (.slice A1147 l1146.length c1148) l2295]) l0_1.length (l0_1, l1146, 0) ⟨Rg.start _, rfl, hl2303⟩ ⟨rfl, trivial⟩ (fun w h => h) ?_
  refine fun k2299 => cur3 (listC (fun l2295 i2296 U2305 hJ_ => ?_) (fun y2297 ys2298 l2295 i2296 U2305 hJ_ => ?_))
  ·skip
   clear hl2303
   have hr2300 := hJ_.1; have hk2306 := hJ_.2.1; have h := hJ_.2.2; clear hJ_
   replace h : impl_RegCode_read.l0 [] l2295 i2296 = some o2304 := h
   rw [impl_RegCode_read.l0] at h
   refine c_seq ?_
   refine za0 ?_
   refine o_q rfl rfl (q_lss rfl rfl) ?_
   refine o_end ?_
   refine za1 ?_
   refine c_seq ?_
   refine zb3 (congrArg Value.bool hr2300.ge) ?_
   refine zb4 ?_
   refine za8 ?_
   refine za8 ?_
   have e_ := Option.some.inj h; replace h := hR2302; rw [← e_] at h; clear e_
   refine x_hit ?_
   refine za1 ?_
   refine c_seq ?_
   refine c_seq ?_
   refine za0 ?_
   refine o_q rfl rfl (za2 rfl) ?_
   refine o_q rfl rfl (q_nil rfl) ?_
   refine o_q rfl rfl (q_f F43_2 rfl) ?_
   refine o_q rfl rfl (q_ldb Y41 rfl (fun w h => B0.now Z h) rfl) ?_
   refine o_q rfl rfl (q_len Try.underlying41 rfl) ?_
   refine o_q rfl rfl (za2 rfl) ?_
   refine o_end ?_
   refine za1 ?_
   refine zaj ?_
   refine c_nil kStep 88 ?_
   refine za7 h (fun o2320 hl2319 hR2318 => ?_) rfl
   clear h
   refine zba (p := l0_2.length ≤ 9223372036854775807) (fun w h => (R0_2.now Z h).2.1) (fun hm2317 => ?_)
   refine zax (σ := (List SRegOp) × (List Int) × (List SStep) × Int × (Option Addr) × Nat) (fun k2315 ((ys2314, l2308, l2309, i2312, A2310, c2311) : (List SRegOp) × (List Int) × (List SStep) × Int × (Option Addr) × Nat) => Rg l0_2 i2312 ys2314 ∧ ys2314.length = k2315 ∧ impl_RegCode_read.l1 l0_1 ys2314 l2308 l2309 i2312 = some o2320) [3, 10, 60, 61, 62, 63, 64, 65, 66, 67, 68, 69, 70, 71, 72, 73, 74, 75, 76, 77, 78, 79, 80, 81, 82, 83, 84, 85, 86, 87, 88, 89, 90, 91, 92, 93, 94, 95, 96, 97, 98, 99, 100, 101, 102, 103, 104, 105, 106, 107, 108, 109, 110, 111, 112, 113, 114, 115, 116, 117, 118, 119, 120, 121, 122] (fun ((ys2314, l2308, l2309, i2312, A2310, c2311) : (List SRegOp) × (List Int) × (List SStep) × Int × (Option Addr) × Nat) => [(60, .int .i64 i2312)]) (fun ((ys2314, l2308, l2309, i2312, A2310, c2311) : (List SRegOp) × (List Int) × (List SStep) × Int × (Option Addr) × Nat) => [row kStep 88 (.slice A2310 l2309.length c2311) l2309, box g1 27 #[.int .i64 0, .slice none 0 0, .slice none 0 0], box g1144 27 #[.int .i64 (l0_1.length : Int), .slice A2310 l2309.length c2311, .slice none 0 0], box g1145 25 #[.slice A1147 l1146.length c1148], row (Kd.int .i64) 3 (.slice A1147 l1146.length c1148) l2308]) l0_2.length (l0_2, l2295, ([] : List SStep), 0, none, 0) ⟨Rg.start _, rfl, hl2319⟩ ⟨rfl, trivial⟩ (fun w h => h) ?_
   refine fun k2315 => cur6 (listC (fun l2308 l2309 i2312 A2310 c2311 U2321 hJ_ => ?_) (fun y2313 ys2314 l2308 l2309 i2312 A2310 c2311 U2321 hJ_ => ?_))
   ·skip
    clear hl2319
    have hr2316 := hJ_.1; have hk2322 := hJ_.2.1; have h := hJ_.2.2; clear hJ_
    replace h : impl_RegCode_read.l1 l0_1 [] l2308 l2309 i2312 = some o2320 := h
    rw [impl_RegCode_read.l1] at h
    refine c_seq ?_
    refine za0 ?_
    refine o_q rfl rfl (q_lss rfl rfl) ?_
    refine o_end ?_
    refine za1 ?_
    refine c_seq ?_
    refine zb3 (congrArg Value.bool hr2316.ge) ?_
    refine zb4 ?_
    refine za8 ?_
    refine za8 ?_
    have e_ := Option.some.inj h; replace h := hR2318; rw [← e_] at h; clear e_
    refine x_hit ?_
    refine za1 ?_
    refine c_seq ?_
    refine c_seq ?_
    refine za0 ?_
    refine o_q rfl rfl (za2 rfl) ?_
    refine o_q rfl rfl (q_nil rfl) ?_
    refine o_q rfl rfl (q_f F43_3 rfl) ?_
    refine o_q rfl rfl (q_ldb Y25 rfl (fun w h => B0.now Z h) rfl) ?_
    refine o_q rfl rfl (q_len Try.underlying25 rfl) ?_
    refine o_q rfl rfl (za2 rfl) ?_
    refine o_end ?_
    refine za1 ?_
    refine zaj ?_
    refine c_nil (Kd.int .i64) 3 ?_
    refine za7 h (fun o2335 hl2334 hR2333 => ?_) rfl
    clear h
    refine zba (p := l0_3.length ≤ 9223372036854775807) (fun w h => (R0_3.now Z h).2.1) (fun hm2332 => ?_)
    refine zax (σ := (List Int) × (List Int) × Int × (Option Addr) × Nat) (fun k2330 ((ys2329, l2324, i2327, A2325, c2326) : (List Int) × (List Int) × Int × (Option Addr) × Nat) => Rg l0_3 i2327 ys2329 ∧ ys2329.length = k2330 ∧ impl_RegCode_read.l2 l2308 ys2329 l2324 i2327 = some o2335) [3, 12, 128, 129, 130, 131, 132, 133, 134, 135, 136, 137, 138, 139, 140, 141, 142, 143, 144, 145, 146, 147, 148, 149, 150, 151, 152, 153] (fun ((ys2329, l2324, i2327, A2325, c2326) : (List Int) × (List Int) × Int × (Option Addr) × Nat) => [(128, .int .i64 i2327)]) (fun ((ys2329, l2324, i2327, A2325, c2326) : (List Int) × (List Int) × Int × (Option Addr) × Nat) => [row (Kd.int .i64) 3 (.slice A2325 l2324.length c2326) l2324, row kStep 88 (.slice A2310 l2309.length c2311) l2309, box g1 27 #[.int .i64 0, .slice none 0 0, .slice none 0 0], box g1144 27 #[.int .i64 (l0_1.length : Int), .slice A2310 l2309.length c2311, .slice A2325 l2324.length c2326], box g1145 25 #[.slice A1147 l1146.length c1148], row (Kd.int .i64) 3 (.slice A1147 l1146.length c1148) l2308]) l0_3.length (l0_3, ([] : List Int), 0, none, 0) ⟨Rg.start _, rfl, hl2334⟩ ⟨rfl, trivial⟩ (fun w h => h) ?_
    refine fun k2330 => cur5 (listC (fun l2324 i2327 A2325 c2326 U2336 hJ_ => ?_) (fun y2328 ys2329 l2324 i2327 A2325 c2326 U2336 hJ_ => ?_))
    ·skip
     clear hl2334
     have hr2331 := hJ_.1; have hk2337 := hJ_.2.1; have h := hJ_.2.2; clear hJ_
     replace h : impl_RegCode_read.l2 l2308 [] l2324 i2327 = some o2335 := h
     rw [impl_RegCode_read.l2] at h
     refine c_seq ?_
     refine za0 ?_
     refine o_q rfl rfl (q_lss rfl rfl) ?_
     refine o_end ?_
     refine za1 ?_
     refine c_seq ?_
     refine zb3 (congrArg Value.bool hr2331.ge) ?_
     refine zb4 ?_
     refine za8 ?_
     refine za8 ?_
     have e_ := Option.some.inj h; replace h := hR2333; rw [← e_] at h; clear e_
     refine x_hit ?_
     refine za1 ?_
     refine c_seq ?_
     refine a_startS (ds := []) [some 0, some 1, none, some 3, some 4, some 5] MO rfl ?_
     refine zb0 0 rfl rfl rfl (by kernel_rfl) (fun _ _ _ h => h) (fun w h => za5 [some 0, some 1, none, some 3, some 4, some 5] (by decide) w h rfl) (q_ldB G27 Z27 rfl (fun w h => h.zae (i := 3) rfl) rfl) ?_
     refine za9 1 rfl rfl rfl (by kernel_rfl) (fun _ _ _ h => h) (za2 rfl) ?_
     refine za9 2 rfl rfl rfl (by kernel_rfl) (fun _ _ _ h => h) (q_nil rfl) ?_
     refine za9 3 rfl rfl rfl (by kernel_rfl) (fun _ _ _ h => h) (q_f F43_0 rfl) ?_
     refine zb0 4 rfl rfl rfl (by kernel_rfl) (fun _ _ _ h => h) (fun w h => za5 [some 0, some 1, none, some 3, some 4, some 5] (by decide) w h rfl) (q_ldb Y3 rfl (fun w h => B0.now Z h) rfl) ?_
     refine za7 h (fun b2339 hx2338 h => ?_) rfl
     refine a_one 5 rfl rfl (by kernel_rfl) rfl (zab 0 Z Try.func58 N58 rfl rfl rfl (fun w P1 hF hB hS hT => impl_in.calls a0_0 1 46 hB hF _ hx2338)) (fun s w h => za5 [some 0, some 1, none, some 3, some 4, some 5] (by decide) w h rfl) (fun _ => ?_)
     refine a_one 6 rfl rfl (by kernel_rfl) rfl (zan (i := 2) rfl rfl rfl Z27 rfl rfl) (fun s w h => za5 [some 0, some 1, none, some 3, some 4, some 5] (by decide) w h rfl) (fun _ => ?_)
     refine za9 7 rfl rfl rfl (by kernel_rfl) (fun _ _ _ h => h) (q_asg rfl) ?_
     refine zav (by kernel_rfl) ?_
     refine za1 ?_
     refine c_ret ?_
     have e0_ := Option.some.inj h; clear h
     have d0_ := (Prod.mk.inj e0_).1; have e1_ := (Prod.mk.inj e0_).2; clear e0_; subst d0_
     have d1_ := (Prod.mk.inj e1_).1; have e2_ := (Prod.mk.inj e1_).2; clear e1_; subst d1_
     have d2_ := (Prod.mk.inj e2_).1; have e3_ := (Prod.mk.inj e2_).2; clear e2_; subst d2_
     subst e3_
     exact x_r2 (A2310, c2311, A2325, c2326) Try.results143 (rv_cell rfl G27 Z27 (fun w h => h.zae (i := 2) rfl) rfl) (zai rfl) rfl (fun w h => za6 [1, 0] (by decide) rfl w h)
    ·skip
     clear hl2334
     have hr2331 := hJ_.1; have hk2337 := hJ_.2.1; have h := hJ_.2.2; clear hJ_
     replace h : impl_RegCode_read.l2 l2308 (y2328 :: ys2329) l2324 i2327 = some o2335 := h
     rw [impl_RegCode_read.l2] at h
     refine c_seq ?_
     refine za0 ?_
     refine o_q rfl rfl (q_lss rfl rfl) ?_
     refine o_end ?_
     refine za1 ?_
     refine c_seq ?_
     refine zb1 (congrArg Value.bool hr2331.lt) ?_
     refine zao ?_
     refine za1 ?_
     refine c_seq ?_
     refine zaj ?_
     refine c_seq ?_
     refine za0 ?_
     refine zaz (p := Sh A0_3 l0_3.length l0_3.length) (fun w h => f_sh (dk := (Kd.int .i64)) h (fun w h => R0_3.now Z h)) (fun hq2340 => ?_)
     refine o_q rfl rfl (q_ix Try.underlying25 Z3 rfl rfl hq2340 hr2331.get) ?_
     refine o_q rfl rfl (q_lde (off := 0) Y3 rfl rfl (fun w h => R0_3.now Z h) hr2331.get (fun _ _ h => h) rfl) ?_
     refine o_q rfl rfl (q_asg rfl) ?_
     refine o_end ?_
     refine za1 ?_
     refine c_seq ?_
     refine za7 h (fun o2348 hl2349 hR2350 => ?_) rfl
     clear h
     refine c_cutJ (σ := Bool) (fun b2347 => some b2347 = some o2348) [132, 133, 134, 135, 136, 137, 138, 139, 140, 141, 142] (fun b2347 => [(142, .bool b2347)]) (fun b2347 => [box g1 27 #[.int .i64 0, .slice none 0 0, .slice none 0 0], box g1144 27 #[.int .i64 (l0_1.length : Int), .slice A2310 l2309.length c2311, .slice A2325 l2324.length c2326], row kStep 88 (.slice A2310 l2309.length c2311) l2309, row (Kd.int .i64) 3 (.slice A2325 l2324.length c2326) l2324, box g1145 25 #[.slice A1147 l1146.length c1148], row (Kd.int .i64) 3 (.slice A1147 l1146.length c1148) l2308]) ?_ ?_
     ·skip
      have h := hl2349; clear hl2349
      clear hR2350
      refine za0 ?_
      refine o_q rfl rfl (za2 rfl) ?_
      refine o_q rfl rfl (za2 rfl) ?_
      refine za7 h (fun b2354 hx2353 h => ?_) rfl
      refine o_e rfl (zab 0 Z Try.func181 N181 rfl rfl rfl (fun w P1 hF hB hS hT => impl_RegCode_read_1.calls y2328 g1145 A1147 c1148 l1146.length l2308 hB hF (hT 5 _ rfl).row (hT 5 _ rfl).cap (hT 4 _ rfl).box _ hx2353)) (fun _ => ?_)
      refine o_q rfl rfl (q_not rfl) ?_
      refine o_q rfl rfl (za2 rfl) ?_
      refine byB b2354 (fun hb2355 => ?_) (fun hb2355 => ?_)
      ·replace h := bb_t hb2355 h
       refine o_w (za4 rfl rfl rfl (congrArg (fun b => Value.bool (!(b))) hb2355)) rfl (q_ldb Y25 rfl (fun w h => h.zae (i := 4) rfl) rfl) ?_
       refine o_w (za4 rfl rfl rfl (congrArg (fun b => Value.bool (!(b))) hb2355)) rfl (za2 rfl) ?_
       refine zaz (p := Sh A1147 l1146.length l2308.length) (fun w h => f_sh (dk := (Kd.int .i64)) h (fun w h => h.zaw (i := 5) rfl)) (fun hq2356 => ?_)
       refine za7 h (fun y2358 hg2357 h => ?_) rfl
       refine o_w (za4 rfl rfl rfl (congrArg (fun b => Value.bool (!(b))) hb2355)) rfl (q_ix Try.underlying25 Z3 rfl rfl hq2356 hg2357) ?_
       refine o_w (za4 rfl rfl rfl (congrArg (fun b => Value.bool (!(b))) hb2355)) rfl (q_lde (off := 0) Y3 rfl rfl (fun w h => h.zaw (i := 5) rfl) hg2357 (fun _ _ h => h) rfl) ?_
       refine o_w (za4 rfl rfl rfl (congrArg (fun b => Value.bool (!(b))) hb2355)) rfl (q_eql rfl rfl) ?_
       refine o_q rfl rfl (zaq false (congrArg (fun b => Value.bool (!(b))) hb2355) rfl) ?_
       refine o_end ?_
       refine zas (decide (y2358 = (-1))) h ⟨rfl, trivial⟩ (fun w h => za6 [2, 3, 1, 0, 4, 5] (by decide) rfl w h) ?_
       repeat (first | exact zac _ _ | refine zaf rfl ?_ | refine zad rfl ?_ | refine zah rfl ?_)
      ·replace h := bb_f hb2355 h
       refine @o_n _ _ _ _ _ _ _ _ _ _ _ 137 (za3 rfl rfl rfl (congrArg (fun b => Value.bool (!(b))) hb2355) rfl) (Eq.refl (some 137)) ?_
       refine @o_n _ _ _ _ _ _ _ _ _ _ _ 138 (za3 rfl rfl rfl (congrArg (fun b => Value.bool (!(b))) hb2355) rfl) (Eq.refl (some 138)) ?_
       refine @o_n _ _ _ _ _ _ _ _ _ _ _ 139 (za3 rfl rfl rfl (congrArg (fun b => Value.bool (!(b))) hb2355) rfl) (Eq.refl (some 139)) ?_
       refine @o_n _ _ _ _ _ _ _ _ _ _ _ 140 (za3 rfl rfl rfl (congrArg (fun b => Value.bool (!(b))) hb2355) rfl) (Eq.refl (some 140)) ?_
       refine @o_n _ _ _ _ _ _ _ _ _ _ _ 141 (za3 rfl rfl rfl (congrArg (fun b => Value.bool (!(b))) hb2355) rfl) (Eq.refl (some 141)) ?_
       refine o_q rfl rfl (zaq true (congrArg (fun b => Value.bool (!(b))) hb2355) rfl) ?_
       refine o_end ?_
       refine zas true h ⟨rfl, trivial⟩ (fun w h => za6 [2, 3, 1, 0, 4, 5] (by decide) rfl w h) ?_
       repeat (first | exact zac _ _ | refine zaf rfl ?_ | refine zad rfl ?_ | refine zah rfl ?_)
     ·skip
      refine (fun b2347 => fun U2351 hJ2352 => ?_)
      have e_ := Option.some.inj hJ2352; have h := hR2350; rw [← e_] at h; clear e_ hJ2352 hR2350 hl2349
      refine zau _ rfl (fun hb2359 => ?_) (fun hb2359 => ?_)
      ·skip
       replace h := bb_t hb2359 h
       refine c_seq ?_
       refine za0 ?_
       refine o_q rfl rfl (zb5 (vs := []) (cs := [.int .i64 0, .slice none 0 0, .slice none 0 0]) rfl rfl) ?_
       refine o_e rfl (zan (i := 0) rfl rfl rfl Z27 rfl rfl) (fun _ => ?_)
       refine o_q rfl rfl (q_asg rfl) ?_
       refine o_end ?_
       refine za1 ?_
       refine c_ret ?_
       refine zaa ?_
       refine zar ?_
       refine zaa ?_
       refine zaa ?_
       have e_ := Option.some.inj h; replace h := hR2333; rw [← e_] at h; clear e_
       refine zar ?_
       refine zaa ?_
       refine x_nil kStep 88 ?_
       refine x_nil (Kd.int .i64) 3 ?_
       have e0_ := Option.some.inj h; clear h
       have d0_ := (Prod.mk.inj e0_).1; have e1_ := (Prod.mk.inj e0_).2; clear e0_; subst d0_
       have d1_ := (Prod.mk.inj e1_).1; have e2_ := (Prod.mk.inj e1_).2; clear e1_; subst d1_
       have d2_ := (Prod.mk.inj e2_).1; have e3_ := (Prod.mk.inj e2_).2; clear e2_; subst d2_
       subst e3_
       exact x_r2 (none, 0, none, 0) Try.results143 (rv_cell rfl G27 Z27 (fun w h => h.zae (i := 2) rfl) rfl) (zai rfl) rfl (fun w h => za6 [1, 0] (by decide) rfl w h)
      ·skip
       replace h := bb_f hb2359 h
       refine zao ?_
       refine za1 ?_
       refine za7 h (fun y2603 hg2602 h => ?_) rfl
       refine za7 h (fun l2781 ha2782 h => ?_) rfl
       refine a_startS (ds := []) [some 0, none, some 2, none, some 4, some 5] MO rfl ?_
       refine za9 0 rfl rfl rfl (by kernel_rfl) (fun _ _ _ h => h) (q_f F27_2 rfl) ?_
       refine zb0 2 rfl rfl rfl (by kernel_rfl) (fun _ _ _ h => h) (fun w h => za5 [some 0, none, some 2, none, some 4, some 5] (by decide) w h rfl) (q_ldb Y25 rfl (fun w h => h.zae (i := 4) rfl) rfl) ?_
       refine za9 3 rfl rfl rfl (by kernel_rfl) (fun _ _ _ h => h) (za2 rfl) ?_
       refine a_fact (p := Sh A1147 l1146.length l2308.length) (fun w h => f_sh (dk := (Kd.int .i64)) h (fun w h => h.zaw (i := 5) rfl)) (fun hq2601 => ?_)
       refine za9 4 rfl rfl rfl (by kernel_rfl) (fun _ _ _ h => h) (q_ix Try.underlying25 Z3 rfl rfl hq2601 hg2602) ?_
       refine zb0 5 rfl rfl rfl (by kernel_rfl) (fun _ _ _ h => h) (fun w h => za5 [some 0, none, some 2, none, some 4, some 5] (by decide) w h rfl) (q_lde (off := 0) Y3 rfl rfl (fun w h => h.zaw (i := 5) rfl) hg2602 (fun _ _ h => h) rfl) ?_
       refine a_two 1 6 rfl rfl rfl rfl (by kernel_rfl) rfl rfl (ev_q rfl (q_ldb Y25 rfl (fun w h => h.zae (i := 1) rfl) rfl)) (fun s w h => za5 [some 0, none, some 2, none, some 4, some 5] (by decide) w h rfl) (e_lit (vs := [(0, .int .i64 y2603)]) (cs := [.int .i64 y2603]) (Kd.int .i64) ([y2603] : List Int) Try.underlying25 I3 (by decide) rfl (by decide) rfl rfl (fun _ _ => Kd.zak _)) (fun s w h => za5 [some 1, none, some 3, none, some 5, some 6] (by decide) w h rfl) (fun _ => ?_) (cur2 (fun A2721 c2722 => ?_))
       ·skip
        refine a_one 6 rfl rfl (by kernel_rfl) rfl (e_lit (vs := [(0, .int .i64 y2603)]) (cs := [.int .i64 y2603]) (Kd.int .i64) ([y2603] : List Int) Try.underlying25 I3 (by decide) rfl (by decide) rfl rfl (fun _ _ => Kd.zak _)) (fun s w h => za5 [some 1, none, some 3, none, some 5, some 6] (by decide) w h rfl) (cur2 (fun A2721 c2722 => ?_))
        refine a_one 7 rfl rfl (by kernel_rfl) rfl (e_app (i := 4) (j := 0) Try.underlying25 I3 rfl (by decide) (by decide) rfl rfl rfl rfl rfl ha2782) (fun s w h => za5 [some 1, none, some 3, none, some 5, some 6] (by decide) w h rfl) (cur2 (fun A2783 c2784 => ?_))
        refine za9 8 rfl rfl rfl (by kernel_rfl) (fun _ _ _ h => h) (q_f F27_2 rfl) ?_
        refine a_one 9 rfl rfl (by kernel_rfl) rfl (zay (i := 2) rfl rfl rfl rfl Z25 rfl rfl) (fun s w h => za5 [some 1, none, some 3, none, some 5, some 6] (by decide) w h rfl) (fun _ => ?_)
        refine zav (by kernel_rfl) ?_
        refine zal ?_
        refine za1 ?_
        refine za0 ?_
        refine o_q rfl rfl (q_up rfl rfl (hr2331.up hm2332)) ?_
        refine o_q rfl rfl (za2 rfl) ?_
        refine o_end ?_
        refine zam ys2329.length (ys2329, l2781, i2327 + 1, A2783, c2784) (by rw [← hk2337]; exact Nat.lt_succ_self _) ⟨hr2331.step, rfl, h⟩ ⟨rfl, trivial⟩ (fun w h => za6 [4, 3, 1, 2, 5, 6] (by decide) rfl w h) ?_
        repeat (first | exact zac _ _ | refine zaf rfl ?_ | refine zad rfl ?_ | refine zah rfl ?_)
       ·skip
        refine a_one 1 rfl rfl (by kernel_rfl) rfl (ev_q rfl (q_ldb Y25 rfl (fun w h => h.zae (i := 2) rfl) rfl)) (fun s w h => za5 [some 1, none, some 3, none, some 5, some 6] (by decide) w h rfl) (fun _ => ?_)
        refine a_one 7 rfl rfl (by kernel_rfl) rfl (e_app (i := 4) (j := 0) Try.underlying25 I3 rfl (by decide) (by decide) rfl rfl rfl rfl rfl ha2782) (fun s w h => za5 [some 1, none, some 3, none, some 5, some 6] (by decide) w h rfl) (cur2 (fun A2783 c2784 => ?_))
        refine za9 8 rfl rfl rfl (by kernel_rfl) (fun _ _ _ h => h) (q_f F27_2 rfl) ?_
        refine a_one 9 rfl rfl (by kernel_rfl) rfl (zay (i := 2) rfl rfl rfl rfl Z25 rfl rfl) (fun s w h => za5 [some 1, none, some 3, none, some 5, some 6] (by decide) w h rfl) (fun _ => ?_)
        refine zav (by kernel_rfl) ?_
        refine zal ?_
        refine za1 ?_
        refine za0 ?_
        refine o_q rfl rfl (q_up rfl rfl (hr2331.up hm2332)) ?_
        refine o_q rfl rfl (za2 rfl) ?_
        refine o_end ?_
        refine zam ys2329.length (ys2329, l2781, i2327 + 1, A2783, c2784) (by rw [← hk2337]; exact Nat.lt_succ_self _) ⟨hr2331.step, rfl, h⟩ ⟨rfl, trivial⟩ (fun w h => za6 [4, 3, 1, 2, 5, 6] (by decide) rfl w h) ?_
        repeat (first | exact zac _ _ | refine zaf rfl ?_ | refine zad rfl ?_ | refine zah rfl ?_)
   ·skip
    clear hl2319
    have hr2316 := hJ_.1; have hk2322 := hJ_.2.1; have h := hJ_.2.2; clear hJ_
    replace h : impl_RegCode_read.l1 l0_1 (y2313 :: ys2314) l2308 l2309 i2312 = some o2320 := h
    rw [impl_RegCode_read.l1] at h
    refine c_seq ?_
    refine za0 ?_
    refine o_q rfl rfl (q_lss rfl rfl) ?_
    refine o_end ?_
    refine za1 ?_
    refine c_seq ?_
    refine zb1 (congrArg Value.bool hr2316.lt) ?_
    refine zao ?_
    refine za1 ?_
    refine c_seq ?_
    refine zaj ?_
    refine c_seq ?_
    refine za0 ?_
    refine zaz (p := Sh A0_2 l0_2.length l0_2.length) (fun w h => f_sh (dk := zb6) h (fun w h => R0_2.now Z h)) (fun hq3021 => ?_)
    refine o_q rfl rfl (q_ix Try.underlying41 Z94 rfl rfl hq3021 hr2316.get) ?_
    refine o_q rfl rfl (q_ldE G94 Z94 rfl rfl (fun w h => R0_2.now Z h) hr2316.get (fun _ _ h => h) rfl) ?_
    refine o_e rfl (zat V94 rfl) (fun g3022 => ?_)
    refine o_e rfl (zan (i := 0) rfl rfl rfl Z94 rfl rfl) (fun _ => ?_)
    refine o_end ?_
    refine za1 ?_
    refine c_seq ?_
    refine za7 h (fun o3040 hl3041 hR3042 => ?_) rfl
    clear h
    refine c_cutJ (σ := Bool) (fun b3039 => some b3039 = some o3040) [64, 65, 66, 67, 68, 69, 70, 71, 72, 73, 74, 75, 76, 77, 78, 79, 80, 81, 82, 83, 84, 85, 86, 87, 88, 89, 90, 91, 92, 93, 94, 95, 96, 97, 98] (fun b3039 => [(98, .bool b3039)]) (fun b3039 => [box g1 27 #[.int .i64 0, .slice none 0 0, .slice none 0 0], box g1144 27 #[.int .i64 (l0_1.length : Int), .slice A2310 l2309.length c2311, .slice none 0 0], row kStep 88 (.slice A2310 l2309.length c2311) l2309, box g1145 25 #[.slice A1147 l1146.length c1148], row (Kd.int .i64) 3 (.slice A1147 l1146.length c1148) l2308, box g3022 94 #[.int .i64 y2313.f0, .int .i64 y2313.f1, .int .i64 y2313.f2]]) ?_ ?_
    ·skip
     have h := hl3041; clear hl3041
     clear hR3042
     refine za0 ?_
     refine o_q rfl rfl (za2 rfl) ?_
     refine o_q rfl rfl (q_f F94_0 rfl) ?_
     refine o_q rfl rfl (q_ldb Y3 rfl (fun w h => h.zae (i := 0) rfl) rfl) ?_
     refine za7 h (fun b3046 hx3045 h => ?_) rfl
     refine o_e rfl (zab 0 Z Try.func181 N181 rfl rfl rfl (fun w P1 hF hB hS hT => impl_RegCode_read_1.calls y2313.f0 g1145 A1147 c1148 l1146.length l2308 hB hF (hT 5 _ rfl).row (hT 5 _ rfl).cap (hT 4 _ rfl).box _ hx3045)) (fun _ => ?_)
     refine o_q rfl rfl (q_not rfl) ?_
     refine o_q rfl rfl (za2 rfl) ?_
     refine byB b3046 (fun hb3047 => ?_) (fun hb3047 => ?_)
     ·replace h := bb_t hb3047 h
      refine o_w (za4 rfl rfl rfl (congrArg (fun b => Value.bool (!(b))) hb3047)) rfl (za2 rfl) ?_
      refine o_w (za4 rfl rfl rfl (congrArg (fun b => Value.bool (!(b))) hb3047)) rfl (q_f F94_1 rfl) ?_
      refine o_w (za4 rfl rfl rfl (congrArg (fun b => Value.bool (!(b))) hb3047)) rfl (q_ldb Y3 rfl (fun w h => h.zae (i := 0) rfl) rfl) ?_
      refine za7 h (fun b3049 hx3048 h => ?_) rfl
      refine o_ew (za4 rfl rfl rfl (congrArg (fun b => Value.bool (!(b))) hb3047)) (zab 0 Z Try.func181 N181 rfl rfl rfl (fun w P1 hF hB hS hT => impl_RegCode_read_1.calls y2313.f1 g1145 A1147 c1148 l1146.length l2308 hB hF (hT 5 _ rfl).row (hT 5 _ rfl).cap (hT 4 _ rfl).box _ hx3048)) (fun _ => ?_)
      refine o_w (za4 rfl rfl rfl (congrArg (fun b => Value.bool (!(b))) hb3047)) rfl (q_not rfl) ?_
      refine o_q rfl rfl (zaq false (congrArg (fun b => Value.bool (!(b))) hb3047) rfl) ?_
      refine o_q rfl rfl (za2 rfl) ?_
      refine byB b3049 (fun hb3050 => ?_) (fun hb3050 => ?_)
      ·replace h := bb_t hb3050 h
       refine o_w (za4 rfl rfl rfl (congrArg (fun b => Value.bool (!(b))) hb3050)) rfl (za2 rfl) ?_
       refine o_w (za4 rfl rfl rfl (congrArg (fun b => Value.bool (!(b))) hb3050)) rfl (q_f F94_2 rfl) ?_
       refine o_w (za4 rfl rfl rfl (congrArg (fun b => Value.bool (!(b))) hb3050)) rfl (q_ldb Y3 rfl (fun w h => h.zae (i := 0) rfl) rfl) ?_
       refine za7 h (fun b3052 hx3051 h => ?_) rfl
       refine o_ew (za4 rfl rfl rfl (congrArg (fun b => Value.bool (!(b))) hb3050)) (zab 0 Z Try.func181 N181 rfl rfl rfl (fun w P1 hF hB hS hT => impl_RegCode_read_1.calls y2313.f2 g1145 A1147 c1148 l1146.length l2308 hB hF (hT 5 _ rfl).row (hT 5 _ rfl).cap (hT 4 _ rfl).box _ hx3051)) (fun _ => ?_)
       refine o_w (za4 rfl rfl rfl (congrArg (fun b => Value.bool (!(b))) hb3050)) rfl (q_not rfl) ?_
       refine o_q rfl rfl (zaq false (congrArg (fun b => Value.bool (!(b))) hb3050) rfl) ?_
       refine o_q rfl rfl (za2 rfl) ?_
       refine byB b3052 (fun hb3053 => ?_) (fun hb3053 => ?_)
       ·replace h := bb_t hb3053 h
        refine o_w (za4 rfl rfl rfl (congrArg (fun b => Value.bool (!(b))) hb3053)) rfl (q_ldb Y25 rfl (fun w h => h.zae (i := 4) rfl) rfl) ?_
        refine o_w (za4 rfl rfl rfl (congrArg (fun b => Value.bool (!(b))) hb3053)) rfl (q_f F94_1 rfl) ?_
        refine o_w (za4 rfl rfl rfl (congrArg (fun b => Value.bool (!(b))) hb3053)) rfl (q_ldb Y3 rfl (fun w h => h.zae (i := 0) rfl) rfl) ?_
        refine zaz (p := Sh A1147 l1146.length l2308.length) (fun w h => f_sh (dk := (Kd.int .i64)) h (fun w h => h.zaw (i := 5) rfl)) (fun hq3054 => ?_)
        refine za7 h (fun y3056 hg3055 h => ?_) rfl
        refine o_w (za4 rfl rfl rfl (congrArg (fun b => Value.bool (!(b))) hb3053)) rfl (q_ix Try.underlying25 Z3 rfl rfl hq3054 hg3055) ?_
        refine o_w (za4 rfl rfl rfl (congrArg (fun b => Value.bool (!(b))) hb3053)) rfl (q_lde (off := 0) Y3 rfl rfl (fun w h => h.zaw (i := 5) rfl) hg3055 (fun _ _ h => h) rfl) ?_
        refine o_w (za4 rfl rfl rfl (congrArg (fun b => Value.bool (!(b))) hb3053)) rfl (q_eql rfl rfl) ?_
        refine o_q rfl rfl (zaq false (congrArg (fun b => Value.bool (!(b))) hb3053) rfl) ?_
        refine o_q rfl rfl (za2 rfl) ?_
        refine byB (decide (y3056 = (-1))) (fun hb3057 => ?_) (fun hb3057 => ?_)
        ·replace h := br_t hb3057 h
         refine @o_n _ _ _ _ _ _ _ _ _ _ _ 92 (za3 rfl rfl rfl (congrArg Value.bool hb3057) rfl) (Eq.refl (some 92)) ?_
         refine @o_n _ _ _ _ _ _ _ _ _ _ _ 93 (za3 rfl rfl rfl (congrArg Value.bool hb3057) rfl) (Eq.refl (some 93)) ?_
         refine @o_n _ _ _ _ _ _ _ _ _ _ _ 94 (za3 rfl rfl rfl (congrArg Value.bool hb3057) rfl) (Eq.refl (some 94)) ?_
         refine @o_n _ _ _ _ _ _ _ _ _ _ _ 95 (za3 rfl rfl rfl (congrArg Value.bool hb3057) rfl) (Eq.refl (some 95)) ?_
         refine @o_n _ _ _ _ _ _ _ _ _ _ _ 96 (za3 rfl rfl rfl (congrArg Value.bool hb3057) rfl) (Eq.refl (some 96)) ?_
         refine @o_n _ _ _ _ _ _ _ _ _ _ _ 97 (za3 rfl rfl rfl (congrArg Value.bool hb3057) rfl) (Eq.refl (some 97)) ?_
         refine o_q rfl rfl (zaq true (congrArg Value.bool hb3057) rfl) ?_
         refine o_end ?_
         refine zas true h ⟨rfl, trivial⟩ (fun w h => za6 [2, 3, 1, 4, 5, 0] (by decide) rfl w h) ?_
         repeat (first | exact zac _ _ | refine zaf rfl ?_ | refine zad rfl ?_ | refine zah rfl ?_)
        ·replace h := br_f hb3057 h
         refine o_w (za4 rfl rfl rfl (congrArg Value.bool hb3057)) rfl (q_ldb Y25 rfl (fun w h => h.zae (i := 4) rfl) rfl) ?_
         refine o_w (za4 rfl rfl rfl (congrArg Value.bool hb3057)) rfl (q_f F94_2 rfl) ?_
         refine o_w (za4 rfl rfl rfl (congrArg Value.bool hb3057)) rfl (q_ldb Y3 rfl (fun w h => h.zae (i := 0) rfl) rfl) ?_
         refine za7 h (fun y3059 hg3058 h => ?_) rfl
         refine o_w (za4 rfl rfl rfl (congrArg Value.bool hb3057)) rfl (q_ix Try.underlying25 Z3 rfl rfl hq3054 hg3058) ?_
         refine o_w (za4 rfl rfl rfl (congrArg Value.bool hb3057)) rfl (q_lde (off := 0) Y3 rfl rfl (fun w h => h.zaw (i := 5) rfl) hg3058 (fun _ _ h => h) rfl) ?_
         refine o_w (za4 rfl rfl rfl (congrArg Value.bool hb3057)) rfl (q_eql rfl rfl) ?_
         refine o_q rfl rfl (zaq false (congrArg Value.bool hb3057) rfl) ?_
         refine o_end ?_
         refine zas (decide (y3059 = (-1))) h ⟨rfl, trivial⟩ (fun w h => za6 [2, 3, 1, 4, 5, 0] (by decide) rfl w h) ?_
         repeat (first | exact zac _ _ | refine zaf rfl ?_ | refine zad rfl ?_ | refine zah rfl ?_)
       ·replace h := bb_f hb3053 h
        refine @o_n _ _ _ _ _ _ _ _ _ _ _ 84 (za3 rfl rfl rfl (congrArg (fun b => Value.bool (!(b))) hb3053) rfl) (Eq.refl (some 84)) ?_
        refine @o_n _ _ _ _ _ _ _ _ _ _ _ 85 (za3 rfl rfl rfl (congrArg (fun b => Value.bool (!(b))) hb3053) rfl) (Eq.refl (some 85)) ?_
        refine @o_n _ _ _ _ _ _ _ _ _ _ _ 86 (za3 rfl rfl rfl (congrArg (fun b => Value.bool (!(b))) hb3053) rfl) (Eq.refl (some 86)) ?_
        refine @o_n _ _ _ _ _ _ _ _ _ _ _ 87 (za3 rfl rfl rfl (congrArg (fun b => Value.bool (!(b))) hb3053) rfl) (Eq.refl (some 87)) ?_
        refine @o_n _ _ _ _ _ _ _ _ _ _ _ 88 (za3 rfl rfl rfl (congrArg (fun b => Value.bool (!(b))) hb3053) rfl) (Eq.refl (some 88)) ?_
        refine @o_n _ _ _ _ _ _ _ _ _ _ _ 89 (za3 rfl rfl rfl (congrArg (fun b => Value.bool (!(b))) hb3053) rfl) (Eq.refl (some 89)) ?_
        refine o_q rfl rfl (zaq true (congrArg (fun b => Value.bool (!(b))) hb3053) rfl) ?_
        refine o_q rfl rfl (za2 rfl) ?_
        refine @o_n _ _ _ _ _ _ _ _ _ _ _ 92 (za3 rfl rfl rfl rfl rfl) (Eq.refl (some 92)) ?_
        refine @o_n _ _ _ _ _ _ _ _ _ _ _ 93 (za3 rfl rfl rfl rfl rfl) (Eq.refl (some 93)) ?_
        refine @o_n _ _ _ _ _ _ _ _ _ _ _ 94 (za3 rfl rfl rfl rfl rfl) (Eq.refl (some 94)) ?_
        refine @o_n _ _ _ _ _ _ _ _ _ _ _ 95 (za3 rfl rfl rfl rfl rfl) (Eq.refl (some 95)) ?_
        refine @o_n _ _ _ _ _ _ _ _ _ _ _ 96 (za3 rfl rfl rfl rfl rfl) (Eq.refl (some 96)) ?_
        refine @o_n _ _ _ _ _ _ _ _ _ _ _ 97 (za3 rfl rfl rfl rfl rfl) (Eq.refl (some 97)) ?_
        refine o_q rfl rfl (zaq true rfl rfl) ?_
        refine o_end ?_
        refine zas true h ⟨rfl, trivial⟩ (fun w h => za6 [2, 3, 1, 4, 5, 0] (by decide) rfl w h) ?_
        repeat (first | exact zac _ _ | refine zaf rfl ?_ | refine zad rfl ?_ | refine zah rfl ?_)
      ·replace h := bb_f hb3050 h
       refine @o_n _ _ _ _ _ _ _ _ _ _ _ 77 (za3 rfl rfl rfl (congrArg (fun b => Value.bool (!(b))) hb3050) rfl) (Eq.refl (some 77)) ?_
       refine @o_n _ _ _ _ _ _ _ _ _ _ _ 78 (za3 rfl rfl rfl (congrArg (fun b => Value.bool (!(b))) hb3050) rfl) (Eq.refl (some 78)) ?_
       refine @o_n _ _ _ _ _ _ _ _ _ _ _ 79 (za3 rfl rfl rfl (congrArg (fun b => Value.bool (!(b))) hb3050) rfl) (Eq.refl (some 79)) ?_
       refine @o_n _ _ _ _ _ _ _ _ _ _ _ 80 (za3 rfl rfl rfl (congrArg (fun b => Value.bool (!(b))) hb3050) rfl) (Eq.refl (some 80)) ?_
       refine @o_n _ _ _ _ _ _ _ _ _ _ _ 81 (za3 rfl rfl rfl (congrArg (fun b => Value.bool (!(b))) hb3050) rfl) (Eq.refl (some 81)) ?_
       refine o_q rfl rfl (zaq true (congrArg (fun b => Value.bool (!(b))) hb3050) rfl) ?_
       refine o_q rfl rfl (za2 rfl) ?_
       refine @o_n _ _ _ _ _ _ _ _ _ _ _ 84 (za3 rfl rfl rfl rfl rfl) (Eq.refl (some 84)) ?_
       refine @o_n _ _ _ _ _ _ _ _ _ _ _ 85 (za3 rfl rfl rfl rfl rfl) (Eq.refl (some 85)) ?_
       refine @o_n _ _ _ _ _ _ _ _ _ _ _ 86 (za3 rfl rfl rfl rfl rfl) (Eq.refl (some 86)) ?_
       refine @o_n _ _ _ _ _ _ _ _ _ _ _ 87 (za3 rfl rfl rfl rfl rfl) (Eq.refl (some 87)) ?_
       refine @o_n _ _ _ _ _ _ _ _ _ _ _ 88 (za3 rfl rfl rfl rfl rfl) (Eq.refl (some 88)) ?_
       refine @o_n _ _ _ _ _ _ _ _ _ _ _ 89 (za3 rfl rfl rfl rfl rfl) (Eq.refl (some 89)) ?_
       refine o_q rfl rfl (zaq true rfl rfl) ?_
       refine o_q rfl rfl (za2 rfl) ?_
       refine @o_n _ _ _ _ _ _ _ _ _ _ _ 92 (za3 rfl rfl rfl rfl rfl) (Eq.refl (some 92)) ?_
       refine @o_n _ _ _ _ _ _ _ _ _ _ _ 93 (za3 rfl rfl rfl rfl rfl) (Eq.refl (some 93)) ?_
       refine @o_n _ _ _ _ _ _ _ _ _ _ _ 94 (za3 rfl rfl rfl rfl rfl) (Eq.refl (some 94)) ?_
       refine @o_n _ _ _ _ _ _ _ _ _ _ _ 95 (za3 rfl rfl rfl rfl rfl) (Eq.refl (some 95)) ?_
       refine @o_n _ _ _ _ _ _ _ _ _ _ _ 96 (za3 rfl rfl rfl rfl rfl) (Eq.refl (some 96)) ?_
       refine @o_n _ _ _ _ _ _ _ _ _ _ _ 97 (za3 rfl rfl rfl rfl rfl) (Eq.refl (some 97)) ?_
       refine o_q rfl rfl (zaq true rfl rfl) ?_
       refine o_end ?_
       refine zas true h ⟨rfl, trivial⟩ (fun w h => za6 [2, 3, 1, 4, 5, 0] (by decide) rfl w h) ?_
       repeat (first | exact zac _ _ | refine zaf rfl ?_ | refine zad rfl ?_ | refine zah rfl ?_)
     ·replace h := bb_f hb3047 h
      refine @o_n _ _ _ _ _ _ _ _ _ _ _ 70 (za3 rfl rfl rfl (congrArg (fun b => Value.bool (!(b))) hb3047) rfl) (Eq.refl (some 70)) ?_
      refine @o_n _ _ _ _ _ _ _ _ _ _ _ 71 (za3 rfl rfl rfl (congrArg (fun b => Value.bool (!(b))) hb3047) rfl) (Eq.refl (some 71)) ?_
      refine @o_n _ _ _ _ _ _ _ _ _ _ _ 72 (za3 rfl rfl rfl (congrArg (fun b => Value.bool (!(b))) hb3047) rfl) (Eq.refl (some 72)) ?_
      refine @o_n _ _ _ _ _ _ _ _ _ _ _ 73 (za3 rfl rfl rfl (congrArg (fun b => Value.bool (!(b))) hb3047) rfl) (Eq.refl (some 73)) ?_
      refine @o_n _ _ _ _ _ _ _ _ _ _ _ 74 (za3 rfl rfl rfl (congrArg (fun b => Value.bool (!(b))) hb3047) rfl) (Eq.refl (some 74)) ?_
      refine o_q rfl rfl (zaq true (congrArg (fun b => Value.bool (!(b))) hb3047) rfl) ?_
      refine o_q rfl rfl (za2 rfl) ?_
      refine @o_n _ _ _ _ _ _ _ _ _ _ _ 77 (za3 rfl rfl rfl rfl rfl) (Eq.refl (some 77)) ?_
      refine @o_n _ _ _ _ _ _ _ _ _ _ _ 78 (za3 rfl rfl rfl rfl rfl) (Eq.refl (some 78)) ?_
      refine @o_n _ _ _ _ _ _ _ _ _ _ _ 79 (za3 rfl rfl rfl rfl rfl) (Eq.refl (some 79)) ?_
      refine @o_n _ _ _ _ _ _ _ _ _ _ _ 80 (za3 rfl rfl rfl rfl rfl) (Eq.refl (some 80)) ?_
      refine @o_n _ _ _ _ _ _ _ _ _ _ _ 81 (za3 rfl rfl rfl rfl rfl) (Eq.refl (some 81)) ?_
      refine o_q rfl rfl (zaq true rfl rfl) ?_
      refine o_q rfl rfl (za2 rfl) ?_
      refine @o_n _ _ _ _ _ _ _ _ _ _ _ 84 (za3 rfl rfl rfl rfl rfl) (Eq.refl (some 84)) ?_
      refine @o_n _ _ _ _ _ _ _ _ _ _ _ 85 (za3 rfl rfl rfl rfl rfl) (Eq.refl (some 85)) ?_
      refine @o_n _ _ _ _ _ _ _ _ _ _ _ 86 (za3 rfl rfl rfl rfl rfl) (Eq.refl (some 86)) ?_
      refine @o_n _ _ _ _ _ _ _ _ _ _ _ 87 (za3 rfl rfl rfl rfl rfl) (Eq.refl (some 87)) ?_
      refine @o_n _ _ _ _ _ _ _ _ _ _ _ 88 (za3 rfl rfl rfl rfl rfl) (Eq.refl (some 88)) ?_
      refine @o_n _ _ _ _ _ _ _ _ _ _ _ 89 (za3 rfl rfl rfl rfl rfl) (Eq.refl (some 89)) ?_
      refine o_q rfl rfl (zaq true rfl rfl) ?_
      refine o_q rfl rfl (za2 rfl) ?_
      refine @o_n _ _ _ _ _ _ _ _ _ _ _ 92 (za3 rfl rfl rfl rfl rfl) (Eq.refl (some 92)) ?_
      refine @o_n _ _ _ _ _ _ _ _ _ _ _ 93 (za3 rfl rfl rfl rfl rfl) (Eq.refl (some 93)) ?_
      refine @o_n _ _ _ _ _ _ _ _ _ _ _ 94 (za3 rfl rfl rfl rfl rfl) (Eq.refl (some 94)) ?_
      refine @o_n _ _ _ _ _ _ _ _ _ _ _ 95 (za3 rfl rfl rfl rfl rfl) (Eq.refl (some 95)) ?_
      refine @o_n _ _ _ _ _ _ _ _ _ _ _ 96 (za3 rfl rfl rfl rfl rfl) (Eq.refl (some 96)) ?_
      refine @o_n _ _ _ _ _ _ _ _ _ _ _ 97 (za3 rfl rfl rfl rfl rfl) (Eq.refl (some 97)) ?_
      refine o_q rfl rfl (zaq true rfl rfl) ?_
      refine o_end ?_
      refine zas true h ⟨rfl, trivial⟩ (fun w h => za6 [2, 3, 1, 4, 5, 0] (by decide) rfl w h) ?_
      repeat (first | exact zac _ _ | refine zaf rfl ?_ | refine zad rfl ?_ | refine zah rfl ?_)
    ·skip
     refine (fun b3039 => fun U3043 hJ3044 => ?_)
     have e_ := Option.some.inj hJ3044; have h := hR3042; rw [← e_] at h; clear e_ hJ3044 hR3042 hl3041
     refine zau _ rfl (fun hb3060 => ?_) (fun hb3060 => ?_)
     ·skip
      replace h := bb_t hb3060 h
      refine c_seq ?_
      refine za0 ?_
      refine o_q rfl rfl (zb5 (vs := []) (cs := [.int .i64 0, .slice none 0 0, .slice none 0 0]) rfl rfl) ?_
      refine o_e rfl (zan (i := 0) rfl rfl rfl Z27 rfl rfl) (fun _ => ?_)
      refine o_q rfl rfl (q_asg rfl) ?_
      refine o_end ?_
      refine za1 ?_
      refine c_ret ?_
      refine zaa ?_
      refine zar ?_
      refine zaa ?_
      refine zaa ?_
      have e_ := Option.some.inj h; replace h := hR2318; rw [← e_] at h; clear e_
      refine zar ?_
      refine zaa ?_
      refine x_nil kStep 88 ?_
      refine x_nil (Kd.int .i64) 3 ?_
      have e0_ := Option.some.inj h; clear h
      have d0_ := (Prod.mk.inj e0_).1; have e1_ := (Prod.mk.inj e0_).2; clear e0_; subst d0_
      have d1_ := (Prod.mk.inj e1_).1; have e2_ := (Prod.mk.inj e1_).2; clear e1_; subst d1_
      have d2_ := (Prod.mk.inj e2_).1; have e3_ := (Prod.mk.inj e2_).2; clear e2_; subst d2_
      subst e3_
      exact x_r2 (none, 0, none, 0) Try.results143 (rv_cell rfl G27 Z27 (fun w h => h.zae (i := 2) rfl) rfl) (zai rfl) rfl (fun w h => za6 [1, 0] (by decide) rfl w h)
     ·skip
      replace h := bb_f hb3060 h
      refine zao ?_
      refine za1 ?_
      refine za7 h (fun o4145 hl4146 hR4147 => ?_) rfl
      clear h
      refine c_cutJ (σ := (List SStep) × (Option Addr) × Nat) (fun (l4142, A4143, c4144) => some l4142 = some o4145) [100, 101, 102, 103, 104, 105, 106, 107, 108, 109, 110, 111, 112, 113, 114, 115] (fun (l4142, A4143, c4144) => []) (fun (l4142, A4143, c4144) => [box g1 27 #[.int .i64 0, .slice none 0 0, .slice none 0 0], box g1144 27 #[.int .i64 (l0_1.length : Int), .slice A4143 l4142.length c4144, .slice none 0 0], row kStep 88 (.slice A4143 l4142.length c4144) l4142, box g1145 25 #[.slice A1147 l1146.length c1148], row (Kd.int .i64) 3 (.slice A1147 l1146.length c1148) l2308, box g3022 94 #[.int .i64 y2313.f0, .int .i64 y2313.f1, .int .i64 y2313.f2]]) ?_ ?_
      ·skip
       have h := hl4146; clear hl4146
       clear hR4147
       refine za7 h (fun y4453 hg4452 h => ?_) rfl
       refine za7 h (fun y4752 hg4751 h => ?_) rfl
       refine za7 h (fun _ hx4871 h => ?_) rfl
       refine za7 h (fun l4991 ha4992 h => ?_) rfl
       refine a_startS (ds := []) [some 0, none, none, some 3, some 4, some 5] MO rfl ?_
       refine za9 0 rfl rfl rfl (by kernel_rfl) (fun _ _ _ h => h) (q_f F27_1 rfl) ?_
       refine zb0 2 rfl rfl rfl (by kernel_rfl) (fun _ _ _ h => h) (fun w h => za5 [some 0, none, none, some 3, some 4, some 5] (by decide) w h rfl) (q_ldb Y25 rfl (fun w h => h.zae (i := 3) rfl) rfl) ?_
       refine za9 3 rfl rfl rfl (by kernel_rfl) (fun _ _ _ h => h) (q_f F94_1 rfl) ?_
       refine zb0 4 rfl rfl rfl (by kernel_rfl) (fun _ _ _ h => h) (fun w h => za5 [some 0, none, none, some 3, some 4, some 5] (by decide) w h rfl) (q_ldb Y3 rfl (fun w h => h.zae (i := 5) rfl) rfl) ?_
       refine a_fact (p := Sh A1147 l1146.length l2308.length) (fun w h => f_sh (dk := (Kd.int .i64)) h (fun w h => h.zaw (i := 4) rfl)) (fun hq4451 => ?_)
       refine za9 5 rfl rfl rfl (by kernel_rfl) (fun _ _ _ h => h) (q_ix Try.underlying25 Z3 rfl rfl hq4451 hg4452) ?_
       refine zb0 6 rfl rfl rfl (by kernel_rfl) (fun _ _ _ h => h) (fun w h => za5 [some 0, none, none, some 3, some 4, some 5] (by decide) w h rfl) (q_lde (off := 0) Y3 rfl rfl (fun w h => h.zaw (i := 4) rfl) hg4452 (fun _ _ h => h) rfl) ?_
       refine zb0 7 rfl rfl rfl (by kernel_rfl) (fun _ _ _ h => h) (fun w h => za5 [some 0, none, none, some 3, some 4, some 5] (by decide) w h rfl) (q_ldb Y25 rfl (fun w h => h.zae (i := 3) rfl) rfl) ?_
       refine za9 8 rfl rfl rfl (by kernel_rfl) (fun _ _ _ h => h) (q_f F94_2 rfl) ?_
       refine zb0 9 rfl rfl rfl (by kernel_rfl) (fun _ _ _ h => h) (fun w h => za5 [some 0, none, none, some 3, some 4, some 5] (by decide) w h rfl) (q_ldb Y3 rfl (fun w h => h.zae (i := 5) rfl) rfl) ?_
       refine za9 10 rfl rfl rfl (by kernel_rfl) (fun _ _ _ h => h) (q_ix Try.underlying25 Z3 rfl rfl hq4451 hg4751) ?_
       refine zb0 11 rfl rfl rfl (by kernel_rfl) (fun _ _ _ h => h) (fun w h => za5 [some 0, none, none, some 3, some 4, some 5] (by decide) w h rfl) (q_lde (off := 0) Y3 rfl rfl (fun w h => h.zaw (i := 4) rfl) hg4751 (fun _ _ h => h) rfl) ?_
       refine a_two 1 12 rfl rfl rfl rfl (by kernel_rfl) rfl rfl (ev_q rfl (q_ldb Y24 rfl (fun w h => h.zae (i := 1) rfl) rfl)) (fun s w h => za5 [some 0, none, none, some 3, some 4, some 5] (by decide) w h rfl) (zab 0 Z Try.func79 N79 rfl rfl rfl (fun w P1 hF hB hS hT => impl_step.calls y4453 y4752 hB hF hx4871)) (fun s w h => za5 [some 0, none, none, some 3, some 4, some 5] (by decide) w h rfl) (fun _ => ?_) (fun _ => ?_)
       ·skip
        refine a_one 12 rfl rfl (by kernel_rfl) rfl (zab 0 Z Try.func79 N79 rfl rfl rfl (fun w P1 hF hB hS hT => impl_step.calls y4453 y4752 hB hF hx4871)) (fun s w h => za5 [some 0, none, none, some 3, some 4, some 5] (by decide) w h rfl) (fun _ => ?_)
        refine a_one 13 rfl rfl (by kernel_rfl) rfl (e_lit (vs := [(0, .agg #[.int .i64 (mn y4453 y4752), .int .i64 (mx y4453 y4752)])]) (cs := [.int .i64 (mn y4453 y4752), .int .i64 (mx y4453 y4752)]) kStep ([(⟨mn y4453 y4752, mx y4453 y4752⟩ : SStep)] : List SStep) Try.underlying24 I88 (by decide) rfl (by decide) rfl rfl (fun _ _ => zb9 _)) (fun s w h => za5 [some 1, none, none, some 4, some 5, some 6] (by decide) w h rfl) (cur2 (fun A4931 c4932 => ?_))
        refine a_one 14 rfl rfl (by kernel_rfl) rfl (e_app (i := 3) (j := 0) Try.underlying24 I88 rfl (by decide) (by decide) rfl rfl rfl rfl rfl ha4992) (fun s w h => za5 [some 1, none, none, some 4, some 5, some 6] (by decide) w h rfl) (cur2 (fun A4993 c4994 => ?_))
        refine za9 15 rfl rfl rfl (by kernel_rfl) (fun _ _ _ h => h) (q_f F27_1 rfl) ?_
        refine a_one 16 rfl rfl (by kernel_rfl) rfl (zay (i := 2) rfl rfl rfl rfl Z24 rfl rfl) (fun s w h => za5 [some 1, none, none, some 4, some 5, some 6] (by decide) w h rfl) (fun _ => ?_)
        refine zav (by kernel_rfl) ?_
        refine zas (l4991, A4993, c4994) h trivial (fun w h => za6 [1, 2, 3, 4, 5, 6] (by decide) rfl w h) ?_
        repeat (first | exact zac _ _ | refine zaf rfl ?_ | refine zad rfl ?_ | refine zah rfl ?_)
       ·skip
        refine a_two 1 13 rfl rfl rfl rfl (by kernel_rfl) rfl rfl (ev_q rfl (q_ldb Y24 rfl (fun w h => h.zae (i := 1) rfl) rfl)) (fun s w h => za5 [some 0, none, none, some 3, some 4, some 5] (by decide) w h rfl) (e_lit (vs := [(0, .agg #[.int .i64 (mn y4453 y4752), .int .i64 (mx y4453 y4752)])]) (cs := [.int .i64 (mn y4453 y4752), .int .i64 (mx y4453 y4752)]) kStep ([(⟨mn y4453 y4752, mx y4453 y4752⟩ : SStep)] : List SStep) Try.underlying24 I88 (by decide) rfl (by decide) rfl rfl (fun _ _ => zb9 _)) (fun s w h => za5 [some 1, none, none, some 4, some 5, some 6] (by decide) w h rfl) (fun _ => ?_) (cur2 (fun A4931 c4932 => ?_))
        ·skip
         refine a_one 13 rfl rfl (by kernel_rfl) rfl (e_lit (vs := [(0, .agg #[.int .i64 (mn y4453 y4752), .int .i64 (mx y4453 y4752)])]) (cs := [.int .i64 (mn y4453 y4752), .int .i64 (mx y4453 y4752)]) kStep ([(⟨mn y4453 y4752, mx y4453 y4752⟩ : SStep)] : List SStep) Try.underlying24 I88 (by decide) rfl (by decide) rfl rfl (fun _ _ => zb9 _)) (fun s w h => za5 [some 1, none, none, some 4, some 5, some 6] (by decide) w h rfl) (cur2 (fun A4931 c4932 => ?_))
         refine a_one 14 rfl rfl (by kernel_rfl) rfl (e_app (i := 3) (j := 0) Try.underlying24 I88 rfl (by decide) (by decide) rfl rfl rfl rfl rfl ha4992) (fun s w h => za5 [some 1, none, none, some 4, some 5, some 6] (by decide) w h rfl) (cur2 (fun A4993 c4994 => ?_))
         refine za9 15 rfl rfl rfl (by kernel_rfl) (fun _ _ _ h => h) (q_f F27_1 rfl) ?_
         refine a_one 16 rfl rfl (by kernel_rfl) rfl (zay (i := 2) rfl rfl rfl rfl Z24 rfl rfl) (fun s w h => za5 [some 1, none, none, some 4, some 5, some 6] (by decide) w h rfl) (fun _ => ?_)
         refine zav (by kernel_rfl) ?_
         refine zas (l4991, A4993, c4994) h trivial (fun w h => za6 [1, 2, 3, 4, 5, 6] (by decide) rfl w h) ?_
         repeat (first | exact zac _ _ | refine zaf rfl ?_ | refine zad rfl ?_ | refine zah rfl ?_)
        ·skip
         refine a_one 1 rfl rfl (by kernel_rfl) rfl (ev_q rfl (q_ldb Y24 rfl (fun w h => h.zae (i := 2) rfl) rfl)) (fun s w h => za5 [some 1, none, none, some 4, some 5, some 6] (by decide) w h rfl) (fun _ => ?_)
         refine a_one 14 rfl rfl (by kernel_rfl) rfl (e_app (i := 3) (j := 0) Try.underlying24 I88 rfl (by decide) (by decide) rfl rfl rfl rfl rfl ha4992) (fun s w h => za5 [some 1, none, none, some 4, some 5, some 6] (by decide) w h rfl) (cur2 (fun A4993 c4994 => ?_))
         refine za9 15 rfl rfl rfl (by kernel_rfl) (fun _ _ _ h => h) (q_f F27_1 rfl) ?_
         refine a_one 16 rfl rfl (by kernel_rfl) rfl (zay (i := 2) rfl rfl rfl rfl Z24 rfl rfl) (fun s w h => za5 [some 1, none, none, some 4, some 5, some 6] (by decide) w h rfl) (fun _ => ?_)
         refine zav (by kernel_rfl) ?_
         refine zas (l4991, A4993, c4994) h trivial (fun w h => za6 [1, 2, 3, 4, 5, 6] (by decide) rfl w h) ?_
         repeat (first | exact zac _ _ | refine zaf rfl ?_ | refine zad rfl ?_ | refine zah rfl ?_)
      ·skip
       refine (cur3 (fun l4142 A4143 c4144 => fun U4148 hJ4149 => ?_))
       have e_ := Option.some.inj hJ4149; have h := hR4147; rw [← e_] at h; clear e_ hJ4149 hR4147 hl4146
       refine a_startS (ds := []) [some 0, some 1, some 2, some 3, none, some 5] MO rfl ?_
       refine zb0 0 rfl rfl rfl (by kernel_rfl) (fun _ _ _ h => h) (fun w h => za5 [some 0, some 1, some 2, some 3, none, some 5] (by decide) w h rfl) (q_ldb Y25 rfl (fun w h => h.zae (i := 3) rfl) rfl) ?_
       refine za9 1 rfl rfl rfl (by kernel_rfl) (fun _ _ _ h => h) (q_f F94_0 rfl) ?_
       refine zb0 2 rfl rfl rfl (by kernel_rfl) (fun _ _ _ h => h) (fun w h => za5 [some 0, some 1, some 2, some 3, none, some 5] (by decide) w h rfl) (q_ldb Y3 rfl (fun w h => h.zae (i := 5) rfl) rfl) ?_
       refine za7 h (fun _ hx5231 h => ?_) rfl
       refine a_one 3 rfl rfl (by kernel_rfl) rfl (zab 0 Z Try.func84 N84 rfl rfl rfl (fun w P1 hF hB hS hT => impl_Plan_many.calls g1144 (l0_1.length : Int) A4143 c4144 l4142.length l4142 none 0 0 [] hB hF (hT 2 _ rfl).row (hT 2 _ rfl).cap (stab_nil _) (Nat.le_refl 0) (hT 1 _ rfl).box hx5231)) (fun s w h => za5 [some 0, some 1, some 2, some 3, none, some 5] (by decide) w h rfl) (fun _ => ?_)
       refine za9 4 rfl rfl rfl (by kernel_rfl) (fun _ _ _ h => h) (q_sub64 rfl rfl) ?_
       refine a_fact (p := Sh A1147 l1146.length l2308.length) (fun w h => f_sh (dk := (Kd.int .i64)) h (fun w h => h.zaw (i := 4) rfl)) (fun hq5232 => ?_)
       refine za7 h (fun y5234 hg5233 h => ?_) rfl
       refine za9 5 rfl rfl rfl (by kernel_rfl) (fun _ _ _ h => h) (q_ix Try.underlying25 Z3 rfl rfl hq5232 hg5233) ?_
       refine za7 h (fun l5235 hs5236 h => ?_) rfl
       refine a_one 6 rfl rfl (by kernel_rfl) rfl (e_set (i := 4) rfl rfl rfl Z3 hs5236) (fun s w h => za5 [some 0, some 1, some 2, some 3, none, some 5] (by decide) w h rfl) (fun _ => ?_)
       refine zav (by kernel_rfl) ?_
       refine zal ?_
       refine za1 ?_
       refine za0 ?_
       refine o_q rfl rfl (q_up rfl rfl (hr2316.up hm2317)) ?_
       refine o_q rfl rfl (za2 rfl) ?_
       refine o_end ?_
       refine zam ys2314.length (ys2314, l5235, l4142, i2312 + 1, A4143, c4144) (by rw [← hk2322]; exact Nat.lt_succ_self _) ⟨hr2316.step, rfl, h⟩ ⟨rfl, trivial⟩ (fun w h => za6 [2, 0, 1, 3, 4] (by decide) rfl w h) ?_
       repeat (first | exact zac _ _ | refine zaf rfl ?_ | refine zad rfl ?_ | refine zah rfl ?_)
  ·skip
   clear hl2303
   have hr2300 := hJ_.1; have hk2306 := hJ_.2.1; have h := hJ_.2.2; clear hJ_
   replace h : impl_RegCode_read.l0 (y2297 :: ys2298) l2295 i2296 = some o2304 := h
   rw [impl_RegCode_read.l0] at h
   refine c_seq ?_
   refine za0 ?_
   refine o_q rfl rfl (q_lss rfl rfl) ?_
   refine o_end ?_
   refine za1 ?_
   refine c_seq ?_
   refine zb1 (congrArg Value.bool hr2300.lt) ?_
   refine zao ?_
   refine za1 ?_
   refine c_seq ?_
   refine zaj ?_
   refine c_seq ?_
   refine za0 ?_
   refine o_q rfl rfl (za2 rfl) ?_
   refine zaz (p := Sh A0_1 l0_1.length l0_1.length) (fun w h => f_sh (dk := (Kd.int .i64)) h (fun w h => R0_1.now Z h)) (fun hq5237 => ?_)
   refine o_q rfl rfl (q_ix Try.underlying25 Z3 rfl rfl hq5237 hr2300.get) ?_
   refine o_q rfl rfl (q_lde (off := 0) Y3 rfl rfl (fun w h => R0_1.now Z h) hr2300.get (fun _ _ h => h) rfl) ?_
   refine o_q rfl rfl (q_asg rfl) ?_
   refine o_q rfl rfl (q_asg rfl) ?_
   refine o_end ?_
   refine za1 ?_
   refine c_seq ?_
   refine za7 h (fun o5245 hl5246 hR5247 => ?_) rfl
   clear h
   refine c_cutJ (σ := Bool) (fun b5244 => some b5244 = some o5245) [38, 39, 40, 41, 42, 43, 44, 45, 46, 47, 48] (fun b5244 => [(48, .bool b5244)]) (fun b5244 => [box g1 27 #[.int .i64 0, .slice none 0 0, .slice none 0 0], box g1144 27 #[.int .i64 (l0_1.length : Int), .slice none 0 0, .slice none 0 0], box g1145 25 #[.slice A1147 l1146.length c1148], row (Kd.int .i64) 3 (.slice A1147 l1146.length c1148) l2295]) ?_ ?_
   ·skip
    have h := hl5246; clear hl5246
    clear hR5247
    refine za0 ?_
    refine o_q rfl rfl (za2 rfl) ?_
    refine o_q rfl rfl (za2 rfl) ?_
    refine za7 h (fun b5251 hx5250 h => ?_) rfl
    refine o_e rfl (zab 0 Z Try.func181 N181 rfl rfl rfl (fun w P1 hF hB hS hT => impl_RegCode_read_1.calls y2297 g1145 A1147 c1148 l1146.length l2295 hB hF (hT 3 _ rfl).row (hT 3 _ rfl).cap (hT 2 _ rfl).box _ hx5250)) (fun _ => ?_)
    refine o_q rfl rfl (q_not rfl) ?_
    refine o_q rfl rfl (za2 rfl) ?_
    refine byB b5251 (fun hb5252 => ?_) (fun hb5252 => ?_)
    ·replace h := bb_t hb5252 h
     refine o_w (za4 rfl rfl rfl (congrArg (fun b => Value.bool (!(b))) hb5252)) rfl (q_ldb Y25 rfl (fun w h => h.zae (i := 2) rfl) rfl) ?_
     refine o_w (za4 rfl rfl rfl (congrArg (fun b => Value.bool (!(b))) hb5252)) rfl (za2 rfl) ?_
     refine zaz (p := Sh A1147 l1146.length l2295.length) (fun w h => f_sh (dk := (Kd.int .i64)) h (fun w h => h.zaw (i := 3) rfl)) (fun hq5253 => ?_)
     refine za7 h (fun y5255 hg5254 h => ?_) rfl
     refine o_w (za4 rfl rfl rfl (congrArg (fun b => Value.bool (!(b))) hb5252)) rfl (q_ix Try.underlying25 Z3 rfl rfl hq5253 hg5254) ?_
     refine o_w (za4 rfl rfl rfl (congrArg (fun b => Value.bool (!(b))) hb5252)) rfl (q_lde (off := 0) Y3 rfl rfl (fun w h => h.zaw (i := 3) rfl) hg5254 (fun _ _ h => h) rfl) ?_
     refine o_w (za4 rfl rfl rfl (congrArg (fun b => Value.bool (!(b))) hb5252)) rfl (q_neq rfl rfl) ?_
     refine o_q rfl rfl (zaq false (congrArg (fun b => Value.bool (!(b))) hb5252) rfl) ?_
     refine o_end ?_
     refine zas (decide (y5255 ≠ (-1))) h ⟨rfl, trivial⟩ (fun w h => za6 [0, 1, 2, 3] (by decide) rfl w h) ?_
     repeat (first | exact zac _ _ | refine zaf rfl ?_ | refine zad rfl ?_ | refine zah rfl ?_)
    ·replace h := bb_f hb5252 h
     refine @o_n _ _ _ _ _ _ _ _ _ _ _ 43 (za3 rfl rfl rfl (congrArg (fun b => Value.bool (!(b))) hb5252) rfl) (Eq.refl (some 43)) ?_
     refine @o_n _ _ _ _ _ _ _ _ _ _ _ 44 (za3 rfl rfl rfl (congrArg (fun b => Value.bool (!(b))) hb5252) rfl) (Eq.refl (some 44)) ?_
     refine @o_n _ _ _ _ _ _ _ _ _ _ _ 45 (za3 rfl rfl rfl (congrArg (fun b => Value.bool (!(b))) hb5252) rfl) (Eq.refl (some 45)) ?_
     refine @o_n _ _ _ _ _ _ _ _ _ _ _ 46 (za3 rfl rfl rfl (congrArg (fun b => Value.bool (!(b))) hb5252) rfl) (Eq.refl (some 46)) ?_
     refine @o_n _ _ _ _ _ _ _ _ _ _ _ 47 (za3 rfl rfl rfl (congrArg (fun b => Value.bool (!(b))) hb5252) rfl) (Eq.refl (some 47)) ?_
     refine o_q rfl rfl (zaq true (congrArg (fun b => Value.bool (!(b))) hb5252) rfl) ?_
     refine o_end ?_
     refine zas true h ⟨rfl, trivial⟩ (fun w h => za6 [0, 1, 2, 3] (by decide) rfl w h) ?_
     repeat (first | exact zac _ _ | refine zaf rfl ?_ | refine zad rfl ?_ | refine zah rfl ?_)
   ·skip
    refine (fun b5244 => fun U5248 hJ5249 => ?_)
    have e_ := Option.some.inj hJ5249; have h := hR5247; rw [← e_] at h; clear e_ hJ5249 hR5247 hl5246
    refine zau _ rfl (fun hb5256 => ?_) (fun hb5256 => ?_)
    ·skip
     replace h := bb_t hb5256 h
     refine c_seq ?_
     refine za0 ?_
     refine o_q rfl rfl (zb5 (vs := []) (cs := [.int .i64 0, .slice none 0 0, .slice none 0 0]) rfl rfl) ?_
     refine o_e rfl (zan (i := 0) rfl rfl rfl Z27 rfl rfl) (fun _ => ?_)
     refine o_q rfl rfl (q_asg rfl) ?_
     refine o_end ?_
     refine za1 ?_
     refine c_ret ?_
     refine zaa ?_
     refine zar ?_
     refine zaa ?_
     refine zaa ?_
     have e_ := Option.some.inj h; replace h := hR2302; rw [← e_] at h; clear e_
     refine zar ?_
     refine zaa ?_
     refine x_nil kStep 88 ?_
     refine x_nil (Kd.int .i64) 3 ?_
     have e0_ := Option.some.inj h; clear h
     have d0_ := (Prod.mk.inj e0_).1; have e1_ := (Prod.mk.inj e0_).2; clear e0_; subst d0_
     have d1_ := (Prod.mk.inj e1_).1; have e2_ := (Prod.mk.inj e1_).2; clear e1_; subst d1_
     have d2_ := (Prod.mk.inj e2_).1; have e3_ := (Prod.mk.inj e2_).2; clear e2_; subst d2_
     subst e3_
     exact x_r2 (none, 0, none, 0) Try.results143 (rv_cell rfl G27 Z27 (fun w h => h.zae (i := 2) rfl) rfl) (zai rfl) rfl (fun w h => za6 [1, 0] (by decide) rfl w h)
    ·skip
     replace h := bb_f hb5256 h
     refine zao ?_
     refine za1 ?_
     refine za0 ?_
     refine o_q rfl rfl (q_ldb Y25 rfl (fun w h => h.zae (i := 2) rfl) rfl) ?_
     refine o_q rfl rfl (za2 rfl) ?_
     refine o_q rfl rfl (za2 rfl) ?_
     refine zaz (p := Sh A1147 l1146.length l2295.length) (fun w h => f_sh (dk := (Kd.int .i64)) h (fun w h => h.zaw (i := 3) rfl)) (fun hq5257 => ?_)
     refine za7 h (fun y5259 hg5258 h => ?_) rfl
     refine o_q rfl rfl (q_ix Try.underlying25 Z3 rfl rfl hq5257 hg5258) ?_
     refine za7 h (fun l5260 hs5261 h => ?_) rfl
     refine o_e rfl (e_set (i := 3) rfl rfl rfl Z3 hs5261) (fun _ => ?_)
     refine o_end ?_
     refine zal ?_
     refine za1 ?_
     refine za0 ?_
     refine o_q rfl rfl (q_up rfl rfl (hr2300.up hm2301)) ?_
     refine o_q rfl rfl (za2 rfl) ?_
     refine o_end ?_
     refine zam ys2298.length (ys2298, l5260, i2296 + 1) (by rw [← hk2306]; exact Nat.lt_succ_self _) ⟨hr2300.step, rfl, h⟩ ⟨rfl, trivial⟩ (fun w h => za6 [0, 1, 2, 3] (by decide) rfl w h) ?_
     repeat (first | exact zac _ _ | refine zaf rfl ?_ | refine zad rfl ?_ | refine zah rfl ?_)

/-! ### (*loop.example/g01098/impl.Plan).formed$1: function 173 -/
def impl_Plan_formed_1.f (a0 : Int) (a1_0_0 : Int) (l1_0_1 : List SStep) (l1_0_2 : List Int) : Option Bool := (impl_Plan_many.f a1_0_0 l1_0_1 l1_0_2).bind fun _ => (impl_in.f a0 0 (w64 (w64 (a1_0_0 + (l1_0_1.length : Int)) - 1))).bind fun b3 => some (!b3)
set_option maxHeartbeats 600000 in
set_option maxRecDepth 100000 in
theorem impl_Plan_formed_1.calls {w0 ws : World} {P0 : Nat → Prop} (a0 : Int) (g1 : Nat) (g1_0 : Nat) (a1_0_0 : Int) (A1_0_1 : Option Addr) (c1_0_1 : Nat) (n1_0_1 : Nat) (l1_0_1 : List SStep) (A1_0_2 : Option Addr) (c1_0_2 : Nat) (n1_0_2 : Nat) (l1_0_2 : List Int) (Z : Below w0.heap.size w0 ws) (hF : Fr w0 ws P0 [] ws) (R1_0_1 : Stable ws P0 (fun w => Kd.C kStep w A1_0_1 n1_0_1 l1_0_1)) (hc1_0_1 : n1_0_1 ≤ c1_0_1) (R1_0_2 : Stable ws P0 (fun w => Kd.C (Kd.int .i64) w A1_0_2 n1_0_2 l1_0_2)) (hc1_0_2 : n1_0_2 ≤ c1_0_2) (B1_0 : Stable ws P0 (fun w => w.heap[g1_0]? = some (.cells #[.int .i64 a1_0_0, .slice A1_0_1 n1_0_1 c1_0_1, .slice A1_0_2 n1_0_2 c1_0_2] 27 (0, 0)))) (B1 : Stable ws P0 (fun w => w.heap[g1]? = some (.cells #[.pointer (some ⟨g1_0, 0, none⟩)] 97 (0, 0)))) (r_1 : Bool) (h : impl_Plan_formed_1.f a0 a1_0_0 l1_0_1 l1_0_2 = some r_1) :
  Calls Try.prog 173 #[.int .i64 a0, .pointer (some ⟨g1, 0, none⟩)] ws (Post1 w0 ws P0 (fun (_ : Unit) => .bool r_1) (fun (_ : Unit) => [])) := by
 unfold impl_Plan_formed_1.f at h
 obtain rfl := (R1_0_1 ws (KeptB.refl _ _)).1
 obtain rfl := (R1_0_2 ws (KeptB.refl _ _)).1
 refine enter Try.func173 rfl Try.ntmps173 rfl hF ?_
 refine c_seq ?_
 refine za0 ?_
 refine o_q rfl rfl (q_asg rfl) ?_
 refine o_end ?_
 refine za1 ?_
 refine c_seq ?_
 refine za0 ?_
 refine o_q rfl rfl (za2 rfl) ?_
 refine o_q rfl rfl (q_ldb Y97 rfl (fun w h => B1.now Z h) rfl) ?_
 refine za7 h (fun _ hx1 h => ?_) rfl
 refine o_e rfl (zab 0 Z Try.func84 N84 rfl rfl rfl (fun w P1 hF hB hS hT => impl_Plan_many.calls g1_0 a1_0_0 A1_0_1 c1_0_1 l1_0_1.length l1_0_1 A1_0_2 c1_0_2 l1_0_2.length l1_0_2 hB hF (hS _ R1_0_1) hc1_0_1 (hS _ R1_0_2) hc1_0_2 (hS _ B1_0) hx1)) (fun _ => ?_)
 refine o_q rfl rfl (q_sub64 rfl rfl) ?_
 refine za7 h (fun b3 hx2 h => ?_) rfl
 refine o_e rfl (zab 0 Z Try.func58 N58 rfl rfl rfl (fun w P1 hF hB hS hT => impl_in.calls a0 0 (w64 (w64 (a1_0_0 + (l1_0_1.length : Int)) - 1)) hB hF _ hx2)) (fun _ => ?_)
 refine o_q rfl rfl (q_not rfl) ?_
 refine o_q rfl rfl (q_asg rfl) ?_
 refine o_end ?_
 refine za1 ?_
 refine c_ret ?_
 have e0_ := Option.some.inj h; clear h
 subst e0_
 exact x_r1 () Try.results173 (zai rfl) rfl (fun w h => za6 [] (by decide) rfl w h)

/-! ### slices.IndexFunc[[]int,int]: function 182 -/
def slices_IndexFunc_int_int.l0 (a1_c0_0_0 : Int) (l1_c0_0_1 : List SStep) (l1_c0_0_2 : List Int) : (List Int) → Int → Option ((Int) ⊕ (Unit))
 | [], i1 => some (.inr ())
 | y2 :: ys3, i1 => (impl_Plan_formed_1.f y2 a1_c0_0_0 l1_c0_0_1 l1_c0_0_2).bind fun b14 => if b14 = true then (some (.inl i1)) else (slices_IndexFunc_int_int.l0 a1_c0_0_0 l1_c0_0_1 l1_c0_0_2 ys3 (i1 + 1))
def slices_IndexFunc_int_int.f (l0 : List Int) (a1_c0_0_0 : Int) (l1_c0_0_1 : List SStep) (l1_c0_0_2 : List Int) : Option Int := (slices_IndexFunc_int_int.l0 a1_c0_0_0 l1_c0_0_1 l1_c0_0_2 l0 0).bind fun o_ => match o_ with | .inl r_ => some r_ | .inr _ => some (-1)
set_option maxHeartbeats 600000 in
set_option maxRecDepth 100000 in
theorem slices_IndexFunc_int_int.calls {w0 ws : World} {P0 : Nat → Prop} (A0 : Option Addr) (c0 : Nat) (n0 : Nat) (l0 : List Int) (g1_c0 : Nat) (g1_c0_0 : Nat) (a1_c0_0_0 : Int) (A1_c0_0_1 : Option Addr) (c1_c0_0_1 : Nat) (n1_c0_0_1 : Nat) (l1_c0_0_1 : List SStep) (A1_c0_0_2 : Option Addr) (c1_c0_0_2 : Nat) (n1_c0_0_2 : Nat) (l1_c0_0_2 : List Int) (Z : Below w0.heap.size w0 ws) (hF : Fr w0 ws P0 [] ws) (R0 : Stable ws P0 (fun w => Kd.C (Kd.int .i64) w A0 n0 l0)) (hc0 : n0 ≤ c0) (R1_c0_0_1 : Stable ws P0 (fun w => Kd.C kStep w A1_c0_0_1 n1_c0_0_1 l1_c0_0_1)) (hc1_c0_0_1 : n1_c0_0_1 ≤ c1_c0_0_1) (R1_c0_0_2 : Stable ws P0 (fun w => Kd.C (Kd.int .i64) w A1_c0_0_2 n1_c0_0_2 l1_c0_0_2)) (hc1_c0_0_2 : n1_c0_0_2 ≤ c1_c0_0_2) (B1_c0_0 : Stable ws P0 (fun w => w.heap[g1_c0_0]? = some (.cells #[.int .i64 a1_c0_0_0, .slice A1_c0_0_1 n1_c0_0_1 c1_c0_0_1, .slice A1_c0_0_2 n1_c0_0_2 c1_c0_0_2] 27 (0, 0)))) (B1_c0 : Stable ws P0 (fun w => w.heap[g1_c0]? = some (.cells #[.pointer (some ⟨g1_c0_0, 0, none⟩)] 97 (0, 0)))) (r_1 : Int) (h : slices_IndexFunc_int_int.f l0 a1_c0_0_0 l1_c0_0_1 l1_c0_0_2 = some r_1) :
  Calls Try.prog 182 #[.slice A0 n0 c0, .func (.func 173) #[] #[.pointer (some ⟨g1_c0, 0, none⟩)]] ws (Post1 w0 ws P0 (fun (_ : Unit) => .int .i64 r_1) (fun (_ : Unit) => [])) := by
 unfold slices_IndexFunc_int_int.f at h
 obtain rfl := (R0 ws (KeptB.refl _ _)).1
 obtain rfl := (R1_c0_0_1 ws (KeptB.refl _ _)).1
 obtain rfl := (R1_c0_0_2 ws (KeptB.refl _ _)).1
 refine enter Try.func182 rfl Try.ntmps182 rfl hF ?_
 refine c_seq ?_
 refine za0 ?_
 refine o_q rfl rfl (q_asg rfl) ?_
 refine o_end ?_
 refine za1 ?_
 refine c_seq ?_
 refine c_seq ?_
 refine za0 ?_
 refine o_q rfl rfl (za2 rfl) ?_
 refine o_q rfl rfl (q_len Try.underlying25 rfl) ?_
 refine o_q rfl rfl (za2 rfl) ?_
 refine o_end ?_
 refine za1 ?_
 refine zaj ?_
 refine za7 h (fun o9 hl8 hR7 => ?_) rfl
 clear h
 refine zba (p := l0.length ≤ 9223372036854775807) (fun w h => (R0.now Z h).2.1) (fun hm6 => ?_)
 refine zax (σ := (List Int) × Int) (fun k4 ((ys3, i1) : (List Int) × Int) => Rg l0 i1 ys3 ∧ ys3.length = k4 ∧ slices_IndexFunc_int_int.l0 a1_c0_0_0 l1_c0_0_1 l1_c0_0_2 ys3 i1 = some o9) [4, 5, 8, 9, 10, 11, 12, 13, 14, 15, 16, 17, 18] (fun ((ys3, i1) : (List Int) × Int) => [(8, .int .i64 i1)]) (fun ((ys3, i1) : (List Int) × Int) => []) l0.length (l0, 0) ⟨Rg.start _, rfl, hl8⟩ ⟨rfl, trivial⟩ (fun w h => h) ?_
 refine fun k4 => cur2 (listC (fun i1 U10 hJ_ => ?_) (fun y2 ys3 i1 U10 hJ_ => ?_))
 ·skip
  clear hl8
  have hr5 := hJ_.1; have hk11 := hJ_.2.1; have h := hJ_.2.2; clear hJ_
  replace h : slices_IndexFunc_int_int.l0 a1_c0_0_0 l1_c0_0_1 l1_c0_0_2 [] i1 = some o9 := h
  rw [slices_IndexFunc_int_int.l0] at h
  refine c_seq ?_
  refine za0 ?_
  refine o_q rfl rfl (q_lss rfl rfl) ?_
  refine o_end ?_
  refine za1 ?_
  refine c_seq ?_
  refine zb3 (congrArg Value.bool hr5.ge) ?_
  refine zb4 ?_
  refine za8 ?_
  refine za8 ?_
  have e_ := Option.some.inj h; replace h := hR7; rw [← e_] at h; clear e_
  refine x_hit ?_
  refine za1 ?_
  refine c_seq ?_
  refine za0 ?_
  refine o_q rfl rfl (q_asg rfl) ?_
  refine o_end ?_
  refine za1 ?_
  refine c_ret ?_
  have e0_ := Option.some.inj h; clear h
  subst e0_
  exact x_r1 () Try.results182 (zai rfl) rfl (fun w h => za6 [] (by decide) rfl w h)
 ·skip
  clear hl8
  have hr5 := hJ_.1; have hk11 := hJ_.2.1; have h := hJ_.2.2; clear hJ_
  replace h : slices_IndexFunc_int_int.l0 a1_c0_0_0 l1_c0_0_1 l1_c0_0_2 (y2 :: ys3) i1 = some o9 := h
  rw [slices_IndexFunc_int_int.l0] at h
  refine c_seq ?_
  refine za0 ?_
  refine o_q rfl rfl (q_lss rfl rfl) ?_
  refine o_end ?_
  refine za1 ?_
  refine c_seq ?_
  refine zb1 (congrArg Value.bool hr5.lt) ?_
  refine zao ?_
  refine za1 ?_
  refine c_seq ?_
  refine zaj ?_
  refine c_seq ?_
  refine za0 ?_
  refine o_q rfl rfl (za2 rfl) ?_
  refine o_q rfl rfl (q_asg rfl) ?_
  refine o_end ?_
  refine za1 ?_
  refine c_seq ?_
  refine za0 ?_
  refine o_q rfl rfl (za2 rfl) ?_
  refine o_q rfl rfl (za2 rfl) ?_
  refine o_q rfl rfl (za2 rfl) ?_
  refine zaz (p := Sh A0 l0.length l0.length) (fun w h => f_sh (dk := (Kd.int .i64)) h (fun w h => R0.now Z h)) (fun hq12 => ?_)
  refine o_q rfl rfl (q_ix Try.underlying25 Z3 rfl rfl hq12 hr5.get) ?_
  refine o_q rfl rfl (q_lde (off := 0) Y3 rfl rfl (fun w h => R0.now Z h) hr5.get (fun _ _ h => h) rfl) ?_
  refine za7 h (fun b14 hx13 h => ?_) rfl
  refine o_e rfl (zab 0 Z Try.func173 N173 rfl rfl rfl (fun w P1 hF hB hS hT => impl_Plan_formed_1.calls y2 g1_c0 g1_c0_0 a1_c0_0_0 A1_c0_0_1 c1_c0_0_1 l1_c0_0_1.length l1_c0_0_1 A1_c0_0_2 c1_c0_0_2 l1_c0_0_2.length l1_c0_0_2 hB hF (hS _ R1_c0_0_1) hc1_c0_0_1 (hS _ R1_c0_0_2) hc1_c0_0_2 (hS _ B1_c0_0) (hS _ B1_c0) _ hx13)) (fun _ => ?_)
  refine o_end ?_
  refine za1 ?_
  refine zau _ rfl (fun hb15 => ?_) (fun hb15 => ?_)
  ·skip
   replace h := bb_t hb15 h
   refine c_seq ?_
   refine za0 ?_
   refine o_q rfl rfl (za2 rfl) ?_
   refine o_q rfl rfl (q_asg rfl) ?_
   refine o_end ?_
   refine za1 ?_
   refine c_ret ?_
   refine zar ?_
   refine zaa ?_
   refine zaa ?_
   have e_ := Option.some.inj h; replace h := hR7; rw [← e_] at h; clear e_
   refine zar ?_
   refine zaa ?_
   have e0_ := Option.some.inj h; clear h
   subst e0_
   exact x_r1 () Try.results182 (zai rfl) rfl (fun w h => za6 [] (by decide) rfl w h)
  ·skip
   replace h := bb_f hb15 h
   refine zao ?_
   refine zal ?_
   refine za1 ?_
   refine za0 ?_
   refine o_q rfl rfl (q_up rfl rfl (hr5.up hm6)) ?_
   refine o_q rfl rfl (za2 rfl) ?_
   refine o_end ?_
   refine zam ys3.length (ys3, i1 + 1) (by rw [← hk11]; exact Nat.lt_succ_self _) ⟨hr5.step, rfl, h⟩ ⟨rfl, trivial⟩ (fun w h => za6 [] (by decide) rfl w h) ?_
   repeat (first | exact zac _ _ | refine zaf rfl ?_ | refine zad rfl ?_ | refine zah rfl ?_)

/-! ### slices.ContainsFunc[[]int,int]: function 147 -/
def slices_ContainsFunc_int_int.f (l0 : List Int) (a1_c0_0_0 : Int) (l1_c0_0_1 : List SStep) (l1_c0_0_2 : List Int) : Option Bool := (slices_IndexFunc_int_int.f l0 a1_c0_0_0 l1_c0_0_1 l1_c0_0_2).bind fun i2 => some (decide (0 ≤ i2))
set_option maxHeartbeats 600000 in
set_option maxRecDepth 100000 in
theorem slices_ContainsFunc_int_int.calls {w0 ws : World} {P0 : Nat → Prop} (A0 : Option Addr) (c0 : Nat) (n0 : Nat) (l0 : List Int) (g1_c0 : Nat) (g1_c0_0 : Nat) (a1_c0_0_0 : Int) (A1_c0_0_1 : Option Addr) (c1_c0_0_1 : Nat) (n1_c0_0_1 : Nat) (l1_c0_0_1 : List SStep) (A1_c0_0_2 : Option Addr) (c1_c0_0_2 : Nat) (n1_c0_0_2 : Nat) (l1_c0_0_2 : List Int) (Z : Below w0.heap.size w0 ws) (hF : Fr w0 ws P0 [] ws) (R0 : Stable ws P0 (fun w => Kd.C (Kd.int .i64) w A0 n0 l0)) (hc0 : n0 ≤ c0) (R1_c0_0_1 : Stable ws P0 (fun w => Kd.C kStep w A1_c0_0_1 n1_c0_0_1 l1_c0_0_1)) (hc1_c0_0_1 : n1_c0_0_1 ≤ c1_c0_0_1) (R1_c0_0_2 : Stable ws P0 (fun w => Kd.C (Kd.int .i64) w A1_c0_0_2 n1_c0_0_2 l1_c0_0_2)) (hc1_c0_0_2 : n1_c0_0_2 ≤ c1_c0_0_2) (B1_c0_0 : Stable ws P0 (fun w => w.heap[g1_c0_0]? = some (.cells #[.int .i64 a1_c0_0_0, .slice A1_c0_0_1 n1_c0_0_1 c1_c0_0_1, .slice A1_c0_0_2 n1_c0_0_2 c1_c0_0_2] 27 (0, 0)))) (B1_c0 : Stable ws P0 (fun w => w.heap[g1_c0]? = some (.cells #[.pointer (some ⟨g1_c0_0, 0, none⟩)] 97 (0, 0)))) (r_1 : Bool) (h : slices_ContainsFunc_int_int.f l0 a1_c0_0_0 l1_c0_0_1 l1_c0_0_2 = some r_1) :
  Calls Try.prog 147 #[.slice A0 n0 c0, .func (.func 173) #[] #[.pointer (some ⟨g1_c0, 0, none⟩)]] ws (Post1 w0 ws P0 (fun (_ : Unit) => .bool r_1) (fun (_ : Unit) => [])) := by
 unfold slices_ContainsFunc_int_int.f at h
 obtain rfl := (R0 ws (KeptB.refl _ _)).1
 obtain rfl := (R1_c0_0_1 ws (KeptB.refl _ _)).1
 obtain rfl := (R1_c0_0_2 ws (KeptB.refl _ _)).1
 refine enter Try.func147 rfl Try.ntmps147 rfl hF ?_
 refine c_seq ?_
 refine za0 ?_
 refine o_q rfl rfl (q_asg rfl) ?_
 refine o_end ?_
 refine za1 ?_
 refine c_seq ?_
 refine za0 ?_
 refine o_q rfl rfl (za2 rfl) ?_
 refine o_q rfl rfl (za2 rfl) ?_
 refine za7 h (fun i2 hx1 h => ?_) rfl
 refine o_e rfl (zab 0 Z Try.func182 N182 rfl rfl rfl (fun w P1 hF hB hS hT => slices_IndexFunc_int_int.calls A0 c0 l0.length l0 g1_c0 g1_c0_0 a1_c0_0_0 A1_c0_0_1 c1_c0_0_1 l1_c0_0_1.length l1_c0_0_1 A1_c0_0_2 c1_c0_0_2 l1_c0_0_2.length l1_c0_0_2 hB hF (hS _ R0) hc0 (hS _ R1_c0_0_1) hc1_c0_0_1 (hS _ R1_c0_0_2) hc1_c0_0_2 (hS _ B1_c0_0) (hS _ B1_c0) _ hx1)) (fun _ => ?_)
 refine o_q rfl rfl (q_geq rfl rfl) ?_
 refine o_q rfl rfl (q_asg rfl) ?_
 refine o_end ?_
 refine za1 ?_
 refine c_ret ?_
 have e0_ := Option.some.inj h; clear h
 subst e0_
 exact x_r1 () Try.results147 (zai rfl) rfl (fun w h => za6 [] (by decide) rfl w h)

/-! ### (*loop.example/g01098/impl.Plan).formed: function 130 -/
def impl_Plan_formed.l0 (a0_0 : Int) : (List SStep) → Int → Option ((Bool) ⊕ (Unit))
 | [], i8 => some (.inr ())
 | y9 :: ys10, i8 => if y9.f0 < 0 then (some (.inl false)) else (if y9.f1 < y9.f0 then (some (.inl false)) else (if w64 (a0_0 + i8) ≤ y9.f1 then (some (.inl false)) else (impl_Plan_formed.l0 a0_0 ys10 (i8 + 1))))
def impl_Plan_formed.f (a0_0 : Int) (l0_1 : List SStep) (l0_2 : List Int) : Option Bool := (impl_in.f a0_0 1 6).bind fun b4 => if b4 = true then (if 40 < (l0_1.length : Int) then (some false) else (if 6 < (l0_2.length : Int) then (some false) else ((impl_Plan_formed.l0 a0_0 l0_1 0).bind fun o_ => match o_ with | .inl r_ => some r_ | .inr _ => (slices_ContainsFunc_int_int.f l0_2 a0_0 l0_1 l0_2).bind fun b20 => some (!b20)))) else (some false)
set_option maxHeartbeats 600000 in
set_option maxRecDepth 100000 in
theorem impl_Plan_formed.calls {w0 ws : World} {P0 : Nat → Prop} (g0 : Nat) (a0_0 : Int) (A0_1 : Option Addr) (c0_1 : Nat) (n0_1 : Nat) (l0_1 : List SStep) (A0_2 : Option Addr) (c0_2 : Nat) (n0_2 : Nat) (l0_2 : List Int) (Z : Below w0.heap.size w0 ws) (hF : Fr w0 ws P0 [] ws) (R0_1 : Stable ws P0 (fun w => Kd.C kStep w A0_1 n0_1 l0_1)) (hc0_1 : n0_1 ≤ c0_1) (R0_2 : Stable ws P0 (fun w => Kd.C (Kd.int .i64) w A0_2 n0_2 l0_2)) (hc0_2 : n0_2 ≤ c0_2) (B0 : Stable ws P0 (fun w => w.heap[g0]? = some (.cells #[.int .i64 a0_0, .slice A0_1 n0_1 c0_1, .slice A0_2 n0_2 c0_2] 27 (0, 0)))) (r_1 : Bool) (h : impl_Plan_formed.f a0_0 l0_1 l0_2 = some r_1) :
  Calls Try.prog 130 #[.pointer (some ⟨g0, 0, none⟩)] ws (Post1 w0 ws P0 (fun (_ : Unit) => .bool r_1) (fun (_ : Unit) => [])) := by
 unfold impl_Plan_formed.f at h
 obtain rfl := (R0_1 ws (KeptB.refl _ _)).1
 obtain rfl := (R0_2 ws (KeptB.refl _ _)).1
 refine enter Try.func130 rfl Try.ntmps130 rfl hF ?_
 refine c_seq ?_
 refine za0 ?_
 refine o_e rfl (e_box rfl) (fun g1 => ?_)
 refine o_q rfl rfl (q_asg rfl) ?_
 refine o_end ?_
 refine za1 ?_
 refine c_seq ?_
 refine c_seq ?_
 refine za0 ?_
 refine o_q rfl rfl (q_ldb Y97 rfl (fun w h => h.zae (i := 0) rfl) rfl) ?_
 refine o_q rfl rfl (q_nil rfl) ?_
 refine o_q rfl rfl (q_f F27_0 rfl) ?_
 refine o_q rfl rfl (q_ldb Y3 rfl (fun w h => B0.now Z h) rfl) ?_
 refine za7 h (fun b4 hx3 h => ?_) rfl
 refine o_e rfl (zab 0 Z Try.func58 N58 rfl rfl rfl (fun w P1 hF hB hS hT => impl_in.calls a0_0 1 6 hB hF _ hx3)) (fun _ => ?_)
 refine o_q rfl rfl (q_not rfl) ?_
 refine o_q rfl rfl (za2 rfl) ?_
 refine byB b4 (fun hb5 => ?_) (fun hb5 => ?_)
 ·replace h := bb_t hb5 h
  refine o_w (za4 rfl rfl rfl (congrArg (fun b => Value.bool (!(b))) hb5)) rfl (q_ldb Y97 rfl (fun w h => h.zae (i := 0) rfl) rfl) ?_
  refine o_w (za4 rfl rfl rfl (congrArg (fun b => Value.bool (!(b))) hb5)) rfl (q_nil rfl) ?_
  refine o_w (za4 rfl rfl rfl (congrArg (fun b => Value.bool (!(b))) hb5)) rfl (q_f F27_1 rfl) ?_
  refine o_w (za4 rfl rfl rfl (congrArg (fun b => Value.bool (!(b))) hb5)) rfl (q_ldb Y24 rfl (fun w h => B0.now Z h) rfl) ?_
  refine o_w (za4 rfl rfl rfl (congrArg (fun b => Value.bool (!(b))) hb5)) rfl (q_len Try.underlying24 rfl) ?_
  refine o_w (za4 rfl rfl rfl (congrArg (fun b => Value.bool (!(b))) hb5)) rfl (q_gtr rfl rfl) ?_
  refine o_q rfl rfl (zaq false (congrArg (fun b => Value.bool (!(b))) hb5) rfl) ?_
  refine o_q rfl rfl (za2 rfl) ?_
  refine byB (decide (40 < (l0_1.length : Int))) (fun hb6 => ?_) (fun hb6 => ?_)
  ·replace h := br_t hb6 h
   refine @o_n _ _ _ _ _ _ _ _ _ _ _ 20 (za3 rfl rfl rfl (congrArg Value.bool hb6) rfl) (Eq.refl (some 20)) ?_
   refine @o_n _ _ _ _ _ _ _ _ _ _ _ 21 (za3 rfl rfl rfl (congrArg Value.bool hb6) rfl) (Eq.refl (some 21)) ?_
   refine @o_n _ _ _ _ _ _ _ _ _ _ _ 22 (za3 rfl rfl rfl (congrArg Value.bool hb6) rfl) (Eq.refl (some 22)) ?_
   refine @o_n _ _ _ _ _ _ _ _ _ _ _ 23 (za3 rfl rfl rfl (congrArg Value.bool hb6) rfl) (Eq.refl (some 23)) ?_
   refine @o_n _ _ _ _ _ _ _ _ _ _ _ 24 (za3 rfl rfl rfl (congrArg Value.bool hb6) rfl) (Eq.refl (some 24)) ?_
   refine @o_n _ _ _ _ _ _ _ _ _ _ _ 25 (za3 rfl rfl rfl (congrArg Value.bool hb6) rfl) (Eq.refl (some 25)) ?_
   refine o_q rfl rfl (zaq true (congrArg Value.bool hb6) rfl) ?_
   refine o_end ?_
   refine za1 ?_
   refine zb1 rfl ?_
   refine c_seq ?_
   refine za0 ?_
   refine o_q rfl rfl (q_asg rfl) ?_
   refine o_end ?_
   refine za1 ?_
   refine c_ret ?_
   refine zaa ?_
   have e0_ := Option.some.inj h; clear h
   subst e0_
   exact x_r1 () Try.results130 (zai rfl) rfl (fun w h => za6 [] (by decide) rfl w h)
  ·replace h := br_f hb6 h
   refine o_w (za4 rfl rfl rfl (congrArg Value.bool hb6)) rfl (q_ldb Y97 rfl (fun w h => h.zae (i := 0) rfl) rfl) ?_
   refine o_w (za4 rfl rfl rfl (congrArg Value.bool hb6)) rfl (q_nil rfl) ?_
   refine o_w (za4 rfl rfl rfl (congrArg Value.bool hb6)) rfl (q_f F27_2 rfl) ?_
   refine o_w (za4 rfl rfl rfl (congrArg Value.bool hb6)) rfl (q_ldb Y25 rfl (fun w h => B0.now Z h) rfl) ?_
   refine o_w (za4 rfl rfl rfl (congrArg Value.bool hb6)) rfl (q_len Try.underlying25 rfl) ?_
   refine o_w (za4 rfl rfl rfl (congrArg Value.bool hb6)) rfl (q_gtr rfl rfl) ?_
   refine o_q rfl rfl (zaq false (congrArg Value.bool hb6) rfl) ?_
   refine o_end ?_
   refine za1 ?_
   refine zau _ rfl (fun hb7 => ?_) (fun hb7 => ?_)
   ·skip
    replace h := br_t hb7 h
    refine c_seq ?_
    refine za0 ?_
    refine o_q rfl rfl (q_asg rfl) ?_
    refine o_end ?_
    refine za1 ?_
    refine c_ret ?_
    refine zaa ?_
    have e0_ := Option.some.inj h; clear h
    subst e0_
    exact x_r1 () Try.results130 (zai rfl) rfl (fun w h => za6 [] (by decide) rfl w h)
   ·skip
    replace h := br_f hb7 h
    refine zao ?_
    refine za1 ?_
    refine c_seq ?_
    refine c_seq ?_
    refine za0 ?_
    refine o_q rfl rfl (q_ldb Y97 rfl (fun w h => h.zae (i := 0) rfl) rfl) ?_
    refine o_q rfl rfl (q_nil rfl) ?_
    refine o_q rfl rfl (q_f F27_1 rfl) ?_
    refine o_q rfl rfl (q_ldb Y24 rfl (fun w h => B0.now Z h) rfl) ?_
    refine o_q rfl rfl (q_len Try.underlying24 rfl) ?_
    refine o_q rfl rfl (za2 rfl) ?_
    refine o_end ?_
    refine za1 ?_
    refine zaj ?_
    refine za7 h (fun o16 hl15 hR14 => ?_) rfl
    clear h
    refine zba (p := l0_1.length ≤ 9223372036854775807) (fun w h => (R0_1.now Z h).2.1) (fun hm13 => ?_)
    refine zax (σ := (List SStep) × Int) (fun k11 ((ys10, i8) : (List SStep) × Int) => Rg l0_1 i8 ys10 ∧ ys10.length = k11 ∧ impl_Plan_formed.l0 a0_0 ys10 i8 = some o16) [2, 3, 4, 32, 33, 34, 35, 36, 37, 38, 39, 40, 41, 42, 43, 44, 45, 46, 47, 48, 49, 50, 51, 52, 53, 54, 55, 56, 57, 58] (fun ((ys10, i8) : (List SStep) × Int) => [(32, .int .i64 i8)]) (fun ((ys10, i8) : (List SStep) × Int) => [box g1 97 #[.pointer (some ⟨g0, 0, none⟩)]]) l0_1.length (l0_1, 0) ⟨Rg.start _, rfl, hl15⟩ ⟨rfl, trivial⟩ (fun w h => h) ?_
    refine fun k11 => cur2 (listC (fun i8 U17 hJ_ => ?_) (fun y9 ys10 i8 U17 hJ_ => ?_))
    ·skip
     clear hl15
     have hr12 := hJ_.1; have hk18 := hJ_.2.1; have h := hJ_.2.2; clear hJ_
     replace h : impl_Plan_formed.l0 a0_0 [] i8 = some o16 := h
     rw [impl_Plan_formed.l0] at h
     refine c_seq ?_
     refine za0 ?_
     refine o_q rfl rfl (q_lss rfl rfl) ?_
     refine o_end ?_
     refine za1 ?_
     refine c_seq ?_
     refine zb3 (congrArg Value.bool hr12.ge) ?_
     refine zb4 ?_
     refine za8 ?_
     refine za8 ?_
     have e_ := Option.some.inj h; replace h := hR14; rw [← e_] at h; clear e_
     refine x_hit ?_
     refine za1 ?_
     refine c_seq ?_
     refine za0 ?_
     refine o_q rfl rfl (q_ldb Y97 rfl (fun w h => h.zae (i := 0) rfl) rfl) ?_
     refine o_q rfl rfl (q_nil rfl) ?_
     refine o_q rfl rfl (q_f F27_2 rfl) ?_
     refine o_q rfl rfl (q_ldb Y25 rfl (fun w h => B0.now Z h) rfl) ?_
     refine o_q rfl rfl (q_func rfl rfl) ?_
     refine za7 h (fun b20 hx19 h => ?_) rfl
     refine o_e rfl (zab 0 Z Try.func147 N147 rfl rfl rfl (fun w P1 hF hB hS hT => slices_ContainsFunc_int_int.calls A0_2 c0_2 l0_2.length l0_2 g1 g0 a0_0 A0_1 c0_1 l0_1.length l0_1 A0_2 c0_2 l0_2.length l0_2 hB hF (hS _ R0_2) hc0_2 (hS _ R0_1) hc0_1 (hS _ R0_2) hc0_2 (hS _ B0) (hT 0 _ rfl).box _ hx19)) (fun _ => ?_)
     refine o_q rfl rfl (q_not rfl) ?_
     refine o_q rfl rfl (q_asg rfl) ?_
     refine o_end ?_
     refine za1 ?_
     refine c_ret ?_
     have e0_ := Option.some.inj h; clear h
     subst e0_
     exact x_r1 () Try.results130 (zai rfl) rfl (fun w h => za6 [] (by decide) rfl w h)
    ·skip
     clear hl15
     have hr12 := hJ_.1; have hk18 := hJ_.2.1; have h := hJ_.2.2; clear hJ_
     replace h : impl_Plan_formed.l0 a0_0 (y9 :: ys10) i8 = some o16 := h
     rw [impl_Plan_formed.l0] at h
     refine c_seq ?_
     refine za0 ?_
     refine o_q rfl rfl (q_lss rfl rfl) ?_
     refine o_end ?_
     refine za1 ?_
     refine c_seq ?_
     refine zb1 (congrArg Value.bool hr12.lt) ?_
     refine zao ?_
     refine za1 ?_
     refine c_seq ?_
     refine zaj ?_
     refine c_seq ?_
     refine za0 ?_
     refine o_q rfl rfl (za2 rfl) ?_
     refine zaz (p := Sh A0_1 l0_1.length l0_1.length) (fun w h => f_sh (dk := kStep) h (fun w h => R0_1.now Z h)) (fun hq21 => ?_)
     refine o_q rfl rfl (q_ix Try.underlying24 Z88 rfl rfl hq21 hr12.get) ?_
     refine o_q rfl rfl (q_ldE G88 Z88 rfl rfl (fun w h => R0_1.now Z h) hr12.get (fun _ _ h => h) rfl) ?_
     refine o_e rfl (zat V88 rfl) (fun g22 => ?_)
     refine o_q rfl rfl (q_asg rfl) ?_
     refine o_e rfl (zan (i := 0) rfl rfl rfl Z88 rfl rfl) (fun _ => ?_)
     refine o_end ?_
     refine za1 ?_
     refine c_seq ?_
     refine a_start (ds := []) MO rfl ?_
     refine za9 0 rfl rfl rfl (by kernel_rfl) (fun _ _ _ h => h) (q_f F88_0 rfl) ?_
     refine zb0 1 rfl rfl rfl (by kernel_rfl) (fun _ _ _ h => h) (fun w h => h) (q_ldb Y3 rfl (fun w h => h.zae (i := 0) rfl) rfl) ?_
     refine za9 2 rfl rfl rfl (by kernel_rfl) (fun _ _ _ h => h) (q_lss rfl rfl) ?_
     refine za9 3 rfl rfl rfl (by kernel_rfl) (fun _ _ _ h => h) (za2 rfl) ?_
     refine byB (decide (y9.f0 < 0)) (fun hb24 => ?_) (fun hb24 => ?_)
     ·replace h := br_t hb24 h
      refine a_no 4 rfl rfl (za3 rfl rfl rfl (congrArg Value.bool hb24) rfl) (by kernel_rfl) (fun _ _ _ h => h) ?_
      refine a_no 5 rfl rfl (za3 rfl rfl rfl (congrArg Value.bool hb24) rfl) (by kernel_rfl) (fun _ _ _ h => h) ?_
      refine a_no 6 rfl rfl (za3 rfl rfl rfl (congrArg Value.bool hb24) rfl) (by kernel_rfl) (fun _ _ _ h => h) ?_
      refine a_no 7 rfl rfl (za3 rfl rfl rfl (congrArg Value.bool hb24) rfl) (by kernel_rfl) (fun _ _ _ h => h) ?_
      refine a_no 8 rfl rfl (za3 rfl rfl rfl (congrArg Value.bool hb24) rfl) (by kernel_rfl) (fun _ _ _ h => h) ?_
      refine za9 9 rfl rfl rfl (by kernel_rfl) (fun _ _ _ h => h) (zaq true (congrArg Value.bool hb24) rfl) ?_
      refine za9 10 rfl rfl rfl (by kernel_rfl) (fun _ _ _ h => h) (za2 rfl) ?_
      refine a_no 11 rfl rfl (za3 rfl rfl rfl rfl rfl) (by kernel_rfl) (fun _ _ _ h => h) ?_
      refine a_no 12 rfl rfl (za3 rfl rfl rfl rfl rfl) (by kernel_rfl) (fun _ _ _ h => h) ?_
      refine a_no 13 rfl rfl (za3 rfl rfl rfl rfl rfl) (by kernel_rfl) (fun _ _ _ h => h) ?_
      refine a_no 14 rfl rfl (za3 rfl rfl rfl rfl rfl) (by kernel_rfl) (fun _ _ _ h => h) ?_
      refine a_no 15 rfl rfl (za3 rfl rfl rfl rfl rfl) (by kernel_rfl) (fun _ _ _ h => h) ?_
      refine a_no 16 rfl rfl (za3 rfl rfl rfl rfl rfl) (by kernel_rfl) (fun _ _ _ h => h) ?_
      refine a_no 17 rfl rfl (za3 rfl rfl rfl rfl rfl) (by kernel_rfl) (fun _ _ _ h => h) ?_
      refine a_no 18 rfl rfl (za3 rfl rfl rfl rfl rfl) (by kernel_rfl) (fun _ _ _ h => h) ?_
      refine a_no 19 rfl rfl (za3 rfl rfl rfl rfl rfl) (by kernel_rfl) (fun _ _ _ h => h) ?_
      refine za9 20 rfl rfl rfl (by kernel_rfl) (fun _ _ _ h => h) (zaq true rfl rfl) ?_
      refine zav (by kernel_rfl) ?_
      refine za1 ?_
      refine zb1 rfl ?_
      refine c_seq ?_
      refine za0 ?_
      refine o_q rfl rfl (q_asg rfl) ?_
      refine o_end ?_
      refine za1 ?_
      refine c_ret ?_
      refine zar ?_
      refine zaa ?_
      refine zaa ?_
      have e_ := Option.some.inj h; replace h := hR14; rw [← e_] at h; clear e_
      refine zar ?_
      refine zaa ?_
      have e0_ := Option.some.inj h; clear h
      subst e0_
      exact x_r1 () Try.results130 (zai rfl) rfl (fun w h => za6 [] (by decide) rfl w h)
     ·replace h := br_f hb24 h
      refine a_purew 4 rfl rfl (za4 rfl rfl rfl (congrArg Value.bool hb24)) (by kernel_rfl) (fun _ _ _ h => h) (q_f F88_0 rfl) ?_
      refine a_takew 5 rfl rfl (za4 rfl rfl rfl (congrArg Value.bool hb24)) (by kernel_rfl) (fun _ _ _ h => h) (fun w h => h) (q_ldb Y3 rfl (fun w h => h.zae (i := 0) rfl) rfl) ?_
      refine a_purew 6 rfl rfl (za4 rfl rfl rfl (congrArg Value.bool hb24)) (by kernel_rfl) (fun _ _ _ h => h) (q_f F88_1 rfl) ?_
      refine a_takew 7 rfl rfl (za4 rfl rfl rfl (congrArg Value.bool hb24)) (by kernel_rfl) (fun _ _ _ h => h) (fun w h => h) (q_ldb Y3 rfl (fun w h => h.zae (i := 0) rfl) rfl) ?_
      refine a_purew 8 rfl rfl (za4 rfl rfl rfl (congrArg Value.bool hb24)) (by kernel_rfl) (fun _ _ _ h => h) (q_gtr rfl rfl) ?_
      refine za9 9 rfl rfl rfl (by kernel_rfl) (fun _ _ _ h => h) (zaq false (congrArg Value.bool hb24) rfl) ?_
      refine za9 10 rfl rfl rfl (by kernel_rfl) (fun _ _ _ h => h) (za2 rfl) ?_
      refine byB (decide (y9.f1 < y9.f0)) (fun hb25 => ?_) (fun hb25 => ?_)
      ·replace h := br_t hb25 h
       refine a_no 11 rfl rfl (za3 rfl rfl rfl (congrArg Value.bool hb25) rfl) (by kernel_rfl) (fun _ _ _ h => h) ?_
       refine a_no 12 rfl rfl (za3 rfl rfl rfl (congrArg Value.bool hb25) rfl) (by kernel_rfl) (fun _ _ _ h => h) ?_
       refine a_no 13 rfl rfl (za3 rfl rfl rfl (congrArg Value.bool hb25) rfl) (by kernel_rfl) (fun _ _ _ h => h) ?_
       refine a_no 14 rfl rfl (za3 rfl rfl rfl (congrArg Value.bool hb25) rfl) (by kernel_rfl) (fun _ _ _ h => h) ?_
       refine a_no 15 rfl rfl (za3 rfl rfl rfl (congrArg Value.bool hb25) rfl) (by kernel_rfl) (fun _ _ _ h => h) ?_
       refine a_no 16 rfl rfl (za3 rfl rfl rfl (congrArg Value.bool hb25) rfl) (by kernel_rfl) (fun _ _ _ h => h) ?_
       refine a_no 17 rfl rfl (za3 rfl rfl rfl (congrArg Value.bool hb25) rfl) (by kernel_rfl) (fun _ _ _ h => h) ?_
       refine a_no 18 rfl rfl (za3 rfl rfl rfl (congrArg Value.bool hb25) rfl) (by kernel_rfl) (fun _ _ _ h => h) ?_
       refine a_no 19 rfl rfl (za3 rfl rfl rfl (congrArg Value.bool hb25) rfl) (by kernel_rfl) (fun _ _ _ h => h) ?_
       refine za9 20 rfl rfl rfl (by kernel_rfl) (fun _ _ _ h => h) (zaq true (congrArg Value.bool hb25) rfl) ?_
       refine zav (by kernel_rfl) ?_
       refine za1 ?_
       refine zb1 rfl ?_
       refine c_seq ?_
       refine za0 ?_
       refine o_q rfl rfl (q_asg rfl) ?_
       refine o_end ?_
       refine za1 ?_
       refine c_ret ?_
       refine zar ?_
       refine zaa ?_
       refine zaa ?_
       have e_ := Option.some.inj h; replace h := hR14; rw [← e_] at h; clear e_
       refine zar ?_
       refine zaa ?_
       have e0_ := Option.some.inj h; clear h
       subst e0_
       exact x_r1 () Try.results130 (zai rfl) rfl (fun w h => za6 [] (by decide) rfl w h)
      ·replace h := br_f hb25 h
       refine a_purew 11 rfl rfl (za4 rfl rfl rfl (congrArg Value.bool hb25)) (by kernel_rfl) (fun _ _ _ h => h) (q_f F88_1 rfl) ?_
       refine a_takew 12 rfl rfl (za4 rfl rfl rfl (congrArg Value.bool hb25)) (by kernel_rfl) (fun _ _ _ h => h) (fun w h => h) (q_ldb Y3 rfl (fun w h => h.zae (i := 0) rfl) rfl) ?_
       refine a_takew 13 rfl rfl (za4 rfl rfl rfl (congrArg Value.bool hb25)) (by kernel_rfl) (fun _ _ _ h => h) (fun w h => h) (q_ldb Y97 rfl (fun w h => h.zae (i := 1) rfl) rfl) ?_
       refine a_purew 14 rfl rfl (za4 rfl rfl rfl (congrArg Value.bool hb25)) (by kernel_rfl) (fun _ _ _ h => h) (q_nil rfl) ?_
       refine a_purew 15 rfl rfl (za4 rfl rfl rfl (congrArg Value.bool hb25)) (by kernel_rfl) (fun _ _ _ h => h) (q_f F27_0 rfl) ?_
       refine a_takew 16 rfl rfl (za4 rfl rfl rfl (congrArg Value.bool hb25)) (by kernel_rfl) (fun _ _ _ h => h) (fun w h => h) (q_ldb Y3 rfl (fun w h => B0.now Z h) rfl) ?_
       refine a_purew 17 rfl rfl (za4 rfl rfl rfl (congrArg Value.bool hb25)) (by kernel_rfl) (fun _ _ _ h => h) (za2 rfl) ?_
       refine a_purew 18 rfl rfl (za4 rfl rfl rfl (congrArg Value.bool hb25)) (by kernel_rfl) (fun _ _ _ h => h) (zb8 rfl rfl) ?_
       refine a_purew 19 rfl rfl (za4 rfl rfl rfl (congrArg Value.bool hb25)) (by kernel_rfl) (fun _ _ _ h => h) (q_geq rfl rfl) ?_
       refine za9 20 rfl rfl rfl (by kernel_rfl) (fun _ _ _ h => h) (zaq false (congrArg Value.bool hb25) rfl) ?_
       refine zav (by kernel_rfl) ?_
       refine za1 ?_
       refine zau _ rfl (fun hb26 => ?_) (fun hb26 => ?_)
       ·skip
        replace h := br_t hb26 h
        refine c_seq ?_
        refine za0 ?_
        refine o_q rfl rfl (q_asg rfl) ?_
        refine o_end ?_
        refine za1 ?_
        refine c_ret ?_
        refine zar ?_
        refine zaa ?_
        refine zaa ?_
        have e_ := Option.some.inj h; replace h := hR14; rw [← e_] at h; clear e_
        refine zar ?_
        refine zaa ?_
        have e0_ := Option.some.inj h; clear h
        subst e0_
        exact x_r1 () Try.results130 (zai rfl) rfl (fun w h => za6 [] (by decide) rfl w h)
       ·skip
        replace h := br_f hb26 h
        refine zao ?_
        refine zal ?_
        refine za1 ?_
        refine za0 ?_
        refine o_q rfl rfl (q_up rfl rfl (hr12.up hm13)) ?_
        refine o_q rfl rfl (za2 rfl) ?_
        refine o_end ?_
        refine zam ys10.length (ys10, i8 + 1) (by rw [← hk18]; exact Nat.lt_succ_self _) ⟨hr12.step, rfl, h⟩ ⟨rfl, trivial⟩ (fun w h => za6 [1] (by decide) rfl w h) ?_
        repeat (first | exact zac _ _ | refine zaf rfl ?_ | refine zad rfl ?_ | refine zah rfl ?_)
 ·replace h := bb_f hb5 h
  refine @o_n _ _ _ _ _ _ _ _ _ _ _ 12 (za3 rfl rfl rfl (congrArg (fun b => Value.bool (!(b))) hb5) rfl) (Eq.refl (some 12)) ?_
  refine @o_n _ _ _ _ _ _ _ _ _ _ _ 13 (za3 rfl rfl rfl (congrArg (fun b => Value.bool (!(b))) hb5) rfl) (Eq.refl (some 13)) ?_
  refine @o_n _ _ _ _ _ _ _ _ _ _ _ 14 (za3 rfl rfl rfl (congrArg (fun b => Value.bool (!(b))) hb5) rfl) (Eq.refl (some 14)) ?_
  refine @o_n _ _ _ _ _ _ _ _ _ _ _ 15 (za3 rfl rfl rfl (congrArg (fun b => Value.bool (!(b))) hb5) rfl) (Eq.refl (some 15)) ?_
  refine @o_n _ _ _ _ _ _ _ _ _ _ _ 16 (za3 rfl rfl rfl (congrArg (fun b => Value.bool (!(b))) hb5) rfl) (Eq.refl (some 16)) ?_
  refine @o_n _ _ _ _ _ _ _ _ _ _ _ 17 (za3 rfl rfl rfl (congrArg (fun b => Value.bool (!(b))) hb5) rfl) (Eq.refl (some 17)) ?_
  refine o_q rfl rfl (zaq true (congrArg (fun b => Value.bool (!(b))) hb5) rfl) ?_
  refine o_q rfl rfl (za2 rfl) ?_
  refine @o_n _ _ _ _ _ _ _ _ _ _ _ 20 (za3 rfl rfl rfl rfl rfl) (Eq.refl (some 20)) ?_
  refine @o_n _ _ _ _ _ _ _ _ _ _ _ 21 (za3 rfl rfl rfl rfl rfl) (Eq.refl (some 21)) ?_
  refine @o_n _ _ _ _ _ _ _ _ _ _ _ 22 (za3 rfl rfl rfl rfl rfl) (Eq.refl (some 22)) ?_
  refine @o_n _ _ _ _ _ _ _ _ _ _ _ 23 (za3 rfl rfl rfl rfl rfl) (Eq.refl (some 23)) ?_
  refine @o_n _ _ _ _ _ _ _ _ _ _ _ 24 (za3 rfl rfl rfl rfl rfl) (Eq.refl (some 24)) ?_
  refine @o_n _ _ _ _ _ _ _ _ _ _ _ 25 (za3 rfl rfl rfl rfl rfl) (Eq.refl (some 25)) ?_
  refine o_q rfl rfl (zaq true rfl rfl) ?_
  refine o_end ?_
  refine za1 ?_
  refine zb1 rfl ?_
  refine c_seq ?_
  refine za0 ?_
  refine o_q rfl rfl (q_asg rfl) ?_
  refine o_end ?_
  refine za1 ?_
  refine c_ret ?_
  refine zaa ?_
  have e0_ := Option.some.inj h; clear h
  subst e0_
  exact x_r1 () Try.results130 (zai rfl) rfl (fun w h => za6 [] (by decide) rfl w h)

/-! ### (*loop.example/g01098/impl.Plan).exponents: function 132 -/
def impl_Plan_exponents.l2 (l20 : List (List Int)) (y25 : SStep) : (List Int) → (List Int) → Int → Option (List Int)
 | [], l45, i48 => some l45
 | y49 :: ys50, l45, i48 => (gt l20 y25.f1).bind fun y70 => (gt y70 i48).bind fun y74 => (ap l45 ([mn (w64 (y49 + y74)) 1000001] : List Int)).bind fun l78 => impl_Plan_exponents.l2 l20 y25 ys50 l78 (i48 + 1)
def impl_Plan_exponents.l1 : (List SStep) → (List (List Int)) → Int → Option (List (List Int))
 | [], l20, i24 => some l20
 | y25 :: ys26, l20, i24 => (gt l20 y25.f0).bind fun y43 => (impl_Plan_exponents.l2 l20 y25 y43 ([] : List Int) 0).bind fun l45 => (ap l20 ([l45] : List (List Int))).bind fun l63 => impl_Plan_exponents.l1 ys26 l63 (i24 + 1)
def impl_Plan_exponents.l0 (a0_0 : Int) : Nat → (List (List Int)) → Int → Option (List (List Int))
 | 0, l4, i8 => some l4
 | k11 + 1, l4, i8 => (mk0 a0_0 (0 : Int)).bind fun l82 => (gt l82 i8).bind fun y89 => (st l82 i8 1).bind fun l90 => (ap l4 ([l90] : List (List Int))).bind fun l96 => impl_Plan_exponents.l0 a0_0 k11 l96 (i8 + 1)
def impl_Plan_exponents.f (a0_0 : Int) (l0_1 : List SStep) (l0_2 : List Int) : Option (List (List Int)) := (bd a0_0).bind fun _ => (impl_Plan_exponents.l0 a0_0 ((a0_0).toNat) ([] : List (List Int)) 0).bind fun l4 => (impl_Plan_exponents.l1 l0_1 l4 0).bind fun l20 => some l20
set_option maxHeartbeats 600000 in
set_option maxRecDepth 100000 in
theorem impl_Plan_exponents.calls {w0 ws : World} {P0 : Nat → Prop} (g0 : Nat) (a0_0 : Int) (A0_1 : Option Addr) (c0_1 : Nat) (n0_1 : Nat) (l0_1 : List SStep) (A0_2 : Option Addr) (c0_2 : Nat) (n0_2 : Nat) (l0_2 : List Int) (Z : Below w0.heap.size w0 ws) (hF : Fr w0 ws P0 [] ws) (R0_1 : Stable ws P0 (fun w => Kd.C kStep w A0_1 n0_1 l0_1)) (hc0_1 : n0_1 ≤ c0_1) (R0_2 : Stable ws P0 (fun w => Kd.C (Kd.int .i64) w A0_2 n0_2 l0_2)) (hc0_2 : n0_2 ≤ c0_2) (B0 : Stable ws P0 (fun w => w.heap[g0]? = some (.cells #[.int .i64 a0_0, .slice A0_1 n0_1 c0_1, .slice A0_2 n0_2 c0_2] 27 (0, 0)))) (r_1 : List (List Int)) (h : impl_Plan_exponents.f a0_0 l0_1 l0_2 = some r_1) :
  Calls Try.prog 132 #[.pointer (some ⟨g0, 0, none⟩)] ws (Post1 w0 ws P0 (fun ((q_2, q_3, q_4) : (Option Addr) × Nat × Hd) => .slice q_2 r_1.length q_3) (fun ((q_2, q_3, q_4) : (Option Addr) × Nat × Hd) => [row (gk 3 (Kd.int .i64)) 25 (.slice q_2 r_1.length q_3) (zp q_4 r_1)])) := by
 unfold impl_Plan_exponents.f at h
 obtain rfl := (R0_1 ws (KeptB.refl _ _)).1
 obtain rfl := (R0_2 ws (KeptB.refl _ _)).1
 refine enter Try.func132 rfl Try.ntmps132 rfl hF ?_
 refine c_seq ?_
 refine za0 ?_
 refine o_q rfl rfl (q_asg rfl) ?_
 refine o_end ?_
 refine za1 ?_
 refine c_seq ?_
 refine za0 ?_
 refine o_e rfl (e_lit0 (gk 3 (Kd.int .i64)) Try.underlying73 I25) (cur2 (fun A1 c2 => ?_))
 refine o_q rfl rfl (q_asg rfl) ?_
 refine o_end ?_
 refine za1 ?_
 refine c_seq ?_
 refine c_seq ?_
 refine za0 ?_
 refine o_q rfl rfl (za2 rfl) ?_
 refine o_q rfl rfl (q_nil rfl) ?_
 refine o_q rfl rfl (q_f F27_0 rfl) ?_
 refine o_q rfl rfl (q_ldb Y3 rfl (fun w h => B0.now Z h) rfl) ?_
 refine o_q rfl rfl (za2 rfl) ?_
 refine o_end ?_
 refine za1 ?_
 refine zaj ?_
 refine za7 h (fun _ hbd17 h => ?_) rfl
 refine za7 h (fun o16 hl15 hR14 => ?_) rfl
 clear h
 have hm13 : a0_0 ≤ 9223372036854775807 := bd_le hbd17
 refine zax (σ := (List (List Int)) × Int × (Option Addr) × Nat × Hd) (fun k11 ((l4, i8, A5, c6, H7) : (List (List Int)) × Int × (Option Addr) × Nat × Hd) => Cn a0_0 i8 k11 ∧ impl_Plan_exponents.l0 a0_0 k11 l4 i8 = some o16) [3, 4, 5, 16, 17, 18, 19, 20, 21, 22, 23, 24, 25, 26, 27, 28, 29, 30, 31] (fun ((l4, i8, A5, c6, H7) : (List (List Int)) × Int × (Option Addr) × Nat × Hd) => [(3, .slice A5 l4.length c6), (16, .int .i64 i8)]) (fun ((l4, i8, A5, c6, H7) : (List (List Int)) × Int × (Option Addr) × Nat × Hd) => [row (gk 3 (Kd.int .i64)) 25 (.slice A5 l4.length c6) (zp H7 l4)]) (a0_0).toNat (([] : List (List Int)), 0, A1, c2, ([] : Hd)) ⟨Cn.start hm13, hl15⟩ ⟨rfl, rfl, trivial⟩ (fun w h => h) ?_
 refine natC (cur5 (fun l4 i8 A5 c6 H7 => fun U18 hJ_ => ?_)) (fun k11 => (cur5 (fun l4 i8 A5 c6 H7 => fun U18 hJ_ => ?_)))
 ·skip
  clear hl15
  have hr12 := hJ_.1; have h := hJ_.2; clear hJ_
  replace h : impl_Plan_exponents.l0 a0_0 0 l4 i8 = some o16 := h
  rw [impl_Plan_exponents.l0] at h
  refine c_seq ?_
  refine za0 ?_
  refine o_q rfl rfl (q_lss rfl rfl) ?_
  refine o_end ?_
  refine za1 ?_
  refine c_seq ?_
  refine zb3 (congrArg Value.bool hr12.ge) ?_
  refine zb4 ?_
  refine za8 ?_
  refine za8 ?_
  have e_ := Option.some.inj h; replace h := hR14; rw [← e_] at h; clear e_
  refine x_hit ?_
  refine za1 ?_
  refine c_seq ?_
  refine c_seq ?_
  refine za0 ?_
  refine o_q rfl rfl (za2 rfl) ?_
  refine o_q rfl rfl (q_nil rfl) ?_
  refine o_q rfl rfl (q_f F27_1 rfl) ?_
  refine o_q rfl rfl (q_ldb Y24 rfl (fun w h => B0.now Z h) rfl) ?_
  refine o_q rfl rfl (q_len Try.underlying24 rfl) ?_
  refine o_q rfl rfl (za2 rfl) ?_
  refine o_end ?_
  refine za1 ?_
  refine zaj ?_
  refine za7 h (fun o32 hl31 hR30 => ?_) rfl
  clear h
  refine zba (p := l0_1.length ≤ 9223372036854775807) (fun w h => (R0_1.now Z h).2.1) (fun hm29 => ?_)
  refine zax (σ := (List SStep) × (List (List Int)) × Int × (Option Addr) × Nat × Hd) (fun k27 ((ys26, l20, i24, A21, c22, H23) : (List SStep) × (List (List Int)) × Int × (Option Addr) × Nat × Hd) => Rg l0_1 i24 ys26 ∧ ys26.length = k27 ∧ impl_Plan_exponents.l1 ys26 l20 i24 = some o32) [3, 7, 8, 9, 10, 37, 38, 39, 40, 41, 42, 43, 44, 45, 46, 47, 48, 49, 50, 51, 52, 53, 54, 55, 56, 57, 58, 59, 60, 61, 62, 63, 64, 65, 66, 67, 68, 69, 70, 71, 72] (fun ((ys26, l20, i24, A21, c22, H23) : (List SStep) × (List (List Int)) × Int × (Option Addr) × Nat × Hd) => [(3, .slice A21 l20.length c22), (37, .int .i64 i24)]) (fun ((ys26, l20, i24, A21, c22, H23) : (List SStep) × (List (List Int)) × Int × (Option Addr) × Nat × Hd) => [row (gk 3 (Kd.int .i64)) 25 (.slice A21 l20.length c22) (zp H23 l20)]) l0_1.length (l0_1, l4, 0, A5, c6, H7) ⟨Rg.start _, rfl, hl31⟩ ⟨rfl, rfl, trivial⟩ (fun w h => h) ?_
  refine fun k27 => cur6 (listC (fun l20 i24 A21 c22 H23 U33 hJ_ => ?_) (fun y25 ys26 l20 i24 A21 c22 H23 U33 hJ_ => ?_))
  ·skip
   clear hl31
   have hr28 := hJ_.1; have hk34 := hJ_.2.1; have h := hJ_.2.2; clear hJ_
   replace h : impl_Plan_exponents.l1 [] l20 i24 = some o32 := h
   rw [impl_Plan_exponents.l1] at h
   refine c_seq ?_
   refine za0 ?_
   refine o_q rfl rfl (q_lss rfl rfl) ?_
   refine o_end ?_
   refine za1 ?_
   refine c_seq ?_
   refine zb3 (congrArg Value.bool hr28.ge) ?_
   refine zb4 ?_
   refine za8 ?_
   refine za8 ?_
   have e_ := Option.some.inj h; replace h := hR30; rw [← e_] at h; clear e_
   refine x_hit ?_
   refine za1 ?_
   refine c_seq ?_
   refine za0 ?_
   refine o_q rfl rfl (za2 rfl) ?_
   refine o_q rfl rfl (q_asg rfl) ?_
   refine o_end ?_
   refine za1 ?_
   refine c_ret ?_
   have e0_ := Option.some.inj h; clear h
   subst e0_
   exact x_r1 (A21, c22, H23) Try.results132 (zai rfl) rfl (fun w h => za6 [0] (by decide) rfl w h)
  ·skip
   clear hl31
   have hr28 := hJ_.1; have hk34 := hJ_.2.1; have h := hJ_.2.2; clear hJ_
   replace h : impl_Plan_exponents.l1 (y25 :: ys26) l20 i24 = some o32 := h
   rw [impl_Plan_exponents.l1] at h
   refine c_seq ?_
   refine za0 ?_
   refine o_q rfl rfl (q_lss rfl rfl) ?_
   refine o_end ?_
   refine za1 ?_
   refine c_seq ?_
   refine zb1 (congrArg Value.bool hr28.lt) ?_
   refine zao ?_
   refine za1 ?_
   refine c_seq ?_
   refine zaj ?_
   refine c_seq ?_
   refine za0 ?_
   refine zaz (p := Sh A0_1 l0_1.length l0_1.length) (fun w h => f_sh (dk := kStep) h (fun w h => R0_1.now Z h)) (fun hq35 => ?_)
   refine o_q rfl rfl (q_ix Try.underlying24 Z88 rfl rfl hq35 hr28.get) ?_
   refine o_q rfl rfl (q_ldE G88 Z88 rfl rfl (fun w h => R0_1.now Z h) hr28.get (fun _ _ h => h) rfl) ?_
   refine o_e rfl (zat V88 rfl) (fun g36 => ?_)
   refine o_e rfl (zan (i := 0) rfl rfl rfl Z88 rfl rfl) (fun _ => ?_)
   refine o_end ?_
   refine za1 ?_
   refine c_seq ?_
   refine za0 ?_
   refine o_e rfl (e_lit0 (Kd.int .i64) Try.underlying25 I3) (cur2 (fun A38 c39 => ?_))
   refine o_q rfl rfl (q_asg rfl) ?_
   refine o_end ?_
   refine za1 ?_
   refine c_seq ?_
   refine c_seq ?_
   refine za0 ?_
   refine o_q rfl rfl (za2 rfl) ?_
   refine o_q rfl rfl (q_f F88_0 rfl) ?_
   refine o_q rfl rfl (q_ldb Y3 rfl (fun w h => h.zae (i := 1) rfl) rfl) ?_
   refine zaz (p := Sh A21 l20.length (zp H23 l20).length) (fun w h => f_sh (dk := (gk 3 (Kd.int .i64))) h (fun w h => h.zaw (i := 2) rfl)) (fun hq41 => ?_)
   refine za7 h (fun y43 hg42 h => ?_) rfl
   refine o_q rfl rfl (q_ix Try.underlying73 Z25 rfl rfl hq41 (gt_zp hg42)) ?_
   refine zaz (p := y43.length ≤ hC H23 y25.f0) (fun w h => (K_in (h.zaw (i := 2) rfl) hg42).1) (fun hc44 => ?_)
   refine o_q rfl rfl (q_lde (off := 0) Y25 rfl rfl (fun w h => h.zaw (i := 2) rfl) (gt_zp hg42) (fun _ _ h => h.1) rfl) ?_
   refine o_q rfl rfl (q_len Try.underlying25 rfl) ?_
   refine o_q rfl rfl (za2 rfl) ?_
   refine o_end ?_
   refine za1 ?_
   refine zaj ?_
   refine za7 h (fun o56 hl55 hR54 => ?_) rfl
   clear h
   refine zba (p := y43.length ≤ 9223372036854775807) (fun w h => (C_in (h.zaw (i := 2) rfl) hg42).2.1) (fun hm53 => ?_)
   refine zax (σ := (List Int) × (List Int) × Int × (Option Addr) × Nat) (fun k51 ((ys50, l45, i48, A46, c47) : (List Int) × (List Int) × Int × (Option Addr) × Nat) => Rg y43 i48 ys50 ∧ ys50.length = k51 ∧ impl_Plan_exponents.l2 l20 y25 ys50 l45 i48 = some o56) [8, 9, 10, 48, 49, 50, 51, 52, 53, 54, 55, 56, 57, 58, 59, 60, 61, 62, 63, 64, 65, 66, 67] (fun ((ys50, l45, i48, A46, c47) : (List Int) × (List Int) × Int × (Option Addr) × Nat) => [(8, .slice A46 l45.length c47), (48, .int .i64 i48)]) (fun ((ys50, l45, i48, A46, c47) : (List Int) × (List Int) × Int × (Option Addr) × Nat) => [row (Kd.int .i64) 3 (.slice A46 l45.length c47) l45, box g36 88 #[.int .i64 y25.f0, .int .i64 y25.f1], row (gk 3 (Kd.int .i64)) 25 (.slice A21 l20.length c22) (zp H23 l20)]) y43.length (y43, ([] : List Int), 0, A38, c39) ⟨Rg.start _, rfl, hl55⟩ ⟨rfl, rfl, trivial⟩ (fun w h => h) ?_
   refine fun k51 => cur5 (listC (fun l45 i48 A46 c47 U57 hJ_ => ?_) (fun y49 ys50 l45 i48 A46 c47 U57 hJ_ => ?_))
   ·skip
    clear hl55
    have hr52 := hJ_.1; have hk58 := hJ_.2.1; have h := hJ_.2.2; clear hJ_
    replace h : impl_Plan_exponents.l2 l20 y25 [] l45 i48 = some o56 := h
    rw [impl_Plan_exponents.l2] at h
    refine c_seq ?_
    refine za0 ?_
    refine o_q rfl rfl (q_lss rfl rfl) ?_
    refine o_end ?_
    refine za1 ?_
    refine c_seq ?_
    refine zb3 (congrArg Value.bool hr52.ge) ?_
    refine zb4 ?_
    refine za8 ?_
    refine za8 ?_
    have e_ := Option.some.inj h; replace h := hR54; rw [← e_] at h; clear e_
    refine x_hit ?_
    refine za1 ?_
    refine za0 ?_
    refine o_q rfl rfl (za2 rfl) ?_
    refine o_q rfl rfl (za2 rfl) ?_
    refine o_e rfl (e_litG (j := 0) (ue := 3) (dk := (Kd.int .i64)) (ys := l45) Try.underlying73 I25 rfl rfl rfl) (cur3 (fun A59 c60 H62 => ?_))
    refine za7 h (fun l63 ha64 h => ?_) rfl
    refine o_e rfl (e_appG (i := 3) (j := 0) Try.underlying73 I25 rfl (by decide) rfl rfl rfl rfl rfl ha64) (cur3 (fun A65 c66 H67 => ?_))
    refine o_q rfl rfl (q_asg rfl) ?_
    refine o_end ?_
    refine zal ?_
    refine za1 ?_
    refine za0 ?_
    refine o_q rfl rfl (q_up rfl rfl (hr28.up hm29)) ?_
    refine o_q rfl rfl (za2 rfl) ?_
    refine o_end ?_
    refine zam ys26.length (ys26, l63, i24 + 1, A65, c66, H67) (by rw [← hk34]; exact Nat.lt_succ_self _) ⟨hr28.step, rfl, h⟩ ⟨rfl, rfl, trivial⟩ (fun w h => za6 [3] (by decide) rfl w h) ?_
    repeat (first | exact zac _ _ | refine zaf rfl ?_ | refine zad rfl ?_ | refine zah rfl ?_)
   ·skip
    clear hl55
    have hr52 := hJ_.1; have hk58 := hJ_.2.1; have h := hJ_.2.2; clear hJ_
    replace h : impl_Plan_exponents.l2 l20 y25 (y49 :: ys50) l45 i48 = some o56 := h
    rw [impl_Plan_exponents.l2] at h
    refine c_seq ?_
    refine za0 ?_
    refine o_q rfl rfl (q_lss rfl rfl) ?_
    refine o_end ?_
    refine za1 ?_
    refine c_seq ?_
    refine zb1 (congrArg Value.bool hr52.lt) ?_
    refine zao ?_
    refine za1 ?_
    refine c_seq ?_
    refine zaj ?_
    refine c_seq ?_
    refine za0 ?_
    refine o_q rfl rfl (za2 rfl) ?_
    refine zaz (p := Sh (hA H23 y25.f0) y43.length y43.length) (fun w h => f_sh (dk := (Kd.int .i64)) h (fun w h => C_in (h.zaw (i := 2) rfl) hg42)) (fun hq68 => ?_)
    refine o_q rfl rfl (q_ix Try.underlying25 Z3 rfl rfl hq68 hr52.get) ?_
    refine o_q rfl rfl (q_lde (off := 0) Y3 rfl rfl (fun w h => C_in (h.zaw (i := 2) rfl) hg42) hr52.get (fun _ _ h => h) rfl) ?_
    refine o_q rfl rfl (q_asg rfl) ?_
    refine o_q rfl rfl (q_asg rfl) ?_
    refine o_end ?_
    refine za1 ?_
    refine za0 ?_
    refine o_q rfl rfl (za2 rfl) ?_
    refine o_q rfl rfl (za2 rfl) ?_
    refine o_q rfl rfl (za2 rfl) ?_
    refine o_q rfl rfl (q_f F88_1 rfl) ?_
    refine o_q rfl rfl (q_ldb Y3 rfl (fun w h => h.zae (i := 1) rfl) rfl) ?_
    refine za7 h (fun y70 hg69 h => ?_) rfl
    refine o_q rfl rfl (q_ix Try.underlying73 Z25 rfl rfl hq41 (gt_zp hg69)) ?_
    refine zaz (p := y70.length ≤ hC H23 y25.f1) (fun w h => (K_in (h.zaw (i := 2) rfl) hg69).1) (fun hc71 => ?_)
    refine o_q rfl rfl (q_lde (off := 0) Y25 rfl rfl (fun w h => h.zaw (i := 2) rfl) (gt_zp hg69) (fun _ _ h => h.1) rfl) ?_
    refine o_q rfl rfl (za2 rfl) ?_
    refine zaz (p := Sh (hA H23 y25.f1) y70.length y70.length) (fun w h => f_sh (dk := (Kd.int .i64)) h (fun w h => C_in (h.zaw (i := 2) rfl) hg69)) (fun hq72 => ?_)
    refine za7 h (fun y74 hg73 h => ?_) rfl
    refine o_q rfl rfl (q_ix Try.underlying25 Z3 rfl rfl hq72 hg73) ?_
    refine o_q rfl rfl (q_lde (off := 0) Y3 rfl rfl (fun w h => C_in (h.zaw (i := 2) rfl) hg69) hg73 (fun _ _ h => h) rfl) ?_
    refine o_q rfl rfl (zb8 rfl rfl) ?_
    refine o_q rfl rfl (q_min rfl rfl) ?_
    refine o_e rfl (e_lit (vs := [(0, .int .i64 (mn (w64 (y49 + y74)) 1000001))]) (cs := [.int .i64 (mn (w64 (y49 + y74)) 1000001)]) (Kd.int .i64) ([mn (w64 (y49 + y74)) 1000001] : List Int) Try.underlying25 I3 (by decide) rfl (by decide) rfl rfl (fun _ _ => Kd.zak _)) (cur2 (fun A75 c76 => ?_))
    refine za7 h (fun l78 ha79 h => ?_) rfl
    refine o_e rfl (e_app (i := 1) (j := 0) Try.underlying25 I3 rfl (by decide) (by decide) rfl rfl rfl rfl rfl ha79) (cur2 (fun A80 c81 => ?_))
    refine o_q rfl rfl (q_asg rfl) ?_
    refine o_end ?_
    refine zal ?_
    refine za1 ?_
    refine za0 ?_
    refine o_q rfl rfl (q_up rfl rfl (hr52.up hm53)) ?_
    refine o_q rfl rfl (za2 rfl) ?_
    refine o_end ?_
    refine zam ys50.length (ys50, l78, i48 + 1, A80, c81) (by rw [← hk58]; exact Nat.lt_succ_self _) ⟨hr52.step, rfl, h⟩ ⟨rfl, rfl, trivial⟩ (fun w h => za6 [1, 2, 3] (by decide) rfl w h) ?_
    repeat (first | exact zac _ _ | refine zaf rfl ?_ | refine zad rfl ?_ | refine zah rfl ?_)
 ·skip
  clear hl15
  have hr12 := hJ_.1; have h := hJ_.2; clear hJ_
  replace h : impl_Plan_exponents.l0 a0_0 (k11 + 1) l4 i8 = some o16 := h
  rw [impl_Plan_exponents.l0] at h
  refine c_seq ?_
  refine za0 ?_
  refine o_q rfl rfl (q_lss rfl rfl) ?_
  refine o_end ?_
  refine za1 ?_
  refine c_seq ?_
  refine zb1 (congrArg Value.bool hr12.lt) ?_
  refine zao ?_
  refine za1 ?_
  refine c_seq ?_
  refine zaj ?_
  refine c_seq ?_
  refine za0 ?_
  refine o_q rfl rfl (za2 rfl) ?_
  refine o_q rfl rfl (q_asg rfl) ?_
  refine o_end ?_
  refine za1 ?_
  refine c_seq ?_
  refine za0 ?_
  refine o_q rfl rfl (za2 rfl) ?_
  refine o_q rfl rfl (q_nil rfl) ?_
  refine o_q rfl rfl (q_f F27_0 rfl) ?_
  refine o_q rfl rfl (q_ldb Y3 rfl (fun w h => B0.now Z h) rfl) ?_
  refine za7 h (fun l82 hm83 h => ?_) rfl
  refine o_e rfl (e_make (Kd.int .i64) (0 : Int) Try.underlying25 I3 rfl (by decide) (by decide) (fun _ _ => rfl) rfl rfl hm83) (cur2 (fun A84 c85 => ?_))
  refine o_q rfl rfl (q_asg rfl) ?_
  refine o_end ?_
  refine za1 ?_
  refine c_seq ?_
  refine za0 ?_
  refine o_q rfl rfl (za2 rfl) ?_
  refine o_q rfl rfl (za2 rfl) ?_
  refine zaz (p := Sh A84 l82.length l82.length) (fun w h => f_sh (dk := (Kd.int .i64)) h (fun w h => h.zaw (i := 0) rfl)) (fun hq87 => ?_)
  refine za7 h (fun y89 hg88 h => ?_) rfl
  refine o_q rfl rfl (q_ix Try.underlying25 Z3 rfl rfl hq87 hg88) ?_
  refine za7 h (fun l90 hs91 h => ?_) rfl
  refine o_e rfl (e_set (i := 0) rfl rfl rfl Z3 hs91) (fun _ => ?_)
  refine o_end ?_
  refine za1 ?_
  refine za0 ?_
  refine o_q rfl rfl (za2 rfl) ?_
  refine o_q rfl rfl (za2 rfl) ?_
  refine o_e rfl (e_litG (j := 0) (ue := 3) (dk := (Kd.int .i64)) (ys := l90) Try.underlying73 I25 rfl rfl rfl) (cur3 (fun A92 c93 H95 => ?_))
  refine za7 h (fun l96 ha97 h => ?_) rfl
  refine o_e rfl (e_appG (i := 2) (j := 0) Try.underlying73 I25 rfl (by decide) rfl rfl rfl rfl rfl ha97) (cur3 (fun A98 c99 H100 => ?_))
  refine o_q rfl rfl (q_asg rfl) ?_
  refine o_end ?_
  refine zal ?_
  refine za1 ?_
  refine za0 ?_
  refine o_q rfl rfl (q_up rfl rfl hr12.up) ?_
  refine o_q rfl rfl (za2 rfl) ?_
  refine o_end ?_
  refine zam k11 (l96, i8 + 1, A98, c99, H100) (Nat.lt_succ_self _) ⟨hr12.step, h⟩ ⟨rfl, rfl, trivial⟩ (fun w h => za6 [2] (by decide) rfl w h) ?_
  repeat (first | exact zac _ _ | refine zaf rfl ?_ | refine zad rfl ?_ | refine zah rfl ?_)

end Go.Proofs.Ytdicngjloiphkaa.L6
