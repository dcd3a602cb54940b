import Derived.Test.YtiaohjciddbpoaaKFnExactMethodCostsH8p1
namespace Go.Proofs.Ytiaohjciddbpoaa.H8
open Go.RowKit Go.Proofs.Ytiaohjciddbpoaa.Frame Go.Proofs.YtiaohjciddbpoaaW.PrintLast Go.Proofs.Ytiaohjciddbpoaa.Hand
open Go.Proofs.YtiaohjciddbpoaaW.PrintWords hiding mn mx
set_option linter.unusedVariables false
/-! ### loop.example/g01098/spec.l1Most: function 88 -/
def spec_l1Most.f (a0 : Int) (a1 : Int) : Option Int := if a1 < a0 then (some a0) else (some a1)
set_option maxHeartbeats 600000 in
set_option maxRecDepth 100000 in
theorem spec_l1Most.calls {w0 ws : World} {P0 : Nat → Prop} (a0 : Int) (a1 : Int) (Z : Below w0.heap.size w0 ws) (hF : Fr w0 ws P0 [] ws)  (r_1 : Int) (h : spec_l1Most.f a0 a1 = some r_1) :
  Calls Try.prog 88 #[.int .i64 a0, .int .i64 a1] ws (Post1 w0 ws P0 (fun (_ : Unit) => .int .i64 r_1) (fun (_ : Unit) => [])) := by
 unfold spec_l1Most.f at h
 refine enter Try.func88 rfl Try.ntmps88 rfl hF ?_
 refine c_seq ?_
 refine za0 ?_
 refine o_q rfl rfl (q_asg rfl) ?_
 refine o_end ?_
 refine za1 ?_
 refine c_seq ?_
 refine c_seq ?_
 refine za0 ?_
 refine o_q rfl rfl (za2 rfl) ?_
 refine o_q rfl rfl (za2 rfl) ?_
 refine o_q rfl rfl (q_gtr rfl rfl) ?_
 refine o_end ?_
 refine za1 ?_
 refine zaw _ rfl (fun hb1 => ?_) (fun hb1 => ?_)
 ·skip
  replace h := br_t hb1 h
  refine c_seq ?_
  refine za0 ?_
  refine o_q rfl rfl (za2 rfl) ?_
  refine o_q rfl rfl (q_asg rfl) ?_
  refine o_end ?_
  refine za1 ?_
  refine c_ret ?_
  refine zaj ?_
  have e0_ := Option.some.inj h; clear h
  subst e0_
  exact x_r1 () Try.results88 (zan rfl) rfl (fun w h => za6 [] (by decide) rfl w h)
 ·skip
  replace h := br_f hb1 h
  refine zat ?_
  refine za1 ?_
  refine c_seq ?_
  refine za0 ?_
  refine o_q rfl rfl (za2 rfl) ?_
  refine o_q rfl rfl (q_asg rfl) ?_
  refine o_end ?_
  refine za1 ?_
  refine c_ret ?_
  have e0_ := Option.some.inj h; clear h
  subst e0_
  exact x_r1 () Try.results88 (zan rfl) rfl (fun w h => za6 [] (by decide) rfl w h)

/-! ### loop.example/g01098/spec.plStep: function 146 -/
def spec_plStep.f (a0 : Int) (a1 : Int) : Option SStep := (spec_l1Least.f a0 a1).bind fun i4 => (spec_l1Most.f a0 a1).bind fun i6 => some (⟨i4, i6⟩ : SStep)
set_option maxHeartbeats 600000 in
set_option maxRecDepth 100000 in
theorem spec_plStep.calls {w0 ws : World} {P0 : Nat → Prop} (a0 : Int) (a1 : Int) (Z : Below w0.heap.size w0 ws) (hF : Fr w0 ws P0 [] ws)  (r_1 : SStep) (h : spec_plStep.f a0 a1 = some r_1) :
  Calls Try.prog 146 #[.int .i64 a0, .int .i64 a1] ws (Post1 w0 ws P0 (fun (_ : Unit) => .agg #[.int .i64 r_1.f0, .int .i64 r_1.f1]) (fun (_ : Unit) => [])) := by
 unfold spec_plStep.f at h
 refine enter Try.func146 rfl Try.ntmps146 rfl hF ?_
 refine c_seq ?_
 refine za0 ?_
 refine o_e rfl (zak V107 rfl) (fun g1 => ?_)
 refine o_end ?_
 refine za1 ?_
 refine c_seq ?_
 refine za0 ?_
 refine o_q rfl rfl (za2 rfl) ?_
 refine o_q rfl rfl (za2 rfl) ?_
 refine za9 h (fun i4 hx3 h => ?_) rfl
 refine o_e rfl (za4 0 Z Try.func89 N89 rfl rfl rfl (fun w P1 hF hB hS hT => spec_l1Least.calls a0 a1 hB hF _ hx3)) (fun _ => ?_)
 refine o_q rfl rfl (za2 rfl) ?_
 refine o_q rfl rfl (za2 rfl) ?_
 refine za9 h (fun i6 hx5 h => ?_) rfl
 refine o_e rfl (za4 0 Z Try.func88 N88 rfl rfl rfl (fun w P1 hF hB hS hT => spec_l1Most.calls a0 a1 hB hF _ hx5)) (fun _ => ?_)
 refine o_q rfl rfl (q_build (vs := [(0, .int .i64 i4), (1, .int .i64 i6)]) (cs := [.int .i64 i4, .int .i64 i6]) rfl rfl) ?_
 refine o_e rfl (zal (i := 0) rfl rfl rfl Z107 rfl rfl) (fun _ => ?_)
 refine o_end ?_
 refine za1 ?_
 refine c_ret ?_
 have e0_ := Option.some.inj h; clear h
 subst e0_
 exact x_r1 () Try.results146 (rv_cell rfl G107 Z107 (fun w h => h.zaf (i := 0) rfl) rfl) rfl (fun w h => za6 [] (by decide) rfl w h)

/-! ### loop.example/g01098/spec.meTimes: function 110 -/
def spec_meTimes.f (a0_0 : Int) (l0_1 : List SStep) (l0_2 : List Int) (a1 : Int) (a2 : Int) : Option (List SStep) := ((ap ([] : List SStep) l0_1).bind fun l1216 => (spec_plStep.f a1 a2).bind fun z1397 => (ap l1216 ([z1397] : List SStep)).bind fun l1516 => some l1516).bind fun l907 => some l907
set_option maxHeartbeats 600000 in
set_option maxRecDepth 100000 in
theorem spec_meTimes.calls {w0 ws : World} {P0 : Nat → Prop} (a0_0 : Int) (A0_1 : Option Addr) (c0_1 : Nat) (n0_1 : Nat) (l0_1 : List SStep) (A0_2 : Option Addr) (c0_2 : Nat) (n0_2 : Nat) (l0_2 : List Int) (a1 : Int) (a2 : Int) (Z : Below w0.heap.size w0 ws) (hF : Fr w0 ws P0 [] ws) (R0_1 : Stable ws P0 (fun w => Kd.C kStep w A0_1 n0_1 l0_1)) (hc0_1 : n0_1 ≤ c0_1) (R0_2 : Stable ws P0 (fun w => Kd.C (Kd.int .i64) w A0_2 n0_2 l0_2)) (hc0_2 : n0_2 ≤ c0_2) (r_1 : List SStep) (h : spec_meTimes.f a0_0 l0_1 l0_2 a1 a2 = some r_1) :
  Calls Try.prog 110 #[.agg #[.int .i64 a0_0, .slice A0_1 n0_1 c0_1, .slice A0_2 n0_2 c0_2], .int .i64 a1, .int .i64 a2] ws (Post1 w0 ws P0 (fun ((q_2, q_3) : (Option Addr) × Nat) => .tuple #[.agg #[.int .i64 a0_0, .slice q_2 r_1.length q_3, .slice none 0 0], .int .i64 (w64 (a0_0 + (l0_1.length : Int)))]) (fun ((q_2, q_3) : (Option Addr) × Nat) => [row kStep 107 (.slice q_2 r_1.length q_3) r_1, row (Kd.int .i64) 3 (.slice none 0 0) []])) := by
 unfold spec_meTimes.f at h
 obtain rfl := (R0_1 ws (KeptB.refl _ _)).1
 obtain rfl := (R0_2 ws (KeptB.refl _ _)).1
 refine enter Try.func110 rfl Try.ntmps110 rfl hF ?_
 refine c_seq ?_
 refine za0 ?_
 refine o_e rfl (e_box rfl) (fun g1 => ?_)
 refine o_e rfl (zak V25 rfl) (fun g3 => ?_)
 refine o_q rfl rfl (q_asg rfl) ?_
 refine o_end ?_
 refine za1 ?_
 refine za9 h (fun o910 hl911 hR912 => ?_) rfl
 clear h
 refine c_cutJ (σ := (List SStep) × Nat × (Option Addr) × Nat) (fun (l907, g906, A908, c909) => some l907 = some o910) [8, 9, 10, 11, 12, 13, 14, 15, 16, 17, 18, 19, 20] (fun (l907, g906, A908, c909) => [(8, .pointer (some ⟨g906, 0, none⟩))]) (fun (l907, g906, A908, c909) => [box g1 25 #[.int .i64 a0_0, .slice A0_1 l0_1.length c0_1, .slice A0_2 l0_2.length c0_2], box g3 25 #[.int .i64 0, .slice none 0 0, .slice none 0 0], box g906 25 #[.int .i64 a0_0, .slice A908 l907.length c909, .slice none 0 0], row kStep 107 (.slice A908 l907.length c909) l907]) ?_ ?_
 ·skip
  have h := hl911; clear hl911
  clear hR912
  refine za9 h (fun l1216 ha1217 h => ?_) rfl
  refine za9 h (fun z1397 hx1396 h => ?_) rfl
  refine za9 h (fun l1516 ha1517 h => ?_) rfl
  refine a_start (ds := []) MO rfl ?_
  refine za5 0 rfl rfl rfl (by kernel_rfl) (fun _ _ _ h => h) (q_f F25_0 rfl) ?_
  refine zb0 1 rfl rfl rfl (by kernel_rfl) (fun _ _ _ h => h) (fun w h => h) (q_ldb Y3 rfl (fun w h => h.zaf (i := 1) rfl) rfl) ?_
  refine za5 3 rfl rfl rfl (by kernel_rfl) (fun _ _ _ h => h) (q_f F25_1 rfl) ?_
  refine zb0 4 rfl rfl rfl (by kernel_rfl) (fun _ _ _ h => h) (fun w h => h) (q_ldb Y22 rfl (fun w h => h.zaf (i := 1) rfl) rfl) ?_
  refine za5 6 rfl rfl rfl (by kernel_rfl) (fun _ _ _ h => h) (za2 rfl) ?_
  refine za5 7 rfl rfl rfl (by kernel_rfl) (fun _ _ _ h => h) (za2 rfl) ?_
  refine a_two 2 12 rfl rfl rfl rfl (by kernel_rfl) rfl rfl (e_lit0 kStep Try.underlying22 I107) (fun s w h => za3 [some 1, some 2] (by decide) w h rfl) (zak V25 rfl) (fun s w h => za3 [some 1, some 2] (by decide) w h rfl) (cur2 (fun A1036 c1037 => ?_)) (fun g1636 => ?_)
  ·skip
   refine a_two 5 12 rfl rfl rfl rfl (by kernel_rfl) rfl rfl (e_appr (i := 0) Try.underlying22 I107 rfl (by decide) (by decide) (fun _ _ _ _ h => h) rfl (fun w h => R0_1.now Z h) rfl rfl ha1217) (fun s w h => za3 [some 1, some 2] (by decide) w h rfl) (zak V25 rfl) (fun s w h => za3 [some 2, some 3] (by decide) w h rfl) (cur2 (fun A1218 c1219 => ?_)) (fun g1636 => ?_)
   ·skip
    refine a_two 8 12 rfl rfl rfl rfl (by kernel_rfl) rfl rfl (za4 0 Z Try.func146 N146 rfl rfl rfl (fun w P1 hF hB hS hT => spec_plStep.calls a1 a2 hB hF _ hx1396)) (fun s w h => za3 [some 1, some 2] (by decide) w h rfl) (zak V25 rfl) (fun s w h => za3 [some 2, some 3] (by decide) w h rfl) (fun _ => ?_) (fun g1636 => ?_)
    ·skip
     refine a_two 9 12 rfl rfl rfl rfl (by kernel_rfl) rfl rfl (e_lit (vs := [(0, .agg #[.int .i64 z1397.f0, .int .i64 z1397.f1])]) (cs := [.int .i64 z1397.f0, .int .i64 z1397.f1]) kStep ([z1397] : List SStep) Try.underlying22 I107 (by decide) rfl (by decide) rfl rfl (fun _ _ => reps_flat _)) (fun s w h => za3 [some 2, some 3] (by decide) w h rfl) (zak V25 rfl) (fun s w h => za3 [some 2, some 3] (by decide) w h rfl) (cur2 (fun A1456 c1457 => ?_)) (fun g1636 => ?_)
     ·skip
      refine a_two 10 12 rfl rfl rfl rfl (by kernel_rfl) rfl rfl (e_app (i := 1) (j := 0) Try.underlying22 I107 rfl (by decide) (by decide) rfl rfl rfl rfl rfl ha1517) (fun s w h => za3 [some 2, some 3] (by decide) w h rfl) (zak V25 rfl) (fun s w h => za3 [some 3, some 4] (by decide) w h rfl) (cur2 (fun A1518 c1519 => ?_)) (fun g1636 => ?_)
      ·skip
       refine za5 11 rfl rfl rfl (by kernel_rfl) (fun _ _ _ h => h) (q_build (vs := [(0, .int .i64 a0_0), (1, .slice A1518 l1516.length c1519)]) (cs := [.int .i64 a0_0, .slice A1518 l1516.length c1519, .slice none 0 0]) rfl rfl) ?_
       refine a_one 12 rfl rfl (by kernel_rfl) rfl (zak V25 rfl) (fun s w h => za3 [some 3, some 4] (by decide) w h rfl) (fun g1636 => ?_)
       refine a_one 13 rfl rfl (by kernel_rfl) rfl (zal (i := 0) rfl rfl rfl Z25 rfl rfl) (fun s w h => za3 [some 3, some 4] (by decide) w h rfl) (fun _ => ?_)
       refine zar (by kernel_rfl) ?_
       refine zas (l1516, g1636, A1518, c1519) h ⟨rfl, trivial⟩ (fun w h => za6 [4, 3, 0, 2] (by decide) rfl w h) ?_
       repeat (first | exact za7 _ _ | refine zad rfl ?_ | refine za8 rfl ?_ | refine zae rfl ?_)
      ·skip
       refine a_one 10 rfl rfl (by kernel_rfl) rfl (e_app (i := 2) (j := 1) Try.underlying22 I107 rfl (by decide) (by decide) rfl rfl rfl rfl rfl ha1517) (fun s w h => za3 [some 3, some 4] (by decide) w h rfl) (cur2 (fun A1518 c1519 => ?_))
       refine za5 11 rfl rfl rfl (by kernel_rfl) (fun _ _ _ h => h) (q_build (vs := [(0, .int .i64 a0_0), (1, .slice A1518 l1516.length c1519)]) (cs := [.int .i64 a0_0, .slice A1518 l1516.length c1519, .slice none 0 0]) rfl rfl) ?_
       refine a_one 13 rfl rfl (by kernel_rfl) rfl (zal (i := 0) rfl rfl rfl Z25 rfl rfl) (fun s w h => za3 [some 3, some 4] (by decide) w h rfl) (fun _ => ?_)
       refine zar (by kernel_rfl) ?_
       refine zas (l1516, g1636, A1518, c1519) h ⟨rfl, trivial⟩ (fun w h => za6 [4, 3, 0, 2] (by decide) rfl w h) ?_
       repeat (first | exact za7 _ _ | refine zad rfl ?_ | refine za8 rfl ?_ | refine zae rfl ?_)
     ·skip
      refine a_one 9 rfl rfl (by kernel_rfl) rfl (e_lit (vs := [(0, .agg #[.int .i64 z1397.f0, .int .i64 z1397.f1])]) (cs := [.int .i64 z1397.f0, .int .i64 z1397.f1]) kStep ([z1397] : List SStep) Try.underlying22 I107 (by decide) rfl (by decide) rfl rfl (fun _ _ => reps_flat _)) (fun s w h => za3 [some 3, some 4] (by decide) w h rfl) (cur2 (fun A1456 c1457 => ?_))
      refine a_one 10 rfl rfl (by kernel_rfl) rfl (e_app (i := 2) (j := 0) Try.underlying22 I107 rfl (by decide) (by decide) rfl rfl rfl rfl rfl ha1517) (fun s w h => za3 [some 3, some 4] (by decide) w h rfl) (cur2 (fun A1518 c1519 => ?_))
      refine za5 11 rfl rfl rfl (by kernel_rfl) (fun _ _ _ h => h) (q_build (vs := [(0, .int .i64 a0_0), (1, .slice A1518 l1516.length c1519)]) (cs := [.int .i64 a0_0, .slice A1518 l1516.length c1519, .slice none 0 0]) rfl rfl) ?_
      refine a_one 13 rfl rfl (by kernel_rfl) rfl (zal (i := 1) rfl rfl rfl Z25 rfl rfl) (fun s w h => za3 [some 3, some 4] (by decide) w h rfl) (fun _ => ?_)
      refine zar (by kernel_rfl) ?_
      refine zas (l1516, g1636, A1518, c1519) h ⟨rfl, trivial⟩ (fun w h => za6 [4, 3, 1, 2] (by decide) rfl w h) ?_
      repeat (first | exact za7 _ _ | refine zad rfl ?_ | refine za8 rfl ?_ | refine zae rfl ?_)
    ·skip
     refine a_one 8 rfl rfl (by kernel_rfl) rfl (za4 0 Z Try.func146 N146 rfl rfl rfl (fun w P1 hF hB hS hT => spec_plStep.calls a1 a2 hB hF _ hx1396)) (fun s w h => za3 [some 2, some 3] (by decide) w h rfl) (fun _ => ?_)
     refine a_one 9 rfl rfl (by kernel_rfl) rfl (e_lit (vs := [(0, .agg #[.int .i64 z1397.f0, .int .i64 z1397.f1])]) (cs := [.int .i64 z1397.f0, .int .i64 z1397.f1]) kStep ([z1397] : List SStep) Try.underlying22 I107 (by decide) rfl (by decide) rfl rfl (fun _ _ => reps_flat _)) (fun s w h => za3 [some 3, some 4] (by decide) w h rfl) (cur2 (fun A1456 c1457 => ?_))
     refine a_one 10 rfl rfl (by kernel_rfl) rfl (e_app (i := 2) (j := 0) Try.underlying22 I107 rfl (by decide) (by decide) rfl rfl rfl rfl rfl ha1517) (fun s w h => za3 [some 3, some 4] (by decide) w h rfl) (cur2 (fun A1518 c1519 => ?_))
     refine za5 11 rfl rfl rfl (by kernel_rfl) (fun _ _ _ h => h) (q_build (vs := [(0, .int .i64 a0_0), (1, .slice A1518 l1516.length c1519)]) (cs := [.int .i64 a0_0, .slice A1518 l1516.length c1519, .slice none 0 0]) rfl rfl) ?_
     refine a_one 13 rfl rfl (by kernel_rfl) rfl (zal (i := 1) rfl rfl rfl Z25 rfl rfl) (fun s w h => za3 [some 3, some 4] (by decide) w h rfl) (fun _ => ?_)
     refine zar (by kernel_rfl) ?_
     refine zas (l1516, g1636, A1518, c1519) h ⟨rfl, trivial⟩ (fun w h => za6 [4, 3, 1, 2] (by decide) rfl w h) ?_
     repeat (first | exact za7 _ _ | refine zad rfl ?_ | refine za8 rfl ?_ | refine zae rfl ?_)
   ·skip
    refine a_one 5 rfl rfl (by kernel_rfl) rfl (e_appr (i := 1) Try.underlying22 I107 rfl (by decide) (by decide) (fun _ _ _ _ h => h) rfl (fun w h => R0_1.now Z h) rfl rfl ha1217) (fun s w h => za3 [some 2, some 3] (by decide) w h rfl) (cur2 (fun A1218 c1219 => ?_))
    refine a_one 8 rfl rfl (by kernel_rfl) rfl (za4 0 Z Try.func146 N146 rfl rfl rfl (fun w P1 hF hB hS hT => spec_plStep.calls a1 a2 hB hF _ hx1396)) (fun s w h => za3 [some 2, some 3] (by decide) w h rfl) (fun _ => ?_)
    refine a_one 9 rfl rfl (by kernel_rfl) rfl (e_lit (vs := [(0, .agg #[.int .i64 z1397.f0, .int .i64 z1397.f1])]) (cs := [.int .i64 z1397.f0, .int .i64 z1397.f1]) kStep ([z1397] : List SStep) Try.underlying22 I107 (by decide) rfl (by decide) rfl rfl (fun _ _ => reps_flat _)) (fun s w h => za3 [some 3, some 4] (by decide) w h rfl) (cur2 (fun A1456 c1457 => ?_))
    refine a_one 10 rfl rfl (by kernel_rfl) rfl (e_app (i := 2) (j := 0) Try.underlying22 I107 rfl (by decide) (by decide) rfl rfl rfl rfl rfl ha1517) (fun s w h => za3 [some 3, some 4] (by decide) w h rfl) (cur2 (fun A1518 c1519 => ?_))
    refine za5 11 rfl rfl rfl (by kernel_rfl) (fun _ _ _ h => h) (q_build (vs := [(0, .int .i64 a0_0), (1, .slice A1518 l1516.length c1519)]) (cs := [.int .i64 a0_0, .slice A1518 l1516.length c1519, .slice none 0 0]) rfl rfl) ?_
    refine a_one 13 rfl rfl (by kernel_rfl) rfl (zal (i := 1) rfl rfl rfl Z25 rfl rfl) (fun s w h => za3 [some 3, some 4] (by decide) w h rfl) (fun _ => ?_)
    refine zar (by kernel_rfl) ?_
    refine zas (l1516, g1636, A1518, c1519) h ⟨rfl, trivial⟩ (fun w h => za6 [4, 3, 1, 2] (by decide) rfl w h) ?_
    repeat (first | exact za7 _ _ | refine zad rfl ?_ | refine za8 rfl ?_ | refine zae rfl ?_)
  ·skip
   refine a_one 2 rfl rfl (by kernel_rfl) rfl (e_lit0 kStep Try.underlying22 I107) (fun s w h => za3 [some 2, some 3] (by decide) w h rfl) (cur2 (fun A1036 c1037 => ?_))
   refine a_one 5 rfl rfl (by kernel_rfl) rfl (e_appr (i := 0) Try.underlying22 I107 rfl (by decide) (by decide) (fun _ _ _ _ h => h) rfl (fun w h => R0_1.now Z h) rfl rfl ha1217) (fun s w h => za3 [some 2, some 3] (by decide) w h rfl) (cur2 (fun A1218 c1219 => ?_))
   refine a_one 8 rfl rfl (by kernel_rfl) rfl (za4 0 Z Try.func146 N146 rfl rfl rfl (fun w P1 hF hB hS hT => spec_plStep.calls a1 a2 hB hF _ hx1396)) (fun s w h => za3 [some 2, some 3] (by decide) w h rfl) (fun _ => ?_)
   refine a_one 9 rfl rfl (by kernel_rfl) rfl (e_lit (vs := [(0, .agg #[.int .i64 z1397.f0, .int .i64 z1397.f1])]) (cs := [.int .i64 z1397.f0, .int .i64 z1397.f1]) kStep ([z1397] : List SStep) Try.underlying22 I107 (by decide) rfl (by decide) rfl rfl (fun _ _ => reps_flat _)) (fun s w h => za3 [some 3, some 4] (by decide) w h rfl) (cur2 (fun A1456 c1457 => ?_))
   refine a_one 10 rfl rfl (by kernel_rfl) rfl (e_app (i := 1) (j := 0) Try.underlying22 I107 rfl (by decide) (by decide) rfl rfl rfl rfl rfl ha1517) (fun s w h => za3 [some 3, some 4] (by decide) w h rfl) (cur2 (fun A1518 c1519 => ?_))
   refine za5 11 rfl rfl rfl (by kernel_rfl) (fun _ _ _ h => h) (q_build (vs := [(0, .int .i64 a0_0), (1, .slice A1518 l1516.length c1519)]) (cs := [.int .i64 a0_0, .slice A1518 l1516.length c1519, .slice none 0 0]) rfl rfl) ?_
   refine a_one 13 rfl rfl (by kernel_rfl) rfl (zal (i := 2) rfl rfl rfl Z25 rfl rfl) (fun s w h => za3 [some 3, some 4] (by decide) w h rfl) (fun _ => ?_)
   refine zar (by kernel_rfl) ?_
   refine zas (l1516, g1636, A1518, c1519) h ⟨rfl, trivial⟩ (fun w h => za6 [4, 3, 2, 1] (by decide) rfl w h) ?_
   repeat (first | exact za7 _ _ | refine zad rfl ?_ | refine za8 rfl ?_ | refine zae rfl ?_)
 ·skip
  refine (cur4 (fun l907 g906 A908 c909 => fun U913 hJ914 => ?_))
  have e_ := Option.some.inj hJ914; have h := hR912; rw [← e_] at h; clear e_ hJ914 hR912 hl911
  refine c_seq ?_
  refine a_startS (ds := []) [some 0, none, some 2, some 3] MO rfl ?_
  refine zb0 0 rfl rfl rfl (by kernel_rfl) (fun _ _ _ h => h) (fun w h => za3 [some 0, none, some 2, some 3] (by decide) w h rfl) (q_ldB G25 Z25 rfl (fun w h => h.zaf (i := 2) rfl) rfl) ?_
  refine za5 1 rfl rfl rfl (by kernel_rfl) (fun _ _ _ h => h) (q_f F25_0 rfl) ?_
  refine zb0 2 rfl rfl rfl (by kernel_rfl) (fun _ _ _ h => h) (fun w h => za3 [some 0, none, some 2, some 3] (by decide) w h rfl) (q_ldb Y3 rfl (fun w h => h.zaf (i := 0) rfl) rfl) ?_
  refine za5 3 rfl rfl rfl (by kernel_rfl) (fun _ _ _ h => h) (q_f F25_1 rfl) ?_
  refine zb0 4 rfl rfl rfl (by kernel_rfl) (fun _ _ _ h => h) (fun w h => za3 [some 0, none, some 2, some 3] (by decide) w h rfl) (q_ldb Y22 rfl (fun w h => h.zaf (i := 0) rfl) rfl) ?_
  refine za5 5 rfl rfl rfl (by kernel_rfl) (fun _ _ _ h => h) (q_len Try.underlying22 rfl) ?_
  refine za5 6 rfl rfl rfl (by kernel_rfl) (fun _ _ _ h => h) (zaz rfl rfl) ?_
  refine a_one 7 rfl rfl (by kernel_rfl) rfl (zal (i := 1) rfl rfl rfl Z25 rfl rfl) (fun s w h => za3 [some 0, none, some 2, some 3] (by decide) w h rfl) (fun _ => ?_)
  refine za5 8 rfl rfl rfl (by kernel_rfl) (fun _ _ _ h => h) (q_asg rfl) ?_
  refine zar (by kernel_rfl) ?_
  refine za1 ?_
  refine c_ret ?_
  refine x_nil (Kd.int .i64) 3 ?_
  have e0_ := Option.some.inj h; clear h
  subst e0_
  exact x_r2 (A908, c909) Try.results110 (rv_cell rfl G25 Z25 (fun w h => h.zaf (i := 2) rfl) rfl) (zan rfl) rfl (fun w h => za6 [4, 0] (by decide) rfl w h)

/-! ### loop.example/g01098/spec.meEnd: function 112 -/
def spec_meEnd.f (a0_0 : Int) (l0_1 : List SStep) (l0_2 : List Int) (a1 : Int) : Option Unit := some ()
set_option maxHeartbeats 600000 in
set_option maxRecDepth 100000 in
theorem spec_meEnd.calls {w0 ws : World} {P0 : Nat → Prop} (a0_0 : Int) (A0_1 : Option Addr) (c0_1 : Nat) (n0_1 : Nat) (l0_1 : List SStep) (A0_2 : Option Addr) (c0_2 : Nat) (n0_2 : Nat) (l0_2 : List Int) (a1 : Int) (Z : Below w0.heap.size w0 ws) (hF : Fr w0 ws P0 [row kStep 107 (.slice A0_1 n0_1 c0_1) l0_1] ws) (R0_2 : Stable ws P0 (fun w => Kd.C (Kd.int .i64) w A0_2 n0_2 l0_2)) (hc0_2 : n0_2 ≤ c0_2)  (h : spec_meEnd.f a0_0 l0_1 l0_2 a1 = some ()) :
  Calls Try.prog 112 #[.agg #[.int .i64 a0_0, .slice A0_1 n0_1 c0_1, .slice A0_2 n0_2 c0_2], .int .i64 a1] ws (Post1 w0 ws P0 (fun ((q_1, q_2) : (Option Addr) × Nat) => .agg #[.int .i64 a0_0, .slice A0_1 n0_1 c0_1, .slice q_1 (([a1] : List Int).length) q_2]) (fun ((q_1, q_2) : (Option Addr) × Nat) => [row kStep 107 (.slice A0_1 n0_1 c0_1) l0_1, row (Kd.int .i64) 3 (.slice q_1 (([a1] : List Int).length) q_2) ([a1] : List Int)])) := by
 unfold spec_meEnd.f at h
 obtain rfl := (hF.row_C (i := 0) rfl).2.1
 obtain rfl := (R0_2 ws (KeptB.refl _ _)).1
 refine enter Try.func112 rfl Try.ntmps112 rfl hF ?_
 refine c_seq ?_
 refine za0 ?_
 refine o_e rfl (e_box rfl) (fun g1 => ?_)
 refine o_e rfl (zak V25 rfl) (fun g3 => ?_)
 refine o_end ?_
 refine za1 ?_
 refine c_seq ?_
 refine za0 ?_
 refine o_q rfl rfl (q_f F25_0 rfl) ?_
 refine o_q rfl rfl (q_ldb Y3 rfl (fun w h => h.zaf (i := 1) rfl) rfl) ?_
 refine o_q rfl rfl (q_f F25_1 rfl) ?_
 refine o_q rfl rfl (q_ldb Y22 rfl (fun w h => h.zaf (i := 1) rfl) rfl) ?_
 refine o_q rfl rfl (za2 rfl) ?_
 refine o_e rfl (e_lit (vs := [(0, .int .i64 a1)]) (cs := [.int .i64 a1]) (Kd.int .i64) ([a1] : List Int) Try.underlying23 I3 (by decide) rfl (by decide) rfl rfl (fun _ _ => Kd.zab _)) (cur2 (fun A5 c6 => ?_))
 refine o_q rfl rfl (q_build (vs := [(0, .int .i64 a0_0), (1, .slice A0_1 l0_1.length c0_1), (2, .slice A5 (([a1] : List Int).length) c6)]) (cs := [.int .i64 a0_0, .slice A0_1 l0_1.length c0_1, .slice A5 (([a1] : List Int).length) c6]) rfl rfl) ?_
 refine o_e rfl (zal (i := 1) rfl rfl rfl Z25 rfl rfl) (fun _ => ?_)
 refine o_end ?_
 refine za1 ?_
 refine c_ret ?_
 exact x_r1 (A5, c6) Try.results112 (rv_cell rfl G25 Z25 (fun w h => h.zaf (i := 1) rfl) rfl) rfl (fun w h => za6 [3, 0] (by decide) rfl w h)

/-! ### loop.example/g01098/spec.meBinary: function 83 -/
def spec_meBinary.l0 (l4 : List Int) : Nat → (List Int) → (List SStep) → Int → Int → Option ((List Int) × (List SStep) × Int)
 | 0, _, _, _, _ => none
 | k21 + 1, l11, l14, i17, i18 => if 0 ≤ i18 then ((spec_meTimes.f 1 l14 l11 i17 i17).bind fun l31 => (gt l4 i18).bind fun y36 => if y36 = 1 then ((spec_meTimes.f 1 l31 [] (w64 (1 + (l14.length : Int))) 0).bind fun l39 => spec_meBinary.l0 l4 k21 [] l39 (w64 (1 + (l31.length : Int))) (w64 (i18 - 1))) else (spec_meBinary.l0 l4 k21 [] l31 (w64 (1 + (l14.length : Int))) (w64 (i18 - 1)))) else (some (l11, l14, i17))
def spec_meBinary.f (k : Nat) (a0 : Int) : Option ((List SStep) × (List Int)) := (spec_meDigits.f k a0 2).bind fun l4 => (spec_meBinary.l0 l4 k ([] : List Int) ([] : List SStep) 0 (w64 ((l4.length : Int) - 2))).bind fun (l11, l14, i17) => (spec_meEnd.f 1 l14 l11 i17).bind fun _ => some (l14, ([i17] : List Int))
set_option maxHeartbeats 600000 in
set_option maxRecDepth 100000 in
theorem spec_meBinary.calls (k : Nat) {w0 ws : World} {P0 : Nat → Prop} (a0 : Int) (Z : Below w0.heap.size w0 ws) (hF : Fr w0 ws P0 [] ws)  (r_1 : List SStep) (r_4 : List Int) (h : spec_meBinary.f k a0 = some (r_1, r_4)) :
  Calls Try.prog 83 #[.int .i64 a0] ws (Post1 w0 ws P0 (fun ((q_2, q_3, q_5, q_6) : (Option Addr) × Nat × (Option Addr) × Nat) => .agg #[.int .i64 1, .slice q_2 r_1.length q_3, .slice q_5 r_4.length q_6]) (fun ((q_2, q_3, q_5, q_6) : (Option Addr) × Nat × (Option Addr) × Nat) => [row kStep 107 (.slice q_2 r_1.length q_3) r_1, row (Kd.int .i64) 3 (.slice q_5 r_4.length q_6) r_4])) := by
 unfold spec_meBinary.f at h
 refine enter Try.func83 rfl Try.ntmps83 rfl hF ?_
 refine c_seq ?_
 refine za0 ?_
 refine o_e rfl (zak V25 rfl) (fun g1 => ?_)
 refine o_end ?_
 refine za1 ?_
 refine c_seq ?_
 refine za0 ?_
 refine o_q rfl rfl (za2 rfl) ?_
 refine za9 h (fun l4 hx3 h => ?_) rfl
 refine o_e rfl (za4 0 Z Try.func108 N108 rfl rfl rfl (fun w P1 hF hB hS hT => spec_meDigits.calls k a0 2 hB hF _ hx3)) (cur2 (fun A5 c6 => ?_))
 refine o_q rfl rfl (q_asg rfl) ?_
 refine o_end ?_
 refine za1 ?_
 refine c_seq ?_
 refine za0 ?_
 refine o_q rfl rfl (q_build (vs := [(0, .int .i64 1)]) (cs := [.int .i64 1, .slice none 0 0, .slice none 0 0]) rfl rfl) ?_
 refine o_e rfl (zak V25 rfl) (fun g7 => ?_)
 refine o_e rfl (zal (i := 0) rfl rfl rfl Z25 rfl rfl) (fun _ => ?_)
 refine o_end ?_
 refine za1 ?_
 refine c_seq ?_
 refine za0 ?_
 refine o_q rfl rfl (q_asg rfl) ?_
 refine o_end ?_
 refine za1 ?_
 refine c_seq ?_
 refine c_seq ?_
 refine za0 ?_
 refine o_q rfl rfl (za2 rfl) ?_
 refine o_q rfl rfl (q_len Try.underlying23 rfl) ?_
 refine o_q rfl rfl (zb5 rfl rfl) ?_
 refine o_q rfl rfl (q_asg rfl) ?_
 refine o_end ?_
 refine za1 ?_
 refine zam ?_
 refine c_nil kStep 107 ?_
 refine c_nil (Kd.int .i64) 3 ?_
 refine za9 h (fun o26 hl25 hR24 => ?_) rfl
 clear h
 refine zb2 (σ := (List Int) × (List SStep) × Int × Int × (Option Addr) × Nat × (Option Addr) × Nat) (fun k21 ((l11, l14, i17, i18, A12, c13, A15, c16) : (List Int) × (List SStep) × Int × Int × (Option Addr) × Nat × (Option Addr) × Nat) => spec_meBinary.l0 l4 k21 l11 l14 i17 i18 = some o26) [5, 6, 13, 14, 15, 16, 17, 18, 19, 20, 21, 22, 23, 24, 25, 26, 27, 28, 29, 30, 31, 32, 33, 34] (fun ((l11, l14, i17, i18, A12, c13, A15, c16) : (List Int) × (List SStep) × Int × Int × (Option Addr) × Nat × (Option Addr) × Nat) => [(5, .int .i64 i17), (6, .int .i64 i18)]) (fun ((l11, l14, i17, i18, A12, c13, A15, c16) : (List Int) × (List SStep) × Int × Int × (Option Addr) × Nat × (Option Addr) × Nat) => [row (Kd.int .i64) 3 (.slice A12 l11.length c13) l11, row kStep 107 (.slice A15 l14.length c16) l14, box g7 25 #[.int .i64 1, .slice A15 l14.length c16, .slice A12 l11.length c13], row (Kd.int .i64) 3 (.slice A5 l4.length c6) l4, box g1 25 #[.int .i64 0, .slice none 0 0, .slice none 0 0]]) k (([] : List Int), ([] : List SStep), 0, w64 ((l4.length : Int) - 2), none, 0, none, 0) hl25 ⟨rfl, rfl, trivial⟩ (fun w h => h) ?_
 refine natC (cur8 (fun l11 l14 i17 i18 A12 c13 A15 c16 => fun U27 hJ_ => ?_)) (fun k21 => (cur8 (fun l11 l14 i17 i18 A12 c13 A15 c16 => fun U27 hJ_ => ?_)))
 ·skip
  replace hJ_ : spec_meBinary.l0 l4 0 l11 l14 i17 i18 = some o26 := hJ_
  rw [spec_meBinary.l0] at hJ_
  exact noneE hJ_
 ·skip
  clear hl25
  have h := hJ_; clear hJ_
  replace h : spec_meBinary.l0 l4 (k21 + 1) l11 l14 i17 i18 = some o26 := h
  rw [spec_meBinary.l0] at h
  refine c_seq ?_
  refine c_seq ?_
  refine za0 ?_
  refine o_q rfl rfl (za2 rfl) ?_
  refine o_q rfl rfl (q_geq rfl rfl) ?_
  refine o_end ?_
  refine za1 ?_
  refine zaw _ rfl (fun hb29 => ?_) (fun hb29 => ?_)
  ·skip
   replace h := br_t hb29 h
   refine zat ?_
   refine za1 ?_
   refine c_seq ?_
   refine zam ?_
   refine c_seq ?_
   refine za0 ?_
   refine o_q rfl rfl (q_ldB G25 Z25 rfl (fun w h => h.zaf (i := 2) rfl) rfl) ?_
   refine o_q rfl rfl (za2 rfl) ?_
   refine o_q rfl rfl (za2 rfl) ?_
   refine za9 h (fun l31 hx30 h => ?_) rfl
   refine o_e rfl (za4 0 Z Try.func110 N110 rfl rfl rfl (fun w P1 hF hB hS hT => spec_meTimes.calls 1 A15 c16 l14.length l14 A12 c13 l11.length l11 i17 i17 hB hF (hT 1 _ rfl).row (hT 1 _ rfl).cap (hT 0 _ rfl).row (hT 0 _ rfl).cap _ hx30)) (cur2 (fun A32 c33 => ?_))
   refine o_q rfl rfl (za2 rfl) ?_
   refine o_q rfl rfl (q_ext rfl rfl) ?_
   refine o_q rfl rfl (q_ext rfl rfl) ?_
   refine o_e rfl (zal (i := 4) rfl rfl rfl Z25 rfl rfl) (fun _ => ?_)
   refine o_q rfl rfl (q_asg rfl) ?_
   refine o_end ?_
   refine za1 ?_
   refine c_seq ?_
   refine za0 ?_
   refine o_q rfl rfl (za2 rfl) ?_
   refine o_q rfl rfl (za2 rfl) ?_
   refine zb7 (p := Sh A5 l4.length l4.length) (fun w h => f_sh (dk := (Kd.int .i64)) h (fun w h => h.zau (i := 5) rfl)) (fun hq34 => ?_)
   refine za9 h (fun y36 hg35 h => ?_) rfl
   refine o_q rfl rfl (q_ix Try.underlying23 Z3 rfl rfl hq34 hg35) ?_
   refine o_q rfl rfl (q_lde (off := 0) Y3 rfl rfl (fun w h => h.zau (i := 5) rfl) hg35 (fun _ _ h => h) rfl) ?_
   refine o_q rfl rfl (q_eql rfl rfl) ?_
   refine o_end ?_
   refine za1 ?_
   refine zaw _ rfl (fun hb37 => ?_) (fun hb37 => ?_)
   ·skip
    replace h := br_t hb37 h
    refine za0 ?_
    refine o_q rfl rfl (q_ldB G25 Z25 rfl (fun w h => h.zaf (i := 4) rfl) rfl) ?_
    refine o_q rfl rfl (za2 rfl) ?_
    refine za9 h (fun l39 hx38 h => ?_) rfl
    refine o_e rfl (za4 0 Z Try.func110 N110 rfl rfl rfl (fun w P1 hF hB hS hT => spec_meTimes.calls 1 A32 c33 l31.length l31 none 0 0 [] (w64 (1 + (l14.length : Int))) 0 hB hF (hT 0 _ rfl).row (hT 0 _ rfl).cap (hT 1 _ rfl).row (hT 1 _ rfl).cap _ hx38)) (cur2 (fun A40 c41 => ?_))
    refine o_q rfl rfl (za2 rfl) ?_
    refine o_q rfl rfl (q_ext rfl rfl) ?_
    refine o_q rfl rfl (q_ext rfl rfl) ?_
    refine o_e rfl (zal (i := 6) rfl rfl rfl Z25 rfl rfl) (fun _ => ?_)
    refine o_q rfl rfl (q_asg rfl) ?_
    refine o_end ?_
    refine zao ?_
    refine za1 ?_
    refine za0 ?_
    refine o_q rfl rfl (za2 rfl) ?_
    refine o_q rfl rfl (zb5 rfl rfl) ?_
    refine o_q rfl rfl (q_asg rfl) ?_
    refine o_end ?_
    refine x_fact (p := 0 = [].length) (fun w h => (h.row_C (i := 1) rfl).2.1) (fun hn42 => ?_)
    refine zaq k21 ([], l39, w64 (1 + (l31.length : Int)), w64 (i18 - 1), none, 0, A40, c41) (Nat.lt_succ_self _) h ⟨rfl, rfl, trivial⟩ (f_pickE (L1 := [row kStep 107 (.slice A40 l39.length c41) l39, row (Kd.int .i64) 3 (.slice none 0 0) [], row kStep 107 (.slice A32 l31.length c33) l31, row (Kd.int .i64) 3 (.slice none 0 0) [], row (Kd.int .i64) 3 (.slice A12 l11.length c13) l11, row kStep 107 (.slice A15 l14.length c16) l14, box g7 25 #[.int .i64 1, .slice A40 l39.length c41, .slice none 0 0], row (Kd.int .i64) 3 (.slice A5 l4.length c6) l4, box g1 25 #[.int .i64 0, .slice none 0 0, .slice none 0 0]]) rfl [1, 0, 6, 7, 8] (by decide) rfl (by (try rw [hn42]); first | done | rfl)) ?_
    repeat (first | exact za7 _ _ | refine zad rfl ?_ | refine za8 rfl ?_ | refine zae rfl ?_)
   ·skip
    replace h := br_f hb37 h
    refine zat ?_
    refine zao ?_
    refine za1 ?_
    refine za0 ?_
    refine o_q rfl rfl (za2 rfl) ?_
    refine o_q rfl rfl (zb5 rfl rfl) ?_
    refine o_q rfl rfl (q_asg rfl) ?_
    refine o_end ?_
    refine x_fact (p := 0 = [].length) (fun w h => (h.row_C (i := 1) rfl).2.1) (fun hn43 => ?_)
    refine zaq k21 ([], l31, w64 (1 + (l14.length : Int)), w64 (i18 - 1), none, 0, A32, c33) (Nat.lt_succ_self _) h ⟨rfl, rfl, trivial⟩ (f_pickE (L1 := [row kStep 107 (.slice A32 l31.length c33) l31, row (Kd.int .i64) 3 (.slice none 0 0) [], row (Kd.int .i64) 3 (.slice A12 l11.length c13) l11, row kStep 107 (.slice A15 l14.length c16) l14, box g7 25 #[.int .i64 1, .slice A32 l31.length c33, .slice none 0 0], row (Kd.int .i64) 3 (.slice A5 l4.length c6) l4, box g1 25 #[.int .i64 0, .slice none 0 0, .slice none 0 0]]) rfl [1, 0, 4, 5, 6] (by decide) rfl (by (try rw [hn43]); first | done | rfl)) ?_
    repeat (first | exact za7 _ _ | refine zad rfl ?_ | refine za8 rfl ?_ | refine zae rfl ?_)
  ·skip
   replace h := br_f hb29 h
   refine zb6 ?_
   refine zaa ?_
   refine zaa ?_
   have e_ := Option.some.inj h; replace h := hR24; rw [← e_] at h; clear e_
   refine x_hit ?_
   refine za1 ?_
   refine c_seq ?_
   refine za0 ?_
   refine o_q rfl rfl (q_ldB G25 Z25 rfl (fun w h => h.zaf (i := 2) rfl) rfl) ?_
   refine o_q rfl rfl (za2 rfl) ?_
   refine o_pick [1, 0, 2, 3, 4] (by decide) rfl ?_
   refine za9 h (fun _ hx44 h => ?_) rfl
   refine o_e rfl (za4 1 Z Try.func112 N112 rfl rfl rfl (fun w P1 hF hB hS hT => spec_meEnd.calls 1 A15 c16 l14.length l14 A12 c13 l11.length l11 i17 hB hF (hT 0 _ rfl).row (hT 0 _ rfl).cap hx44)) (cur2 (fun A45 c46 => ?_))
   refine o_e rfl (zal (i := 5) rfl rfl rfl Z25 rfl rfl) (fun _ => ?_)
   refine o_end ?_
   refine za1 ?_
   refine c_ret ?_
   have e0_ := Option.some.inj h; clear h
   have d0_ := (Prod.mk.inj e0_).1; have e1_ := (Prod.mk.inj e0_).2; clear e0_; subst d0_
   subst e1_
   exact x_r1 (A15, c16, A45, c46) Try.results83 (rv_cell rfl G25 Z25 (fun w h => h.zaf (i := 5) rfl) rfl) rfl (fun w h => za6 [0, 1] (by decide) rfl w h)

/-! ### loop.example/g01098/spec.meRight: function 121 -/
def spec_meRight.l0 (l4 : List Int) : (List Int) → (List Int) → (List SStep) → Int → Int → Int → Option ((List Int) × (List SStep) × Int)
 | [], l11, l14, i17, i18, i19 => some (l11, l14, i19)
 | y20 :: ys21, l11, l14, i17, i18, i19 => ((if y20 = 1 then (some (decide (0 ≤ i19))) else (some false)).bind fun b61 => if b61 = true then ((spec_meTimes.f 1 l14 l11 i19 i18).bind fun l70 => some (l70, [], w64 (1 + (l14.length : Int)))) else (if y20 = 1 then (some (l14, l11, i18)) else (some (l14, l11, i19)))).bind fun (l48, l51, i54) => if i17 < w64 ((l4.length : Int) - 1) then ((spec_meTimes.f 1 l48 l51 i18 i18).bind fun l77 => spec_meRight.l0 l4 ys21 [] l77 (i17 + 1) (w64 (1 + (l48.length : Int))) i54) else (spec_meRight.l0 l4 ys21 l51 l48 (i17 + 1) i18 i54)
def spec_meRight.f (k : Nat) (a0 : Int) : Option ((List SStep) × (List Int)) := (spec_meDigits.f k a0 2).bind fun l4 => (spec_meRight.l0 l4 l4 ([] : List Int) ([] : List SStep) 0 0 (-1)).bind fun (l11, l14, i19) => (spec_meEnd.f 1 l14 l11 i19).bind fun _ => some (l14, ([i19] : List Int))
set_option maxHeartbeats 600000 in
set_option maxRecDepth 100000 in
theorem spec_meRight.calls (k : Nat) {w0 ws : World} {P0 : Nat → Prop} (a0 : Int) (Z : Below w0.heap.size w0 ws) (hF : Fr w0 ws P0 [] ws)  (r_1 : List SStep) (r_4 : List Int) (h : spec_meRight.f k a0 = some (r_1, r_4)) :
  Calls Try.prog 121 #[.int .i64 a0] ws (Post1 w0 ws P0 (fun ((q_2, q_3, q_5, q_6) : (Option Addr) × Nat × (Option Addr) × Nat) => .agg #[.int .i64 1, .slice q_2 r_1.length q_3, .slice q_5 r_4.length q_6]) (fun ((q_2, q_3, q_5, q_6) : (Option Addr) × Nat × (Option Addr) × Nat) => [row kStep 107 (.slice q_2 r_1.length q_3) r_1, row (Kd.int .i64) 3 (.slice q_5 r_4.length q_6) r_4])) := by
 unfold spec_meRight.f at h
 refine enter Try.func121 rfl Try.ntmps121 rfl hF ?_
 refine c_seq ?_
 refine za0 ?_
 refine o_e rfl (zak V25 rfl) (fun g1 => ?_)
 refine o_end ?_
 refine za1 ?_
 refine c_seq ?_
 refine za0 ?_
 refine o_q rfl rfl (za2 rfl) ?_
 refine za9 h (fun l4 hx3 h => ?_) rfl
 refine o_e rfl (za4 0 Z Try.func108 N108 rfl rfl rfl (fun w P1 hF hB hS hT => spec_meDigits.calls k a0 2 hB hF _ hx3)) (cur2 (fun A5 c6 => ?_))
 refine o_q rfl rfl (q_asg rfl) ?_
 refine o_end ?_
 refine za1 ?_
 refine c_seq ?_
 refine za0 ?_
 refine o_q rfl rfl (q_build (vs := [(0, .int .i64 1)]) (cs := [.int .i64 1, .slice none 0 0, .slice none 0 0]) rfl rfl) ?_
 refine o_e rfl (zak V25 rfl) (fun g7 => ?_)
 refine o_e rfl (zal (i := 0) rfl rfl rfl Z25 rfl rfl) (fun _ => ?_)
 refine o_end ?_
 refine za1 ?_
 refine c_seq ?_
 refine za0 ?_
 refine o_q rfl rfl (q_asg rfl) ?_
 refine o_q rfl rfl (q_asg rfl) ?_
 refine o_end ?_
 refine za1 ?_
 refine c_seq ?_
 refine c_seq ?_
 refine za0 ?_
 refine o_q rfl rfl (za2 rfl) ?_
 refine o_q rfl rfl (q_len Try.underlying23 rfl) ?_
 refine o_q rfl rfl (za2 rfl) ?_
 refine o_end ?_
 refine za1 ?_
 refine zam ?_
 refine c_nil kStep 107 ?_
 refine c_nil (Kd.int .i64) 3 ?_
 refine za9 h (fun o27 hl26 hR25 => ?_) rfl
 clear h
 refine c_fact (p := l4.length ≤ 9223372036854775807) (fun w h => (h.zau (i := 3) rfl).2.1) (fun hm24 => ?_)
 refine zb2 (σ := (List Int) × (List Int) × (List SStep) × Int × Int × Int × (Option Addr) × Nat × (Option Addr) × Nat) (fun k22 ((ys21, l11, l14, i17, i18, i19, A12, c13, A15, c16) : (List Int) × (List Int) × (List SStep) × Int × Int × Int × (Option Addr) × Nat × (Option Addr) × Nat) => Rg l4 i17 ys21 ∧ ys21.length = k22 ∧ spec_meRight.l0 l4 ys21 l11 l14 i17 i18 i19 = some o27) [5, 6, 7, 8, 14, 15, 16, 17, 18, 19, 20, 21, 22, 23, 24, 25, 26, 27, 28, 29, 30, 31, 32, 33, 34, 35, 36, 37, 38, 39, 40, 41, 42, 43, 44, 45, 46, 47] (fun ((ys21, l11, l14, i17, i18, i19, A12, c13, A15, c16) : (List Int) × (List Int) × (List SStep) × Int × Int × Int × (Option Addr) × Nat × (Option Addr) × Nat) => [(5, .int .i64 i18), (6, .int .i64 i19), (14, .int .i64 i17)]) (fun ((ys21, l11, l14, i17, i18, i19, A12, c13, A15, c16) : (List Int) × (List Int) × (List SStep) × Int × Int × Int × (Option Addr) × Nat × (Option Addr) × Nat) => [row (Kd.int .i64) 3 (.slice A12 l11.length c13) l11, row kStep 107 (.slice A15 l14.length c16) l14, box g7 25 #[.int .i64 1, .slice A15 l14.length c16, .slice A12 l11.length c13], row (Kd.int .i64) 3 (.slice A5 l4.length c6) l4, box g1 25 #[.int .i64 0, .slice none 0 0, .slice none 0 0]]) l4.length (l4, ([] : List Int), ([] : List SStep), 0, 0, (-1), none, 0, none, 0) ⟨Rg.start _, rfl, hl26⟩ ⟨rfl, rfl, rfl, trivial⟩ (fun w h => h) ?_
 refine fun k22 => cur10 (listC (fun l11 l14 i17 i18 i19 A12 c13 A15 c16 U28 hJ_ => ?_) (fun y20 ys21 l11 l14 i17 i18 i19 A12 c13 A15 c16 U28 hJ_ => ?_))
 ·skip
  clear hl26
  have hr23 := hJ_.1; have hk29 := hJ_.2.1; have h := hJ_.2.2; clear hJ_
  replace h : spec_meRight.l0 l4 [] l11 l14 i17 i18 i19 = some o27 := h
  rw [spec_meRight.l0] at h
  refine c_seq ?_
  refine za0 ?_
  refine o_q rfl rfl (q_lss rfl rfl) ?_
  refine o_end ?_
  refine za1 ?_
  refine c_seq ?_
  refine c_false (congrArg Value.bool hr23.ge) ?_
  refine zb6 ?_
  refine zaa ?_
  refine zaa ?_
  have e_ := Option.some.inj h; replace h := hR25; rw [← e_] at h; clear e_
  refine x_hit ?_
  refine za1 ?_
  refine c_seq ?_
  refine za0 ?_
  refine o_q rfl rfl (q_ldB G25 Z25 rfl (fun w h => h.zaf (i := 2) rfl) rfl) ?_
  refine o_q rfl rfl (za2 rfl) ?_
  refine o_pick [1, 0, 2, 3, 4] (by decide) rfl ?_
  refine za9 h (fun _ hx30 h => ?_) rfl
  refine o_e rfl (za4 1 Z Try.func112 N112 rfl rfl rfl (fun w P1 hF hB hS hT => spec_meEnd.calls 1 A15 c16 l14.length l14 A12 c13 l11.length l11 i19 hB hF (hT 0 _ rfl).row (hT 0 _ rfl).cap hx30)) (cur2 (fun A31 c32 => ?_))
  refine o_e rfl (zal (i := 5) rfl rfl rfl Z25 rfl rfl) (fun _ => ?_)
  refine o_end ?_
  refine za1 ?_
  refine c_ret ?_
  have e0_ := Option.some.inj h; clear h
  have d0_ := (Prod.mk.inj e0_).1; have e1_ := (Prod.mk.inj e0_).2; clear e0_; subst d0_
  subst e1_
  exact x_r1 (A15, c16, A31, c32) Try.results121 (rv_cell rfl G25 Z25 (fun w h => h.zaf (i := 5) rfl) rfl) rfl (fun w h => za6 [0, 1] (by decide) rfl w h)
 ·skip
  clear hl26
  have hr23 := hJ_.1; have hk29 := hJ_.2.1; have h := hJ_.2.2; clear hJ_
  replace h : spec_meRight.l0 l4 (y20 :: ys21) l11 l14 i17 i18 i19 = some o27 := h
  rw [spec_meRight.l0] at h
  refine c_seq ?_
  refine za0 ?_
  refine o_q rfl rfl (q_lss rfl rfl) ?_
  refine o_end ?_
  refine za1 ?_
  refine c_seq ?_
  refine zb9 (congrArg Value.bool hr23.lt) ?_
  refine zat ?_
  refine za1 ?_
  refine c_seq ?_
  refine zam ?_
  refine c_seq ?_
  refine za0 ?_
  refine o_q rfl rfl (za2 rfl) ?_
  refine zb7 (p := Sh A5 l4.length l4.length) (fun w h => f_sh (dk := (Kd.int .i64)) h (fun w h => h.zau (i := 3) rfl)) (fun hq33 => ?_)
  refine o_q rfl rfl (q_ix Try.underlying23 Z3 rfl rfl hq33 hr23.get) ?_
  refine o_q rfl rfl (q_lde (off := 0) Y3 rfl rfl (fun w h => h.zau (i := 3) rfl) hr23.get (fun _ _ h => h) rfl) ?_
  refine o_q rfl rfl (q_asg rfl) ?_
  refine o_q rfl rfl (q_asg rfl) ?_
  refine o_end ?_
  refine za1 ?_
  refine za9 h (fun o55 hl56 hR57 => ?_) rfl
  clear h
  refine c_cutJ (σ := (List SStep) × (List Int) × Int × (Option Addr) × Nat × (Option Addr) × Nat) (fun (l48, l51, i54, A49, c50, A52, c53) => some (l48, l51, i54) = some o55) [6, 19, 20, 21, 22, 23, 24, 25, 26, 27, 28, 29, 30, 31, 32, 33, 34] (fun (l48, l51, i54, A49, c50, A52, c53) => [(6, .int .i64 i54)]) (fun (l48, l51, i54, A49, c50, A52, c53) => [box g1 25 #[.int .i64 0, .slice none 0 0, .slice none 0 0], row (Kd.int .i64) 3 (.slice A5 l4.length c6) l4, box g7 25 #[.int .i64 1, .slice A49 l48.length c50, .slice A52 l51.length c53], row kStep 107 (.slice A49 l48.length c50) l48, row (Kd.int .i64) 3 (.slice A52 l51.length c53) l51]) ?_ ?_
  ·skip
   have h := hl56; clear hl56
   clear hR57
   refine za9 h (fun o62 hl63 hR64 => ?_) rfl
   clear h
   refine c_cutJ (σ := Bool) (fun b61 => some b61 = some o62) [19, 20, 21, 22, 23, 24] (fun b61 => [(24, .bool b61)]) (fun b61 => [box g1 25 #[.int .i64 0, .slice none 0 0, .slice none 0 0], row (Kd.int .i64) 3 (.slice A5 l4.length c6) l4, box g7 25 #[.int .i64 1, .slice A15 l14.length c16, .slice A12 l11.length c13], row kStep 107 (.slice A15 l14.length c16) l14, row (Kd.int .i64) 3 (.slice A12 l11.length c13) l11]) ?_ ?_
   ·skip
    have h := hl63; clear hl63
    clear hR64
    refine za0 ?_
    refine o_q rfl rfl (za2 rfl) ?_
    refine o_q rfl rfl (q_eql rfl rfl) ?_
    refine o_q rfl rfl (za2 rfl) ?_
    refine byB (decide (y20 = 1)) (fun hb67 => ?_) (fun hb67 => ?_)
    ·replace h := br_t hb67 h
     refine o_w (zai rfl rfl rfl (congrArg Value.bool hb67)) rfl (za2 rfl) ?_
     refine o_w (zai rfl rfl rfl (congrArg Value.bool hb67)) rfl (q_geq rfl rfl) ?_
     refine o_q rfl rfl (zb1 true (congrArg Value.bool hb67) rfl) ?_
     refine o_end ?_
     refine zas (decide (0 ≤ i19)) h ⟨rfl, trivial⟩ (fun w h => za6 [4, 3, 2, 1, 0] (by decide) rfl w h) ?_
     repeat (first | exact za7 _ _ | refine zad rfl ?_ | refine za8 rfl ?_ | refine zae rfl ?_)
    ·replace h := br_f hb67 h
     refine @o_n _ _ _ _ _ _ _ _ _ _ _ 22 (zac rfl rfl rfl (congrArg Value.bool hb67) rfl) (Eq.refl (some 22)) ?_
     refine @o_n _ _ _ _ _ _ _ _ _ _ _ 23 (zac rfl rfl rfl (congrArg Value.bool hb67) rfl) (Eq.refl (some 23)) ?_
     refine o_q rfl rfl (zb1 false (congrArg Value.bool hb67) rfl) ?_
     refine o_end ?_
     refine zas false h ⟨rfl, trivial⟩ (fun w h => za6 [4, 3, 2, 1, 0] (by decide) rfl w h) ?_
     repeat (first | exact za7 _ _ | refine zad rfl ?_ | refine za8 rfl ?_ | refine zae rfl ?_)
   ·skip
    refine (fun b61 => fun U65 hJ66 => ?_)
    have e_ := Option.some.inj hJ66; have h := hR64; rw [← e_] at h; clear e_ hJ66 hR64 hl63
    refine zaw _ rfl (fun hb68 => ?_) (fun hb68 => ?_)
    ·skip
     replace h := bb_t hb68 h
     refine za0 ?_
     refine o_q rfl rfl (q_ldB G25 Z25 rfl (fun w h => h.zaf (i := 2) rfl) rfl) ?_
     refine o_q rfl rfl (za2 rfl) ?_
     refine o_q rfl rfl (za2 rfl) ?_
     refine za9 h (fun l70 hx69 h => ?_) rfl
     refine o_e rfl (za4 0 Z Try.func110 N110 rfl rfl rfl (fun w P1 hF hB hS hT => spec_meTimes.calls 1 A15 c16 l14.length l14 A12 c13 l11.length l11 i19 i18 hB hF (hT 3 _ rfl).row (hT 3 _ rfl).cap (hT 4 _ rfl).row (hT 4 _ rfl).cap _ hx69)) (cur2 (fun A71 c72 => ?_))
     refine o_q rfl rfl (za2 rfl) ?_
     refine o_q rfl rfl (q_ext rfl rfl) ?_
     refine o_q rfl rfl (q_ext rfl rfl) ?_
     refine o_e rfl (zal (i := 4) rfl rfl rfl Z25 rfl rfl) (fun _ => ?_)
     refine o_q rfl rfl (q_asg rfl) ?_
     refine o_end ?_
     refine x_fact (p := 0 = [].length) (fun w h => (h.row_C (i := 1) rfl).2.1) (fun hn73 => ?_)
     refine zas (l70, [], w64 (1 + (l14.length : Int)), A71, c72, none, 0) h ⟨rfl, trivial⟩ (f_pickE (L1 := [row kStep 107 (.slice A71 l70.length c72) l70, row (Kd.int .i64) 3 (.slice none 0 0) [], box g1 25 #[.int .i64 0, .slice none 0 0, .slice none 0 0], row (Kd.int .i64) 3 (.slice A5 l4.length c6) l4, box g7 25 #[.int .i64 1, .slice A71 l70.length c72, .slice none 0 0], row kStep 107 (.slice A15 l14.length c16) l14, row (Kd.int .i64) 3 (.slice A12 l11.length c13) l11]) rfl [2, 3, 4, 0, 1] (by decide) rfl (by (try rw [hn73]); first | done | rfl)) ?_
     repeat (first | exact za7 _ _ | refine zad rfl ?_ | refine za8 rfl ?_ | refine zae rfl ?_)
    ·skip
     replace h := bb_f hb68 h
     refine c_seq ?_
     refine za0 ?_
     refine o_q rfl rfl (za2 rfl) ?_
     refine o_q rfl rfl (q_eql rfl rfl) ?_
     refine o_end ?_
     refine za1 ?_
     refine zaw _ rfl (fun hb74 => ?_) (fun hb74 => ?_)
     ·skip
      replace h := br_t hb74 h
      refine za0 ?_
      refine o_q rfl rfl (za2 rfl) ?_
      refine o_q rfl rfl (q_asg rfl) ?_
      refine o_end ?_
      refine zas (l14, l11, i18, A15, c16, A12, c13) h ⟨rfl, trivial⟩ (fun w h => za6 [0, 1, 2, 3, 4] (by decide) rfl w h) ?_
      repeat (first | exact za7 _ _ | refine zad rfl ?_ | refine za8 rfl ?_ | refine zae rfl ?_)
     ·skip
      replace h := br_f hb74 h
      refine zat ?_
      refine zas (l14, l11, i19, A15, c16, A12, c13) h ⟨rfl, trivial⟩ (fun w h => za6 [0, 1, 2, 3, 4] (by decide) rfl w h) ?_
      repeat (first | exact za7 _ _ | refine zad rfl ?_ | refine za8 rfl ?_ | refine zae rfl ?_)
  ·skip
   refine (cur7 (fun l48 l51 i54 A49 c50 A52 c53 => fun U58 hJ59 => ?_))
   have e_ := Option.some.inj hJ59; have h := hR57; rw [← e_] at h; clear e_ hJ59 hR57 hl56
   refine c_seq ?_
   refine za0 ?_
   refine o_q rfl rfl (za2 rfl) ?_
   refine o_q rfl rfl (za2 rfl) ?_
   refine o_q rfl rfl (q_len Try.underlying23 rfl) ?_
   refine o_q rfl rfl (zb5 rfl rfl) ?_
   refine o_q rfl rfl (q_lss rfl rfl) ?_
   refine o_end ?_
   refine za1 ?_
   refine zaw _ rfl (fun hb75 => ?_) (fun hb75 => ?_)
   ·skip
    replace h := br_t hb75 h
    refine za0 ?_
    refine o_q rfl rfl (q_ldB G25 Z25 rfl (fun w h => h.zaf (i := 2) rfl) rfl) ?_
    refine o_q rfl rfl (za2 rfl) ?_
    refine o_q rfl rfl (za2 rfl) ?_
    refine za9 h (fun l77 hx76 h => ?_) rfl
    refine o_e rfl (za4 0 Z Try.func110 N110 rfl rfl rfl (fun w P1 hF hB hS hT => spec_meTimes.calls 1 A49 c50 l48.length l48 A52 c53 l51.length l51 i18 i18 hB hF (hT 3 _ rfl).row (hT 3 _ rfl).cap (hT 4 _ rfl).row (hT 4 _ rfl).cap _ hx76)) (cur2 (fun A78 c79 => ?_))
    refine o_q rfl rfl (za2 rfl) ?_
    refine o_q rfl rfl (q_ext rfl rfl) ?_
    refine o_q rfl rfl (q_ext rfl rfl) ?_
    refine o_e rfl (zal (i := 4) rfl rfl rfl Z25 rfl rfl) (fun _ => ?_)
    refine o_q rfl rfl (q_asg rfl) ?_
    refine o_end ?_
    refine zao ?_
    refine za1 ?_
    refine za0 ?_
    refine o_q rfl rfl (q_up rfl rfl (hr23.up hm24)) ?_
    refine o_q rfl rfl (za2 rfl) ?_
    refine o_end ?_
    refine x_fact (p := 0 = [].length) (fun w h => (h.row_C (i := 1) rfl).2.1) (fun hn80 => ?_)
    refine zaq ys21.length (ys21, [], l77, i17 + 1, w64 (1 + (l48.length : Int)), i54, none, 0, A78, c79) (by rw [← hk29]; exact Nat.lt_succ_self _) ⟨hr23.step, rfl, h⟩ ⟨rfl, rfl, rfl, trivial⟩ (f_pickE (L1 := [row kStep 107 (.slice A78 l77.length c79) l77, row (Kd.int .i64) 3 (.slice none 0 0) [], box g1 25 #[.int .i64 0, .slice none 0 0, .slice none 0 0], row (Kd.int .i64) 3 (.slice A5 l4.length c6) l4, box g7 25 #[.int .i64 1, .slice A78 l77.length c79, .slice none 0 0], row kStep 107 (.slice A49 l48.length c50) l48, row (Kd.int .i64) 3 (.slice A52 l51.length c53) l51]) rfl [1, 0, 4, 3, 2] (by decide) rfl (by (try rw [hn80]); first | done | rfl)) ?_
    repeat (first | exact za7 _ _ | refine zad rfl ?_ | refine za8 rfl ?_ | refine zae rfl ?_)
   ·skip
    replace h := br_f hb75 h
    refine zat ?_
    refine zao ?_
    refine za1 ?_
    refine za0 ?_
    refine o_q rfl rfl (q_up rfl rfl (hr23.up hm24)) ?_
    refine o_q rfl rfl (za2 rfl) ?_
    refine o_end ?_
    refine zaq ys21.length (ys21, l51, l48, i17 + 1, i18, i54, A52, c53, A49, c50) (by rw [← hk29]; exact Nat.lt_succ_self _) ⟨hr23.step, rfl, h⟩ ⟨rfl, rfl, rfl, trivial⟩ (fun w h => za6 [4, 3, 2, 1, 0] (by decide) rfl w h) ?_
    repeat (first | exact za7 _ _ | refine zad rfl ?_ | refine za8 rfl ?_ | refine zae rfl ?_)

/-! ### loop.example/g01098/spec.meGreatest: function 109 -/
def spec_meGreatest.l0 : (List Int) → Int → Int → Option Int
 | [], i1, i2 => some i1
 | y3 :: ys4, i1, i2 => (spec_l1Most.f i1 y3).bind fun i15 => spec_meGreatest.l0 ys4 i15 (i2 + 1)
def spec_meGreatest.f (l0 : List Int) : Option Int := (spec_meGreatest.l0 l0 0 0).bind fun i1 => some i1
set_option maxHeartbeats 600000 in
set_option maxRecDepth 100000 in
theorem spec_meGreatest.calls {w0 ws : World} {P0 : Nat → Prop} (A0 : Option Addr) (c0 : Nat) (n0 : Nat) (l0 : List Int) (Z : Below w0.heap.size w0 ws) (hF : Fr w0 ws P0 [] ws) (R0 : Stable ws P0 (fun w => Kd.C (Kd.int .i64) w A0 n0 l0)) (hc0 : n0 ≤ c0) (r_1 : Int) (h : spec_meGreatest.f l0 = some r_1) :
  Calls Try.prog 109 #[.slice A0 n0 c0] ws (Post1 w0 ws P0 (fun (_ : Unit) => .int .i64 r_1) (fun (_ : Unit) => [])) := by
 unfold spec_meGreatest.f at h
 obtain rfl := (R0 ws (KeptB.refl _ _)).1
 refine enter Try.func109 rfl Try.ntmps109 rfl hF ?_
 refine c_seq ?_
 refine za0 ?_
 refine o_q rfl rfl (q_asg rfl) ?_
 refine o_end ?_
 refine za1 ?_
 refine c_seq ?_
 refine za0 ?_
 refine o_q rfl rfl (q_asg rfl) ?_
 refine o_end ?_
 refine za1 ?_
 refine c_seq ?_
 refine c_seq ?_
 refine za0 ?_
 refine o_q rfl rfl (za2 rfl) ?_
 refine o_q rfl rfl (q_len Try.underlying23 rfl) ?_
 refine o_q rfl rfl (za2 rfl) ?_
 refine o_end ?_
 refine za1 ?_
 refine zam ?_
 refine za9 h (fun o10 hl9 hR8 => ?_) rfl
 clear h
 refine c_fact (p := l0.length ≤ 9223372036854775807) (fun w h => (R0.now Z h).2.1) (fun hm7 => ?_)
 refine zb2 (σ := (List Int) × Int × Int) (fun k5 ((ys4, i1, i2) : (List Int) × Int × Int) => Rg l0 i2 ys4 ∧ ys4.length = k5 ∧ spec_meGreatest.l0 ys4 i1 i2 = some o10) [3, 5, 8, 9, 10, 11, 12, 13, 14, 15] (fun ((ys4, i1, i2) : (List Int) × Int × Int) => [(3, .int .i64 i1), (8, .int .i64 i2)]) (fun ((ys4, i1, i2) : (List Int) × Int × Int) => []) l0.length (l0, 0, 0) ⟨Rg.start _, rfl, hl9⟩ ⟨rfl, rfl, trivial⟩ (fun w h => h) ?_
 refine fun k5 => cur3 (listC (fun i1 i2 U11 hJ_ => ?_) (fun y3 ys4 i1 i2 U11 hJ_ => ?_))
 ·skip
  clear hl9
  have hr6 := hJ_.1; have hk12 := hJ_.2.1; have h := hJ_.2.2; clear hJ_
  replace h : spec_meGreatest.l0 [] i1 i2 = some o10 := h
  rw [spec_meGreatest.l0] at h
  refine c_seq ?_
  refine za0 ?_
  refine o_q rfl rfl (q_lss rfl rfl) ?_
  refine o_end ?_
  refine za1 ?_
  refine c_seq ?_
  refine c_false (congrArg Value.bool hr6.ge) ?_
  refine zb6 ?_
  refine zaa ?_
  refine zaa ?_
  have e_ := Option.some.inj h; replace h := hR8; rw [← e_] at h; clear e_
  refine x_hit ?_
  refine za1 ?_
  refine c_seq ?_
  refine za0 ?_
  refine o_q rfl rfl (za2 rfl) ?_
  refine o_q rfl rfl (q_asg rfl) ?_
  refine o_end ?_
  refine za1 ?_
  refine c_ret ?_
  have e0_ := Option.some.inj h; clear h
  subst e0_
  exact x_r1 () Try.results109 (zan rfl) rfl (fun w h => za6 [] (by decide) rfl w h)
 ·skip
  clear hl9
  have hr6 := hJ_.1; have hk12 := hJ_.2.1; have h := hJ_.2.2; clear hJ_
  replace h : spec_meGreatest.l0 (y3 :: ys4) i1 i2 = some o10 := h
  rw [spec_meGreatest.l0] at h
  refine c_seq ?_
  refine za0 ?_
  refine o_q rfl rfl (q_lss rfl rfl) ?_
  refine o_end ?_
  refine za1 ?_
  refine c_seq ?_
  refine zb9 (congrArg Value.bool hr6.lt) ?_
  refine zat ?_
  refine za1 ?_
  refine c_seq ?_
  refine zam ?_
  refine c_seq ?_
  refine za0 ?_
  refine zb7 (p := Sh A0 l0.length l0.length) (fun w h => f_sh (dk := (Kd.int .i64)) h (fun w h => R0.now Z h)) (fun hq13 => ?_)
  refine o_q rfl rfl (q_ix Try.underlying23 Z3 rfl rfl hq13 hr6.get) ?_
  refine o_q rfl rfl (q_lde (off := 0) Y3 rfl rfl (fun w h => R0.now Z h) hr6.get (fun _ _ h => h) rfl) ?_
  refine o_q rfl rfl (q_asg rfl) ?_
  refine o_end ?_
  refine za1 ?_
  refine za0 ?_
  refine o_q rfl rfl (za2 rfl) ?_
  refine o_q rfl rfl (za2 rfl) ?_
  refine za9 h (fun i15 hx14 h => ?_) rfl
  refine o_e rfl (za4 0 Z Try.func88 N88 rfl rfl rfl (fun w P1 hF hB hS hT => spec_l1Most.calls i1 y3 hB hF _ hx14)) (fun _ => ?_)
  refine o_q rfl rfl (q_asg rfl) ?_
  refine o_end ?_
  refine zao ?_
  refine za1 ?_
  refine za0 ?_
  refine o_q rfl rfl (q_up rfl rfl (hr6.up hm7)) ?_
  refine o_q rfl rfl (za2 rfl) ?_
  refine o_end ?_
  refine zaq ys4.length (ys4, i15, i2 + 1) (by rw [← hk12]; exact Nat.lt_succ_self _) ⟨hr6.step, rfl, h⟩ ⟨rfl, rfl, trivial⟩ (fun w h => za6 [] (by decide) rfl w h) ?_
  repeat (first | exact za7 _ _ | refine zad rfl ?_ | refine za8 rfl ?_ | refine zae rfl ?_)

/-! ### loop.example/g01098/spec.l1Own: function 98 -/
def spec_l1Own.f (l0 : List Int) : Option (List Int) := (ap ([] : List Int) l0).bind fun l4 => some l4
set_option maxHeartbeats 600000 in
set_option maxRecDepth 100000 in
theorem spec_l1Own.calls {w0 ws : World} {P0 : Nat → Prop} (A0 : Option Addr) (c0 : Nat) (n0 : Nat) (l0 : List Int) (Z : Below w0.heap.size w0 ws) (hF : Fr w0 ws P0 [] ws) (R0 : Stable ws P0 (fun w => Kd.C (Kd.int .i64) w A0 n0 l0)) (hc0 : n0 ≤ c0) (r_1 : List Int) (h : spec_l1Own.f l0 = some r_1) :
  Calls Try.prog 98 #[.slice A0 n0 c0] ws (Post1 w0 ws P0 (fun ((q_2, q_3) : (Option Addr) × Nat) => .slice q_2 r_1.length q_3) (fun ((q_2, q_3) : (Option Addr) × Nat) => [row (Kd.int .i64) 3 (.slice q_2 r_1.length q_3) r_1])) := by
 unfold spec_l1Own.f at h
 obtain rfl := (R0 ws (KeptB.refl _ _)).1
 refine enter Try.func98 rfl Try.ntmps98 rfl hF ?_
 refine c_seq ?_
 refine za0 ?_
 refine o_q rfl rfl (q_asg rfl) ?_
 refine o_end ?_
 refine za1 ?_
 refine c_seq ?_
 refine za0 ?_
 refine o_e rfl (e_lit0 (Kd.int .i64) Try.underlying23 I3) (cur2 (fun A1 c2 => ?_))
 refine o_q rfl rfl (za2 rfl) ?_
 refine za9 h (fun l4 ha5 h => ?_) rfl
 refine o_e rfl (e_appr (i := 0) Try.underlying23 I3 rfl (by decide) (by decide) (fun _ _ _ _ h => h) rfl (fun w h => R0.now Z h) rfl rfl ha5) (cur2 (fun A6 c7 => ?_))
 refine o_q rfl rfl (q_asg rfl) ?_
 refine o_end ?_
 refine za1 ?_
 refine c_ret ?_
 have e0_ := Option.some.inj h; clear h
 subst e0_
 exact x_r1 (A6, c7) Try.results98 (zan rfl) rfl (fun w h => za6 [0] (by decide) rfl w h)

/-! ### loop.example/g01098/spec.l1Has: function 161 -/
def spec_l1Has.l0 (a1 : Int) : (List Int) → Int → Option ((Bool) ⊕ (Unit))
 | [], i1 => some (.inr ())
 | y2 :: ys3, i1 => if y2 = a1 then (some (.inl true)) else (spec_l1Has.l0 a1 ys3 (i1 + 1))
def spec_l1Has.f (l0 : List Int) (a1 : Int) : Option Bool := (spec_l1Has.l0 a1 l0 0).bind fun o_ => match o_ with | .inl r_ => some r_ | .inr _ => some false
set_option maxHeartbeats 600000 in
set_option maxRecDepth 100000 in
theorem spec_l1Has.calls {w0 ws : World} {P0 : Nat → Prop} (A0 : Option Addr) (c0 : Nat) (n0 : Nat) (l0 : List Int) (a1 : Int) (Z : Below w0.heap.size w0 ws) (hF : Fr w0 ws P0 [] ws) (R0 : Stable ws P0 (fun w => Kd.C (Kd.int .i64) w A0 n0 l0)) (hc0 : n0 ≤ c0) (r_1 : Bool) (h : spec_l1Has.f l0 a1 = some r_1) :
  Calls Try.prog 161 #[.slice A0 n0 c0, .int .i64 a1] ws (Post1 w0 ws P0 (fun (_ : Unit) => .bool r_1) (fun (_ : Unit) => [])) := by
 unfold spec_l1Has.f at h
 obtain rfl := (R0 ws (KeptB.refl _ _)).1
 refine enter Try.func161 rfl Try.ntmps161 rfl hF ?_
 refine c_seq ?_
 refine za0 ?_
 refine o_q rfl rfl (q_asg rfl) ?_
 refine o_end ?_
 refine za1 ?_
 refine c_seq ?_
 refine c_seq ?_
 refine za0 ?_
 refine o_q rfl rfl (za2 rfl) ?_
 refine o_q rfl rfl (q_len Try.underlying23 rfl) ?_
 refine o_q rfl rfl (za2 rfl) ?_
 refine o_end ?_
 refine za1 ?_
 refine zam ?_
 refine za9 h (fun o9 hl8 hR7 => ?_) rfl
 clear h
 refine c_fact (p := l0.length ≤ 9223372036854775807) (fun w h => (R0.now Z h).2.1) (fun hm6 => ?_)
 refine zb2 (σ := (List Int) × Int) (fun k4 ((ys3, i1) : (List Int) × Int) => Rg l0 i1 ys3 ∧ ys3.length = k4 ∧ spec_l1Has.l0 a1 ys3 i1 = some o9) [4, 6, 9, 10, 11, 12, 13, 14, 15, 16] (fun ((ys3, i1) : (List Int) × Int) => [(9, .int .i64 i1)]) (fun ((ys3, i1) : (List Int) × Int) => []) l0.length (l0, 0) ⟨Rg.start _, rfl, hl8⟩ ⟨rfl, trivial⟩ (fun w h => h) ?_
 refine fun k4 => cur2 (listC (fun i1 U10 hJ_ => ?_) (fun y2 ys3 i1 U10 hJ_ => ?_))
 ·skip
  clear hl8
  have hr5 := hJ_.1; have hk11 := hJ_.2.1; have h := hJ_.2.2; clear hJ_
  replace h : spec_l1Has.l0 a1 [] i1 = some o9 := h
  rw [spec_l1Has.l0] at h
  refine c_seq ?_
  refine za0 ?_
  refine o_q rfl rfl (q_lss rfl rfl) ?_
  refine o_end ?_
  refine za1 ?_
  refine c_seq ?_
  refine c_false (congrArg Value.bool hr5.ge) ?_
  refine zb6 ?_
  refine zaa ?_
  refine zaa ?_
  have e_ := Option.some.inj h; replace h := hR7; rw [← e_] at h; clear e_
  refine x_hit ?_
  refine za1 ?_
  refine c_seq ?_
  refine za0 ?_
  refine o_q rfl rfl (q_asg rfl) ?_
  refine o_end ?_
  refine za1 ?_
  refine c_ret ?_
  have e0_ := Option.some.inj h; clear h
  subst e0_
  exact x_r1 () Try.results161 (zan rfl) rfl (fun w h => za6 [] (by decide) rfl w h)
 ·skip
  clear hl8
  have hr5 := hJ_.1; have hk11 := hJ_.2.1; have h := hJ_.2.2; clear hJ_
  replace h : spec_l1Has.l0 a1 (y2 :: ys3) i1 = some o9 := h
  rw [spec_l1Has.l0] at h
  refine c_seq ?_
  refine za0 ?_
  refine o_q rfl rfl (q_lss rfl rfl) ?_
  refine o_end ?_
  refine za1 ?_
  refine c_seq ?_
  refine zb9 (congrArg Value.bool hr5.lt) ?_
  refine zat ?_
  refine za1 ?_
  refine c_seq ?_
  refine zam ?_
  refine c_seq ?_
  refine za0 ?_
  refine zb7 (p := Sh A0 l0.length l0.length) (fun w h => f_sh (dk := (Kd.int .i64)) h (fun w h => R0.now Z h)) (fun hq12 => ?_)
  refine o_q rfl rfl (q_ix Try.underlying23 Z3 rfl rfl hq12 hr5.get) ?_
  refine o_q rfl rfl (q_lde (off := 0) Y3 rfl rfl (fun w h => R0.now Z h) hr5.get (fun _ _ h => h) rfl) ?_
  refine o_q rfl rfl (q_asg rfl) ?_
  refine o_end ?_
  refine za1 ?_
  refine c_seq ?_
  refine za0 ?_
  refine o_q rfl rfl (za2 rfl) ?_
  refine o_q rfl rfl (za2 rfl) ?_
  refine o_q rfl rfl (q_eql rfl rfl) ?_
  refine o_end ?_
  refine za1 ?_
  refine zaw _ rfl (fun hb13 => ?_) (fun hb13 => ?_)
  ·skip
   replace h := br_t hb13 h
   refine c_seq ?_
   refine za0 ?_
   refine o_q rfl rfl (q_asg rfl) ?_
   refine o_end ?_
   refine za1 ?_
   refine c_ret ?_
   refine zax ?_
   refine zaj ?_
   refine zaj ?_
   have e_ := Option.some.inj h; replace h := hR7; rw [← e_] at h; clear e_
   refine zax ?_
   refine zaj ?_
   have e0_ := Option.some.inj h; clear h
   subst e0_
   exact x_r1 () Try.results161 (zan rfl) rfl (fun w h => za6 [] (by decide) rfl w h)
  ·skip
   replace h := br_f hb13 h
   refine zat ?_
   refine zao ?_
   refine za1 ?_
   refine za0 ?_
   refine o_q rfl rfl (q_up rfl rfl (hr5.up hm6)) ?_
   refine o_q rfl rfl (za2 rfl) ?_
   refine o_end ?_
   refine zaq ys3.length (ys3, i1 + 1) (by rw [← hk11]; exact Nat.lt_succ_self _) ⟨hr5.step, rfl, h⟩ ⟨rfl, trivial⟩ (fun w h => za6 [] (by decide) rfl w h) ?_
   repeat (first | exact za7 _ _ | refine zad rfl ?_ | refine za8 rfl ?_ | refine zae rfl ?_)

/-! ### loop.example/g01098/spec.l1Put: function 162 -/
def spec_l1Put.l0 (l0 : List Int) (a1 : Int) : Nat → Int → Option Int
 | 0, _ => none
 | k26 + 1, i23 => if i23 < (l0.length : Int) then ((gt l0 i23).bind fun y37 => if y37 < a1 then (spec_l1Put.l0 l0 a1 k26 (w64 (i23 + 1))) else (some i23)) else (some i23)
def spec_l1Put.f (k : Nat) (l0 : List Int) (a1 : Int) : Option (List Int) := ((spec_l1Put.l0 l0 a1 k 0)).bind fun i17 => (if i17 < (l0.length : Int) then ((gt l0 i17).bind fun y52 => if y52 = a1 then (some (.inl l0)) else (some (.inr ()))) else (some (.inr ())) : Option (((List Int)) ⊕ (Unit))).bind fun o_ => match o_ with | .inl r_ => some r_ | .inr _ => (ct l0 (0 : Int) i17).bind fun l57 => (ap ([] : List Int) l57).bind fun l60 => (ap l60 ([a1] : List Int)).bind fun l67 => (ct l0 i17 (l0.length : Int)).bind fun l71 => (ap l67 l71).bind fun l74 => some l74
set_option maxHeartbeats 600000 in
set_option maxRecDepth 100000 in
theorem spec_l1Put.calls (k : Nat) {w0 ws : World} {P0 : Nat → Prop} (A0 : Option Addr) (c0 : Nat) (n0 : Nat) (l0 : List Int) (a1 : Int) (Z : Below w0.heap.size w0 ws) (hF : Fr w0 ws P0 [row (Kd.int .i64) 3 (.slice A0 n0 c0) l0] ws)  (r_1 : List Int) (h : spec_l1Put.f k l0 a1 = some r_1) :
  Calls Try.prog 162 #[.slice A0 n0 c0, .int .i64 a1] ws (Post1 w0 ws P0 (fun ((q_2, q_3) : (Option Addr) × Nat) => .slice q_2 r_1.length q_3) (fun ((q_2, q_3) : (Option Addr) × Nat) => [row (Kd.int .i64) 3 (.slice q_2 r_1.length q_3) r_1])) := by
 unfold spec_l1Put.f at h
 obtain rfl := (hF.row_C (i := 0) rfl).2.1
 refine enter Try.func162 rfl Try.ntmps162 rfl hF ?_
 refine c_seq ?_
 refine za0 ?_
 refine o_q rfl rfl (q_asg rfl) ?_
 refine o_end ?_
 refine za1 ?_
 refine c_seq ?_
 refine za0 ?_
 refine o_q rfl rfl (q_asg rfl) ?_
 refine o_end ?_
 refine za1 ?_
 refine za9 h (fun o18 hl19 hR20 => ?_) rfl
 clear h
 refine c_cutJ (σ := Int) (fun i17 => some i17 = some o18) [5, 7, 8, 9, 10, 11, 12, 13, 14, 15, 16, 17, 18, 19, 20] (fun i17 => [(5, .int .i64 i17)]) (fun i17 => [row (Kd.int .i64) 3 (.slice A0 l0.length c0) l0]) ?_ ?_
 ·skip
  have h := hl19; clear hl19
  clear hR20
  refine zam ?_
  have hl30 := h; clear h
  refine zb2 (σ := Int) (fun k26 (i23 : Int) => spec_l1Put.l0 l0 a1 k26 i23 = some o18) [5, 7, 8, 9, 10, 11, 12, 13, 14, 15, 16, 17, 18, 19, 20] (fun (i23 : Int) => [(5, .int .i64 i23)]) (fun (i23 : Int) => [row (Kd.int .i64) 3 (.slice A0 l0.length c0) l0]) k 0 hl30 ⟨rfl, trivial⟩ (fun w h => h) ?_
  refine natC (fun i23 => fun U32 hJ_ => ?_) (fun k26 => (fun i23 => fun U32 hJ_ => ?_))
  ·skip
   replace hJ_ : spec_l1Put.l0 l0 a1 0 i23 = some o18 := hJ_
   rw [spec_l1Put.l0] at hJ_
   exact noneE hJ_
  ·skip
   clear hl30
   have h := hJ_; clear hJ_
   replace h : spec_l1Put.l0 l0 a1 (k26 + 1) i23 = some o18 := h
   rw [spec_l1Put.l0] at h
   refine c_seq ?_
   refine c_seq ?_
   refine za0 ?_
   refine o_q rfl rfl (za2 rfl) ?_
   refine o_q rfl rfl (za2 rfl) ?_
   refine o_q rfl rfl (q_len Try.underlying23 rfl) ?_
   refine o_q rfl rfl (q_lss rfl rfl) ?_
   refine o_q rfl rfl (za2 rfl) ?_
   refine byB (decide (i23 < (l0.length : Int))) (fun hb34 => ?_) (fun hb34 => ?_)
   ·replace h := br_t hb34 h
    refine o_w (zai rfl rfl rfl (congrArg Value.bool hb34)) rfl (za2 rfl) ?_
    refine o_w (zai rfl rfl rfl (congrArg Value.bool hb34)) rfl (za2 rfl) ?_
    refine zb7 (p := Sh A0 l0.length l0.length) (fun w h => f_sh (dk := (Kd.int .i64)) h (fun w h => h.zau (i := 0) rfl)) (fun hq35 => ?_)
    refine za9 h (fun y37 hg36 h => ?_) rfl
    refine o_w (zai rfl rfl rfl (congrArg Value.bool hb34)) rfl (q_ix Try.underlying23 Z3 rfl rfl hq35 hg36) ?_
    refine o_w (zai rfl rfl rfl (congrArg Value.bool hb34)) rfl (q_lde (off := 0) Y3 rfl rfl (fun w h => h.zau (i := 0) rfl) hg36 (fun _ _ h => h) rfl) ?_
    refine o_w (zai rfl rfl rfl (congrArg Value.bool hb34)) rfl (za2 rfl) ?_
    refine o_w (zai rfl rfl rfl (congrArg Value.bool hb34)) rfl (q_lss rfl rfl) ?_
    refine o_q rfl rfl (zb1 true (congrArg Value.bool hb34) rfl) ?_
    refine o_end ?_
    refine za1 ?_
    refine zaw _ rfl (fun hb38 => ?_) (fun hb38 => ?_)
    ·skip
     replace h := br_t hb38 h
     refine zat ?_
     refine za1 ?_
     refine zam ?_
     refine za0 ?_
     refine o_q rfl rfl (za2 rfl) ?_
     refine o_q rfl rfl (zaz rfl rfl) ?_
     refine o_q rfl rfl (q_asg rfl) ?_
     refine o_end ?_
     refine zao ?_
     refine zaq k26 (w64 (i23 + 1)) (Nat.lt_succ_self _) h ⟨rfl, trivial⟩ (fun w h => za6 [0] (by decide) rfl w h) ?_
     repeat (first | exact za7 _ _ | refine zad rfl ?_ | refine za8 rfl ?_ | refine zae rfl ?_)
    ·skip
     replace h := br_f hb38 h
     refine zb6 ?_
     refine zaa ?_
     refine zaa ?_
     refine x_hit ?_
     refine zas i23 h ⟨rfl, trivial⟩ (fun w h => za6 [0] (by decide) rfl w h) ?_
     repeat (first | exact za7 _ _ | refine zad rfl ?_ | refine za8 rfl ?_ | refine zae rfl ?_)
   ·replace h := br_f hb34 h
    refine @o_n _ _ _ _ _ _ _ _ _ _ _ 12 (zac rfl rfl rfl (congrArg Value.bool hb34) rfl) (Eq.refl (some 12)) ?_
    refine @o_n _ _ _ _ _ _ _ _ _ _ _ 13 (zac rfl rfl rfl (congrArg Value.bool hb34) rfl) (Eq.refl (some 13)) ?_
    refine @o_n _ _ _ _ _ _ _ _ _ _ _ 14 (zac rfl rfl rfl (congrArg Value.bool hb34) rfl) (Eq.refl (some 14)) ?_
    refine @o_n _ _ _ _ _ _ _ _ _ _ _ 15 (zac rfl rfl rfl (congrArg Value.bool hb34) rfl) (Eq.refl (some 15)) ?_
    refine @o_n _ _ _ _ _ _ _ _ _ _ _ 16 (zac rfl rfl rfl (congrArg Value.bool hb34) rfl) (Eq.refl (some 16)) ?_
    refine @o_n _ _ _ _ _ _ _ _ _ _ _ 17 (zac rfl rfl rfl (congrArg Value.bool hb34) rfl) (Eq.refl (some 17)) ?_
    refine o_q rfl rfl (zb1 false (congrArg Value.bool hb34) rfl) ?_
    refine o_end ?_
    refine za1 ?_
    refine c_false rfl ?_
    refine zb6 ?_
    refine zaa ?_
    refine zaa ?_
    refine x_hit ?_
    refine zas i23 h ⟨rfl, trivial⟩ (fun w h => za6 [0] (by decide) rfl w h) ?_
    repeat (first | exact za7 _ _ | refine zad rfl ?_ | refine za8 rfl ?_ | refine zae rfl ?_)
 ·skip
  refine (fun i17 => fun U21 hJ22 => ?_)
  have e_ := Option.some.inj hJ22; have h := hR20; rw [← e_] at h; clear e_ hJ22 hR20 hl19
  refine za9 h (fun o44 hl45 hR46 => ?_) rfl
  clear h
  refine c_cutJ (σ := Unit) (fun _ => some (.inr ()) = some o44) [4, 21, 22, 23, 24, 25, 26, 27, 28, 29, 30, 31, 32, 33] (fun _ => []) (fun _ => [row (Kd.int .i64) 3 (.slice A0 l0.length c0) l0]) ?_ ?_
  ·skip
   have h := hl45; clear hl45
   refine c_seq ?_
   refine za0 ?_
   refine o_q rfl rfl (za2 rfl) ?_
   refine o_q rfl rfl (za2 rfl) ?_
   refine o_q rfl rfl (q_len Try.underlying23 rfl) ?_
   refine o_q rfl rfl (q_lss rfl rfl) ?_
   refine o_q rfl rfl (za2 rfl) ?_
   refine byB (decide (i17 < (l0.length : Int))) (fun hb49 => ?_) (fun hb49 => ?_)
   ·replace h := br_t hb49 h
    refine o_w (zai rfl rfl rfl (congrArg Value.bool hb49)) rfl (za2 rfl) ?_
    refine o_w (zai rfl rfl rfl (congrArg Value.bool hb49)) rfl (za2 rfl) ?_
    refine zb7 (p := Sh A0 l0.length l0.length) (fun w h => f_sh (dk := (Kd.int .i64)) h (fun w h => h.zau (i := 0) rfl)) (fun hq50 => ?_)
    refine za9 h (fun y52 hg51 h => ?_) rfl
    refine o_w (zai rfl rfl rfl (congrArg Value.bool hb49)) rfl (q_ix Try.underlying23 Z3 rfl rfl hq50 hg51) ?_
    refine o_w (zai rfl rfl rfl (congrArg Value.bool hb49)) rfl (q_lde (off := 0) Y3 rfl rfl (fun w h => h.zau (i := 0) rfl) hg51 (fun _ _ h => h) rfl) ?_
    refine o_w (zai rfl rfl rfl (congrArg Value.bool hb49)) rfl (za2 rfl) ?_
    refine o_w (zai rfl rfl rfl (congrArg Value.bool hb49)) rfl (q_eql rfl rfl) ?_
    refine o_q rfl rfl (zb1 true (congrArg Value.bool hb49) rfl) ?_
    refine o_end ?_
    refine za1 ?_
    refine zaw _ rfl (fun hb53 => ?_) (fun hb53 => ?_)
    ·skip
     replace h := br_t hb53 h
     refine c_seq ?_
     refine za0 ?_
     refine o_q rfl rfl (za2 rfl) ?_
     refine o_q rfl rfl (q_asg rfl) ?_
     refine o_end ?_
     refine za1 ?_
     refine c_ret ?_
     refine zaj ?_
     have e_ := Option.some.inj h; replace h := hR46; rw [← e_] at h; clear e_
     have e0_ := Option.some.inj h; clear h
     subst e0_
     exact x_r1 (A0, c0) Try.results162 (zan rfl) rfl (fun w h => za6 [0] (by decide) rfl w h)
    ·skip
     replace h := br_f hb53 h
     refine zat ?_
     refine zas () h trivial (fun w h => za6 [0] (by decide) rfl w h) ?_
     repeat (first | exact za7 _ _ | refine zad rfl ?_ | refine za8 rfl ?_ | refine zae rfl ?_)
   ·replace h := br_f hb49 h
    refine @o_n _ _ _ _ _ _ _ _ _ _ _ 26 (zac rfl rfl rfl (congrArg Value.bool hb49) rfl) (Eq.refl (some 26)) ?_
    refine @o_n _ _ _ _ _ _ _ _ _ _ _ 27 (zac rfl rfl rfl (congrArg Value.bool hb49) rfl) (Eq.refl (some 27)) ?_
    refine @o_n _ _ _ _ _ _ _ _ _ _ _ 28 (zac rfl rfl rfl (congrArg Value.bool hb49) rfl) (Eq.refl (some 28)) ?_
    refine @o_n _ _ _ _ _ _ _ _ _ _ _ 29 (zac rfl rfl rfl (congrArg Value.bool hb49) rfl) (Eq.refl (some 29)) ?_
    refine @o_n _ _ _ _ _ _ _ _ _ _ _ 30 (zac rfl rfl rfl (congrArg Value.bool hb49) rfl) (Eq.refl (some 30)) ?_
    refine @o_n _ _ _ _ _ _ _ _ _ _ _ 31 (zac rfl rfl rfl (congrArg Value.bool hb49) rfl) (Eq.refl (some 31)) ?_
    refine o_q rfl rfl (zb1 false (congrArg Value.bool hb49) rfl) ?_
    refine o_end ?_
    refine za1 ?_
    refine c_false rfl ?_
    refine zat ?_
    refine zas () h trivial (fun w h => za6 [0] (by decide) rfl w h) ?_
    repeat (first | exact za7 _ _ | refine zad rfl ?_ | refine za8 rfl ?_ | refine zae rfl ?_)
  ·skip
   refine (fun _ => fun U47 hJ48 => ?_)
   have e_ := Option.some.inj hJ48; have h := hR46; rw [← e_] at h; clear e_ hJ48 hR46 hl45
   refine c_seq ?_
   refine za0 ?_
   refine o_e rfl (e_lit0 (Kd.int .i64) Try.underlying23 I3) (cur2 (fun A54 c55 => ?_))
   refine o_q rfl rfl (za2 rfl) ?_
   refine o_q rfl rfl (za2 rfl) ?_
   refine za9 h (fun l57 hz58 h => ?_) rfl
   refine zb7 (p := l0.length = l0.length ∧ l0.length ≤ c0) (fun w h => h.row_nc (i := 1) rfl) (fun hk59 => ?_)
   refine o_q rfl rfl (q_ctv Try.underlying23 Z3 rfl rfl ⟨_, rfl⟩ hk59.1 hk59.2 hz58) ?_
   refine za9 h (fun l60 ha61 h => ?_) rfl
   refine o_e rfl (e_appr (i := 0) Try.underlying23 I3 rfl (by decide) (by decide) (fun _ _ _ _ h => h) rfl (fun w h => C_cut (dk := (Kd.int .i64)) rfl hz58 hk59.2 (h.zau (i := 1) rfl)) rfl rfl ha61) (cur2 (fun A62 c63 => ?_))
   refine o_q rfl rfl (q_asg rfl) ?_
   refine o_end ?_
   refine za1 ?_
   refine c_seq ?_
   refine za0 ?_
   refine o_q rfl rfl (za2 rfl) ?_
   refine o_q rfl rfl (za2 rfl) ?_
   refine o_e rfl (e_lit (vs := [(0, .int .i64 a1)]) (cs := [.int .i64 a1]) (Kd.int .i64) ([a1] : List Int) Try.underlying23 I3 (by decide) rfl (by decide) rfl rfl (fun _ _ => Kd.zab _)) (cur2 (fun A64 c65 => ?_))
   refine za9 h (fun l67 ha68 h => ?_) rfl
   refine o_e rfl (e_app (i := 1) (j := 0) Try.underlying23 I3 rfl (by decide) (by decide) rfl rfl rfl rfl rfl ha68) (cur2 (fun A69 c70 => ?_))
   refine o_q rfl rfl (q_asg rfl) ?_
   refine o_end ?_
   refine za1 ?_
   refine c_seq ?_
   refine za0 ?_
   refine o_q rfl rfl (za2 rfl) ?_
   refine o_q rfl rfl (za2 rfl) ?_
   refine o_q rfl rfl (za2 rfl) ?_
   refine za9 h (fun l71 hz72 h => ?_) rfl
   refine zb7 (p := l0.length = l0.length ∧ l0.length ≤ c0) (fun w h => h.row_nc (i := 2) rfl) (fun hk73 => ?_)
   refine o_q rfl rfl (q_ctv Try.underlying23 Z3 rfl ⟨_, rfl⟩ rfl hk73.1 hk73.2 hz72) ?_
   refine za9 h (fun l74 ha75 h => ?_) rfl
   refine o_e rfl (e_appr (i := 1) Try.underlying23 I3 rfl (by decide) (by decide) (fun _ _ _ _ h => h) rfl (fun w h => C_cut (dk := (Kd.int .i64)) rfl hz72 hk73.2 (h.zau (i := 2) rfl)) rfl rfl ha75) (cur2 (fun A76 c77 => ?_))
   refine o_q rfl rfl (q_asg rfl) ?_
   refine o_end ?_
   refine za1 ?_
   refine c_ret ?_
   have e0_ := Option.some.inj h; clear h
   subst e0_
   exact x_r1 (A76, c77) Try.results162 (zan rfl) rfl (fun w h => za6 [1] (by decide) rfl w h)

/-! ### loop.example/g01098/spec.plUsed: function 148 -/
def spec_plUsed.l0 (k : Nat) (a0_0 : Int) (l0_1 : List SStep) : Nat → (List Int) → (List Int) → Int → Option ((List Int) × (List Int))
 | 0, _, _, _ => none
 | k17 + 1, l8, l11, i14 => if 0 ≤ i14 then ((spec_l1Has.f l8 (w64 (a0_0 + i14))).bind fun b27 => if b27 = true then ((gt l0_1 i14).bind fun y31 => (gt l0_1 i14).bind fun y33 => (ap l8 ([y31.f0, y33.f1] : List Int)).bind fun l37 => (spec_l1Put.f k l11 i14).bind fun l42 => spec_plUsed.l0 k a0_0 l0_1 k17 l37 l42 (w64 (i14 - 1))) else (spec_plUsed.l0 k a0_0 l0_1 k17 l8 l11 (w64 (i14 - 1)))) else (some (l8, l11))
def spec_plUsed.f (k : Nat) (a0_0 : Int) (l0_1 : List SStep) (l0_2 : List Int) : Option (List Int) := (spec_l1Own.f l0_2).bind fun l4 => (spec_plUsed.l0 k a0_0 l0_1 k l4 ([] : List Int) (w64 ((l0_1.length : Int) - 1))).bind fun (l8, l11) => some l11
set_option maxHeartbeats 600000 in
set_option maxRecDepth 100000 in
theorem spec_plUsed.calls (k : Nat) {w0 ws : World} {P0 : Nat → Prop} (a0_0 : Int) (A0_1 : Option Addr) (c0_1 : Nat) (n0_1 : Nat) (l0_1 : List SStep) (A0_2 : Option Addr) (c0_2 : Nat) (n0_2 : Nat) (l0_2 : List Int) (Z : Below w0.heap.size w0 ws) (hF : Fr w0 ws P0 [] ws) (R0_1 : Stable ws P0 (fun w => Kd.C kStep w A0_1 n0_1 l0_1)) (hc0_1 : n0_1 ≤ c0_1) (R0_2 : Stable ws P0 (fun w => Kd.C (Kd.int .i64) w A0_2 n0_2 l0_2)) (hc0_2 : n0_2 ≤ c0_2) (r_1 : List Int) (h : spec_plUsed.f k a0_0 l0_1 l0_2 = some r_1) :
  Calls Try.prog 148 #[.agg #[.int .i64 a0_0, .slice A0_1 n0_1 c0_1, .slice A0_2 n0_2 c0_2]] ws (Post1 w0 ws P0 (fun ((q_2, q_3) : (Option Addr) × Nat) => .slice q_2 r_1.length q_3) (fun ((q_2, q_3) : (Option Addr) × Nat) => [row (Kd.int .i64) 3 (.slice q_2 r_1.length q_3) r_1])) := by
 unfold spec_plUsed.f at h
 obtain rfl := (R0_1 ws (KeptB.refl _ _)).1
 obtain rfl := (R0_2 ws (KeptB.refl _ _)).1
 refine enter Try.func148 rfl Try.ntmps148 rfl hF ?_
 refine c_seq ?_
 refine za0 ?_
 refine o_e rfl (e_box rfl) (fun g1 => ?_)
 refine o_q rfl rfl (q_asg rfl) ?_
 refine o_end ?_
 refine za1 ?_
 refine c_seq ?_
 refine za0 ?_
 refine o_q rfl rfl (q_f F25_2 rfl) ?_
 refine o_q rfl rfl (q_ldb Y23 rfl (fun w h => h.zaf (i := 0) rfl) rfl) ?_
 refine za9 h (fun l4 hx3 h => ?_) rfl
 refine o_e rfl (za4 0 Z Try.func98 N98 rfl rfl rfl (fun w P1 hF hB hS hT => spec_l1Own.calls A0_2 c0_2 l0_2.length l0_2 hB hF (hS _ R0_2) hc0_2 _ hx3)) (cur2 (fun A5 c6 => ?_))
 refine o_q rfl rfl (q_asg rfl) ?_
 refine o_end ?_
 refine za1 ?_
 refine c_seq ?_
 refine za0 ?_
 refine o_q rfl rfl (q_asg rfl) ?_
 refine o_end ?_
 refine za1 ?_
 refine c_seq ?_
 refine c_seq ?_
 refine za0 ?_
 refine o_q rfl rfl (q_f F25_1 rfl) ?_
 refine o_q rfl rfl (q_ldb Y22 rfl (fun w h => h.zaf (i := 1) rfl) rfl) ?_
 refine o_q rfl rfl (q_len Try.underlying22 rfl) ?_
 refine o_q rfl rfl (zb5 rfl rfl) ?_
 refine o_q rfl rfl (q_asg rfl) ?_
 refine o_end ?_
 refine za1 ?_
 refine zam ?_
 refine c_nil (Kd.int .i64) 3 ?_
 refine za9 h (fun o22 hl21 hR20 => ?_) rfl
 clear h
 refine zb2 (σ := (List Int) × (List Int) × Int × (Option Addr) × Nat × (Option Addr) × Nat) (fun k17 ((l8, l11, i14, A9, c10, A12, c13) : (List Int) × (List Int) × Int × (Option Addr) × Nat × (Option Addr) × Nat) => spec_plUsed.l0 k a0_0 l0_1 k17 l8 l11 i14 = some o22) [3, 4, 5, 13, 14, 15, 16, 17, 18, 19, 20, 21, 22, 23, 24, 25, 26, 27, 28, 29, 30, 31, 32, 33, 34, 35, 36, 37, 38, 39, 40] (fun ((l8, l11, i14, A9, c10, A12, c13) : (List Int) × (List Int) × Int × (Option Addr) × Nat × (Option Addr) × Nat) => [(3, .slice A9 l8.length c10), (4, .slice A12 l11.length c13), (5, .int .i64 i14)]) (fun ((l8, l11, i14, A9, c10, A12, c13) : (List Int) × (List Int) × Int × (Option Addr) × Nat × (Option Addr) × Nat) => [row (Kd.int .i64) 3 (.slice A12 l11.length c13) l11, row (Kd.int .i64) 3 (.slice A9 l8.length c10) l8, box g1 25 #[.int .i64 a0_0, .slice A0_1 l0_1.length c0_1, .slice A0_2 l0_2.length c0_2]]) k (l4, ([] : List Int), w64 ((l0_1.length : Int) - 1), A5, c6, none, 0) hl21 ⟨rfl, rfl, rfl, trivial⟩ (fun w h => h) ?_
 refine natC (cur7 (fun l8 l11 i14 A9 c10 A12 c13 => fun U23 hJ_ => ?_)) (fun k17 => (cur7 (fun l8 l11 i14 A9 c10 A12 c13 => fun U23 hJ_ => ?_)))
 ·skip
  replace hJ_ : spec_plUsed.l0 k a0_0 l0_1 0 l8 l11 i14 = some o22 := hJ_
  rw [spec_plUsed.l0] at hJ_
  exact noneE hJ_
 ·skip
  clear hl21
  have h := hJ_; clear hJ_
  replace h : spec_plUsed.l0 k a0_0 l0_1 (k17 + 1) l8 l11 i14 = some o22 := h
  rw [spec_plUsed.l0] at h
  refine c_seq ?_
  refine c_seq ?_
  refine za0 ?_
  refine o_q rfl rfl (za2 rfl) ?_
  refine o_q rfl rfl (q_geq rfl rfl) ?_
  refine o_end ?_
  refine za1 ?_
  refine zaw _ rfl (fun hb25 => ?_) (fun hb25 => ?_)
  ·skip
   replace h := br_t hb25 h
   refine zat ?_
   refine za1 ?_
   refine c_seq ?_
   refine zam ?_
   refine c_seq ?_
   refine za0 ?_
   refine o_q rfl rfl (za2 rfl) ?_
   refine o_q rfl rfl (q_f F25_0 rfl) ?_
   refine o_q rfl rfl (q_ldb Y3 rfl (fun w h => h.zaf (i := 2) rfl) rfl) ?_
   refine o_q rfl rfl (za2 rfl) ?_
   refine o_q rfl rfl (zaz rfl rfl) ?_
   refine za9 h (fun b27 hx26 h => ?_) rfl
   refine o_e rfl (za4 0 Z Try.func161 N161 rfl rfl rfl (fun w P1 hF hB hS hT => spec_l1Has.calls A9 c10 l8.length l8 (w64 (a0_0 + i14)) hB hF (hT 1 _ rfl).row (hT 1 _ rfl).cap _ hx26)) (fun _ => ?_)
   refine o_end ?_
   refine za1 ?_
   refine zaw _ rfl (fun hb28 => ?_) (fun hb28 => ?_)
   ·skip
    replace h := bb_t hb28 h
    refine c_seq ?_
    refine a_startS (ds := []) [some 0, none, some 2] MO rfl ?_
    refine za5 0 rfl rfl rfl (by kernel_rfl) (fun _ _ _ h => h) (za2 rfl) ?_
    refine za5 1 rfl rfl rfl (by kernel_rfl) (fun _ _ _ h => h) (q_f F25_1 rfl) ?_
    refine zb0 2 rfl rfl rfl (by kernel_rfl) (fun _ _ _ h => h) (fun w h => za3 [some 0, none, some 2] (by decide) w h rfl) (q_ldb Y22 rfl (fun w h => h.zaf (i := 2) rfl) rfl) ?_
    refine za5 3 rfl rfl rfl (by kernel_rfl) (fun _ _ _ h => h) (za2 rfl) ?_
    refine a_fact (p := Sh A0_1 l0_1.length l0_1.length) (fun w h => f_sh (dk := kStep) h (fun w h => R0_1.now Z h)) (fun hq29 => ?_)
    refine za9 h (fun y31 hg30 h => ?_) rfl
    refine za5 4 rfl rfl rfl (by kernel_rfl) (fun _ _ _ h => h) (q_ix Try.underlying22 Z107 rfl rfl hq29 hg30) ?_
    refine za5 5 rfl rfl rfl (by kernel_rfl) (fun _ _ _ h => h) (q_fe F107_0 rfl) ?_
    refine zb0 6 rfl rfl rfl (by kernel_rfl) (fun _ _ _ h => h) (fun w h => za3 [some 0, none, some 2] (by decide) w h rfl) (q_lde (off := 0) Y3 rfl rfl (fun w h => R0_1.now Z h) hg30 (fun _ _ h => h) rfl) ?_
    refine za5 7 rfl rfl rfl (by kernel_rfl) (fun _ _ _ h => h) (q_f F25_1 rfl) ?_
    refine zb0 8 rfl rfl rfl (by kernel_rfl) (fun _ _ _ h => h) (fun w h => za3 [some 0, none, some 2] (by decide) w h rfl) (q_ldb Y22 rfl (fun w h => h.zaf (i := 2) rfl) rfl) ?_
    refine za5 9 rfl rfl rfl (by kernel_rfl) (fun _ _ _ h => h) (za2 rfl) ?_
    refine za9 h (fun y33 hg32 h => ?_) rfl
    refine za5 10 rfl rfl rfl (by kernel_rfl) (fun _ _ _ h => h) (q_ix Try.underlying22 Z107 rfl rfl hq29 hg32) ?_
    refine za5 11 rfl rfl rfl (by kernel_rfl) (fun _ _ _ h => h) (q_fe F107_1 rfl) ?_
    refine zb0 12 rfl rfl rfl (by kernel_rfl) (fun _ _ _ h => h) (fun w h => za3 [some 0, none, some 2] (by decide) w h rfl) (q_lde (off := 1) Y3 rfl rfl (fun w h => R0_1.now Z h) hg32 (fun _ _ h => h) rfl) ?_
    refine a_one 13 rfl rfl (by kernel_rfl) rfl (e_lit (vs := [(0, .int .i64 y31.f0), (1, .int .i64 y33.f1)]) (cs := [.int .i64 y31.f0, .int .i64 y33.f1]) (Kd.int .i64) ([y31.f0, y33.f1] : List Int) Try.underlying23 I3 (by decide) rfl (by decide) rfl rfl (fun _ _ => Kd.zab _)) (fun s w h => za3 [some 1, none, some 3] (by decide) w h rfl) (cur2 (fun A34 c35 => ?_))
    refine za9 h (fun l37 ha38 h => ?_) rfl
    refine a_one 14 rfl rfl (by kernel_rfl) rfl (e_app (i := 2) (j := 0) Try.underlying23 I3 rfl (by decide) (by decide) rfl rfl rfl rfl rfl ha38) (fun s w h => za3 [some 1, none, some 3] (by decide) w h rfl) (cur2 (fun A39 c40 => ?_))
    refine za5 15 rfl rfl rfl (by kernel_rfl) (fun _ _ _ h => h) (q_asg rfl) ?_
    refine zar (by kernel_rfl) ?_
    refine za1 ?_
    refine za0 ?_
    refine o_q rfl rfl (za2 rfl) ?_
    refine o_q rfl rfl (za2 rfl) ?_
    refine o_pick [1, 2, 3] (by decide) rfl ?_
    refine za9 h (fun l42 hx41 h => ?_) rfl
    refine o_e rfl (za4 1 Z Try.func162 N162 rfl rfl rfl (fun w P1 hF hB hS hT => spec_l1Put.calls k A12 c13 l11.length l11 i14 hB hF _ hx41)) (cur2 (fun A43 c44 => ?_))
    refine o_q rfl rfl (q_asg rfl) ?_
    refine o_end ?_
    refine zao ?_
    refine za1 ?_
    refine za0 ?_
    refine o_q rfl rfl (za2 rfl) ?_
    refine o_q rfl rfl (zb5 rfl rfl) ?_
    refine o_q rfl rfl (q_asg rfl) ?_
    refine o_end ?_
    refine zaq k17 (l37, l42, w64 (i14 - 1), A39, c40, A43, c44) (Nat.lt_succ_self _) h ⟨rfl, rfl, rfl, trivial⟩ (fun w h => za6 [0, 1, 2] (by decide) rfl w h) ?_
    repeat (first | exact za7 _ _ | refine zad rfl ?_ | refine za8 rfl ?_ | refine zae rfl ?_)
   ·skip
    replace h := bb_f hb28 h
    refine zat ?_
    refine zao ?_
    refine za1 ?_
    refine za0 ?_
    refine o_q rfl rfl (za2 rfl) ?_
    refine o_q rfl rfl (zb5 rfl rfl) ?_
    refine o_q rfl rfl (q_asg rfl) ?_
    refine o_end ?_
    refine zaq k17 (l8, l11, w64 (i14 - 1), A9, c10, A12, c13) (Nat.lt_succ_self _) h ⟨rfl, rfl, rfl, trivial⟩ (fun w h => za6 [0, 1, 2] (by decide) rfl w h) ?_
    repeat (first | exact za7 _ _ | refine zad rfl ?_ | refine za8 rfl ?_ | refine zae rfl ?_)
  ·skip
   replace h := br_f hb25 h
   refine zb6 ?_
   refine zaa ?_
   refine zaa ?_
   have e_ := Option.some.inj h; replace h := hR20; rw [← e_] at h; clear e_
   refine x_hit ?_
   refine za1 ?_
   refine c_seq ?_
   refine za0 ?_
   refine o_q rfl rfl (za2 rfl) ?_
   refine o_q rfl rfl (q_asg rfl) ?_
   refine o_end ?_
   refine za1 ?_
   refine c_ret ?_
   have e0_ := Option.some.inj h; clear h
   subst e0_
   exact x_r1 (A12, c13) Try.results148 (zan rfl) rfl (fun w h => za6 [0] (by decide) rfl w h)

/-! ### loop.example/g01098/spec.plPlace: function 168 -/
def spec_plPlace.l0 (a1 : Int) : (List Int) → Int → Option ((Int) ⊕ (Unit))
 | [], i1 => some (.inr ())
 | y2 :: ys3, i1 => if y2 = a1 then (some (.inl i1)) else (spec_plPlace.l0 a1 ys3 (i1 + 1))
def spec_plPlace.f (l0 : List Int) (a1 : Int) : Option Int := (spec_plPlace.l0 a1 l0 0).bind fun o_ => match o_ with | .inl r_ => some r_ | .inr _ => some (-1)
set_option maxHeartbeats 600000 in
set_option maxRecDepth 100000 in
theorem spec_plPlace.calls {w0 ws : World} {P0 : Nat → Prop} (A0 : Option Addr) (c0 : Nat) (n0 : Nat) (l0 : List Int) (a1 : Int) (Z : Below w0.heap.size w0 ws) (hF : Fr w0 ws P0 [] ws) (R0 : Stable ws P0 (fun w => Kd.C (Kd.int .i64) w A0 n0 l0)) (hc0 : n0 ≤ c0) (r_1 : Int) (h : spec_plPlace.f l0 a1 = some r_1) :
  Calls Try.prog 168 #[.slice A0 n0 c0, .int .i64 a1] ws (Post1 w0 ws P0 (fun (_ : Unit) => .int .i64 r_1) (fun (_ : Unit) => [])) := by
 unfold spec_plPlace.f at h
 obtain rfl := (R0 ws (KeptB.refl _ _)).1
 refine enter Try.func168 rfl Try.ntmps168 rfl hF ?_
 refine c_seq ?_
 refine za0 ?_
 refine o_q rfl rfl (q_asg rfl) ?_
 refine o_end ?_
 refine za1 ?_
 refine c_seq ?_
 refine c_seq ?_
 refine za0 ?_
 refine o_q rfl rfl (za2 rfl) ?_
 refine o_q rfl rfl (q_len Try.underlying23 rfl) ?_
 refine o_q rfl rfl (za2 rfl) ?_
 refine o_end ?_
 refine za1 ?_
 refine zam ?_
 refine za9 h (fun o9 hl8 hR7 => ?_) rfl
 clear h
 refine c_fact (p := l0.length ≤ 9223372036854775807) (fun w h => (R0.now Z h).2.1) (fun hm6 => ?_)
 refine zb2 (σ := (List Int) × Int) (fun k4 ((ys3, i1) : (List Int) × Int) => Rg l0 i1 ys3 ∧ ys3.length = k4 ∧ spec_plPlace.l0 a1 ys3 i1 = some o9) [4, 5, 6, 9, 10, 11, 12, 13, 14, 15, 16, 17, 18] (fun ((ys3, i1) : (List Int) × Int) => [(9, .int .i64 i1)]) (fun ((ys3, i1) : (List Int) × Int) => []) l0.length (l0, 0) ⟨Rg.start _, rfl, hl8⟩ ⟨rfl, trivial⟩ (fun w h => h) ?_
 refine fun k4 => cur2 (listC (fun i1 U10 hJ_ => ?_) (fun y2 ys3 i1 U10 hJ_ => ?_))
 ·skip
  clear hl8
  have hr5 := hJ_.1; have hk11 := hJ_.2.1; have h := hJ_.2.2; clear hJ_
  replace h : spec_plPlace.l0 a1 [] i1 = some o9 := h
  rw [spec_plPlace.l0] at h
  refine c_seq ?_
  refine za0 ?_
  refine o_q rfl rfl (q_lss rfl rfl) ?_
  refine o_end ?_
  refine za1 ?_
  refine c_seq ?_
  refine c_false (congrArg Value.bool hr5.ge) ?_
  refine zb6 ?_
  refine zaa ?_
  refine zaa ?_
  have e_ := Option.some.inj h; replace h := hR7; rw [← e_] at h; clear e_
  refine x_hit ?_
  refine za1 ?_
  refine c_seq ?_
  refine za0 ?_
  refine o_q rfl rfl (q_asg rfl) ?_
  refine o_end ?_
  refine za1 ?_
  refine c_ret ?_
  have e0_ := Option.some.inj h; clear h
  subst e0_
  exact x_r1 () Try.results168 (zan rfl) rfl (fun w h => za6 [] (by decide) rfl w h)
 ·skip
  clear hl8
  have hr5 := hJ_.1; have hk11 := hJ_.2.1; have h := hJ_.2.2; clear hJ_
  replace h : spec_plPlace.l0 a1 (y2 :: ys3) i1 = some o9 := h
  rw [spec_plPlace.l0] at h
  refine c_seq ?_
  refine za0 ?_
  refine o_q rfl rfl (q_lss rfl rfl) ?_
  refine o_end ?_
  refine za1 ?_
  refine c_seq ?_
  refine zb9 (congrArg Value.bool hr5.lt) ?_
  refine zat ?_
  refine za1 ?_
  refine c_seq ?_
  refine zam ?_
  refine c_seq ?_
  refine za0 ?_
  refine o_q rfl rfl (za2 rfl) ?_
  refine zb7 (p := Sh A0 l0.length l0.length) (fun w h => f_sh (dk := (Kd.int .i64)) h (fun w h => R0.now Z h)) (fun hq12 => ?_)
  refine o_q rfl rfl (q_ix Try.underlying23 Z3 rfl rfl hq12 hr5.get) ?_
  refine o_q rfl rfl (q_lde (off := 0) Y3 rfl rfl (fun w h => R0.now Z h) hr5.get (fun _ _ h => h) rfl) ?_
  refine o_q rfl rfl (q_asg rfl) ?_
  refine o_q rfl rfl (q_asg rfl) ?_
  refine o_end ?_
  refine za1 ?_
  refine c_seq ?_
  refine za0 ?_
  refine o_q rfl rfl (za2 rfl) ?_
  refine o_q rfl rfl (za2 rfl) ?_
  refine o_q rfl rfl (q_eql rfl rfl) ?_
  refine o_end ?_
  refine za1 ?_
  refine zaw _ rfl (fun hb13 => ?_) (fun hb13 => ?_)
  ·skip
   replace h := br_t hb13 h
   refine c_seq ?_
   refine za0 ?_
   refine o_q rfl rfl (za2 rfl) ?_
   refine o_q rfl rfl (q_asg rfl) ?_
   refine o_end ?_
   refine za1 ?_
   refine c_ret ?_
   refine zax ?_
   refine zaj ?_
   refine zaj ?_
   have e_ := Option.some.inj h; replace h := hR7; rw [← e_] at h; clear e_
   refine zax ?_
   refine zaj ?_
   have e0_ := Option.some.inj h; clear h
   subst e0_
   exact x_r1 () Try.results168 (zan rfl) rfl (fun w h => za6 [] (by decide) rfl w h)
  ·skip
   replace h := br_f hb13 h
   refine zat ?_
   refine zao ?_
   refine za1 ?_
   refine za0 ?_
   refine o_q rfl rfl (q_up rfl rfl (hr5.up hm6)) ?_
   refine o_q rfl rfl (za2 rfl) ?_
   refine o_end ?_
   refine zaq ys3.length (ys3, i1 + 1) (by rw [← hk11]; exact Nat.lt_succ_self _) ⟨hr5.step, rfl, h⟩ ⟨rfl, trivial⟩ (fun w h => za6 [] (by decide) rfl w h) ?_
   repeat (first | exact za7 _ _ | refine zad rfl ?_ | refine za8 rfl ?_ | refine zae rfl ?_)

/-! ### loop.example/g01098/spec.plNumber: function 160 -/
def spec_plNumber.f (a0_0 : Int) (l0_1 : List SStep) (l0_2 : List Int) (l1 : List Int) (a2 : Int) : Option Int := if a2 < a0_0 then (some a2) else ((spec_plPlace.f l1 (w64 (a2 - a0_0))).bind fun i5 => some (w64 (a0_0 + i5)))
set_option maxHeartbeats 600000 in
set_option maxRecDepth 100000 in
theorem spec_plNumber.calls {w0 ws : World} {P0 : Nat → Prop} (a0_0 : Int) (A0_1 : Option Addr) (c0_1 : Nat) (n0_1 : Nat) (l0_1 : List SStep) (A0_2 : Option Addr) (c0_2 : Nat) (n0_2 : Nat) (l0_2 : List Int) (A1 : Option Addr) (c1 : Nat) (n1 : Nat) (l1 : List Int) (a2 : Int) (Z : Below w0.heap.size w0 ws) (hF : Fr w0 ws P0 [] ws) (R0_1 : Stable ws P0 (fun w => Kd.C kStep w A0_1 n0_1 l0_1)) (hc0_1 : n0_1 ≤ c0_1) (R0_2 : Stable ws P0 (fun w => Kd.C (Kd.int .i64) w A0_2 n0_2 l0_2)) (hc0_2 : n0_2 ≤ c0_2) (R1 : Stable ws P0 (fun w => Kd.C (Kd.int .i64) w A1 n1 l1)) (hc1 : n1 ≤ c1) (r_1 : Int) (h : spec_plNumber.f a0_0 l0_1 l0_2 l1 a2 = some r_1) :
  Calls Try.prog 160 #[.agg #[.int .i64 a0_0, .slice A0_1 n0_1 c0_1, .slice A0_2 n0_2 c0_2], .slice A1 n1 c1, .int .i64 a2] ws (Post1 w0 ws P0 (fun (_ : Unit) => .int .i64 r_1) (fun (_ : Unit) => [])) := by
 unfold spec_plNumber.f at h
 obtain rfl := (R0_1 ws (KeptB.refl _ _)).1
 obtain rfl := (R0_2 ws (KeptB.refl _ _)).1
 obtain rfl := (R1 ws (KeptB.refl _ _)).1
 refine enter Try.func160 rfl Try.ntmps160 rfl hF ?_
 refine c_seq ?_
 refine za0 ?_
 refine o_e rfl (e_box rfl) (fun g1 => ?_)
 refine o_q rfl rfl (q_asg rfl) ?_
 refine o_end ?_
 refine za1 ?_
 refine c_seq ?_
 refine c_seq ?_
 refine za0 ?_
 refine o_q rfl rfl (za2 rfl) ?_
 refine o_q rfl rfl (q_f F25_0 rfl) ?_
 refine o_q rfl rfl (q_ldb Y3 rfl (fun w h => h.zaf (i := 0) rfl) rfl) ?_
 refine o_q rfl rfl (q_lss rfl rfl) ?_
 refine o_end ?_
 refine za1 ?_
 refine zaw _ rfl (fun hb3 => ?_) (fun hb3 => ?_)
 ·skip
  replace h := br_t hb3 h
  refine c_seq ?_
  refine za0 ?_
  refine o_q rfl rfl (za2 rfl) ?_
  refine o_q rfl rfl (q_asg rfl) ?_
  refine o_end ?_
  refine za1 ?_
  refine c_ret ?_
  refine zaj ?_
  have e0_ := Option.some.inj h; clear h
  subst e0_
  exact x_r1 () Try.results160 (zan rfl) rfl (fun w h => za6 [] (by decide) rfl w h)
 ·skip
  replace h := br_f hb3 h
  refine zat ?_
  refine za1 ?_
  refine c_seq ?_
  refine a_start (ds := []) MO rfl ?_
  refine za5 0 rfl rfl rfl (by kernel_rfl) (fun _ _ _ h => h) (q_f F25_0 rfl) ?_
  refine zb0 1 rfl rfl rfl (by kernel_rfl) (fun _ _ _ h => h) (fun w h => h) (q_ldb Y3 rfl (fun w h => h.zaf (i := 0) rfl) rfl) ?_
  refine za5 2 rfl rfl rfl (by kernel_rfl) (fun _ _ _ h => h) (za2 rfl) ?_
  refine za5 3 rfl rfl rfl (by kernel_rfl) (fun _ _ _ h => h) (za2 rfl) ?_
  refine za5 4 rfl rfl rfl (by kernel_rfl) (fun _ _ _ h => h) (q_f F25_0 rfl) ?_
  refine zb0 5 rfl rfl rfl (by kernel_rfl) (fun _ _ _ h => h) (fun w h => h) (q_ldb Y3 rfl (fun w h => h.zaf (i := 0) rfl) rfl) ?_
  refine za5 6 rfl rfl rfl (by kernel_rfl) (fun _ _ _ h => h) (zb5 rfl rfl) ?_
  refine za9 h (fun i5 hx4 h => ?_) rfl
  refine a_one 7 rfl rfl (by kernel_rfl) rfl (za4 0 Z Try.func168 N168 rfl rfl rfl (fun w P1 hF hB hS hT => spec_plPlace.calls A1 c1 l1.length l1 (w64 (a2 - a0_0)) hB hF (hS _ R1) hc1 _ hx4)) (fun s w h => h) (fun _ => ?_)
  refine za5 8 rfl rfl rfl (by kernel_rfl) (fun _ _ _ h => h) (zaz rfl rfl) ?_
  refine za5 9 rfl rfl rfl (by kernel_rfl) (fun _ _ _ h => h) (q_asg rfl) ?_
  refine zar (by kernel_rfl) ?_
  refine za1 ?_
  refine c_ret ?_
  have e0_ := Option.some.inj h; clear h
  subst e0_
  exact x_r1 () Try.results160 (zan rfl) rfl (fun w h => za6 [] (by decide) rfl w h)

/-! ### loop.example/g01098/spec.plKeep: function 147 -/
def spec_plKeep.l1 (a0_0 : Int) (l0_1 : List SStep) (l0_2 : List Int) (l1 : List Int) : (List Int) → (List Int) → Int → Option (List Int)
 | [], l23, i26 => some l23
 | y27 :: ys28, l23, i26 => (spec_plNumber.f a0_0 l0_1 l0_2 l1 y27).bind fun i340 => (ap l23 ([i340] : List Int)).bind fun l459 => spec_plKeep.l1 a0_0 l0_1 l0_2 l1 ys28 l459 (i26 + 1)
def spec_plKeep.l0 (a0_0 : Int) (l0_1 : List SStep) (l0_2 : List Int) (l1 : List Int) : (List Int) → (List SStep) → Int → Option (List SStep)
 | [], l8, i11 => some l8
 | y12 :: ys13, l8, i11 => (gt l0_1 y12).bind fun y702 => (spec_plNumber.f a0_0 l0_1 l0_2 l1 y702.f0).bind fun i1067 => (spec_plNumber.f a0_0 l0_1 l0_2 l1 y702.f1).bind fun i1367 => (spec_plStep.f i1067 i1367).bind fun z1427 => (ap l8 ([z1427] : List SStep)).bind fun l1546 => spec_plKeep.l0 a0_0 l0_1 l0_2 l1 ys13 l1546 (i11 + 1)
def spec_plKeep.f (a0_0 : Int) (l0_1 : List SStep) (l0_2 : List Int) (l1 : List Int) : Option ((List SStep) × (List Int)) := (spec_plKeep.l0 a0_0 l0_1 l0_2 l1 l1 ([] : List SStep) 0).bind fun l8 => (spec_plKeep.l1 a0_0 l0_1 l0_2 l1 l0_2 ([] : List Int) 0).bind fun l23 => some (l8, l23)
set_option maxHeartbeats 600000 in
set_option maxRecDepth 100000 in
theorem spec_plKeep.calls {w0 ws : World} {P0 : Nat → Prop} (a0_0 : Int) (A0_1 : Option Addr) (c0_1 : Nat) (n0_1 : Nat) (l0_1 : List SStep) (A0_2 : Option Addr) (c0_2 : Nat) (n0_2 : Nat) (l0_2 : List Int) (A1 : Option Addr) (c1 : Nat) (n1 : Nat) (l1 : List Int) (Z : Below w0.heap.size w0 ws) (hF : Fr w0 ws P0 [] ws) (R0_1 : Stable ws P0 (fun w => Kd.C kStep w A0_1 n0_1 l0_1)) (hc0_1 : n0_1 ≤ c0_1) (R0_2 : Stable ws P0 (fun w => Kd.C (Kd.int .i64) w A0_2 n0_2 l0_2)) (hc0_2 : n0_2 ≤ c0_2) (R1 : Stable ws P0 (fun w => Kd.C (Kd.int .i64) w A1 n1 l1)) (hc1 : n1 ≤ c1) (r_1 : List SStep) (r_4 : List Int) (h : spec_plKeep.f a0_0 l0_1 l0_2 l1 = some (r_1, r_4)) :
  Calls Try.prog 147 #[.agg #[.int .i64 a0_0, .slice A0_1 n0_1 c0_1, .slice A0_2 n0_2 c0_2], .slice A1 n1 c1] ws (Post1 w0 ws P0 (fun ((q_2, q_3, q_5, q_6) : (Option Addr) × Nat × (Option Addr) × Nat) => .agg #[.int .i64 a0_0, .slice q_2 r_1.length q_3, .slice q_5 r_4.length q_6]) (fun ((q_2, q_3, q_5, q_6) : (Option Addr) × Nat × (Option Addr) × Nat) => [row kStep 107 (.slice q_2 r_1.length q_3) r_1, row (Kd.int .i64) 3 (.slice q_5 r_4.length q_6) r_4])) := by
 unfold spec_plKeep.f at h
 obtain rfl := (R0_1 ws (KeptB.refl _ _)).1
 obtain rfl := (R0_2 ws (KeptB.refl _ _)).1
 obtain rfl := (R1 ws (KeptB.refl _ _)).1
 refine enter Try.func147 rfl Try.ntmps147 rfl hF ?_
 refine c_seq ?_
 refine za0 ?_
 refine o_e rfl (e_box rfl) (fun g1 => ?_)
 refine o_e rfl (zak V25 rfl) (fun g3 => ?_)
 refine o_end ?_
 refine za1 ?_
 refine c_seq ?_
 refine za0 ?_
 refine o_q rfl rfl (q_f F25_0 rfl) ?_
 refine o_q rfl rfl (q_ldb Y3 rfl (fun w h => h.zaf (i := 1) rfl) rfl) ?_
 refine o_q rfl rfl (q_build (vs := [(0, .int .i64 a0_0)]) (cs := [.int .i64 a0_0, .slice none 0 0, .slice none 0 0]) rfl rfl) ?_
 refine o_e rfl (zak V25 rfl) (fun g5 => ?_)
 refine o_e rfl (zal (i := 0) rfl rfl rfl Z25 rfl rfl) (fun _ => ?_)
 refine o_end ?_
 refine za1 ?_
 refine c_seq ?_
 refine c_seq ?_
 refine za0 ?_
 refine o_q rfl rfl (za2 rfl) ?_
 refine o_q rfl rfl (q_len Try.underlying23 rfl) ?_
 refine o_q rfl rfl (za2 rfl) ?_
 refine o_end ?_
 refine za1 ?_
 refine zam ?_
 refine c_nil kStep 107 ?_
 refine za9 h (fun o19 hl18 hR17 => ?_) rfl
 clear h
 refine c_fact (p := l1.length ≤ 9223372036854775807) (fun w h => (R1.now Z h).2.1) (fun hm16 => ?_)
 refine zb2 (σ := (List Int) × (List SStep) × Int × (Option Addr) × Nat) (fun k14 ((ys13, l8, i11, A9, c10) : (List Int) × (List SStep) × Int × (Option Addr) × Nat) => Rg l1 i11 ys13 ∧ ys13.length = k14 ∧ spec_plKeep.l0 a0_0 l0_1 l0_2 l1 ys13 l8 i11 = some o19) [7, 8, 16, 17, 18, 19, 20, 21, 22, 23, 24, 25, 26, 27, 28, 29, 30, 31, 32, 33, 34, 35, 36, 37, 38, 39, 40, 41] (fun ((ys13, l8, i11, A9, c10) : (List Int) × (List SStep) × Int × (Option Addr) × Nat) => [(16, .int .i64 i11)]) (fun ((ys13, l8, i11, A9, c10) : (List Int) × (List SStep) × Int × (Option Addr) × Nat) => [row kStep 107 (.slice A9 l8.length c10) l8, box g5 25 #[.int .i64 a0_0, .slice A9 l8.length c10, .slice none 0 0], box g3 25 #[.int .i64 0, .slice none 0 0, .slice none 0 0], box g1 25 #[.int .i64 a0_0, .slice A0_1 l0_1.length c0_1, .slice A0_2 l0_2.length c0_2]]) l1.length (l1, ([] : List SStep), 0, none, 0) ⟨Rg.start _, rfl, hl18⟩ ⟨rfl, trivial⟩ (fun w h => h) ?_
 refine fun k14 => cur5 (listC (fun l8 i11 A9 c10 U20 hJ_ => ?_) (fun y12 ys13 l8 i11 A9 c10 U20 hJ_ => ?_))
 ·skip
  clear hl18
  have hr15 := hJ_.1; have hk21 := hJ_.2.1; have h := hJ_.2.2; clear hJ_
  replace h : spec_plKeep.l0 a0_0 l0_1 l0_2 l1 [] l8 i11 = some o19 := h
  rw [spec_plKeep.l0] at h
  refine c_seq ?_
  refine za0 ?_
  refine o_q rfl rfl (q_lss rfl rfl) ?_
  refine o_end ?_
  refine za1 ?_
  refine c_seq ?_
  refine c_false (congrArg Value.bool hr15.ge) ?_
  refine zb6 ?_
  refine zaa ?_
  refine zaa ?_
  have e_ := Option.some.inj h; replace h := hR17; rw [← e_] at h; clear e_
  refine x_hit ?_
  refine za1 ?_
  refine c_seq ?_
  refine c_seq ?_
  refine za0 ?_
  refine o_q rfl rfl (q_f F25_2 rfl) ?_
  refine o_q rfl rfl (q_ldb Y23 rfl (fun w h => h.zaf (i := 3) rfl) rfl) ?_
  refine o_q rfl rfl (q_len Try.underlying23 rfl) ?_
  refine o_q rfl rfl (za2 rfl) ?_
  refine o_end ?_
  refine za1 ?_
  refine zam ?_
  refine c_nil (Kd.int .i64) 3 ?_
  refine za9 h (fun o34 hl33 hR32 => ?_) rfl
  clear h
  refine c_fact (p := l0_2.length ≤ 9223372036854775807) (fun w h => (R0_2.now Z h).2.1) (fun hm31 => ?_)
  refine zb2 (σ := (List Int) × (List Int) × Int × (Option Addr) × Nat) (fun k29 ((ys28, l23, i26, A24, c25) : (List Int) × (List Int) × Int × (Option Addr) × Nat) => Rg l0_2 i26 ys28 ∧ ys28.length = k29 ∧ spec_plKeep.l1 a0_0 l0_1 l0_2 l1 ys28 l23 i26 = some o34) [10, 45, 46, 47, 48, 49, 50, 51, 52, 53, 54, 55, 56, 57, 58] (fun ((ys28, l23, i26, A24, c25) : (List Int) × (List Int) × Int × (Option Addr) × Nat) => [(45, .int .i64 i26)]) (fun ((ys28, l23, i26, A24, c25) : (List Int) × (List Int) × Int × (Option Addr) × Nat) => [row (Kd.int .i64) 3 (.slice A24 l23.length c25) l23, row kStep 107 (.slice A9 l8.length c10) l8, box g5 25 #[.int .i64 a0_0, .slice A9 l8.length c10, .slice A24 l23.length c25], box g3 25 #[.int .i64 0, .slice none 0 0, .slice none 0 0], box g1 25 #[.int .i64 a0_0, .slice A0_1 l0_1.length c0_1, .slice A0_2 l0_2.length c0_2]]) l0_2.length (l0_2, ([] : List Int), 0, none, 0) ⟨Rg.start _, rfl, hl33⟩ ⟨rfl, trivial⟩ (fun w h => h) ?_
  refine fun k29 => cur5 (listC (fun l23 i26 A24 c25 U35 hJ_ => ?_) (fun y27 ys28 l23 i26 A24 c25 U35 hJ_ => ?_))
  ·skip
   clear hl33
   have hr30 := hJ_.1; have hk36 := hJ_.2.1; have h := hJ_.2.2; clear hJ_
   replace h : spec_plKeep.l1 a0_0 l0_1 l0_2 l1 [] l23 i26 = some o34 := h
   rw [spec_plKeep.l1] at h
   refine c_seq ?_
   refine za0 ?_
   refine o_q rfl rfl (q_lss rfl rfl) ?_
   refine o_end ?_
   refine za1 ?_
   refine c_seq ?_
   refine c_false (congrArg Value.bool hr30.ge) ?_
   refine zb6 ?_
   refine zaa ?_
   refine zaa ?_
   have e_ := Option.some.inj h; replace h := hR32; rw [← e_] at h; clear e_
   refine x_hit ?_
   refine za1 ?_
   refine c_seq ?_
   refine za0 ?_
   refine o_q rfl rfl (q_ldB G25 Z25 rfl (fun w h => h.zaf (i := 2) rfl) rfl) ?_
   refine o_e rfl (zal (i := 3) rfl rfl rfl Z25 rfl rfl) (fun _ => ?_)
   refine o_end ?_
   refine za1 ?_
   refine c_ret ?_
   have e0_ := Option.some.inj h; clear h
   have d0_ := (Prod.mk.inj e0_).1; have e1_ := (Prod.mk.inj e0_).2; clear e0_; subst d0_
   subst e1_
   exact x_r1 (A9, c10, A24, c25) Try.results147 (rv_cell rfl G25 Z25 (fun w h => h.zaf (i := 3) rfl) rfl) rfl (fun w h => za6 [1, 0] (by decide) rfl w h)
  ·skip
   clear hl33
   have hr30 := hJ_.1; have hk36 := hJ_.2.1; have h := hJ_.2.2; clear hJ_
   replace h : spec_plKeep.l1 a0_0 l0_1 l0_2 l1 (y27 :: ys28) l23 i26 = some o34 := h
   rw [spec_plKeep.l1] at h
   refine c_seq ?_
   refine za0 ?_
   refine o_q rfl rfl (q_lss rfl rfl) ?_
   refine o_end ?_
   refine za1 ?_
   refine c_seq ?_
   refine zb9 (congrArg Value.bool hr30.lt) ?_
   refine zat ?_
   refine za1 ?_
   refine c_seq ?_
   refine zam ?_
   refine c_seq ?_
   refine za0 ?_
   refine zb7 (p := Sh A0_2 l0_2.length l0_2.length) (fun w h => f_sh (dk := (Kd.int .i64)) h (fun w h => R0_2.now Z h)) (fun hq37 => ?_)
   refine o_q rfl rfl (q_ix Try.underlying23 Z3 rfl rfl hq37 hr30.get) ?_
   refine o_q rfl rfl (q_lde (off := 0) Y3 rfl rfl (fun w h => R0_2.now Z h) hr30.get (fun _ _ h => h) rfl) ?_
   refine o_q rfl rfl (q_asg rfl) ?_
   refine o_end ?_
   refine za1 ?_
   refine za9 h (fun i340 hx339 h => ?_) rfl
   refine za9 h (fun l459 ha460 h => ?_) rfl
   refine a_startS (ds := []) [none, some 1, none, some 3, some 4] MO rfl ?_
   refine za5 0 rfl rfl rfl (by kernel_rfl) (fun _ _ _ h => h) (q_f F25_2 rfl) ?_
   refine zb0 2 rfl rfl rfl (by kernel_rfl) (fun _ _ _ h => h) (fun w h => za3 [none, some 1, none, some 3, some 4] (by decide) w h rfl) (q_ldB G25 Z25 rfl (fun w h => h.zaf (i := 4) rfl) rfl) ?_
   refine za5 3 rfl rfl rfl (by kernel_rfl) (fun _ _ _ h => h) (za2 rfl) ?_
   refine za5 4 rfl rfl rfl (by kernel_rfl) (fun _ _ _ h => h) (za2 rfl) ?_
   refine a_two 1 5 rfl rfl rfl rfl (by kernel_rfl) rfl rfl (ev_q rfl (q_ldb Y23 rfl (fun w h => h.zaf (i := 2) rfl) rfl)) (fun s w h => za3 [none, some 1, none, some 3, some 4] (by decide) w h rfl) (za4 0 Z Try.func160 N160 rfl rfl rfl (fun w P1 hF hB hS hT => spec_plNumber.calls a0_0 A0_1 c0_1 l0_1.length l0_1 A0_2 c0_2 l0_2.length l0_2 A1 c1 l1.length l1 y27 hB hF (hS _ R0_1) hc0_1 (hS _ R0_2) hc0_2 (hS _ R1) hc1 _ hx339)) (fun s w h => za3 [none, some 1, none, some 3, some 4] (by decide) w h rfl) (fun _ => ?_) (fun _ => ?_)
   ·skip
    refine a_one 5 rfl rfl (by kernel_rfl) rfl (za4 0 Z Try.func160 N160 rfl rfl rfl (fun w P1 hF hB hS hT => spec_plNumber.calls a0_0 A0_1 c0_1 l0_1.length l0_1 A0_2 c0_2 l0_2.length l0_2 A1 c1 l1.length l1 y27 hB hF (hS _ R0_1) hc0_1 (hS _ R0_2) hc0_2 (hS _ R1) hc1 _ hx339)) (fun s w h => za3 [none, some 1, none, some 3, some 4] (by decide) w h rfl) (fun _ => ?_)
    refine a_one 6 rfl rfl (by kernel_rfl) rfl (e_lit (vs := [(0, .int .i64 i340)]) (cs := [.int .i64 i340]) (Kd.int .i64) ([i340] : List Int) Try.underlying23 I3 (by decide) rfl (by decide) rfl rfl (fun _ _ => Kd.zab _)) (fun s w h => za3 [none, some 2, none, some 4, some 5] (by decide) w h rfl) (cur2 (fun A399 c400 => ?_))
    refine a_one 7 rfl rfl (by kernel_rfl) rfl (e_app (i := 1) (j := 0) Try.underlying23 I3 rfl (by decide) (by decide) rfl rfl rfl rfl rfl ha460) (fun s w h => za3 [none, some 2, none, some 4, some 5] (by decide) w h rfl) (cur2 (fun A461 c462 => ?_))
    refine za5 8 rfl rfl rfl (by kernel_rfl) (fun _ _ _ h => h) (q_f F25_2 rfl) ?_
    refine a_one 9 rfl rfl (by kernel_rfl) rfl (zah (i := 3) rfl rfl rfl rfl Z23 rfl rfl) (fun s w h => za3 [none, some 2, none, some 4, some 5] (by decide) w h rfl) (fun _ => ?_)
    refine zar (by kernel_rfl) ?_
    refine zao ?_
    refine za1 ?_
    refine za0 ?_
    refine o_q rfl rfl (q_up rfl rfl (hr30.up hm31)) ?_
    refine o_q rfl rfl (za2 rfl) ?_
    refine o_end ?_
    refine zaq ys28.length (ys28, l459, i26 + 1, A461, c462) (by rw [← hk36]; exact Nat.lt_succ_self _) ⟨hr30.step, rfl, h⟩ ⟨rfl, trivial⟩ (fun w h => za6 [1, 2, 3, 4, 5] (by decide) rfl w h) ?_
    repeat (first | exact za7 _ _ | refine zad rfl ?_ | refine za8 rfl ?_ | refine zae rfl ?_)
   ·skip
    refine a_two 1 6 rfl rfl rfl rfl (by kernel_rfl) rfl rfl (ev_q rfl (q_ldb Y23 rfl (fun w h => h.zaf (i := 2) rfl) rfl)) (fun s w h => za3 [none, some 1, none, some 3, some 4] (by decide) w h rfl) (e_lit (vs := [(0, .int .i64 i340)]) (cs := [.int .i64 i340]) (Kd.int .i64) ([i340] : List Int) Try.underlying23 I3 (by decide) rfl (by decide) rfl rfl (fun _ _ => Kd.zab _)) (fun s w h => za3 [none, some 2, none, some 4, some 5] (by decide) w h rfl) (fun _ => ?_) (cur2 (fun A399 c400 => ?_))
    ·skip
     refine a_one 6 rfl rfl (by kernel_rfl) rfl (e_lit (vs := [(0, .int .i64 i340)]) (cs := [.int .i64 i340]) (Kd.int .i64) ([i340] : List Int) Try.underlying23 I3 (by decide) rfl (by decide) rfl rfl (fun _ _ => Kd.zab _)) (fun s w h => za3 [none, some 2, none, some 4, some 5] (by decide) w h rfl) (cur2 (fun A399 c400 => ?_))
     refine a_one 7 rfl rfl (by kernel_rfl) rfl (e_app (i := 1) (j := 0) Try.underlying23 I3 rfl (by decide) (by decide) rfl rfl rfl rfl rfl ha460) (fun s w h => za3 [none, some 2, none, some 4, some 5] (by decide) w h rfl) (cur2 (fun A461 c462 => ?_))
     refine za5 8 rfl rfl rfl (by kernel_rfl) (fun _ _ _ h => h) (q_f F25_2 rfl) ?_
     refine a_one 9 rfl rfl (by kernel_rfl) rfl (zah (i := 3) rfl rfl rfl rfl Z23 rfl rfl) (fun s w h => za3 [none, some 2, none, some 4, some 5] (by decide) w h rfl) (fun _ => ?_)
     refine zar (by kernel_rfl) ?_
     refine zao ?_
     refine za1 ?_
     refine za0 ?_
     refine o_q rfl rfl (q_up rfl rfl (hr30.up hm31)) ?_
     refine o_q rfl rfl (za2 rfl) ?_
     refine o_end ?_
     refine zaq ys28.length (ys28, l459, i26 + 1, A461, c462) (by rw [← hk36]; exact Nat.lt_succ_self _) ⟨hr30.step, rfl, h⟩ ⟨rfl, trivial⟩ (fun w h => za6 [1, 2, 3, 4, 5] (by decide) rfl w h) ?_
     repeat (first | exact za7 _ _ | refine zad rfl ?_ | refine za8 rfl ?_ | refine zae rfl ?_)
    ·skip
     refine a_one 1 rfl rfl (by kernel_rfl) rfl (ev_q rfl (q_ldb Y23 rfl (fun w h => h.zaf (i := 3) rfl) rfl)) (fun s w h => za3 [none, some 2, none, some 4, some 5] (by decide) w h rfl) (fun _ => ?_)
     refine a_one 7 rfl rfl (by kernel_rfl) rfl (e_app (i := 1) (j := 0) Try.underlying23 I3 rfl (by decide) (by decide) rfl rfl rfl rfl rfl ha460) (fun s w h => za3 [none, some 2, none, some 4, some 5] (by decide) w h rfl) (cur2 (fun A461 c462 => ?_))
     refine za5 8 rfl rfl rfl (by kernel_rfl) (fun _ _ _ h => h) (q_f F25_2 rfl) ?_
     refine a_one 9 rfl rfl (by kernel_rfl) rfl (zah (i := 3) rfl rfl rfl rfl Z23 rfl rfl) (fun s w h => za3 [none, some 2, none, some 4, some 5] (by decide) w h rfl) (fun _ => ?_)
     refine zar (by kernel_rfl) ?_
     refine zao ?_
     refine za1 ?_
     refine za0 ?_
     refine o_q rfl rfl (q_up rfl rfl (hr30.up hm31)) ?_
     refine o_q rfl rfl (za2 rfl) ?_
     refine o_end ?_
     refine zaq ys28.length (ys28, l459, i26 + 1, A461, c462) (by rw [← hk36]; exact Nat.lt_succ_self _) ⟨hr30.step, rfl, h⟩ ⟨rfl, trivial⟩ (fun w h => za6 [1, 2, 3, 4, 5] (by decide) rfl w h) ?_
     repeat (first | exact za7 _ _ | refine zad rfl ?_ | refine za8 rfl ?_ | refine zae rfl ?_)
 ·skip
  clear hl18
  have hr15 := hJ_.1; have hk21 := hJ_.2.1; have h := hJ_.2.2; clear hJ_
  replace h : spec_plKeep.l0 a0_0 l0_1 l0_2 l1 (y12 :: ys13) l8 i11 = some o19 := h
  rw [spec_plKeep.l0] at h
  refine c_seq ?_
  refine za0 ?_
  refine o_q rfl rfl (q_lss rfl rfl) ?_
  refine o_end ?_
  refine za1 ?_
  refine c_seq ?_
  refine zb9 (congrArg Value.bool hr15.lt) ?_
  refine zat ?_
  refine za1 ?_
  refine c_seq ?_
  refine zam ?_
  refine c_seq ?_
  refine za0 ?_
  refine zb7 (p := Sh A1 l1.length l1.length) (fun w h => f_sh (dk := (Kd.int .i64)) h (fun w h => R1.now Z h)) (fun hq699 => ?_)
  refine o_q rfl rfl (q_ix Try.underlying23 Z3 rfl rfl hq699 hr15.get) ?_
  refine o_q rfl rfl (q_lde (off := 0) Y3 rfl rfl (fun w h => R1.now Z h) hr15.get (fun _ _ h => h) rfl) ?_
  refine o_q rfl rfl (q_asg rfl) ?_
  refine o_end ?_
  refine za1 ?_
  refine c_seq ?_
  refine za0 ?_
  refine o_q rfl rfl (q_f F25_1 rfl) ?_
  refine o_q rfl rfl (q_ldb Y22 rfl (fun w h => h.zaf (i := 3) rfl) rfl) ?_
  refine o_q rfl rfl (za2 rfl) ?_
  refine zb7 (p := Sh A0_1 l0_1.length l0_1.length) (fun w h => f_sh (dk := kStep) h (fun w h => R0_1.now Z h)) (fun hq700 => ?_)
  refine za9 h (fun y702 hg701 h => ?_) rfl
  refine o_q rfl rfl (q_ix Try.underlying22 Z107 rfl rfl hq700 hg701) ?_
  refine o_q rfl rfl (q_ldE G107 Z107 rfl rfl (fun w h => R0_1.now Z h) hg701 (fun _ _ h => h) rfl) ?_
  refine o_e rfl (zak V107 rfl) (fun g703 => ?_)
  refine o_e rfl (zal (i := 0) rfl rfl rfl Z107 rfl rfl) (fun _ => ?_)
  refine o_end ?_
  refine za1 ?_
  refine za9 h (fun i1067 hx1066 h => ?_) rfl
  refine za9 h (fun i1367 hx1366 h => ?_) rfl
  refine za9 h (fun z1427 hx1426 h => ?_) rfl
  refine za9 h (fun l1546 ha1547 h => ?_) rfl
  refine a_startS (ds := []) [some 0, none, none, some 3, some 4] MO rfl ?_
  refine za5 0 rfl rfl rfl (by kernel_rfl) (fun _ _ _ h => h) (q_f F25_1 rfl) ?_
  refine zb0 2 rfl rfl rfl (by kernel_rfl) (fun _ _ _ h => h) (fun w h => za3 [some 0, none, none, some 3, some 4] (by decide) w h rfl) (q_ldB G25 Z25 rfl (fun w h => h.zaf (i := 4) rfl) rfl) ?_
  refine za5 3 rfl rfl rfl (by kernel_rfl) (fun _ _ _ h => h) (za2 rfl) ?_
  refine za5 4 rfl rfl rfl (by kernel_rfl) (fun _ _ _ h => h) (q_f F107_0 rfl) ?_
  refine zb0 5 rfl rfl rfl (by kernel_rfl) (fun _ _ _ h => h) (fun w h => za3 [some 0, none, none, some 3, some 4] (by decide) w h rfl) (q_ldb Y3 rfl (fun w h => h.zaf (i := 0) rfl) rfl) ?_
  refine zb0 7 rfl rfl rfl (by kernel_rfl) (fun _ _ _ h => h) (fun w h => za3 [some 0, none, none, some 3, some 4] (by decide) w h rfl) (q_ldB G25 Z25 rfl (fun w h => h.zaf (i := 4) rfl) rfl) ?_
  refine za5 8 rfl rfl rfl (by kernel_rfl) (fun _ _ _ h => h) (za2 rfl) ?_
  refine za5 9 rfl rfl rfl (by kernel_rfl) (fun _ _ _ h => h) (q_f F107_1 rfl) ?_
  refine zb0 10 rfl rfl rfl (by kernel_rfl) (fun _ _ _ h => h) (fun w h => za3 [some 0, none, none, some 3, some 4] (by decide) w h rfl) (q_ldb Y3 rfl (fun w h => h.zaf (i := 0) rfl) rfl) ?_
  refine a_two 1 6 rfl rfl rfl rfl (by kernel_rfl) rfl rfl (ev_q rfl (q_ldb Y22 rfl (fun w h => h.zaf (i := 2) rfl) rfl)) (fun s w h => za3 [some 0, none, none, some 3, some 4] (by decide) w h rfl) (za4 0 Z Try.func160 N160 rfl rfl rfl (fun w P1 hF hB hS hT => spec_plNumber.calls a0_0 A0_1 c0_1 l0_1.length l0_1 A0_2 c0_2 l0_2.length l0_2 A1 c1 l1.length l1 y702.f0 hB hF (hS _ R0_1) hc0_1 (hS _ R0_2) hc0_2 (hS _ R1) hc1 _ hx1066)) (fun s w h => za3 [some 0, none, none, some 3, some 4] (by decide) w h rfl) (fun _ => ?_) (fun _ => ?_)
  ·skip
   refine a_one 6 rfl rfl (by kernel_rfl) rfl (za4 0 Z Try.func160 N160 rfl rfl rfl (fun w P1 hF hB hS hT => spec_plNumber.calls a0_0 A0_1 c0_1 l0_1.length l0_1 A0_2 c0_2 l0_2.length l0_2 A1 c1 l1.length l1 y702.f0 hB hF (hS _ R0_1) hc0_1 (hS _ R0_2) hc0_2 (hS _ R1) hc1 _ hx1066)) (fun s w h => za3 [some 0, none, none, some 3, some 4] (by decide) w h rfl) (fun _ => ?_)
   refine a_one 11 rfl rfl (by kernel_rfl) rfl (za4 0 Z Try.func160 N160 rfl rfl rfl (fun w P1 hF hB hS hT => spec_plNumber.calls a0_0 A0_1 c0_1 l0_1.length l0_1 A0_2 c0_2 l0_2.length l0_2 A1 c1 l1.length l1 y702.f1 hB hF (hS _ R0_1) hc0_1 (hS _ R0_2) hc0_2 (hS _ R1) hc1 _ hx1366)) (fun s w h => za3 [some 0, none, none, some 3, some 4] (by decide) w h rfl) (fun _ => ?_)
   refine a_one 12 rfl rfl (by kernel_rfl) rfl (za4 0 Z Try.func146 N146 rfl rfl rfl (fun w P1 hF hB hS hT => spec_plStep.calls i1067 i1367 hB hF _ hx1426)) (fun s w h => za3 [some 0, none, none, some 3, some 4] (by decide) w h rfl) (fun _ => ?_)
   refine a_one 13 rfl rfl (by kernel_rfl) rfl (e_lit (vs := [(0, .agg #[.int .i64 z1427.f0, .int .i64 z1427.f1])]) (cs := [.int .i64 z1427.f0, .int .i64 z1427.f1]) kStep ([z1427] : List SStep) Try.underlying22 I107 (by decide) rfl (by decide) rfl rfl (fun _ _ => reps_flat _)) (fun s w h => za3 [some 1, none, none, some 4, some 5] (by decide) w h rfl) (cur2 (fun A1486 c1487 => ?_))
   refine a_one 14 rfl rfl (by kernel_rfl) rfl (e_app (i := 2) (j := 0) Try.underlying22 I107 rfl (by decide) (by decide) rfl rfl rfl rfl rfl ha1547) (fun s w h => za3 [some 1, none, none, some 4, some 5] (by decide) w h rfl) (cur2 (fun A1548 c1549 => ?_))
   refine za5 15 rfl rfl rfl (by kernel_rfl) (fun _ _ _ h => h) (q_f F25_1 rfl) ?_
   refine a_one 16 rfl rfl (by kernel_rfl) rfl (zah (i := 3) rfl rfl rfl rfl Z22 rfl rfl) (fun s w h => za3 [some 1, none, none, some 4, some 5] (by decide) w h rfl) (fun _ => ?_)
   refine zar (by kernel_rfl) ?_
   refine zao ?_
   refine za1 ?_
   refine za0 ?_
   refine o_q rfl rfl (q_up rfl rfl (hr15.up hm16)) ?_
   refine o_q rfl rfl (za2 rfl) ?_
   refine o_end ?_
   refine zaq ys13.length (ys13, l1546, i11 + 1, A1548, c1549) (by rw [← hk21]; exact Nat.lt_succ_self _) ⟨hr15.step, rfl, h⟩ ⟨rfl, trivial⟩ (fun w h => za6 [2, 3, 4, 5] (by decide) rfl w h) ?_
   repeat (first | exact za7 _ _ | refine zad rfl ?_ | refine za8 rfl ?_ | refine zae rfl ?_)
  ·skip
   refine a_two 1 11 rfl rfl rfl rfl (by kernel_rfl) rfl rfl (ev_q rfl (q_ldb Y22 rfl (fun w h => h.zaf (i := 2) rfl) rfl)) (fun s w h => za3 [some 0, none, none, some 3, some 4] (by decide) w h rfl) (za4 0 Z Try.func160 N160 rfl rfl rfl (fun w P1 hF hB hS hT => spec_plNumber.calls a0_0 A0_1 c0_1 l0_1.length l0_1 A0_2 c0_2 l0_2.length l0_2 A1 c1 l1.length l1 y702.f1 hB hF (hS _ R0_1) hc0_1 (hS _ R0_2) hc0_2 (hS _ R1) hc1 _ hx1366)) (fun s w h => za3 [some 0, none, none, some 3, some 4] (by decide) w h rfl) (fun _ => ?_) (fun _ => ?_)
   ·skip
    refine a_one 11 rfl rfl (by kernel_rfl) rfl (za4 0 Z Try.func160 N160 rfl rfl rfl (fun w P1 hF hB hS hT => spec_plNumber.calls a0_0 A0_1 c0_1 l0_1.length l0_1 A0_2 c0_2 l0_2.length l0_2 A1 c1 l1.length l1 y702.f1 hB hF (hS _ R0_1) hc0_1 (hS _ R0_2) hc0_2 (hS _ R1) hc1 _ hx1366)) (fun s w h => za3 [some 0, none, none, some 3, some 4] (by decide) w h rfl) (fun _ => ?_)
    refine a_one 12 rfl rfl (by kernel_rfl) rfl (za4 0 Z Try.func146 N146 rfl rfl rfl (fun w P1 hF hB hS hT => spec_plStep.calls i1067 i1367 hB hF _ hx1426)) (fun s w h => za3 [some 0, none, none, some 3, some 4] (by decide) w h rfl) (fun _ => ?_)
    refine a_one 13 rfl rfl (by kernel_rfl) rfl (e_lit (vs := [(0, .agg #[.int .i64 z1427.f0, .int .i64 z1427.f1])]) (cs := [.int .i64 z1427.f0, .int .i64 z1427.f1]) kStep ([z1427] : List SStep) Try.underlying22 I107 (by decide) rfl (by decide) rfl rfl (fun _ _ => reps_flat _)) (fun s w h => za3 [some 1, none, none, some 4, some 5] (by decide) w h rfl) (cur2 (fun A1486 c1487 => ?_))
    refine a_one 14 rfl rfl (by kernel_rfl) rfl (e_app (i := 2) (j := 0) Try.underlying22 I107 rfl (by decide) (by decide) rfl rfl rfl rfl rfl ha1547) (fun s w h => za3 [some 1, none, none, some 4, some 5] (by decide) w h rfl) (cur2 (fun A1548 c1549 => ?_))
    refine za5 15 rfl rfl rfl (by kernel_rfl) (fun _ _ _ h => h) (q_f F25_1 rfl) ?_
    refine a_one 16 rfl rfl (by kernel_rfl) rfl (zah (i := 3) rfl rfl rfl rfl Z22 rfl rfl) (fun s w h => za3 [some 1, none, none, some 4, some 5] (by decide) w h rfl) (fun _ => ?_)
    refine zar (by kernel_rfl) ?_
    refine zao ?_
    refine za1 ?_
    refine za0 ?_
    refine o_q rfl rfl (q_up rfl rfl (hr15.up hm16)) ?_
    refine o_q rfl rfl (za2 rfl) ?_
    refine o_end ?_
    refine zaq ys13.length (ys13, l1546, i11 + 1, A1548, c1549) (by rw [← hk21]; exact Nat.lt_succ_self _) ⟨hr15.step, rfl, h⟩ ⟨rfl, trivial⟩ (fun w h => za6 [2, 3, 4, 5] (by decide) rfl w h) ?_
    repeat (first | exact za7 _ _ | refine zad rfl ?_ | refine za8 rfl ?_ | refine zae rfl ?_)
   ·skip
    refine a_two 1 12 rfl rfl rfl rfl (by kernel_rfl) rfl rfl (ev_q rfl (q_ldb Y22 rfl (fun w h => h.zaf (i := 2) rfl) rfl)) (fun s w h => za3 [some 0, none, none, some 3, some 4] (by decide) w h rfl) (za4 0 Z Try.func146 N146 rfl rfl rfl (fun w P1 hF hB hS hT => spec_plStep.calls i1067 i1367 hB hF _ hx1426)) (fun s w h => za3 [some 0, none, none, some 3, some 4] (by decide) w h rfl) (fun _ => ?_) (fun _ => ?_)
    ·skip
     refine a_one 12 rfl rfl (by kernel_rfl) rfl (za4 0 Z Try.func146 N146 rfl rfl rfl (fun w P1 hF hB hS hT => spec_plStep.calls i1067 i1367 hB hF _ hx1426)) (fun s w h => za3 [some 0, none, none, some 3, some 4] (by decide) w h rfl) (fun _ => ?_)
     refine a_one 13 rfl rfl (by kernel_rfl) rfl (e_lit (vs := [(0, .agg #[.int .i64 z1427.f0, .int .i64 z1427.f1])]) (cs := [.int .i64 z1427.f0, .int .i64 z1427.f1]) kStep ([z1427] : List SStep) Try.underlying22 I107 (by decide) rfl (by decide) rfl rfl (fun _ _ => reps_flat _)) (fun s w h => za3 [some 1, none, none, some 4, some 5] (by decide) w h rfl) (cur2 (fun A1486 c1487 => ?_))
     refine a_one 14 rfl rfl (by kernel_rfl) rfl (e_app (i := 2) (j := 0) Try.underlying22 I107 rfl (by decide) (by decide) rfl rfl rfl rfl rfl ha1547) (fun s w h => za3 [some 1, none, none, some 4, some 5] (by decide) w h rfl) (cur2 (fun A1548 c1549 => ?_))
     refine za5 15 rfl rfl rfl (by kernel_rfl) (fun _ _ _ h => h) (q_f F25_1 rfl) ?_
     refine a_one 16 rfl rfl (by kernel_rfl) rfl (zah (i := 3) rfl rfl rfl rfl Z22 rfl rfl) (fun s w h => za3 [some 1, none, none, some 4, some 5] (by decide) w h rfl) (fun _ => ?_)
     refine zar (by kernel_rfl) ?_
     refine zao ?_
     refine za1 ?_
     refine za0 ?_
     refine o_q rfl rfl (q_up rfl rfl (hr15.up hm16)) ?_
     refine o_q rfl rfl (za2 rfl) ?_
     refine o_end ?_
     refine zaq ys13.length (ys13, l1546, i11 + 1, A1548, c1549) (by rw [← hk21]; exact Nat.lt_succ_self _) ⟨hr15.step, rfl, h⟩ ⟨rfl, trivial⟩ (fun w h => za6 [2, 3, 4, 5] (by decide) rfl w h) ?_
     repeat (first | exact za7 _ _ | refine zad rfl ?_ | refine za8 rfl ?_ | refine zae rfl ?_)
    ·skip
     refine a_two 1 13 rfl rfl rfl rfl (by kernel_rfl) rfl rfl (ev_q rfl (q_ldb Y22 rfl (fun w h => h.zaf (i := 2) rfl) rfl)) (fun s w h => za3 [some 0, none, none, some 3, some 4] (by decide) w h rfl) (e_lit (vs := [(0, .agg #[.int .i64 z1427.f0, .int .i64 z1427.f1])]) (cs := [.int .i64 z1427.f0, .int .i64 z1427.f1]) kStep ([z1427] : List SStep) Try.underlying22 I107 (by decide) rfl (by decide) rfl rfl (fun _ _ => reps_flat _)) (fun s w h => za3 [some 1, none, none, some 4, some 5] (by decide) w h rfl) (fun _ => ?_) (cur2 (fun A1486 c1487 => ?_))
     ·skip
      refine a_one 13 rfl rfl (by kernel_rfl) rfl (e_lit (vs := [(0, .agg #[.int .i64 z1427.f0, .int .i64 z1427.f1])]) (cs := [.int .i64 z1427.f0, .int .i64 z1427.f1]) kStep ([z1427] : List SStep) Try.underlying22 I107 (by decide) rfl (by decide) rfl rfl (fun _ _ => reps_flat _)) (fun s w h => za3 [some 1, none, none, some 4, some 5] (by decide) w h rfl) (cur2 (fun A1486 c1487 => ?_))
      refine a_one 14 rfl rfl (by kernel_rfl) rfl (e_app (i := 2) (j := 0) Try.underlying22 I107 rfl (by decide) (by decide) rfl rfl rfl rfl rfl ha1547) (fun s w h => za3 [some 1, none, none, some 4, some 5] (by decide) w h rfl) (cur2 (fun A1548 c1549 => ?_))
      refine za5 15 rfl rfl rfl (by kernel_rfl) (fun _ _ _ h => h) (q_f F25_1 rfl) ?_
      refine a_one 16 rfl rfl (by kernel_rfl) rfl (zah (i := 3) rfl rfl rfl rfl Z22 rfl rfl) (fun s w h => za3 [some 1, none, none, some 4, some 5] (by decide) w h rfl) (fun _ => ?_)
      refine zar (by kernel_rfl) ?_
      refine zao ?_
      refine za1 ?_
      refine za0 ?_
      refine o_q rfl rfl (q_up rfl rfl (hr15.up hm16)) ?_
      refine o_q rfl rfl (za2 rfl) ?_
      refine o_end ?_
      refine zaq ys13.length (ys13, l1546, i11 + 1, A1548, c1549) (by rw [← hk21]; exact Nat.lt_succ_self _) ⟨hr15.step, rfl, h⟩ ⟨rfl, trivial⟩ (fun w h => za6 [2, 3, 4, 5] (by decide) rfl w h) ?_
      repeat (first | exact za7 _ _ | refine zad rfl ?_ | refine za8 rfl ?_ | refine zae rfl ?_)
     ·skip
      refine a_one 1 rfl rfl (by kernel_rfl) rfl (ev_q rfl (q_ldb Y22 rfl (fun w h => h.zaf (i := 3) rfl) rfl)) (fun s w h => za3 [some 1, none, none, some 4, some 5] (by decide) w h rfl) (fun _ => ?_)
      refine a_one 14 rfl rfl (by kernel_rfl) rfl (e_app (i := 2) (j := 0) Try.underlying22 I107 rfl (by decide) (by decide) rfl rfl rfl rfl rfl ha1547) (fun s w h => za3 [some 1, none, none, some 4, some 5] (by decide) w h rfl) (cur2 (fun A1548 c1549 => ?_))
      refine za5 15 rfl rfl rfl (by kernel_rfl) (fun _ _ _ h => h) (q_f F25_1 rfl) ?_
      refine a_one 16 rfl rfl (by kernel_rfl) rfl (zah (i := 3) rfl rfl rfl rfl Z22 rfl rfl) (fun s w h => za3 [some 1, none, none, some 4, some 5] (by decide) w h rfl) (fun _ => ?_)
      refine zar (by kernel_rfl) ?_
      refine zao ?_
      refine za1 ?_
      refine za0 ?_
      refine o_q rfl rfl (q_up rfl rfl (hr15.up hm16)) ?_
      refine o_q rfl rfl (za2 rfl) ?_
      refine o_end ?_
      refine zaq ys13.length (ys13, l1546, i11 + 1, A1548, c1549) (by rw [← hk21]; exact Nat.lt_succ_self _) ⟨hr15.step, rfl, h⟩ ⟨rfl, trivial⟩ (fun w h => za6 [2, 3, 4, 5] (by decide) rfl w h) ?_
      repeat (first | exact za7 _ _ | refine zad rfl ?_ | refine za8 rfl ?_ | refine zae rfl ?_)

/-! ### loop.example/g01098/spec.meTrim: function 111 -/
def spec_meTrim.f (k : Nat) (a0_0 : Int) (l0_1 : List SStep) (l0_2 : List Int) : Option ((List SStep) × (List Int)) := (spec_plUsed.f k a0_0 l0_1 l0_2).bind fun l6 => (spec_plKeep.f a0_0 l0_1 l0_2 l6).bind fun (l10, l11) => some (l10, l11)
set_option maxHeartbeats 600000 in
set_option maxRecDepth 100000 in
theorem spec_meTrim.calls (k : Nat) {w0 ws : World} {P0 : Nat → Prop} (a0_0 : Int) (A0_1 : Option Addr) (c0_1 : Nat) (n0_1 : Nat) (l0_1 : List SStep) (A0_2 : Option Addr) (c0_2 : Nat) (n0_2 : Nat) (l0_2 : List Int) (Z : Below w0.heap.size w0 ws) (hF : Fr w0 ws P0 [] ws) (R0_1 : Stable ws P0 (fun w => Kd.C kStep w A0_1 n0_1 l0_1)) (hc0_1 : n0_1 ≤ c0_1) (R0_2 : Stable ws P0 (fun w => Kd.C (Kd.int .i64) w A0_2 n0_2 l0_2)) (hc0_2 : n0_2 ≤ c0_2) (r_1 : List SStep) (r_4 : List Int) (h : spec_meTrim.f k a0_0 l0_1 l0_2 = some (r_1, r_4)) :
  Calls Try.prog 111 #[.agg #[.int .i64 a0_0, .slice A0_1 n0_1 c0_1, .slice A0_2 n0_2 c0_2]] ws (Post1 w0 ws P0 (fun ((q_2, q_3, q_5, q_6) : (Option Addr) × Nat × (Option Addr) × Nat) => .agg #[.int .i64 a0_0, .slice q_2 r_1.length q_3, .slice q_5 r_4.length q_6]) (fun ((q_2, q_3, q_5, q_6) : (Option Addr) × Nat × (Option Addr) × Nat) => [row kStep 107 (.slice q_2 r_1.length q_3) r_1, row (Kd.int .i64) 3 (.slice q_5 r_4.length q_6) r_4])) := by
 unfold spec_meTrim.f at h
 obtain rfl := (R0_1 ws (KeptB.refl _ _)).1
 obtain rfl := (R0_2 ws (KeptB.refl _ _)).1
 refine enter Try.func111 rfl Try.ntmps111 rfl hF ?_
 refine c_seq ?_
 refine za0 ?_
 refine o_e rfl (e_box rfl) (fun g1 => ?_)
 refine o_e rfl (zak V25 rfl) (fun g3 => ?_)
 refine o_end ?_
 refine za1 ?_
 refine c_seq ?_
 refine a_startS (ds := []) [none, some 1] MO rfl ?_
 refine zb0 0 rfl rfl rfl (by kernel_rfl) (fun _ _ _ h => h) (fun w h => za3 [none, some 1] (by decide) w h rfl) (q_ldB G25 Z25 rfl (fun w h => h.zaf (i := 1) rfl) rfl) ?_
 refine zb0 1 rfl rfl rfl (by kernel_rfl) (fun _ _ _ h => h) (fun w h => za3 [none, some 1] (by decide) w h rfl) (q_ldB G25 Z25 rfl (fun w h => h.zaf (i := 1) rfl) rfl) ?_
 refine za9 h (fun l6 hx5 h => ?_) rfl
 refine a_one 2 rfl rfl (by kernel_rfl) rfl (za4 0 Z Try.func148 N148 rfl rfl rfl (fun w P1 hF hB hS hT => spec_plUsed.calls k a0_0 A0_1 c0_1 l0_1.length l0_1 A0_2 c0_2 l0_2.length l0_2 hB hF (hS _ R0_1) hc0_1 (hS _ R0_2) hc0_2 _ hx5)) (fun s w h => za3 [none, some 2] (by decide) w h rfl) (cur2 (fun A7 c8 => ?_))
 refine bindE2 h (fun l10 l11 hx9 h => ?_) rfl
 refine a_one 3 rfl rfl (by kernel_rfl) rfl (za4 0 Z Try.func147 N147 rfl rfl rfl (fun w P1 hF hB hS hT => spec_plKeep.calls a0_0 A0_1 c0_1 l0_1.length l0_1 A0_2 c0_2 l0_2.length l0_2 A7 c8 l6.length l6 hB hF (hS _ R0_1) hc0_1 (hS _ R0_2) hc0_2 (hT 0 _ rfl).row (hT 0 _ rfl).cap _ _ hx9)) (fun s w h => za3 [none, some 4] (by decide) w h rfl) (cur4 (fun A12 c13 A14 c15 => ?_))
 refine a_one 4 rfl rfl (by kernel_rfl) rfl (zal (i := 3) rfl rfl rfl Z25 rfl rfl) (fun s w h => za3 [none, some 4] (by decide) w h rfl) (fun _ => ?_)
 refine zar (by kernel_rfl) ?_
 refine za1 ?_
 refine c_ret ?_
 have e0_ := Option.some.inj h; clear h
 have d0_ := (Prod.mk.inj e0_).1; have e1_ := (Prod.mk.inj e0_).2; clear e0_; subst d0_
 subst e1_
 exact x_r1 (A12, c13, A14, c15) Try.results111 (rv_cell rfl G25 Z25 (fun w h => h.zaf (i := 3) rfl) rfl) rfl (fun w h => za6 [0, 1] (by decide) rfl w h)

/-! ### loop.example/g01098/spec.meWindow: function 52 -/
def spec_meWindow.l2 (a1 : Int) : Nat → (List SStep) → (List Int) → Int → Int → Option ((List SStep) × (List Int) × Int)
 | 0, _, _, _, _ => none
 | k70 + 1, l60, l63, i66, i67 => if i66 < a1 then ((spec_meTimes.f 1 l60 l63 i67 i67).bind fun l80 => spec_meWindow.l2 a1 k70 l80 [] (w64 (i66 + 1)) (w64 (1 + (l60.length : Int)))) else (some (l60, l63, i67))
def spec_meWindow.l1 (k : Nat) (a1 : Int) (l5 : List Int) : Nat → (List SStep) → (List Int) → Int → Int → Option ((List SStep) × (List Int) × Int)
 | 0, _, _, _, _ => none
 | k51 + 1, l41, l44, i47, i48 => if 0 ≤ i48 then ((spec_meWindow.l2 a1 k l41 l44 0 i47).bind fun (l60, l63, i67) => (gt l5 i48).bind fun y85 => if 0 < y85 then ((gt l5 i48).bind fun y88 => (spec_meTimes.f 1 l60 l63 i67 (w64 (y88 - 1))).bind fun l90 => spec_meWindow.l1 k a1 l5 k51 l90 [] (w64 (1 + (l60.length : Int))) (w64 (i48 - 1))) else (spec_meWindow.l1 k a1 l5 k51 l60 l63 i67 (w64 (i48 - 1)))) else (some (l41, l44, i47))
def spec_meWindow.l0 (l5 : List Int) : Nat → (List SStep) → (List Int) → Int → Int → Option ((List SStep) × (List Int))
 | 0, _, _, _, _ => none
 | k22 + 1, l12, l15, i18, i19 => (spec_meGreatest.f l5).bind fun i31 => if i19 ≤ i31 then ((spec_meTimes.f 1 l12 l15 i18 0).bind fun l34 => spec_meWindow.l0 l5 k22 l34 [] (w64 (1 + (l12.length : Int))) (w64 (i19 + 1))) else (some (l12, l15))
def spec_meWindow.f (k : Nat) (a0 : Int) (a1 : Int) : Option ((List SStep) × (List Int)) := (nn a1).bind fun _ => (spec_meDigits.f k a0 (IntKind.i64.wrap (1 * 2 ^ min (a1 : Int).toNat IntKind.i64.bits))).bind fun l5 => (spec_meWindow.l0 l5 k ([] : List SStep) ([] : List Int) 0 2).bind fun (l12, l15) => (gt l5 (w64 ((l5.length : Int) - 1))).bind fun y40 => (spec_meWindow.l1 k a1 l5 k l12 l15 (w64 (y40 - 1)) (w64 ((l5.length : Int) - 2))).bind fun (l41, l44, i47) => (spec_meEnd.f 1 l41 l44 i47).bind fun _ => (spec_meTrim.f k 1 l41 ([i47] : List Int)).bind fun (l98, l99) => some (l98, l99)
set_option maxHeartbeats 600000 in
set_option maxRecDepth 100000 in
theorem spec_meWindow.calls (k : Nat) {w0 ws : World} {P0 : Nat → Prop} (a0 : Int) (a1 : Int) (Z : Below w0.heap.size w0 ws) (hF : Fr w0 ws P0 [] ws)  (r_1 : List SStep) (r_4 : List Int) (h : spec_meWindow.f k a0 a1 = some (r_1, r_4)) :
  Calls Try.prog 52 #[.int .i64 a0, .int .i64 a1] ws (Post1 w0 ws P0 (fun ((q_2, q_3, q_5, q_6) : (Option Addr) × Nat × (Option Addr) × Nat) => .agg #[.int .i64 1, .slice q_2 r_1.length q_3, .slice q_5 r_4.length q_6]) (fun ((q_2, q_3, q_5, q_6) : (Option Addr) × Nat × (Option Addr) × Nat) => [row kStep 107 (.slice q_2 r_1.length q_3) r_1, row (Kd.int .i64) 3 (.slice q_5 r_4.length q_6) r_4])) := by
 unfold spec_meWindow.f at h
 refine enter Try.func52 rfl Try.ntmps52 rfl hF ?_
 refine c_seq ?_
 refine za0 ?_
 refine o_e rfl (zak V25 rfl) (fun g1 => ?_)
 refine o_end ?_
 refine za1 ?_
 refine c_seq ?_
 refine za0 ?_
 refine o_q rfl rfl (za2 rfl) ?_
 refine o_q rfl rfl (za2 rfl) ?_
 refine za9 h (fun _ hz3 h => ?_) rfl
 refine o_q rfl rfl (q_shl rfl rfl (nn_le hz3)) ?_
 refine za9 h (fun l5 hx4 h => ?_) rfl
 refine o_e rfl (za4 0 Z Try.func108 N108 rfl rfl rfl (fun w P1 hF hB hS hT => spec_meDigits.calls k a0 (IntKind.i64.wrap (1 * 2 ^ min (a1 : Int).toNat IntKind.i64.bits)) hB hF _ hx4)) (cur2 (fun A6 c7 => ?_))
 refine o_q rfl rfl (q_asg rfl) ?_
 refine o_end ?_
 refine za1 ?_
 refine c_seq ?_
 refine za0 ?_
 refine o_q rfl rfl (q_build (vs := [(0, .int .i64 1)]) (cs := [.int .i64 1, .slice none 0 0, .slice none 0 0]) rfl rfl) ?_
 refine o_e rfl (zak V25 rfl) (fun g8 => ?_)
 refine o_e rfl (zal (i := 0) rfl rfl rfl Z25 rfl rfl) (fun _ => ?_)
 refine o_end ?_
 refine za1 ?_
 refine c_seq ?_
 refine za0 ?_
 refine o_q rfl rfl (q_asg rfl) ?_
 refine o_end ?_
 refine za1 ?_
 refine c_seq ?_
 refine c_seq ?_
 refine za0 ?_
 refine o_q rfl rfl (q_asg rfl) ?_
 refine o_end ?_
 refine za1 ?_
 refine zam ?_
 refine c_nil kStep 107 ?_
 refine c_nil (Kd.int .i64) 3 ?_
 refine za9 h (fun o27 hl26 hR25 => ?_) rfl
 clear h
 refine zb2 (σ := (List SStep) × (List Int) × Int × Int × (Option Addr) × Nat × (Option Addr) × Nat) (fun k22 ((l12, l15, i18, i19, A13, c14, A16, c17) : (List SStep) × (List Int) × Int × Int × (Option Addr) × Nat × (Option Addr) × Nat) => spec_meWindow.l0 l5 k22 l12 l15 i18 i19 = some o27) [7, 8, 16, 17, 18, 19, 20, 21, 22, 23, 24, 25, 26, 27] (fun ((l12, l15, i18, i19, A13, c14, A16, c17) : (List SStep) × (List Int) × Int × Int × (Option Addr) × Nat × (Option Addr) × Nat) => [(7, .int .i64 i18), (8, .int .i64 i19)]) (fun ((l12, l15, i18, i19, A13, c14, A16, c17) : (List SStep) × (List Int) × Int × Int × (Option Addr) × Nat × (Option Addr) × Nat) => [row (Kd.int .i64) 3 (.slice A16 l15.length c17) l15, row kStep 107 (.slice A13 l12.length c14) l12, box g8 25 #[.int .i64 1, .slice A13 l12.length c14, .slice A16 l15.length c17], row (Kd.int .i64) 3 (.slice A6 l5.length c7) l5, box g1 25 #[.int .i64 0, .slice none 0 0, .slice none 0 0]]) k (([] : List SStep), ([] : List Int), 0, 2, none, 0, none, 0) hl26 ⟨rfl, rfl, trivial⟩ (fun w h => h) ?_
 refine natC (cur8 (fun l12 l15 i18 i19 A13 c14 A16 c17 => fun U28 hJ_ => ?_)) (fun k22 => (cur8 (fun l12 l15 i18 i19 A13 c14 A16 c17 => fun U28 hJ_ => ?_)))
 ·skip
  replace hJ_ : spec_meWindow.l0 l5 0 l12 l15 i18 i19 = some o27 := hJ_
  rw [spec_meWindow.l0] at hJ_
  exact noneE hJ_
 ·skip
  clear hl26
  have h := hJ_; clear hJ_
  replace h : spec_meWindow.l0 l5 (k22 + 1) l12 l15 i18 i19 = some o27 := h
  rw [spec_meWindow.l0] at h
  refine c_seq ?_
  refine c_seq ?_
  refine za0 ?_
  refine o_q rfl rfl (za2 rfl) ?_
  refine o_q rfl rfl (za2 rfl) ?_
  refine za9 h (fun i31 hx30 h => ?_) rfl
  refine o_e rfl (za4 0 Z Try.func109 N109 rfl rfl rfl (fun w P1 hF hB hS hT => spec_meGreatest.calls A6 c7 l5.length l5 hB hF (hT 3 _ rfl).row (hT 3 _ rfl).cap _ hx30)) (fun _ => ?_)
  refine o_q rfl rfl (q_leq rfl rfl) ?_
  refine o_end ?_
  refine za1 ?_
  refine zaw _ rfl (fun hb32 => ?_) (fun hb32 => ?_)
  ·skip
   replace h := br_t hb32 h
   refine zat ?_
   refine za1 ?_
   refine c_seq ?_
   refine zam ?_
   refine za0 ?_
   refine o_q rfl rfl (q_ldB G25 Z25 rfl (fun w h => h.zaf (i := 2) rfl) rfl) ?_
   refine o_q rfl rfl (za2 rfl) ?_
   refine za9 h (fun l34 hx33 h => ?_) rfl
   refine o_e rfl (za4 0 Z Try.func110 N110 rfl rfl rfl (fun w P1 hF hB hS hT => spec_meTimes.calls 1 A13 c14 l12.length l12 A16 c17 l15.length l15 i18 0 hB hF (hT 1 _ rfl).row (hT 1 _ rfl).cap (hT 0 _ rfl).row (hT 0 _ rfl).cap _ hx33)) (cur2 (fun A35 c36 => ?_))
   refine o_q rfl rfl (za2 rfl) ?_
   refine o_q rfl rfl (q_ext rfl rfl) ?_
   refine o_q rfl rfl (q_ext rfl rfl) ?_
   refine o_e rfl (zal (i := 4) rfl rfl rfl Z25 rfl rfl) (fun _ => ?_)
   refine o_q rfl rfl (q_asg rfl) ?_
   refine o_end ?_
   refine zao ?_
   refine za1 ?_
   refine za0 ?_
   refine o_q rfl rfl (za2 rfl) ?_
   refine o_q rfl rfl (zaz rfl rfl) ?_
   refine o_q rfl rfl (q_asg rfl) ?_
   refine o_end ?_
   refine x_fact (p := 0 = [].length) (fun w h => (h.row_C (i := 1) rfl).2.1) (fun hn37 => ?_)
   refine zaq k22 (l34, [], w64 (1 + (l12.length : Int)), w64 (i19 + 1), A35, c36, none, 0) (Nat.lt_succ_self _) h ⟨rfl, rfl, trivial⟩ (f_pickE (L1 := [row kStep 107 (.slice A35 l34.length c36) l34, row (Kd.int .i64) 3 (.slice none 0 0) [], row (Kd.int .i64) 3 (.slice A16 l15.length c17) l15, row kStep 107 (.slice A13 l12.length c14) l12, box g8 25 #[.int .i64 1, .slice A35 l34.length c36, .slice none 0 0], row (Kd.int .i64) 3 (.slice A6 l5.length c7) l5, box g1 25 #[.int .i64 0, .slice none 0 0, .slice none 0 0]]) rfl [1, 0, 4, 5, 6] (by decide) rfl (by (try rw [hn37]); first | done | rfl)) ?_
   repeat (first | exact za7 _ _ | refine zad rfl ?_ | refine za8 rfl ?_ | refine zae rfl ?_)
  ·skip
   replace h := br_f hb32 h
   refine zb6 ?_
   refine zaa ?_
   refine zaa ?_
   have e_ := Option.some.inj h; replace h := hR25; rw [← e_] at h; clear e_
   refine x_hit ?_
   refine za1 ?_
   refine c_seq ?_
   refine za0 ?_
   refine o_q rfl rfl (za2 rfl) ?_
   refine o_q rfl rfl (za2 rfl) ?_
   refine o_q rfl rfl (q_len Try.underlying23 rfl) ?_
   refine o_q rfl rfl (zb5 rfl rfl) ?_
   refine zb7 (p := Sh A6 l5.length l5.length) (fun w h => f_sh (dk := (Kd.int .i64)) h (fun w h => h.zau (i := 3) rfl)) (fun hq38 => ?_)
   refine za9 h (fun y40 hg39 h => ?_) rfl
   refine o_q rfl rfl (q_ix Try.underlying23 Z3 rfl rfl hq38 hg39) ?_
   refine o_q rfl rfl (q_lde (off := 0) Y3 rfl rfl (fun w h => h.zau (i := 3) rfl) hg39 (fun _ _ h => h) rfl) ?_
   refine o_q rfl rfl (zb5 rfl rfl) ?_
   refine o_q rfl rfl (q_asg rfl) ?_
   refine o_end ?_
   refine za1 ?_
   refine c_seq ?_
   refine c_seq ?_
   refine za0 ?_
   refine o_q rfl rfl (za2 rfl) ?_
   refine o_q rfl rfl (q_len Try.underlying23 rfl) ?_
   refine o_q rfl rfl (zb5 rfl rfl) ?_
   refine o_q rfl rfl (q_asg rfl) ?_
   refine o_end ?_
   refine za1 ?_
   refine zam ?_
   refine za9 h (fun o56 hl55 hR54 => ?_) rfl
   clear h
   refine zb2 (σ := (List SStep) × (List Int) × Int × Int × (Option Addr) × Nat × (Option Addr) × Nat) (fun k51 ((l41, l44, i47, i48, A42, c43, A45, c46) : (List SStep) × (List Int) × Int × Int × (Option Addr) × Nat × (Option Addr) × Nat) => spec_meWindow.l1 k a1 l5 k51 l41 l44 i47 i48 = some o56) [7, 9, 10, 38, 39, 40, 41, 42, 43, 44, 45, 46, 47, 48, 49, 50, 51, 52, 53, 54, 55, 56, 57, 58, 59, 60, 61, 62, 63, 64, 65, 66, 67, 68, 69] (fun ((l41, l44, i47, i48, A42, c43, A45, c46) : (List SStep) × (List Int) × Int × Int × (Option Addr) × Nat × (Option Addr) × Nat) => [(7, .int .i64 i47), (9, .int .i64 i48)]) (fun ((l41, l44, i47, i48, A42, c43, A45, c46) : (List SStep) × (List Int) × Int × Int × (Option Addr) × Nat × (Option Addr) × Nat) => [row (Kd.int .i64) 3 (.slice A45 l44.length c46) l44, row kStep 107 (.slice A42 l41.length c43) l41, box g8 25 #[.int .i64 1, .slice A42 l41.length c43, .slice A45 l44.length c46], row (Kd.int .i64) 3 (.slice A6 l5.length c7) l5, box g1 25 #[.int .i64 0, .slice none 0 0, .slice none 0 0]]) k (l12, l15, w64 (y40 - 1), w64 ((l5.length : Int) - 2), A13, c14, A16, c17) hl55 ⟨rfl, rfl, trivial⟩ (fun w h => h) ?_
   refine natC (cur8 (fun l41 l44 i47 i48 A42 c43 A45 c46 => fun U57 hJ_ => ?_)) (fun k51 => (cur8 (fun l41 l44 i47 i48 A42 c43 A45 c46 => fun U57 hJ_ => ?_)))
   ·skip
    replace hJ_ : spec_meWindow.l1 k a1 l5 0 l41 l44 i47 i48 = some o56 := hJ_
    rw [spec_meWindow.l1] at hJ_
    exact noneE hJ_
   ·skip
    clear hl55
    have h := hJ_; clear hJ_
    replace h : spec_meWindow.l1 k a1 l5 (k51 + 1) l41 l44 i47 i48 = some o56 := h
    rw [spec_meWindow.l1] at h
    refine c_seq ?_
    refine c_seq ?_
    refine za0 ?_
    refine o_q rfl rfl (za2 rfl) ?_
    refine o_q rfl rfl (q_geq rfl rfl) ?_
    refine o_end ?_
    refine za1 ?_
    refine zaw _ rfl (fun hb59 => ?_) (fun hb59 => ?_)
    ·skip
     replace h := br_t hb59 h
     refine zat ?_
     refine za1 ?_
     refine c_seq ?_
     refine zam ?_
     refine c_seq ?_
     refine c_seq ?_
     refine za0 ?_
     refine o_q rfl rfl (q_asg rfl) ?_
     refine o_end ?_
     refine za1 ?_
     refine zam ?_
     refine za9 h (fun o75 hl74 hR73 => ?_) rfl
     clear h
     refine zb2 (σ := (List SStep) × (List Int) × Int × Int × (Option Addr) × Nat × (Option Addr) × Nat) (fun k70 ((l60, l63, i66, i67, A61, c62, A64, c65) : (List SStep) × (List Int) × Int × Int × (Option Addr) × Nat × (Option Addr) × Nat) => spec_meWindow.l2 a1 k70 l60 l63 i66 i67 = some o75) [7, 10, 42, 43, 44, 45, 46, 47, 48, 49, 50, 51, 52, 53] (fun ((l60, l63, i66, i67, A61, c62, A64, c65) : (List SStep) × (List Int) × Int × Int × (Option Addr) × Nat × (Option Addr) × Nat) => [(7, .int .i64 i67), (10, .int .i64 i66)]) (fun ((l60, l63, i66, i67, A61, c62, A64, c65) : (List SStep) × (List Int) × Int × Int × (Option Addr) × Nat × (Option Addr) × Nat) => [row (Kd.int .i64) 3 (.slice A64 l63.length c65) l63, row kStep 107 (.slice A61 l60.length c62) l60, box g8 25 #[.int .i64 1, .slice A61 l60.length c62, .slice A64 l63.length c65], row (Kd.int .i64) 3 (.slice A6 l5.length c7) l5, box g1 25 #[.int .i64 0, .slice none 0 0, .slice none 0 0]]) k (l41, l44, 0, i47, A42, c43, A45, c46) hl74 ⟨rfl, rfl, trivial⟩ (fun w h => h) ?_
     refine natC (cur8 (fun l60 l63 i66 i67 A61 c62 A64 c65 => fun U76 hJ_ => ?_)) (fun k70 => (cur8 (fun l60 l63 i66 i67 A61 c62 A64 c65 => fun U76 hJ_ => ?_)))
     ·skip
      replace hJ_ : spec_meWindow.l2 a1 0 l60 l63 i66 i67 = some o75 := hJ_
      rw [spec_meWindow.l2] at hJ_
      exact noneE hJ_
     ·skip
      clear hl74
      have h := hJ_; clear hJ_
      replace h : spec_meWindow.l2 a1 (k70 + 1) l60 l63 i66 i67 = some o75 := h
      rw [spec_meWindow.l2] at h
      refine c_seq ?_
      refine c_seq ?_
      refine za0 ?_
      refine o_q rfl rfl (za2 rfl) ?_
      refine o_q rfl rfl (za2 rfl) ?_
      refine o_q rfl rfl (q_lss rfl rfl) ?_
      refine o_end ?_
      refine za1 ?_
      refine zaw _ rfl (fun hb78 => ?_) (fun hb78 => ?_)
      ·skip
       replace h := br_t hb78 h
       refine zat ?_
       refine za1 ?_
       refine c_seq ?_
       refine zam ?_
       refine za0 ?_
       refine o_q rfl rfl (q_ldB G25 Z25 rfl (fun w h => h.zaf (i := 2) rfl) rfl) ?_
       refine o_q rfl rfl (za2 rfl) ?_
       refine o_q rfl rfl (za2 rfl) ?_
       refine za9 h (fun l80 hx79 h => ?_) rfl
       refine o_e rfl (za4 0 Z Try.func110 N110 rfl rfl rfl (fun w P1 hF hB hS hT => spec_meTimes.calls 1 A61 c62 l60.length l60 A64 c65 l63.length l63 i67 i67 hB hF (hT 1 _ rfl).row (hT 1 _ rfl).cap (hT 0 _ rfl).row (hT 0 _ rfl).cap _ hx79)) (cur2 (fun A81 c82 => ?_))
       refine o_q rfl rfl (za2 rfl) ?_
       refine o_q rfl rfl (q_ext rfl rfl) ?_
       refine o_q rfl rfl (q_ext rfl rfl) ?_
       refine o_e rfl (zal (i := 4) rfl rfl rfl Z25 rfl rfl) (fun _ => ?_)
       refine o_q rfl rfl (q_asg rfl) ?_
       refine o_end ?_
       refine zao ?_
       refine za1 ?_
       refine za0 ?_
       refine o_q rfl rfl (za2 rfl) ?_
       refine o_q rfl rfl (zaz rfl rfl) ?_
       refine o_q rfl rfl (q_asg rfl) ?_
       refine o_end ?_
       refine x_fact (p := 0 = [].length) (fun w h => (h.row_C (i := 1) rfl).2.1) (fun hn83 => ?_)
       refine zaq k70 (l80, [], w64 (i66 + 1), w64 (1 + (l60.length : Int)), A81, c82, none, 0) (Nat.lt_succ_self _) h ⟨rfl, rfl, trivial⟩ (f_pickE (L1 := [row kStep 107 (.slice A81 l80.length c82) l80, row (Kd.int .i64) 3 (.slice none 0 0) [], row (Kd.int .i64) 3 (.slice A64 l63.length c65) l63, row kStep 107 (.slice A61 l60.length c62) l60, box g8 25 #[.int .i64 1, .slice A81 l80.length c82, .slice none 0 0], row (Kd.int .i64) 3 (.slice A6 l5.length c7) l5, box g1 25 #[.int .i64 0, .slice none 0 0, .slice none 0 0]]) rfl [1, 0, 4, 5, 6] (by decide) rfl (by (try rw [hn83]); first | done | rfl)) ?_
       repeat (first | exact za7 _ _ | refine zad rfl ?_ | refine za8 rfl ?_ | refine zae rfl ?_)
      ·skip
       replace h := br_f hb78 h
       refine zb6 ?_
       refine zaa ?_
       refine zaa ?_
       have e_ := Option.some.inj h; replace h := hR73; rw [← e_] at h; clear e_
       refine x_hit ?_
       refine za1 ?_
       refine c_seq ?_
       refine za0 ?_
       refine o_q rfl rfl (za2 rfl) ?_
       refine o_q rfl rfl (za2 rfl) ?_
       refine za9 h (fun y85 hg84 h => ?_) rfl
       refine o_q rfl rfl (q_ix Try.underlying23 Z3 rfl rfl hq38 hg84) ?_
       refine o_q rfl rfl (q_lde (off := 0) Y3 rfl rfl (fun w h => h.zau (i := 3) rfl) hg84 (fun _ _ h => h) rfl) ?_
       refine o_q rfl rfl (q_gtr rfl rfl) ?_
       refine o_end ?_
       refine za1 ?_
       refine zaw _ rfl (fun hb86 => ?_) (fun hb86 => ?_)
       ·skip
        replace h := br_t hb86 h
        refine a_startS (ds := []) [some 0, some 1, none, some 3, some 4] MO rfl ?_
        refine za5 1 rfl rfl rfl (by kernel_rfl) (fun _ _ _ h => h) (za2 rfl) ?_
        refine za5 2 rfl rfl rfl (by kernel_rfl) (fun _ _ _ h => h) (za2 rfl) ?_
        refine za5 3 rfl rfl rfl (by kernel_rfl) (fun _ _ _ h => h) (za2 rfl) ?_
        refine za9 h (fun y88 hg87 h => ?_) rfl
        refine za5 4 rfl rfl rfl (by kernel_rfl) (fun _ _ _ h => h) (q_ix Try.underlying23 Z3 rfl rfl hq38 hg87) ?_
        refine zb0 5 rfl rfl rfl (by kernel_rfl) (fun _ _ _ h => h) (fun w h => za3 [some 0, some 1, none, some 3, some 4] (by decide) w h rfl) (q_lde (off := 0) Y3 rfl rfl (fun w h => h.zau (i := 3) rfl) hg87 (fun _ _ h => h) rfl) ?_
        refine za5 6 rfl rfl rfl (by kernel_rfl) (fun _ _ _ h => h) (zb5 rfl rfl) ?_
        refine a_one 0 rfl rfl (by kernel_rfl) rfl (ev_q rfl (q_ldB G25 Z25 rfl (fun w h => h.zaf (i := 2) rfl) rfl)) (fun s w h => za3 [some 0, some 1, none, some 3, some 4] (by decide) w h rfl) (fun _ => ?_)
        refine za9 h (fun l90 hx89 h => ?_) rfl
        refine a_one 7 rfl rfl (by kernel_rfl) rfl (za4 0 Z Try.func110 N110 rfl rfl rfl (fun w P1 hF hB hS hT => spec_meTimes.calls 1 A61 c62 l60.length l60 A64 c65 l63.length l63 i67 (w64 (y88 - 1)) hB hF (hT 1 _ rfl).row (hT 1 _ rfl).cap (hT 0 _ rfl).row (hT 0 _ rfl).cap _ hx89)) (fun s w h => za3 [some 2, some 3, none, some 5, some 6] (by decide) w h rfl) (cur2 (fun A91 c92 => ?_))
        refine za5 8 rfl rfl rfl (by kernel_rfl) (fun _ _ _ h => h) (za2 rfl) ?_
        refine za5 9 rfl rfl rfl (by kernel_rfl) (fun _ _ _ h => h) (q_ext rfl rfl) ?_
        refine za5 10 rfl rfl rfl (by kernel_rfl) (fun _ _ _ h => h) (q_ext rfl rfl) ?_
        refine a_one 11 rfl rfl (by kernel_rfl) rfl (zal (i := 4) rfl rfl rfl Z25 rfl rfl) (fun s w h => za3 [some 2, some 3, none, some 5, some 6] (by decide) w h rfl) (fun _ => ?_)
        refine za5 12 rfl rfl rfl (by kernel_rfl) (fun _ _ _ h => h) (q_asg rfl) ?_
        refine zar (by kernel_rfl) ?_
        refine zao ?_
        refine za1 ?_
        refine za0 ?_
        refine o_q rfl rfl (za2 rfl) ?_
        refine o_q rfl rfl (zb5 rfl rfl) ?_
        refine o_q rfl rfl (q_asg rfl) ?_
        refine o_end ?_
        refine x_fact (p := 0 = [].length) (fun w h => (h.row_C (i := 1) rfl).2.1) (fun hn93 => ?_)
        refine zaq k51 (l90, [], w64 (1 + (l60.length : Int)), w64 (i48 - 1), A91, c92, none, 0) (Nat.lt_succ_self _) h ⟨rfl, rfl, trivial⟩ (f_pickE (L1 := [row kStep 107 (.slice A91 l90.length c92) l90, row (Kd.int .i64) 3 (.slice none 0 0) [], row (Kd.int .i64) 3 (.slice A64 l63.length c65) l63, row kStep 107 (.slice A61 l60.length c62) l60, box g8 25 #[.int .i64 1, .slice A91 l90.length c92, .slice none 0 0], row (Kd.int .i64) 3 (.slice A6 l5.length c7) l5, box g1 25 #[.int .i64 0, .slice none 0 0, .slice none 0 0]]) rfl [1, 0, 4, 5, 6] (by decide) rfl (by (try rw [hn93]); first | done | rfl)) ?_
        repeat (first | exact za7 _ _ | refine zad rfl ?_ | refine za8 rfl ?_ | refine zae rfl ?_)
       ·skip
        replace h := br_f hb86 h
        refine zat ?_
        refine zao ?_
        refine za1 ?_
        refine za0 ?_
        refine o_q rfl rfl (za2 rfl) ?_
        refine o_q rfl rfl (zb5 rfl rfl) ?_
        refine o_q rfl rfl (q_asg rfl) ?_
        refine o_end ?_
        refine zaq k51 (l60, l63, i67, w64 (i48 - 1), A61, c62, A64, c65) (Nat.lt_succ_self _) h ⟨rfl, rfl, trivial⟩ (fun w h => za6 [0, 1, 2, 3, 4] (by decide) rfl w h) ?_
        repeat (first | exact za7 _ _ | refine zad rfl ?_ | refine za8 rfl ?_ | refine zae rfl ?_)
    ·skip
     replace h := br_f hb59 h
     refine zb6 ?_
     refine zaa ?_
     refine zaa ?_
     have e_ := Option.some.inj h; replace h := hR54; rw [← e_] at h; clear e_
     refine x_hit ?_
     refine za1 ?_
     refine c_seq ?_
     refine za0 ?_
     refine o_q rfl rfl (q_ldB G25 Z25 rfl (fun w h => h.zaf (i := 2) rfl) rfl) ?_
     refine o_q rfl rfl (za2 rfl) ?_
     refine o_pick [1, 0, 2, 3, 4] (by decide) rfl ?_
     refine za9 h (fun _ hx94 h => ?_) rfl
     refine o_e rfl (za4 1 Z Try.func112 N112 rfl rfl rfl (fun w P1 hF hB hS hT => spec_meEnd.calls 1 A42 c43 l41.length l41 A45 c46 l44.length l44 i47 hB hF (hT 0 _ rfl).row (hT 0 _ rfl).cap hx94)) (cur2 (fun A95 c96 => ?_))
     refine bindE2 h (fun l98 l99 hx97 h => ?_) rfl
     refine o_e rfl (za4 0 Z Try.func111 N111 rfl rfl rfl (fun w P1 hF hB hS hT => spec_meTrim.calls k 1 A42 c43 l41.length l41 A95 c96 (([i47] : List Int).length) ([i47] : List Int) hB hF (hT 0 _ rfl).row (hT 0 _ rfl).cap (hT 1 _ rfl).row (hT 1 _ rfl).cap _ _ hx97)) (cur4 (fun A100 c101 A102 c103 => ?_))
     refine o_e rfl (zal (i := 7) rfl rfl rfl Z25 rfl rfl) (fun _ => ?_)
     refine o_end ?_
     refine za1 ?_
     refine c_ret ?_
     have e0_ := Option.some.inj h; clear h
     have d0_ := (Prod.mk.inj e0_).1; have e1_ := (Prod.mk.inj e0_).2; clear e0_; subst d0_
     subst e1_
     exact x_r1 (A100, c101, A102, c103) Try.results52 (rv_cell rfl G25 Z25 (fun w h => h.zaf (i := 7) rfl) rfl) rfl (fun w h => za6 [0, 1] (by decide) rfl w h)

end Go.Proofs.Ytiaohjciddbpoaa.H8
