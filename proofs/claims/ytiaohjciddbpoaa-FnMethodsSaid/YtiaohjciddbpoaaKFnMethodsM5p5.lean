import Derived.Test.YtiaohjciddbpoaaKFnMethodsM5p4
namespace Go.Proofs.Ytiaohjciddbpoaa.M5
set_option maxHeartbeats 8000000
set_option maxRecDepth 100000
open Go.RowKit Go.Proofs.Ytiaohjciddbpoaa.Frame Go.Proofs.YtiaohjciddbpoaaW.PrintLast Go.Proofs.Ytiaohjciddbpoaa.Hand
open Go.Proofs.YtiaohjciddbpoaaW.PrintWords hiding mn mx
set_option linter.unusedVariables false
def spec_chNumber.f (a0 : Int) : Option Bool := (spec_l1In.f a0 1 1000000).bind fun b2 => some b2
theorem spec_chNumber.calls {w0 ws : World} {P0 : Nat → Prop} (a0 : Int) (Z : Below w0.heap.size w0 ws) (hF : Fr w0 ws P0 [] ws)  (r_1 : Bool) (h : spec_chNumber.f a0 = some r_1) :
  Calls Try.prog 49 #[.int .i64 a0] ws (Post1 w0 ws P0 (fun (_ : Unit) => .bool r_1) (fun (_ : Unit) => [])) := by
 unfold spec_chNumber.f at h
 refine enter Try.func49 rfl Try.ntmps49 rfl hF (c_seq (za0 (oq_ (q_asg rfl) (o_end (za1 (c_seq (za0 (oq_ (za2 rfl) (za6 h (fun b2 hx1 h => ?_) rfl)))))))))
 refine o_e rfl (za5 0 Z Try.func107 N107 rfl rfl rfl (fun w P1 hF hB hS hT => spec_l1In.calls a0 1 1000000 hB hF _ hx1)) (fun _ => oq_ (q_asg rfl) (o_end (za1 (c_ret ?_))))
 have e0_ := si_ h; clear h
 subst e0_
 exact x_r1 () Try.results49 (zad rfl) rfl (pk_ [])

def spec_meDigits.l0 (a1 : Int) : Nat → (List Int) → Int → Option (List Int)
 | 0, _, _ => none
 | k8 + 1, l2, i5 => if 0 < i5 then ((nz a1).bind fun _ => (ap l2 ([i5.tmod a1] : List Int)).bind fun l21 => (nz a1).bind fun _ => spec_meDigits.l0 a1 k8 l21 (w64 (i5.tdiv a1))) else (some l2)
def spec_meDigits.f (k : Nat) (a0 : Int) (a1 : Int) : Option (List Int) := (spec_meDigits.l0 a1 k ([] : List Int) a0).bind fun l2 => some l2
theorem spec_meDigits.calls (k : Nat) {w0 ws : World} {P0 : Nat → Prop} (a0 : Int) (a1 : Int) (Z : Below w0.heap.size w0 ws) (hF : Fr w0 ws P0 [] ws)  (r_1 : List Int) (h : spec_meDigits.f k a0 a1 = some r_1) :
  Calls Try.prog 108 #[.int .i64 a0, .int .i64 a1] ws (Post1 w0 ws P0 (fun ((q_2, q_3) : (Option Addr) × Nat) => .slice q_2 r_1.length q_3) (fun ((q_2, q_3) : (Option Addr) × Nat) => [row (Kd.int .i64) 3 (.slice q_2 r_1.length q_3) r_1])) := by
 unfold spec_meDigits.f at h
 refine enter Try.func108 rfl Try.ntmps108 rfl hF (c_seq (za0 (oq_ (q_asg rfl) (o_end (za1 (c_seq (za0 (oq_ (q_asg rfl) (o_end ?_)))))))))
 refine za1 (c_seq (zae (c_nil (Kd.int .i64) 3 (za6 h (fun o13 hl12 hR11 => ?_) rfl))))
 clear h
 refine zas (σ := (List Int) × Int × (Option Addr) × Nat) (fun k8 ((l2, i5, A3, c4) : (List Int) × Int × (Option Addr) × Nat) => spec_meDigits.l0 a1 k8 l2 i5 = some o13) [0, 5, 6, 7, 8, 9, 10, 11, 12, 13, 14, 15, 16] (fun ((l2, i5, A3, c4) : (List Int) × Int × (Option Addr) × Nat) => [(0, .int .i64 i5), (5, .slice A3 l2.length c4)]) (fun ((l2, i5, A3, c4) : (List Int) × Int × (Option Addr) × Nat) => [row (Kd.int .i64) 3 (.slice A3 l2.length c4) l2]) k (([] : List Int), a0, none, 0) hl12 ⟨rfl, rfl, trivial⟩ (fun w h => h) (natC (cur4 (fun l2 i5 A3 c4 => fun U14 hJ_ => ?_)) (fun k8 => (cur4 (fun l2 i5 A3 c4 => fun U14 hJ_ => ?_))))
 ·replace hJ_ : spec_meDigits.l0 a1 0 l2 i5 = some o13 := hJ_
  rw [spec_meDigits.l0] at hJ_
  exact noneE hJ_
 ·clear hl12
  have h := hJ_; clear hJ_
  replace h : spec_meDigits.l0 a1 (k8 + 1) l2 i5 = some o13 := h
  rw [spec_meDigits.l0] at h
  refine c_seq (c_seq (za0 (oq_ (za2 rfl) (oq_ (q_gtr rfl rfl) (o_end (za1 (zan _ rfl (fun hb16 => ?_) (fun hb16 => ?_))))))))
  ·replace h := br_t hb16 h
   refine zai (za1 (c_seq (zae (za0 (oq_ (za2 rfl) (oq_ (za2 rfl) (oq_ (za2 rfl) (za6 h (fun _ hz17 h => ?_) rfl))))))))
   refine oq_ (q_rem rfl rfl (nz_ne hz17)) (o_e rfl (e_lit (vs := [(0, .int .i64 (i5.tmod a1))]) (cs := [.int .i64 (i5.tmod a1)]) (Kd.int .i64) ([i5.tmod a1] : List Int) Try.underlying23 I3 dc_ rfl dc_ rfl rfl (fun _ _ => Kd.za8 _)) (cur2 (fun A18 c19 => za6 h (fun l21 ha22 h => ?_) rfl)))
   refine o_e rfl (e_app (i := 1) (j := 0) Try.underlying23 I3 rfl dc_ dc_ rfl rfl rfl rfl rfl ha22) (cur2 (fun A23 c24 => oq_ (q_asg rfl) (o_end (zaf (za1 (za0 (oq_ (za2 rfl) (oq_ (za2 rfl) (za6 h (fun _ hz25 h => ?_) rfl)))))))))
   refine oq_ (q_quo64 rfl rfl (nz_ne hz25)) (oq_ (q_asg rfl) (o_end (zal k8 (l21, w64 (i5.tdiv a1), A23, c24) (Nat.lt_succ_self _) h ⟨rfl, rfl, trivial⟩ (pk_ [1]) ?_)))
   exact of_
  ·replace h := br_f hb16 h
   refine zax (za7 (za7 ?_))
   have e_ := si_ h; replace h := hR11; rw [← e_] at h; clear e_
   refine x_hit (za1 (c_seq (za0 (oq_ (za2 rfl) (oq_ (q_asg rfl) (o_end (za1 (c_ret ?_))))))))
   have e0_ := si_ h; clear h
   subst e0_
   exact x_r1 (A3, c4) Try.results108 (zad rfl) rfl (pk_ [0])

def spec_l1Most.f (a0 : Int) (a1 : Int) : Option Int := if a1 < a0 then (some a0) else (some a1)
theorem spec_l1Most.calls {w0 ws : World} {P0 : Nat → Prop} (a0 : Int) (a1 : Int) (Z : Below w0.heap.size w0 ws) (hF : Fr w0 ws P0 [] ws)  (r_1 : Int) (h : spec_l1Most.f a0 a1 = some r_1) :
  Calls Try.prog 88 #[.int .i64 a0, .int .i64 a1] ws (Post1 w0 ws P0 (fun (_ : Unit) => .int .i64 r_1) (fun (_ : Unit) => [])) := by
 unfold spec_l1Most.f at h
 refine enter Try.func88 rfl Try.ntmps88 rfl hF (c_seq (za0 (oq_ (q_asg rfl) (o_end (za1 (c_seq (c_seq (za0 (oq_ (za2 rfl) ?_)))))))))
 refine oq_ (za2 rfl) (oq_ (q_gtr rfl rfl) (o_end (za1 (zan _ rfl (fun hb1 => ?_) (fun hb1 => ?_)))))
 ·replace h := br_t hb1 h
  refine c_seq (za0 (oq_ (za2 rfl) (oq_ (q_asg rfl) (o_end (za1 (c_ret (zaa ?_)))))))
  have e0_ := si_ h; clear h
  subst e0_
  exact x_r1 () Try.results88 (zad rfl) rfl (pk_ [])
 ·replace h := br_f hb1 h
  refine zai (za1 (c_seq (za0 (oq_ (za2 rfl) (oq_ (q_asg rfl) (o_end (za1 (c_ret ?_))))))))
  have e0_ := si_ h; clear h
  subst e0_
  exact x_r1 () Try.results88 (zad rfl) rfl (pk_ [])

def spec_plStep.f (a0 : Int) (a1 : Int) : Option SStep := (spec_l1Least.f a0 a1).bind fun i4 => (spec_l1Most.f a0 a1).bind fun i6 => some (⟨i4, i6⟩ : SStep)
theorem spec_plStep.calls {w0 ws : World} {P0 : Nat → Prop} (a0 : Int) (a1 : Int) (Z : Below w0.heap.size w0 ws) (hF : Fr w0 ws P0 [] ws)  (r_1 : SStep) (h : spec_plStep.f a0 a1 = some r_1) :
  Calls Try.prog 146 #[.int .i64 a0, .int .i64 a1] ws (Post1 w0 ws P0 (fun (_ : Unit) => .agg #[.int .i64 r_1.f0, .int .i64 r_1.f1]) (fun (_ : Unit) => [])) := by
 unfold spec_plStep.f at h
 refine enter Try.func146 rfl Try.ntmps146 rfl hF (c_seq (za0 (o_e rfl (zab V107 rfl) (fun g1 => o_end (za1 (c_seq (za0 (oq_ (za2 rfl) (oq_ (za2 rfl) ?_)))))))))
 refine za6 h (fun i4 hx3 h => ?_) rfl
 refine o_e rfl (za5 0 Z Try.func89 N89 rfl rfl rfl (fun w P1 hF hB hS hT => spec_l1Least.calls a0 a1 hB hF _ hx3)) (fun _ => oq_ (za2 rfl) (oq_ (za2 rfl) (za6 h (fun i6 hx5 h => ?_) rfl)))
 refine o_e rfl (za5 0 Z Try.func88 N88 rfl rfl rfl (fun w P1 hF hB hS hT => spec_l1Most.calls a0 a1 hB hF _ hx5)) (fun _ => oq_ (q_build (vs := [(0, .int .i64 i4), (1, .int .i64 i6)]) (cs := [.int .i64 i4, .int .i64 i6]) rfl rfl) (o_e rfl (zac (i := 0) rfl rfl rfl Z107 rfl rfl) (fun _ => o_end (za1 (c_ret ?_)))))
 have e0_ := si_ h; clear h
 subst e0_
 exact x_r1 () Try.results146 (zb0 rfl G107 Z107 (bx_ 0 rfl) rfl) rfl (pk_ [])

def spec_meTimes.f (a0_0 : Int) (l0_1 : List SStep) (l0_2 : List Int) (a1 : Int) (a2 : Int) : Option (List SStep) := ((ap ([] : List SStep) l0_1).bind fun l1216 => (spec_plStep.f a1 a2).bind fun z1397 => (ap l1216 ([z1397] : List SStep)).bind fun l1516 => some l1516).bind fun l907 => some l907
theorem spec_meTimes.calls {w0 ws : World} {P0 : Nat → Prop} (a0_0 : Int) (A0_1 : Option Addr) (c0_1 : Nat) (n0_1 : Nat) (l0_1 : List SStep) (A0_2 : Option Addr) (c0_2 : Nat) (n0_2 : Nat) (l0_2 : List Int) (a1 : Int) (a2 : Int) (Z : Below w0.heap.size w0 ws) (hF : Fr w0 ws P0 [] ws) (R0_1 : Stable ws P0 (fun w => Kd.C kStep w A0_1 n0_1 l0_1)) (hc0_1 : n0_1 ≤ c0_1) (R0_2 : Stable ws P0 (fun w => Kd.C (Kd.int .i64) w A0_2 n0_2 l0_2)) (hc0_2 : n0_2 ≤ c0_2) (r_1 : List SStep) (h : spec_meTimes.f a0_0 l0_1 l0_2 a1 a2 = some r_1) :
  Calls Try.prog 110 #[.agg #[.int .i64 a0_0, .slice A0_1 n0_1 c0_1, .slice A0_2 n0_2 c0_2], .int .i64 a1, .int .i64 a2] ws (Post1 w0 ws P0 (fun ((q_2, q_3) : (Option Addr) × Nat) => .tuple #[.agg #[.int .i64 a0_0, .slice q_2 r_1.length q_3, .slice none 0 0], .int .i64 (w64 (a0_0 + (l0_1.length : Int)))]) (fun ((q_2, q_3) : (Option Addr) × Nat) => [row kStep 107 (.slice q_2 r_1.length q_3) r_1, row (Kd.int .i64) 3 (.slice none 0 0) []])) := by
 unfold spec_meTimes.f at h
 obtain rfl := (R0_1 ws (KeptB.refl _ _)).1
 obtain rfl := (R0_2 ws (KeptB.refl _ _)).1
 refine enter Try.func110 rfl Try.ntmps110 rfl hF (c_seq (za0 (o_e rfl (e_box rfl) (fun g1 => o_e rfl (zab V25 rfl) (fun g3 => oq_ (q_asg rfl) (o_end (za1 (za6 h (fun o910 hl911 hR912 => ?_) rfl))))))))
 clear h
 refine c_cutJ (σ := (List SStep) × Nat × (Option Addr) × Nat) (fun (l907, g906, A908, c909) => some l907 = some o910) [8, 9, 10, 11, 12, 13, 14, 15, 16, 17, 18, 19, 20] (fun (l907, g906, A908, c909) => [(8, .pointer (some ⟨g906, 0, none⟩))]) (fun (l907, g906, A908, c909) => [box g1 25 #[.int .i64 a0_0, .slice A0_1 l0_1.length c0_1, .slice A0_2 l0_2.length c0_2], box g3 25 #[.int .i64 0, .slice none 0 0, .slice none 0 0], box g906 25 #[.int .i64 a0_0, .slice A908 l907.length c909, .slice none 0 0], row kStep 107 (.slice A908 l907.length c909) l907]) ?_ ?_
 ·have h := hl911; clear hl911
  clear hR912
  refine za6 h (fun l1216 ha1217 h => ?_) rfl
  refine za6 h (fun z1397 hx1396 h => ?_) rfl
  refine za6 h (fun l1516 ha1517 h => ?_) rfl
  refine a_start (ds := []) MO rfl (ap_ 0 rfl (q_f F25_0 rfl) (at_2 1 rfl (fun w h => h) (q_ldb Y3 rfl (bx_ 1 rfl) rfl) (ap_ 3 rfl (q_f F25_1 rfl) (at_2 4 rfl (fun w h => h) (q_ldb Y22 rfl (bx_ 1 rfl) rfl) (ap_ 6 rfl (za2 rfl) (ap_ 7 rfl (za2 rfl) (a_two 2 12 rfl rfl rfl rfl kr_ rfl rfl (e_lit0 kStep Try.underlying22 I107) (sl_ [some 1, some 2]) (zab V25 rfl) (sl_ [some 1, some 2]) (cur2 (fun A1036 c1037 => ?_)) (fun g1636 => ?_))))))))
  ·refine a_two 5 12 rfl rfl rfl rfl kr_ rfl rfl (e_appr (i := 0) Try.underlying22 I107 rfl dc_ dc_ (fun _ _ _ _ h => h) rfl (fun w h => R0_1.now Z h) rfl rfl ha1217) (sl_ [some 1, some 2]) (zab V25 rfl) (sl_ [some 2, some 3]) (cur2 (fun A1218 c1219 => ?_)) (fun g1636 => ?_)
   ·refine a_two 8 12 rfl rfl rfl rfl kr_ rfl rfl (za5 0 Z Try.func146 N146 rfl rfl rfl (fun w P1 hF hB hS hT => spec_plStep.calls a1 a2 hB hF _ hx1396)) (sl_ [some 1, some 2]) (zab V25 rfl) (sl_ [some 2, some 3]) (fun _ => ?_) (fun g1636 => ?_)
    ·refine a_two 9 12 rfl rfl rfl rfl kr_ rfl rfl (e_lit (vs := [(0, .agg #[.int .i64 z1397.f0, .int .i64 z1397.f1])]) (cs := [.int .i64 z1397.f0, .int .i64 z1397.f1]) kStep ([z1397] : List SStep) Try.underlying22 I107 dc_ rfl dc_ rfl rfl (fun _ _ => reps_flat _)) (sl_ [some 2, some 3]) (zab V25 rfl) (sl_ [some 2, some 3]) (cur2 (fun A1456 c1457 => ?_)) (fun g1636 => ?_)
     ·refine a_two 10 12 rfl rfl rfl rfl kr_ rfl rfl (e_app (i := 1) (j := 0) Try.underlying22 I107 rfl dc_ dc_ rfl rfl rfl rfl rfl ha1517) (sl_ [some 2, some 3]) (zab V25 rfl) (sl_ [some 3, some 4]) (cur2 (fun A1518 c1519 => ?_)) (fun g1636 => ?_)
      ·refine ap_ 11 rfl (q_build (vs := [(0, .int .i64 a0_0), (1, .slice A1518 l1516.length c1519)]) (cs := [.int .i64 a0_0, .slice A1518 l1516.length c1519, .slice none 0 0]) rfl rfl) (a1_ 12 rfl (zab V25 rfl) (sl_ [some 3, some 4]) (fun g1636 => a1_ 13 rfl (zac (i := 0) rfl rfl rfl Z25 rfl rfl) (sl_ [some 3, some 4]) (fun _ => zaj kr_ (zah (l1516, g1636, A1518, c1519) h ⟨rfl, trivial⟩ (pk_ [4, 3, 0, 2]) ?_))))
       exact of_
      ·refine a1_ 10 rfl (e_app (i := 2) (j := 1) Try.underlying22 I107 rfl dc_ dc_ rfl rfl rfl rfl rfl ha1517) (sl_ [some 3, some 4]) (cur2 (fun A1518 c1519 => ap_ 11 rfl (q_build (vs := [(0, .int .i64 a0_0), (1, .slice A1518 l1516.length c1519)]) (cs := [.int .i64 a0_0, .slice A1518 l1516.length c1519, .slice none 0 0]) rfl rfl) (a1_ 13 rfl (zac (i := 0) rfl rfl rfl Z25 rfl rfl) (sl_ [some 3, some 4]) (fun _ => zaj kr_ (zah (l1516, g1636, A1518, c1519) h ⟨rfl, trivial⟩ (pk_ [4, 3, 0, 2]) ?_)))))
       exact of_
     ·refine a1_ 9 rfl (e_lit (vs := [(0, .agg #[.int .i64 z1397.f0, .int .i64 z1397.f1])]) (cs := [.int .i64 z1397.f0, .int .i64 z1397.f1]) kStep ([z1397] : List SStep) Try.underlying22 I107 dc_ rfl dc_ rfl rfl (fun _ _ => reps_flat _)) (sl_ [some 3, some 4]) (cur2 (fun A1456 c1457 => a1_ 10 rfl (e_app (i := 2) (j := 0) Try.underlying22 I107 rfl dc_ dc_ rfl rfl rfl rfl rfl ha1517) (sl_ [some 3, some 4]) (cur2 (fun A1518 c1519 => ap_ 11 rfl (q_build (vs := [(0, .int .i64 a0_0), (1, .slice A1518 l1516.length c1519)]) (cs := [.int .i64 a0_0, .slice A1518 l1516.length c1519, .slice none 0 0]) rfl rfl) (a1_ 13 rfl (zac (i := 1) rfl rfl rfl Z25 rfl rfl) (sl_ [some 3, some 4]) (fun _ => zaj kr_ (zah (l1516, g1636, A1518, c1519) h ⟨rfl, trivial⟩ (pk_ [4, 3, 1, 2]) ?_)))))))
      exact of_
    ·refine a1_ 8 rfl (za5 0 Z Try.func146 N146 rfl rfl rfl (fun w P1 hF hB hS hT => spec_plStep.calls a1 a2 hB hF _ hx1396)) (sl_ [some 2, some 3]) (fun _ => a1_ 9 rfl (e_lit (vs := [(0, .agg #[.int .i64 z1397.f0, .int .i64 z1397.f1])]) (cs := [.int .i64 z1397.f0, .int .i64 z1397.f1]) kStep ([z1397] : List SStep) Try.underlying22 I107 dc_ rfl dc_ rfl rfl (fun _ _ => reps_flat _)) (sl_ [some 3, some 4]) (cur2 (fun A1456 c1457 => a1_ 10 rfl (e_app (i := 2) (j := 0) Try.underlying22 I107 rfl dc_ dc_ rfl rfl rfl rfl rfl ha1517) (sl_ [some 3, some 4]) (cur2 (fun A1518 c1519 => ap_ 11 rfl (q_build (vs := [(0, .int .i64 a0_0), (1, .slice A1518 l1516.length c1519)]) (cs := [.int .i64 a0_0, .slice A1518 l1516.length c1519, .slice none 0 0]) rfl rfl) (a1_ 13 rfl (zac (i := 1) rfl rfl rfl Z25 rfl rfl) (sl_ [some 3, some 4]) (fun _ => zaj kr_ (zah (l1516, g1636, A1518, c1519) h ⟨rfl, trivial⟩ (pk_ [4, 3, 1, 2]) ?_))))))))
     exact of_
   ·refine a1_ 5 rfl (e_appr (i := 1) Try.underlying22 I107 rfl dc_ dc_ (fun _ _ _ _ h => h) rfl (fun w h => R0_1.now Z h) rfl rfl ha1217) (sl_ [some 2, some 3]) (cur2 (fun A1218 c1219 => a1_ 8 rfl (za5 0 Z Try.func146 N146 rfl rfl rfl (fun w P1 hF hB hS hT => spec_plStep.calls a1 a2 hB hF _ hx1396)) (sl_ [some 2, some 3]) (fun _ => a1_ 9 rfl (e_lit (vs := [(0, .agg #[.int .i64 z1397.f0, .int .i64 z1397.f1])]) (cs := [.int .i64 z1397.f0, .int .i64 z1397.f1]) kStep ([z1397] : List SStep) Try.underlying22 I107 dc_ rfl dc_ rfl rfl (fun _ _ => reps_flat _)) (sl_ [some 3, some 4]) (cur2 (fun A1456 c1457 => a1_ 10 rfl (e_app (i := 2) (j := 0) Try.underlying22 I107 rfl dc_ dc_ rfl rfl rfl rfl rfl ha1517) (sl_ [some 3, some 4]) (cur2 (fun A1518 c1519 => ap_ 11 rfl (q_build (vs := [(0, .int .i64 a0_0), (1, .slice A1518 l1516.length c1519)]) (cs := [.int .i64 a0_0, .slice A1518 l1516.length c1519, .slice none 0 0]) rfl rfl) (a1_ 13 rfl (zac (i := 1) rfl rfl rfl Z25 rfl rfl) (sl_ [some 3, some 4]) (fun _ => zaj kr_ (zah (l1516, g1636, A1518, c1519) h ⟨rfl, trivial⟩ (pk_ [4, 3, 1, 2]) ?_))))))))))
    exact of_
  ·refine a1_ 2 rfl (e_lit0 kStep Try.underlying22 I107) (sl_ [some 2, some 3]) (cur2 (fun A1036 c1037 => a1_ 5 rfl (e_appr (i := 0) Try.underlying22 I107 rfl dc_ dc_ (fun _ _ _ _ h => h) rfl (fun w h => R0_1.now Z h) rfl rfl ha1217) (sl_ [some 2, some 3]) (cur2 (fun A1218 c1219 => a1_ 8 rfl (za5 0 Z Try.func146 N146 rfl rfl rfl (fun w P1 hF hB hS hT => spec_plStep.calls a1 a2 hB hF _ hx1396)) (sl_ [some 2, some 3]) (fun _ => a1_ 9 rfl (e_lit (vs := [(0, .agg #[.int .i64 z1397.f0, .int .i64 z1397.f1])]) (cs := [.int .i64 z1397.f0, .int .i64 z1397.f1]) kStep ([z1397] : List SStep) Try.underlying22 I107 dc_ rfl dc_ rfl rfl (fun _ _ => reps_flat _)) (sl_ [some 3, some 4]) (cur2 (fun A1456 c1457 => a1_ 10 rfl (e_app (i := 1) (j := 0) Try.underlying22 I107 rfl dc_ dc_ rfl rfl rfl rfl rfl ha1517) (sl_ [some 3, some 4]) (cur2 (fun A1518 c1519 => ap_ 11 rfl (q_build (vs := [(0, .int .i64 a0_0), (1, .slice A1518 l1516.length c1519)]) (cs := [.int .i64 a0_0, .slice A1518 l1516.length c1519, .slice none 0 0]) rfl rfl) (a1_ 13 rfl (zac (i := 2) rfl rfl rfl Z25 rfl rfl) (sl_ [some 3, some 4]) (fun _ => zaj kr_ (zah (l1516, g1636, A1518, c1519) h ⟨rfl, trivial⟩ (pk_ [4, 3, 2, 1]) ?_))))))))))))
   exact of_
 ·refine (cur4 (fun l907 g906 A908 c909 => fun U913 hJ914 => ?_))
  have e_ := si_ hJ914; have h := hR912; rw [← e_] at h; clear e_ hJ914 hR912 hl911
  refine c_seq (a_startS (ds := []) [some 0, none, some 2, some 3] MO rfl (at_2 0 rfl (sm_ [some 0, none, some 2, some 3]) (q_ldB G25 Z25 rfl (bx_ 2 rfl) rfl) (ap_ 1 rfl (q_f F25_0 rfl) (at_2 2 rfl (sm_ [some 0, none, some 2, some 3]) (q_ldb Y3 rfl (bx_ 0 rfl) rfl) (ap_ 3 rfl (q_f F25_1 rfl) (at_2 4 rfl (sm_ [some 0, none, some 2, some 3]) (q_ldb Y22 rfl (bx_ 0 rfl) rfl) (ap_ 5 rfl (q_len Try.underlying22 rfl) (ap_ 6 rfl (zay rfl rfl) (a1_ 7 rfl (zac (i := 1) rfl rfl rfl Z25 rfl rfl) (sl_ [some 0, none, some 2, some 3]) (fun _ => ?_))))))))))
  refine ap_ 8 rfl (q_asg rfl) (zaj kr_ (za1 (c_ret (x_nil (Kd.int .i64) 3 ?_))))
  have e0_ := si_ h; clear h
  subst e0_
  exact x_r2 (A908, c909) Try.results110 (zb0 rfl G25 Z25 (bx_ 2 rfl) rfl) (zad rfl) rfl (pk_ [4, 0])

def spec_meEnd.f (a0_0 : Int) (l0_1 : List SStep) (l0_2 : List Int) (a1 : Int) : Option Unit := some ()
theorem spec_meEnd.calls {w0 ws : World} {P0 : Nat → Prop} (a0_0 : Int) (A0_1 : Option Addr) (c0_1 : Nat) (n0_1 : Nat) (l0_1 : List SStep) (A0_2 : Option Addr) (c0_2 : Nat) (n0_2 : Nat) (l0_2 : List Int) (a1 : Int) (Z : Below w0.heap.size w0 ws) (hF : Fr w0 ws P0 [row kStep 107 (.slice A0_1 n0_1 c0_1) l0_1] ws) (R0_2 : Stable ws P0 (fun w => Kd.C (Kd.int .i64) w A0_2 n0_2 l0_2)) (hc0_2 : n0_2 ≤ c0_2)  (h : spec_meEnd.f a0_0 l0_1 l0_2 a1 = some ()) :
  Calls Try.prog 112 #[.agg #[.int .i64 a0_0, .slice A0_1 n0_1 c0_1, .slice A0_2 n0_2 c0_2], .int .i64 a1] ws (Post1 w0 ws P0 (fun ((q_1, q_2) : (Option Addr) × Nat) => .agg #[.int .i64 a0_0, .slice A0_1 n0_1 c0_1, .slice q_1 (([a1] : List Int).length) q_2]) (fun ((q_1, q_2) : (Option Addr) × Nat) => [row kStep 107 (.slice A0_1 n0_1 c0_1) l0_1, row (Kd.int .i64) 3 (.slice q_1 (([a1] : List Int).length) q_2) ([a1] : List Int)])) := by
 unfold spec_meEnd.f at h
 obtain rfl := (hF.row_C (i := 0) rfl).2.1
 obtain rfl := (R0_2 ws (KeptB.refl _ _)).1
 refine enter Try.func112 rfl Try.ntmps112 rfl hF (c_seq (za0 (o_e rfl (e_box rfl) (fun g1 => o_e rfl (zab V25 rfl) (fun g3 => o_end (za1 (c_seq (za0 (oq_ (q_f F25_0 rfl) ?_)))))))))
 refine oq_ (q_ldb Y3 rfl (bx_ 1 rfl) rfl) (oq_ (q_f F25_1 rfl) (oq_ (q_ldb Y22 rfl (bx_ 1 rfl) rfl) (oq_ (za2 rfl) (o_e rfl (e_lit (vs := [(0, .int .i64 a1)]) (cs := [.int .i64 a1]) (Kd.int .i64) ([a1] : List Int) Try.underlying23 I3 dc_ rfl dc_ rfl rfl (fun _ _ => Kd.za8 _)) (cur2 (fun A5 c6 => oq_ (q_build (vs := [(0, .int .i64 a0_0), (1, .slice A0_1 l0_1.length c0_1), (2, .slice A5 (([a1] : List Int).length) c6)]) (cs := [.int .i64 a0_0, .slice A0_1 l0_1.length c0_1, .slice A5 (([a1] : List Int).length) c6]) rfl rfl) (o_e rfl (zac (i := 1) rfl rfl rfl Z25 rfl rfl) (fun _ => o_end (za1 (c_ret ?_))))))))))
 exact x_r1 (A5, c6) Try.results112 (zb0 rfl G25 Z25 (bx_ 1 rfl) rfl) rfl (pk_ [3, 0])

def spec_meBinary.l0 (l4 : List Int) : Nat → (List Int) → (List SStep) → Int → Int → Option ((List Int) × (List SStep) × Int)
 | 0, _, _, _, _ => none
 | k21 + 1, l11, l14, i17, i18 => if 0 ≤ i18 then ((spec_meTimes.f 1 l14 l11 i17 i17).bind fun l31 => (gt l4 i18).bind fun y36 => if y36 = 1 then ((spec_meTimes.f 1 l31 [] (w64 (1 + (l14.length : Int))) 0).bind fun l39 => spec_meBinary.l0 l4 k21 [] l39 (w64 (1 + (l31.length : Int))) (w64 (i18 - 1))) else (spec_meBinary.l0 l4 k21 [] l31 (w64 (1 + (l14.length : Int))) (w64 (i18 - 1)))) else (some (l11, l14, i17))
def spec_meBinary.f (k : Nat) (a0 : Int) : Option ((List SStep) × (List Int)) := (spec_meDigits.f k a0 2).bind fun l4 => (spec_meBinary.l0 l4 k ([] : List Int) ([] : List SStep) 0 (w64 ((l4.length : Int) - 2))).bind fun (l11, l14, i17) => (spec_meEnd.f 1 l14 l11 i17).bind fun _ => some (l14, ([i17] : List Int))
theorem spec_meBinary.calls (k : Nat) {w0 ws : World} {P0 : Nat → Prop} (a0 : Int) (Z : Below w0.heap.size w0 ws) (hF : Fr w0 ws P0 [] ws)  (r_1 : List SStep) (r_4 : List Int) (h : spec_meBinary.f k a0 = some (r_1, r_4)) :
  Calls Try.prog 83 #[.int .i64 a0] ws (Post1 w0 ws P0 (fun ((q_2, q_3, q_5, q_6) : (Option Addr) × Nat × (Option Addr) × Nat) => .agg #[.int .i64 1, .slice q_2 r_1.length q_3, .slice q_5 r_4.length q_6]) (fun ((q_2, q_3, q_5, q_6) : (Option Addr) × Nat × (Option Addr) × Nat) => [row kStep 107 (.slice q_2 r_1.length q_3) r_1, row (Kd.int .i64) 3 (.slice q_5 r_4.length q_6) r_4])) := by
 unfold spec_meBinary.f at h
 refine enter Try.func83 rfl Try.ntmps83 rfl hF (c_seq (za0 (o_e rfl (zab V25 rfl) (fun g1 => o_end (za1 (c_seq (za0 (oq_ (za2 rfl) (za6 h (fun l4 hx3 h => ?_) rfl)))))))))
 refine o_e rfl (za5 0 Z Try.func108 N108 rfl rfl rfl (fun w P1 hF hB hS hT => spec_meDigits.calls k a0 2 hB hF _ hx3)) (cur2 (fun A5 c6 => oq_ (q_asg rfl) (o_end (za1 (c_seq (za0 (oq_ (q_build (vs := [(0, .int .i64 1)]) (cs := [.int .i64 1, .slice none 0 0, .slice none 0 0]) rfl rfl) (o_e rfl (zab V25 rfl) (fun g7 => o_e rfl (zac (i := 0) rfl rfl rfl Z25 rfl rfl) (fun _ => o_end ?_))))))))))
 refine za1 (c_seq (za0 (oq_ (q_asg rfl) (o_end (za1 (c_seq (c_seq (za0 (oq_ (za2 rfl) ?_)))))))))
 refine oq_ (q_len Try.underlying23 rfl) (oq_ (zat rfl rfl) (oq_ (q_asg rfl) (o_end (za1 (zae (c_nil kStep 107 (c_nil (Kd.int .i64) 3 (za6 h (fun o26 hl25 hR24 => ?_) rfl))))))))
 clear h
 refine zas (σ := (List Int) × (List SStep) × Int × Int × (Option Addr) × Nat × (Option Addr) × Nat) (fun k21 ((l11, l14, i17, i18, A12, c13, A15, c16) : (List Int) × (List SStep) × Int × Int × (Option Addr) × Nat × (Option Addr) × Nat) => spec_meBinary.l0 l4 k21 l11 l14 i17 i18 = some o26) [5, 6, 13, 14, 15, 16, 17, 18, 19, 20, 21, 22, 23, 24, 25, 26, 27, 28, 29, 30, 31, 32, 33, 34] (fun ((l11, l14, i17, i18, A12, c13, A15, c16) : (List Int) × (List SStep) × Int × Int × (Option Addr) × Nat × (Option Addr) × Nat) => [(5, .int .i64 i17), (6, .int .i64 i18)]) (fun ((l11, l14, i17, i18, A12, c13, A15, c16) : (List Int) × (List SStep) × Int × Int × (Option Addr) × Nat × (Option Addr) × Nat) => [row (Kd.int .i64) 3 (.slice A12 l11.length c13) l11, row kStep 107 (.slice A15 l14.length c16) l14, box g7 25 #[.int .i64 1, .slice A15 l14.length c16, .slice A12 l11.length c13], row (Kd.int .i64) 3 (.slice A5 l4.length c6) l4, box g1 25 #[.int .i64 0, .slice none 0 0, .slice none 0 0]]) k (([] : List Int), ([] : List SStep), 0, w64 ((l4.length : Int) - 2), none, 0, none, 0) hl25 ⟨rfl, rfl, trivial⟩ (fun w h => h) (natC (cur8 (fun l11 l14 i17 i18 A12 c13 A15 c16 => fun U27 hJ_ => ?_)) (fun k21 => (cur8 (fun l11 l14 i17 i18 A12 c13 A15 c16 => fun U27 hJ_ => ?_))))
 ·replace hJ_ : spec_meBinary.l0 l4 0 l11 l14 i17 i18 = some o26 := hJ_
  rw [spec_meBinary.l0] at hJ_
  exact noneE hJ_
 ·clear hl25
  have h := hJ_; clear hJ_
  replace h : spec_meBinary.l0 l4 (k21 + 1) l11 l14 i17 i18 = some o26 := h
  rw [spec_meBinary.l0] at h
  refine c_seq (c_seq (za0 (oq_ (za2 rfl) (oq_ (q_geq rfl rfl) (o_end (za1 (zan _ rfl (fun hb29 => ?_) (fun hb29 => ?_))))))))
  ·replace h := br_t hb29 h
   refine zai (za1 (c_seq (zae (c_seq (za0 (oq_ (q_ldB G25 Z25 rfl (bx_ 2 rfl) rfl) (oq_ (za2 rfl) (oq_ (za2 rfl) (za6 h (fun l31 hx30 h => ?_) rfl)))))))))
   refine o_e rfl (za5 0 Z Try.func110 N110 rfl rfl rfl (fun w P1 hF hB hS hT => spec_meTimes.calls 1 A15 c16 l14.length l14 A12 c13 l11.length l11 i17 i17 hB hF (hT 1 _ rfl).row (hT 1 _ rfl).cap (hT 0 _ rfl).row (hT 0 _ rfl).cap _ hx30)) (cur2 (fun A32 c33 => oq_ (za2 rfl) (oq_ (q_ext rfl rfl) (oq_ (q_ext rfl rfl) (o_e rfl (zac (i := 4) rfl rfl rfl Z25 rfl rfl) (fun _ => oq_ (q_asg rfl) (o_end (za1 (c_seq (za0 ?_))))))))))
   refine oq_ (za2 rfl) (oq_ (za2 rfl) (zaw (p := Sh A5 l4.length l4.length) (fun w h => f_sh (dk := (Kd.int .i64)) h (rc_ 5 rfl)) (fun hq34 => za6 h (fun y36 hg35 h => ?_) rfl)))
   refine oq_ (q_ix Try.underlying23 Z3 rfl rfl hq34 hg35) (oq_ (q_lde (off := 0) Y3 rfl rfl (rc_ 5 rfl) hg35 (fun _ _ h => h) rfl) (oq_ (q_eql rfl rfl) (o_end (za1 (zan _ rfl (fun hb37 => ?_) (fun hb37 => ?_))))))
   ·replace h := br_t hb37 h
    refine za0 (oq_ (q_ldB G25 Z25 rfl (bx_ 4 rfl) rfl) (oq_ (za2 rfl) (za6 h (fun l39 hx38 h => ?_) rfl)))
    refine o_e rfl (za5 0 Z Try.func110 N110 rfl rfl rfl (fun w P1 hF hB hS hT => spec_meTimes.calls 1 A32 c33 l31.length l31 none 0 0 [] (w64 (1 + (l14.length : Int))) 0 hB hF (hT 0 _ rfl).row (hT 0 _ rfl).cap (hT 1 _ rfl).row (hT 1 _ rfl).cap _ hx38)) (cur2 (fun A40 c41 => oq_ (za2 rfl) (oq_ (q_ext rfl rfl) (oq_ (q_ext rfl rfl) (o_e rfl (zac (i := 6) rfl rfl rfl Z25 rfl rfl) (fun _ => oq_ (q_asg rfl) (o_end (zaf (za1 (za0 ?_))))))))))
    refine oq_ (za2 rfl) (oq_ (zat rfl rfl) (oq_ (q_asg rfl) (o_end (x_fact (p := 0 = [].length) (fun w h => (h.row_C (i := 1) rfl).2.1) (fun hn42 => zal k21 ([], l39, w64 (1 + (l31.length : Int)), w64 (i18 - 1), none, 0, A40, c41) (Nat.lt_succ_self _) h ⟨rfl, rfl, trivial⟩ (f_pickE (L1 := [row kStep 107 (.slice A40 l39.length c41) l39, row (Kd.int .i64) 3 (.slice none 0 0) [], row kStep 107 (.slice A32 l31.length c33) l31, row (Kd.int .i64) 3 (.slice none 0 0) [], row (Kd.int .i64) 3 (.slice A12 l11.length c13) l11, row kStep 107 (.slice A15 l14.length c16) l14, box g7 25 #[.int .i64 1, .slice A40 l39.length c41, .slice none 0 0], row (Kd.int .i64) 3 (.slice A5 l4.length c6) l4, box g1 25 #[.int .i64 0, .slice none 0 0, .slice none 0 0]]) rfl [1, 0, 6, 7, 8] dc_ rfl (by (try rw [hn42]); first | done | rfl)) ?_)))))
    exact of_
   ·replace h := br_f hb37 h
    refine zai (zaf (za1 (za0 (oq_ (za2 rfl) (oq_ (zat rfl rfl) (oq_ (q_asg rfl) (o_end (x_fact (p := 0 = [].length) (fun w h => (h.row_C (i := 1) rfl).2.1) (fun hn43 => zal k21 ([], l31, w64 (1 + (l14.length : Int)), w64 (i18 - 1), none, 0, A32, c33) (Nat.lt_succ_self _) h ⟨rfl, rfl, trivial⟩ (f_pickE (L1 := [row kStep 107 (.slice A32 l31.length c33) l31, row (Kd.int .i64) 3 (.slice none 0 0) [], row (Kd.int .i64) 3 (.slice A12 l11.length c13) l11, row kStep 107 (.slice A15 l14.length c16) l14, box g7 25 #[.int .i64 1, .slice A32 l31.length c33, .slice none 0 0], row (Kd.int .i64) 3 (.slice A5 l4.length c6) l4, box g1 25 #[.int .i64 0, .slice none 0 0, .slice none 0 0]]) rfl [1, 0, 4, 5, 6] dc_ rfl (by (try rw [hn43]); first | done | rfl)) ?_)))))))))
    exact of_
  ·replace h := br_f hb29 h
   refine zax (za7 (za7 ?_))
   have e_ := si_ h; replace h := hR24; rw [← e_] at h; clear e_
   refine x_hit (za1 (c_seq (za0 (oq_ (q_ldB G25 Z25 rfl (bx_ 2 rfl) rfl) (oq_ (za2 rfl) (o_pick [1, 0, 2, 3, 4] dc_ rfl (za6 h (fun _ hx44 h => ?_) rfl)))))))
   refine o_e rfl (za5 1 Z Try.func112 N112 rfl rfl rfl (fun w P1 hF hB hS hT => spec_meEnd.calls 1 A15 c16 l14.length l14 A12 c13 l11.length l11 i17 hB hF (hT 0 _ rfl).row (hT 0 _ rfl).cap hx44)) (cur2 (fun A45 c46 => o_e rfl (zac (i := 5) rfl rfl rfl Z25 rfl rfl) (fun _ => o_end (za1 (c_ret ?_)))))
   have e0_ := si_ h; clear h
   obtain ⟨rfl, e1_⟩ := Prod.mk.inj e0_
   subst e1_
   exact x_r1 (A15, c16, A45, c46) Try.results83 (zb0 rfl G25 Z25 (bx_ 5 rfl) rfl) rfl (pk_ [0, 1])

def spec_meRight.l0 (l4 : List Int) : (List Int) → (List Int) → (List SStep) → Int → Int → Int → Option ((List Int) × (List SStep) × Int)
 | [], l11, l14, i17, i18, i19 => some (l11, l14, i19)
 | y20 :: ys21, l11, l14, i17, i18, i19 => ((if y20 = 1 then (some (decide (0 ≤ i19))) else (some false)).bind fun b61 => if b61 = true then ((spec_meTimes.f 1 l14 l11 i19 i18).bind fun l70 => some (l70, [], w64 (1 + (l14.length : Int)))) else (if y20 = 1 then (some (l14, l11, i18)) else (some (l14, l11, i19)))).bind fun (l48, l51, i54) => if i17 < w64 ((l4.length : Int) - 1) then ((spec_meTimes.f 1 l48 l51 i18 i18).bind fun l77 => spec_meRight.l0 l4 ys21 [] l77 (i17 + 1) (w64 (1 + (l48.length : Int))) i54) else (spec_meRight.l0 l4 ys21 l51 l48 (i17 + 1) i18 i54)
def spec_meRight.f (k : Nat) (a0 : Int) : Option ((List SStep) × (List Int)) := (spec_meDigits.f k a0 2).bind fun l4 => (spec_meRight.l0 l4 l4 ([] : List Int) ([] : List SStep) 0 0 (-1)).bind fun (l11, l14, i19) => (spec_meEnd.f 1 l14 l11 i19).bind fun _ => some (l14, ([i19] : List Int))
theorem spec_meRight.calls (k : Nat) {w0 ws : World} {P0 : Nat → Prop} (a0 : Int) (Z : Below w0.heap.size w0 ws) (hF : Fr w0 ws P0 [] ws)  (r_1 : List SStep) (r_4 : List Int) (h : spec_meRight.f k a0 = some (r_1, r_4)) :
  Calls Try.prog 121 #[.int .i64 a0] ws (Post1 w0 ws P0 (fun ((q_2, q_3, q_5, q_6) : (Option Addr) × Nat × (Option Addr) × Nat) => .agg #[.int .i64 1, .slice q_2 r_1.length q_3, .slice q_5 r_4.length q_6]) (fun ((q_2, q_3, q_5, q_6) : (Option Addr) × Nat × (Option Addr) × Nat) => [row kStep 107 (.slice q_2 r_1.length q_3) r_1, row (Kd.int .i64) 3 (.slice q_5 r_4.length q_6) r_4])) := by
 unfold spec_meRight.f at h
 refine enter Try.func121 rfl Try.ntmps121 rfl hF (c_seq (za0 (o_e rfl (zab V25 rfl) (fun g1 => o_end (za1 (c_seq (za0 (oq_ (za2 rfl) (za6 h (fun l4 hx3 h => ?_) rfl)))))))))
 refine o_e rfl (za5 0 Z Try.func108 N108 rfl rfl rfl (fun w P1 hF hB hS hT => spec_meDigits.calls k a0 2 hB hF _ hx3)) (cur2 (fun A5 c6 => oq_ (q_asg rfl) (o_end (za1 (c_seq (za0 (oq_ (q_build (vs := [(0, .int .i64 1)]) (cs := [.int .i64 1, .slice none 0 0, .slice none 0 0]) rfl rfl) (o_e rfl (zab V25 rfl) (fun g7 => o_e rfl (zac (i := 0) rfl rfl rfl Z25 rfl rfl) (fun _ => o_end ?_))))))))))
 refine za1 (c_seq (za0 (oq_ (q_asg rfl) (oq_ (q_asg rfl) (o_end (za1 (c_seq (c_seq (za0 ?_)))))))))
 refine oq_ (za2 rfl) (oq_ (q_len Try.underlying23 rfl) (oq_ (za2 rfl) (o_end (za1 (zae (c_nil kStep 107 (c_nil (Kd.int .i64) 3 (za6 h (fun o27 hl26 hR25 => ?_) rfl))))))))
 clear h
 refine c_fact (p := l4.length ≤ 9223372036854775807) (fun w h => (h.row_Cn (i := 3) rfl).2.1) (fun hm24 => zas (σ := (List Int) × (List Int) × (List SStep) × Int × Int × Int × (Option Addr) × Nat × (Option Addr) × Nat) (fun k22 ((ys21, l11, l14, i17, i18, i19, A12, c13, A15, c16) : (List Int) × (List Int) × (List SStep) × Int × Int × Int × (Option Addr) × Nat × (Option Addr) × Nat) => Rg l4 i17 ys21 ∧ ys21.length = k22 ∧ spec_meRight.l0 l4 ys21 l11 l14 i17 i18 i19 = some o27) [5, 6, 7, 8, 14, 15, 16, 17, 18, 19, 20, 21, 22, 23, 24, 25, 26, 27, 28, 29, 30, 31, 32, 33, 34, 35, 36, 37, 38, 39, 40, 41, 42, 43, 44, 45, 46, 47] (fun ((ys21, l11, l14, i17, i18, i19, A12, c13, A15, c16) : (List Int) × (List Int) × (List SStep) × Int × Int × Int × (Option Addr) × Nat × (Option Addr) × Nat) => [(5, .int .i64 i18), (6, .int .i64 i19), (14, .int .i64 i17)]) (fun ((ys21, l11, l14, i17, i18, i19, A12, c13, A15, c16) : (List Int) × (List Int) × (List SStep) × Int × Int × Int × (Option Addr) × Nat × (Option Addr) × Nat) => [row (Kd.int .i64) 3 (.slice A12 l11.length c13) l11, row kStep 107 (.slice A15 l14.length c16) l14, box g7 25 #[.int .i64 1, .slice A15 l14.length c16, .slice A12 l11.length c13], row (Kd.int .i64) 3 (.slice A5 l4.length c6) l4, box g1 25 #[.int .i64 0, .slice none 0 0, .slice none 0 0]]) l4.length (l4, ([] : List Int), ([] : List SStep), 0, 0, (-1), none, 0, none, 0) ⟨Rg.start _, rfl, hl26⟩ ⟨rfl, rfl, rfl, trivial⟩ (fun w h => h) (fun k22 => cur10 (listC (fun l11 l14 i17 i18 i19 A12 c13 A15 c16 U28 hJ_ => ?_) (fun y20 ys21 l11 l14 i17 i18 i19 A12 c13 A15 c16 U28 hJ_ => ?_))))
 ·clear hl26
  have hr23 := hJ_.1; have hk29 := hJ_.2.1; have h := hJ_.2.2; clear hJ_
  replace h : spec_meRight.l0 l4 [] l11 l14 i17 i18 i19 = some o27 := h
  rw [spec_meRight.l0] at h
  refine c_seq (za0 (oq_ (q_lss rfl rfl) (o_end (za1 (c_seq (zaz (vb_ hr23.ge) (zax (za7 (za7 ?_)))))))))
  have e_ := si_ h; replace h := hR25; rw [← e_] at h; clear e_
  refine x_hit (za1 (c_seq (za0 (oq_ (q_ldB G25 Z25 rfl (bx_ 2 rfl) rfl) (oq_ (za2 rfl) (o_pick [1, 0, 2, 3, 4] dc_ rfl (za6 h (fun _ hx30 h => ?_) rfl)))))))
  refine o_e rfl (za5 1 Z Try.func112 N112 rfl rfl rfl (fun w P1 hF hB hS hT => spec_meEnd.calls 1 A15 c16 l14.length l14 A12 c13 l11.length l11 i19 hB hF (hT 0 _ rfl).row (hT 0 _ rfl).cap hx30)) (cur2 (fun A31 c32 => o_e rfl (zac (i := 5) rfl rfl rfl Z25 rfl rfl) (fun _ => o_end (za1 (c_ret ?_)))))
  have e0_ := si_ h; clear h
  obtain ⟨rfl, e1_⟩ := Prod.mk.inj e0_
  subst e1_
  exact x_r1 (A15, c16, A31, c32) Try.results121 (zb0 rfl G25 Z25 (bx_ 5 rfl) rfl) rfl (pk_ [0, 1])
 ·clear hl26
  have hr23 := hJ_.1; have hk29 := hJ_.2.1; have h := hJ_.2.2; clear hJ_
  replace h : spec_meRight.l0 l4 (y20 :: ys21) l11 l14 i17 i18 i19 = some o27 := h
  rw [spec_meRight.l0] at h
  refine c_seq (za0 (oq_ (q_lss rfl rfl) (o_end (za1 (c_seq (zar (vb_ hr23.lt) (zai (za1 (c_seq ?_)))))))))
  refine zae (c_seq (za0 (oq_ (za2 rfl) (zaw (p := Sh A5 l4.length l4.length) (fun w h => f_sh (dk := (Kd.int .i64)) h (rc_ 3 rfl)) (fun hq33 => oq_ (q_ix Try.underlying23 Z3 rfl rfl hq33 hr23.get) (oq_ (q_lde (off := 0) Y3 rfl rfl (rc_ 3 rfl) hr23.get (fun _ _ h => h) rfl) (oq_ (q_asg rfl) (oq_ (q_asg rfl) (o_end ?_)))))))))
  refine za1 (za6 h (fun o55 hl56 hR57 => ?_) rfl)
  clear h
  refine c_cutJ (σ := (List SStep) × (List Int) × Int × (Option Addr) × Nat × (Option Addr) × Nat) (fun (l48, l51, i54, A49, c50, A52, c53) => some (l48, l51, i54) = some o55) [6, 19, 20, 21, 22, 23, 24, 25, 26, 27, 28, 29, 30, 31, 32, 33, 34] (fun (l48, l51, i54, A49, c50, A52, c53) => [(6, .int .i64 i54)]) (fun (l48, l51, i54, A49, c50, A52, c53) => [box g1 25 #[.int .i64 0, .slice none 0 0, .slice none 0 0], row (Kd.int .i64) 3 (.slice A5 l4.length c6) l4, box g7 25 #[.int .i64 1, .slice A49 l48.length c50, .slice A52 l51.length c53], row kStep 107 (.slice A49 l48.length c50) l48, row (Kd.int .i64) 3 (.slice A52 l51.length c53) l51]) ?_ ?_
  ·have h := hl56; clear hl56
   clear hR57
   refine za6 h (fun o62 hl63 hR64 => ?_) rfl
   clear h
   refine c_cutJ (σ := Bool) (fun b61 => some b61 = some o62) [19, 20, 21, 22, 23, 24] (fun b61 => [(24, .bool b61)]) (fun b61 => [box g1 25 #[.int .i64 0, .slice none 0 0, .slice none 0 0], row (Kd.int .i64) 3 (.slice A5 l4.length c6) l4, box g7 25 #[.int .i64 1, .slice A15 l14.length c16, .slice A12 l11.length c13], row kStep 107 (.slice A15 l14.length c16) l14, row (Kd.int .i64) 3 (.slice A12 l11.length c13) l11]) ?_ ?_
   ·have h := hl63; clear hl63
    clear hR64
    refine za0 (oq_ (za2 rfl) (oq_ (q_eql rfl rfl) (oq_ (za2 rfl) (byB (decide (y20 = 1)) (fun hb67 => ?_) (fun hb67 => ?_)))))
    ·replace h := br_t hb67 h
     refine o_w (za4 rfl rfl rfl (vb_ hb67)) rfl (za2 rfl) (o_w (za4 rfl rfl rfl (vb_ hb67)) rfl (q_geq rfl rfl) (oq_ (zak true (vb_ hb67) rfl) (o_end (zah (decide (0 ≤ i19)) h ⟨rfl, trivial⟩ (pk_ [4, 3, 2, 1, 0]) ?_))))
     exact of_
    ·replace h := br_f hb67 h
     refine o_n (d := 22) (za3 rfl rfl rfl (vb_ hb67) rfl) (Eq.refl (some 22)) (o_n (d := 23) (za3 rfl rfl rfl (vb_ hb67) rfl) (Eq.refl (some 23)) (oq_ (zak false (vb_ hb67) rfl) (o_end (zah false h ⟨rfl, trivial⟩ (pk_ [4, 3, 2, 1, 0]) ?_))))
     exact of_
   ·refine (fun b61 => fun U65 hJ66 => ?_)
    have e_ := si_ hJ66; have h := hR64; rw [← e_] at h; clear e_ hJ66 hR64 hl63
    refine zan _ rfl (fun hb68 => ?_) (fun hb68 => ?_)
    ·replace h := bb_t hb68 h
     refine za0 (oq_ (q_ldB G25 Z25 rfl (bx_ 2 rfl) rfl) (oq_ (za2 rfl) (oq_ (za2 rfl) (za6 h (fun l70 hx69 h => ?_) rfl))))
     refine o_e rfl (za5 0 Z Try.func110 N110 rfl rfl rfl (fun w P1 hF hB hS hT => spec_meTimes.calls 1 A15 c16 l14.length l14 A12 c13 l11.length l11 i19 i18 hB hF (hT 3 _ rfl).row (hT 3 _ rfl).cap (hT 4 _ rfl).row (hT 4 _ rfl).cap _ hx69)) (cur2 (fun A71 c72 => oq_ (za2 rfl) (oq_ (q_ext rfl rfl) (oq_ (q_ext rfl rfl) (o_e rfl (zac (i := 4) rfl rfl rfl Z25 rfl rfl) (fun _ => oq_ (q_asg rfl) (o_end (x_fact (p := 0 = [].length) (fun w h => (h.row_C (i := 1) rfl).2.1) (fun hn73 => zah (l70, [], w64 (1 + (l14.length : Int)), A71, c72, none, 0) h ⟨rfl, trivial⟩ (f_pickE (L1 := [row kStep 107 (.slice A71 l70.length c72) l70, row (Kd.int .i64) 3 (.slice none 0 0) [], box g1 25 #[.int .i64 0, .slice none 0 0, .slice none 0 0], row (Kd.int .i64) 3 (.slice A5 l4.length c6) l4, box g7 25 #[.int .i64 1, .slice A71 l70.length c72, .slice none 0 0], row kStep 107 (.slice A15 l14.length c16) l14, row (Kd.int .i64) 3 (.slice A12 l11.length c13) l11]) rfl [2, 3, 4, 0, 1] dc_ rfl (by (try rw [hn73]); first | done | rfl)) ?_)))))))))
     exact of_
    ·replace h := bb_f hb68 h
     refine c_seq (za0 (oq_ (za2 rfl) (oq_ (q_eql rfl rfl) (o_end (za1 (zan _ rfl (fun hb74 => ?_) (fun hb74 => ?_)))))))
     ·replace h := br_t hb74 h
      refine za0 (oq_ (za2 rfl) (oq_ (q_asg rfl) (o_end (zah (l14, l11, i18, A15, c16, A12, c13) h ⟨rfl, trivial⟩ (pk_ [0, 1, 2, 3, 4]) ?_))))
      exact of_
     ·replace h := br_f hb74 h
      refine zai (zah (l14, l11, i19, A15, c16, A12, c13) h ⟨rfl, trivial⟩ (pk_ [0, 1, 2, 3, 4]) ?_)
      exact of_
  ·refine (cur7 (fun l48 l51 i54 A49 c50 A52 c53 => fun U58 hJ59 => ?_))
   have e_ := si_ hJ59; have h := hR57; rw [← e_] at h; clear e_ hJ59 hR57 hl56
   refine c_seq (za0 (oq_ (za2 rfl) (oq_ (za2 rfl) (oq_ (q_len Try.underlying23 rfl) (oq_ (zat rfl rfl) (oq_ (q_lss rfl rfl) (o_end (za1 (zan _ rfl (fun hb75 => ?_) (fun hb75 => ?_))))))))))
   ·replace h := br_t hb75 h
    refine za0 (oq_ (q_ldB G25 Z25 rfl (bx_ 2 rfl) rfl) (oq_ (za2 rfl) (oq_ (za2 rfl) (za6 h (fun l77 hx76 h => ?_) rfl))))
    refine o_e rfl (za5 0 Z Try.func110 N110 rfl rfl rfl (fun w P1 hF hB hS hT => spec_meTimes.calls 1 A49 c50 l48.length l48 A52 c53 l51.length l51 i18 i18 hB hF (hT 3 _ rfl).row (hT 3 _ rfl).cap (hT 4 _ rfl).row (hT 4 _ rfl).cap _ hx76)) (cur2 (fun A78 c79 => oq_ (za2 rfl) (oq_ (q_ext rfl rfl) (oq_ (q_ext rfl rfl) (o_e rfl (zac (i := 4) rfl rfl rfl Z25 rfl rfl) (fun _ => oq_ (q_asg rfl) (o_end (zaf (za1 (za0 ?_))))))))))
    refine oq_ (q_up rfl rfl (hr23.up hm24)) (oq_ (za2 rfl) (o_end (x_fact (p := 0 = [].length) (fun w h => (h.row_C (i := 1) rfl).2.1) (fun hn80 => zal ys21.length (ys21, [], l77, i17 + 1, w64 (1 + (l48.length : Int)), i54, none, 0, A78, c79) (by rw [← hk29]; exact Nat.lt_succ_self _) ⟨hr23.step, rfl, h⟩ ⟨rfl, rfl, rfl, trivial⟩ (f_pickE (L1 := [row kStep 107 (.slice A78 l77.length c79) l77, row (Kd.int .i64) 3 (.slice none 0 0) [], box g1 25 #[.int .i64 0, .slice none 0 0, .slice none 0 0], row (Kd.int .i64) 3 (.slice A5 l4.length c6) l4, box g7 25 #[.int .i64 1, .slice A78 l77.length c79, .slice none 0 0], row kStep 107 (.slice A49 l48.length c50) l48, row (Kd.int .i64) 3 (.slice A52 l51.length c53) l51]) rfl [1, 0, 4, 3, 2] dc_ rfl (by (try rw [hn80]); first | done | rfl)) ?_))))
    exact of_
   ·replace h := br_f hb75 h
    refine zai (zaf (za1 (za0 (oq_ (q_up rfl rfl (hr23.up hm24)) (oq_ (za2 rfl) (o_end (zal ys21.length (ys21, l51, l48, i17 + 1, i18, i54, A52, c53, A49, c50) (by rw [← hk29]; exact Nat.lt_succ_self _) ⟨hr23.step, rfl, h⟩ ⟨rfl, rfl, rfl, trivial⟩ (pk_ [4, 3, 2, 1, 0]) ?_)))))))
    exact of_

def spec_meGreatest.l0 : (List Int) → Int → Int → Option Int
 | [], i1, i2 => some i1
 | y3 :: ys4, i1, i2 => (spec_l1Most.f i1 y3).bind fun i15 => spec_meGreatest.l0 ys4 i15 (i2 + 1)
def spec_meGreatest.f (l0 : List Int) : Option Int := (spec_meGreatest.l0 l0 0 0).bind fun i1 => some i1
theorem spec_meGreatest.calls {w0 ws : World} {P0 : Nat → Prop} (A0 : Option Addr) (c0 : Nat) (n0 : Nat) (l0 : List Int) (Z : Below w0.heap.size w0 ws) (hF : Fr w0 ws P0 [] ws) (R0 : Stable ws P0 (fun w => Kd.C (Kd.int .i64) w A0 n0 l0)) (hc0 : n0 ≤ c0) (r_1 : Int) (h : spec_meGreatest.f l0 = some r_1) :
  Calls Try.prog 109 #[.slice A0 n0 c0] ws (Post1 w0 ws P0 (fun (_ : Unit) => .int .i64 r_1) (fun (_ : Unit) => [])) := by
 unfold spec_meGreatest.f at h
 obtain rfl := (R0 ws (KeptB.refl _ _)).1
 refine enter Try.func109 rfl Try.ntmps109 rfl hF (c_seq (za0 (oq_ (q_asg rfl) (o_end (za1 (c_seq (za0 (oq_ (q_asg rfl) (o_end ?_)))))))))
 refine za1 (c_seq (c_seq (za0 (oq_ (za2 rfl) (oq_ (q_len Try.underlying23 rfl) (oq_ (za2 rfl) (o_end (za1 (zae ?_)))))))))
 refine za6 h (fun o10 hl9 hR8 => ?_) rfl
 clear h
 refine c_fact (p := l0.length ≤ 9223372036854775807) (fun w h => (R0.now Z h).2.1) (fun hm7 => zas (σ := (List Int) × Int × Int) (fun k5 ((ys4, i1, i2) : (List Int) × Int × Int) => Rg l0 i2 ys4 ∧ ys4.length = k5 ∧ spec_meGreatest.l0 ys4 i1 i2 = some o10) [3, 5, 8, 9, 10, 11, 12, 13, 14, 15] (fun ((ys4, i1, i2) : (List Int) × Int × Int) => [(3, .int .i64 i1), (8, .int .i64 i2)]) (fun ((ys4, i1, i2) : (List Int) × Int × Int) => []) l0.length (l0, 0, 0) ⟨Rg.start _, rfl, hl9⟩ ⟨rfl, rfl, trivial⟩ (fun w h => h) (fun k5 => cur3 (listC (fun i1 i2 U11 hJ_ => ?_) (fun y3 ys4 i1 i2 U11 hJ_ => ?_))))
 ·clear hl9
  have hr6 := hJ_.1; have hk12 := hJ_.2.1; have h := hJ_.2.2; clear hJ_
  replace h : spec_meGreatest.l0 [] i1 i2 = some o10 := h
  rw [spec_meGreatest.l0] at h
  refine c_seq (za0 (oq_ (q_lss rfl rfl) (o_end (za1 (c_seq (zaz (vb_ hr6.ge) (zax (za7 (za7 ?_)))))))))
  have e_ := si_ h; replace h := hR8; rw [← e_] at h; clear e_
  refine x_hit (za1 (c_seq (za0 (oq_ (za2 rfl) (oq_ (q_asg rfl) (o_end (za1 (c_ret ?_))))))))
  have e0_ := si_ h; clear h
  subst e0_
  exact x_r1 () Try.results109 (zad rfl) rfl (pk_ [])
 ·clear hl9
  have hr6 := hJ_.1; have hk12 := hJ_.2.1; have h := hJ_.2.2; clear hJ_
  replace h : spec_meGreatest.l0 (y3 :: ys4) i1 i2 = some o10 := h
  rw [spec_meGreatest.l0] at h
  refine c_seq (za0 (oq_ (q_lss rfl rfl) (o_end (za1 (c_seq (zar (vb_ hr6.lt) (zai (za1 (c_seq ?_)))))))))
  refine zae (c_seq (za0 (zaw (p := Sh A0 l0.length l0.length) (fun w h => f_sh (dk := (Kd.int .i64)) h (fun w h => R0.now Z h)) (fun hq13 => oq_ (q_ix Try.underlying23 Z3 rfl rfl hq13 hr6.get) (oq_ (q_lde (off := 0) Y3 rfl rfl (fun w h => R0.now Z h) hr6.get (fun _ _ h => h) rfl) (oq_ (q_asg rfl) (o_end (za1 (za0 ?_)))))))))
  refine oq_ (za2 rfl) (oq_ (za2 rfl) (za6 h (fun i15 hx14 h => ?_) rfl))
  refine o_e rfl (za5 0 Z Try.func88 N88 rfl rfl rfl (fun w P1 hF hB hS hT => spec_l1Most.calls i1 y3 hB hF _ hx14)) (fun _ => oq_ (q_asg rfl) (o_end (zaf (za1 (za0 (oq_ (q_up rfl rfl (hr6.up hm7)) (oq_ (za2 rfl) (o_end (zal ys4.length (ys4, i15, i2 + 1) (by rw [← hk12]; exact Nat.lt_succ_self _) ⟨hr6.step, rfl, h⟩ ⟨rfl, rfl, trivial⟩ (pk_ []) ?_)))))))))
  exact of_

def spec_l1Own.f (l0 : List Int) : Option (List Int) := (ap ([] : List Int) l0).bind fun l4 => some l4
theorem spec_l1Own.calls {w0 ws : World} {P0 : Nat → Prop} (A0 : Option Addr) (c0 : Nat) (n0 : Nat) (l0 : List Int) (Z : Below w0.heap.size w0 ws) (hF : Fr w0 ws P0 [] ws) (R0 : Stable ws P0 (fun w => Kd.C (Kd.int .i64) w A0 n0 l0)) (hc0 : n0 ≤ c0) (r_1 : List Int) (h : spec_l1Own.f l0 = some r_1) :
  Calls Try.prog 98 #[.slice A0 n0 c0] ws (Post1 w0 ws P0 (fun ((q_2, q_3) : (Option Addr) × Nat) => .slice q_2 r_1.length q_3) (fun ((q_2, q_3) : (Option Addr) × Nat) => [row (Kd.int .i64) 3 (.slice q_2 r_1.length q_3) r_1])) := by
 unfold spec_l1Own.f at h
 obtain rfl := (R0 ws (KeptB.refl _ _)).1
 refine enter Try.func98 rfl Try.ntmps98 rfl hF (c_seq (za0 (oq_ (q_asg rfl) (o_end (za1 (c_seq (za0 (o_e rfl (e_lit0 (Kd.int .i64) Try.underlying23 I3) (cur2 (fun A1 c2 => oq_ (za2 rfl) ?_))))))))))
 refine za6 h (fun l4 ha5 h => ?_) rfl
 refine o_e rfl (e_appr (i := 0) Try.underlying23 I3 rfl dc_ dc_ (fun _ _ _ _ h => h) rfl (fun w h => R0.now Z h) rfl rfl ha5) (cur2 (fun A6 c7 => oq_ (q_asg rfl) (o_end (za1 (c_ret ?_)))))
 have e0_ := si_ h; clear h
 subst e0_
 exact x_r1 (A6, c7) Try.results98 (zad rfl) rfl (pk_ [0])

def spec_l1Has.l0 (a1 : Int) : (List Int) → Int → Option ((Bool) ⊕ (Unit))
 | [], i1 => some (.inr ())
 | y2 :: ys3, i1 => if y2 = a1 then (some (.inl true)) else (spec_l1Has.l0 a1 ys3 (i1 + 1))
def spec_l1Has.f (l0 : List Int) (a1 : Int) : Option Bool := (spec_l1Has.l0 a1 l0 0).bind fun o_ => match o_ with | .inl r_ => some r_ | .inr _ => some false
theorem spec_l1Has.calls {w0 ws : World} {P0 : Nat → Prop} (A0 : Option Addr) (c0 : Nat) (n0 : Nat) (l0 : List Int) (a1 : Int) (Z : Below w0.heap.size w0 ws) (hF : Fr w0 ws P0 [] ws) (R0 : Stable ws P0 (fun w => Kd.C (Kd.int .i64) w A0 n0 l0)) (hc0 : n0 ≤ c0) (r_1 : Bool) (h : spec_l1Has.f l0 a1 = some r_1) :
  Calls Try.prog 161 #[.slice A0 n0 c0, .int .i64 a1] ws (Post1 w0 ws P0 (fun (_ : Unit) => .bool r_1) (fun (_ : Unit) => [])) := by
 unfold spec_l1Has.f at h
 obtain rfl := (R0 ws (KeptB.refl _ _)).1
 refine enter Try.func161 rfl Try.ntmps161 rfl hF (c_seq (za0 (oq_ (q_asg rfl) (o_end (za1 (c_seq (c_seq (za0 (oq_ (za2 rfl) ?_)))))))))
 refine oq_ (q_len Try.underlying23 rfl) (oq_ (za2 rfl) (o_end (za1 (zae (za6 h (fun o9 hl8 hR7 => ?_) rfl)))))
 clear h
 refine c_fact (p := l0.length ≤ 9223372036854775807) (fun w h => (R0.now Z h).2.1) (fun hm6 => zas (σ := (List Int) × Int) (fun k4 ((ys3, i1) : (List Int) × Int) => Rg l0 i1 ys3 ∧ ys3.length = k4 ∧ spec_l1Has.l0 a1 ys3 i1 = some o9) [4, 6, 9, 10, 11, 12, 13, 14, 15, 16] (fun ((ys3, i1) : (List Int) × Int) => [(9, .int .i64 i1)]) (fun ((ys3, i1) : (List Int) × Int) => []) l0.length (l0, 0) ⟨Rg.start _, rfl, hl8⟩ ⟨rfl, trivial⟩ (fun w h => h) (fun k4 => cur2 (listC (fun i1 U10 hJ_ => ?_) (fun y2 ys3 i1 U10 hJ_ => ?_))))
 ·clear hl8
  have hr5 := hJ_.1; have hk11 := hJ_.2.1; have h := hJ_.2.2; clear hJ_
  replace h : spec_l1Has.l0 a1 [] i1 = some o9 := h
  rw [spec_l1Has.l0] at h
  refine c_seq (za0 (oq_ (q_lss rfl rfl) (o_end (za1 (c_seq (zaz (vb_ hr5.ge) (zax (za7 (za7 ?_)))))))))
  have e_ := si_ h; replace h := hR7; rw [← e_] at h; clear e_
  refine x_hit (za1 (c_seq (za0 (oq_ (q_asg rfl) (o_end (za1 (c_ret ?_)))))))
  have e0_ := si_ h; clear h
  subst e0_
  exact x_r1 () Try.results161 (zad rfl) rfl (pk_ [])
 ·clear hl8
  have hr5 := hJ_.1; have hk11 := hJ_.2.1; have h := hJ_.2.2; clear hJ_
  replace h : spec_l1Has.l0 a1 (y2 :: ys3) i1 = some o9 := h
  rw [spec_l1Has.l0] at h
  refine c_seq (za0 (oq_ (q_lss rfl rfl) (o_end (za1 (c_seq (zar (vb_ hr5.lt) (zai (za1 (c_seq ?_)))))))))
  refine zae (c_seq (za0 (zaw (p := Sh A0 l0.length l0.length) (fun w h => f_sh (dk := (Kd.int .i64)) h (fun w h => R0.now Z h)) (fun hq12 => oq_ (q_ix Try.underlying23 Z3 rfl rfl hq12 hr5.get) (oq_ (q_lde (off := 0) Y3 rfl rfl (fun w h => R0.now Z h) hr5.get (fun _ _ h => h) rfl) (oq_ (q_asg rfl) (o_end (za1 (c_seq ?_)))))))))
  refine za0 (oq_ (za2 rfl) (oq_ (za2 rfl) (oq_ (q_eql rfl rfl) (o_end (za1 (zan _ rfl (fun hb13 => ?_) (fun hb13 => ?_)))))))
  ·replace h := br_t hb13 h
   refine c_seq (za0 (oq_ (q_asg rfl) (o_end (za1 (c_ret (zao (zaa (zaa ?_))))))))
   have e_ := si_ h; replace h := hR7; rw [← e_] at h; clear e_
   refine zao (zaa ?_)
   have e0_ := si_ h; clear h
   subst e0_
   exact x_r1 () Try.results161 (zad rfl) rfl (pk_ [])
  ·replace h := br_f hb13 h
   refine zai (zaf (za1 (za0 (oq_ (q_up rfl rfl (hr5.up hm6)) (oq_ (za2 rfl) (o_end (zal ys3.length (ys3, i1 + 1) (by rw [← hk11]; exact Nat.lt_succ_self _) ⟨hr5.step, rfl, h⟩ ⟨rfl, trivial⟩ (pk_ []) ?_)))))))
   exact of_

def spec_l1Put.l0 (l0 : List Int) (a1 : Int) : Nat → Int → Option Int
 | 0, _ => none
 | k26 + 1, i23 => if i23 < (l0.length : Int) then ((gt l0 i23).bind fun y37 => if y37 < a1 then (spec_l1Put.l0 l0 a1 k26 (w64 (i23 + 1))) else (some i23)) else (some i23)
def spec_l1Put.f (k : Nat) (l0 : List Int) (a1 : Int) : Option (List Int) := ((spec_l1Put.l0 l0 a1 k 0)).bind fun i17 => (if i17 < (l0.length : Int) then ((gt l0 i17).bind fun y52 => if y52 = a1 then (some (.inl l0)) else (some (.inr ()))) else (some (.inr ())) : Option (((List Int)) ⊕ (Unit))).bind fun o_ => match o_ with | .inl r_ => some r_ | .inr _ => (ct l0 (0 : Int) i17).bind fun l57 => (ap ([] : List Int) l57).bind fun l60 => (ap l60 ([a1] : List Int)).bind fun l67 => (ct l0 i17 (l0.length : Int)).bind fun l71 => (ap l67 l71).bind fun l74 => some l74
theorem spec_l1Put.calls (k : Nat) {w0 ws : World} {P0 : Nat → Prop} (A0 : Option Addr) (c0 : Nat) (n0 : Nat) (l0 : List Int) (a1 : Int) (Z : Below w0.heap.size w0 ws) (hF : Fr w0 ws P0 [row (Kd.int .i64) 3 (.slice A0 n0 c0) l0] ws)  (r_1 : List Int) (h : spec_l1Put.f k l0 a1 = some r_1) :
  Calls Try.prog 162 #[.slice A0 n0 c0, .int .i64 a1] ws (Post1 w0 ws P0 (fun ((q_2, q_3) : (Option Addr) × Nat) => .slice q_2 r_1.length q_3) (fun ((q_2, q_3) : (Option Addr) × Nat) => [row (Kd.int .i64) 3 (.slice q_2 r_1.length q_3) r_1])) := by
 unfold spec_l1Put.f at h
 obtain rfl := (hF.row_C (i := 0) rfl).2.1
 refine enter Try.func162 rfl Try.ntmps162 rfl hF (c_seq (za0 (oq_ (q_asg rfl) (o_end (za1 (c_seq (za0 (oq_ (q_asg rfl) (o_end ?_)))))))))
 refine za1 (za6 h (fun o18 hl19 hR20 => ?_) rfl)
 clear h
 refine c_cutJ (σ := Int) (fun i17 => some i17 = some o18) [5, 7, 8, 9, 10, 11, 12, 13, 14, 15, 16, 17, 18, 19, 20] (fun i17 => [(5, .int .i64 i17)]) (fun i17 => [row (Kd.int .i64) 3 (.slice A0 l0.length c0) l0]) ?_ ?_
 ·have h := hl19; clear hl19
  clear hR20
  refine zae ?_
  have hl30 := h; clear h
  refine zas (σ := Int) (fun k26 (i23 : Int) => spec_l1Put.l0 l0 a1 k26 i23 = some o18) [5, 7, 8, 9, 10, 11, 12, 13, 14, 15, 16, 17, 18, 19, 20] (fun (i23 : Int) => [(5, .int .i64 i23)]) (fun (i23 : Int) => [row (Kd.int .i64) 3 (.slice A0 l0.length c0) l0]) k 0 hl30 ⟨rfl, trivial⟩ (fun w h => h) (natC (fun i23 => fun U32 hJ_ => ?_) (fun k26 => (fun i23 => fun U32 hJ_ => ?_)))
  ·replace hJ_ : spec_l1Put.l0 l0 a1 0 i23 = some o18 := hJ_
   rw [spec_l1Put.l0] at hJ_
   exact noneE hJ_
  ·clear hl30
   have h := hJ_; clear hJ_
   replace h : spec_l1Put.l0 l0 a1 (k26 + 1) i23 = some o18 := h
   rw [spec_l1Put.l0] at h
   refine c_seq (c_seq (za0 (oq_ (za2 rfl) (oq_ (za2 rfl) (oq_ (q_len Try.underlying23 rfl) (oq_ (q_lss rfl rfl) (oq_ (za2 rfl) (byB (decide (i23 < (l0.length : Int))) (fun hb34 => ?_) (fun hb34 => ?_)))))))))
   ·replace h := br_t hb34 h
    refine o_w (za4 rfl rfl rfl (vb_ hb34)) rfl (za2 rfl) (o_w (za4 rfl rfl rfl (vb_ hb34)) rfl (za2 rfl) (zaw (p := Sh A0 l0.length l0.length) (fun w h => f_sh (dk := (Kd.int .i64)) h (rc_ 0 rfl)) (fun hq35 => za6 h (fun y37 hg36 h => ?_) rfl)))
    refine o_w (za4 rfl rfl rfl (vb_ hb34)) rfl (q_ix Try.underlying23 Z3 rfl rfl hq35 hg36) (o_w (za4 rfl rfl rfl (vb_ hb34)) rfl (q_lde (off := 0) Y3 rfl rfl (rc_ 0 rfl) hg36 (fun _ _ h => h) rfl) (o_w (za4 rfl rfl rfl (vb_ hb34)) rfl (za2 rfl) (o_w (za4 rfl rfl rfl (vb_ hb34)) rfl (q_lss rfl rfl) (oq_ (zak true (vb_ hb34) rfl) (o_end (za1 (zan _ rfl (fun hb38 => ?_) (fun hb38 => ?_))))))))
    ·replace h := br_t hb38 h
     refine zai (za1 (zae (za0 (oq_ (za2 rfl) (oq_ (zay rfl rfl) (oq_ (q_asg rfl) (o_end (zaf (zal k26 (w64 (i23 + 1)) (Nat.lt_succ_self _) h ⟨rfl, trivial⟩ (pk_ [0]) ?_)))))))))
     exact of_
    ·replace h := br_f hb38 h
     refine zax (za7 (za7 (x_hit (zah i23 h ⟨rfl, trivial⟩ (pk_ [0]) ?_))))
     exact of_
   ·replace h := br_f hb34 h
    refine o_n (d := 12) (za3 rfl rfl rfl (vb_ hb34) rfl) (Eq.refl (some 12)) (o_n (d := 13) (za3 rfl rfl rfl (vb_ hb34) rfl) (Eq.refl (some 13)) (o_n (d := 14) (za3 rfl rfl rfl (vb_ hb34) rfl) (Eq.refl (some 14)) (o_n (d := 15) (za3 rfl rfl rfl (vb_ hb34) rfl) (Eq.refl (some 15)) (o_n (d := 16) (za3 rfl rfl rfl (vb_ hb34) rfl) (Eq.refl (some 16)) (o_n (d := 17) (za3 rfl rfl rfl (vb_ hb34) rfl) (Eq.refl (some 17)) (oq_ (zak false (vb_ hb34) rfl) (o_end (za1 (zaz rfl ?_)))))))))
    refine zax (za7 (za7 (x_hit (zah i23 h ⟨rfl, trivial⟩ (pk_ [0]) ?_))))
    exact of_
 ·refine (fun i17 => fun U21 hJ22 => ?_)
  have e_ := si_ hJ22; have h := hR20; rw [← e_] at h; clear e_ hJ22 hR20 hl19
  refine za6 h (fun o44 hl45 hR46 => ?_) rfl
  clear h
  refine c_cutJ (σ := Unit) (fun _ => some (.inr ()) = some o44) [4, 21, 22, 23, 24, 25, 26, 27, 28, 29, 30, 31, 32, 33] (fun _ => []) (fun _ => [row (Kd.int .i64) 3 (.slice A0 l0.length c0) l0]) ?_ ?_
  ·have h := hl45; clear hl45
   refine c_seq (za0 (oq_ (za2 rfl) (oq_ (za2 rfl) (oq_ (q_len Try.underlying23 rfl) (oq_ (q_lss rfl rfl) (oq_ (za2 rfl) (byB (decide (i17 < (l0.length : Int))) (fun hb49 => ?_) (fun hb49 => ?_))))))))
   ·replace h := br_t hb49 h
    refine o_w (za4 rfl rfl rfl (vb_ hb49)) rfl (za2 rfl) (o_w (za4 rfl rfl rfl (vb_ hb49)) rfl (za2 rfl) (zaw (p := Sh A0 l0.length l0.length) (fun w h => f_sh (dk := (Kd.int .i64)) h (rc_ 0 rfl)) (fun hq50 => za6 h (fun y52 hg51 h => ?_) rfl)))
    refine o_w (za4 rfl rfl rfl (vb_ hb49)) rfl (q_ix Try.underlying23 Z3 rfl rfl hq50 hg51) (o_w (za4 rfl rfl rfl (vb_ hb49)) rfl (q_lde (off := 0) Y3 rfl rfl (rc_ 0 rfl) hg51 (fun _ _ h => h) rfl) (o_w (za4 rfl rfl rfl (vb_ hb49)) rfl (za2 rfl) (o_w (za4 rfl rfl rfl (vb_ hb49)) rfl (q_eql rfl rfl) (oq_ (zak true (vb_ hb49) rfl) (o_end (za1 (zan _ rfl (fun hb53 => ?_) (fun hb53 => ?_))))))))
    ·replace h := br_t hb53 h
     refine c_seq (za0 (oq_ (za2 rfl) (oq_ (q_asg rfl) (o_end (za1 (c_ret (zaa ?_)))))))
     have e_ := si_ h; replace h := hR46; rw [← e_] at h; clear e_
     have e0_ := si_ h; clear h
     subst e0_
     exact x_r1 (A0, c0) Try.results162 (zad rfl) rfl (pk_ [0])
    ·replace h := br_f hb53 h
     refine zai (zah () h trivial (pk_ [0]) ?_)
     exact of_
   ·replace h := br_f hb49 h
    refine o_n (d := 26) (za3 rfl rfl rfl (vb_ hb49) rfl) (Eq.refl (some 26)) (o_n (d := 27) (za3 rfl rfl rfl (vb_ hb49) rfl) (Eq.refl (some 27)) (o_n (d := 28) (za3 rfl rfl rfl (vb_ hb49) rfl) (Eq.refl (some 28)) (o_n (d := 29) (za3 rfl rfl rfl (vb_ hb49) rfl) (Eq.refl (some 29)) (o_n (d := 30) (za3 rfl rfl rfl (vb_ hb49) rfl) (Eq.refl (some 30)) (o_n (d := 31) (za3 rfl rfl rfl (vb_ hb49) rfl) (Eq.refl (some 31)) (oq_ (zak false (vb_ hb49) rfl) (o_end (za1 (zaz rfl ?_)))))))))
    refine zai (zah () h trivial (pk_ [0]) ?_)
    exact of_
  ·refine (fun _ => fun U47 hJ48 => ?_)
   have e_ := si_ hJ48; have h := hR46; rw [← e_] at h; clear e_ hJ48 hR46 hl45
   refine c_seq (za0 (o_e rfl (e_lit0 (Kd.int .i64) Try.underlying23 I3) (cur2 (fun A54 c55 => oq_ (za2 rfl) (oq_ (za2 rfl) (za6 h (fun l57 hz58 h => ?_) rfl))))))
   refine zaw (p := l0.length = l0.length ∧ l0.length ≤ c0) (fun w h => h.row_nc (i := 1) rfl) (fun hk59 => oq_ (q_ctv Try.underlying23 Z3 rfl rfl ⟨_, rfl⟩ hk59.1 hk59.2 hz58) (za6 h (fun l60 ha61 h => ?_) rfl))
   refine o_e rfl (e_appr (i := 0) Try.underlying23 I3 rfl dc_ dc_ (fun _ _ _ _ h => h) rfl (fun w h => C_cut (dk := (Kd.int .i64)) rfl hz58 hk59.2 (h.row_Cn (i := 1) rfl)) rfl rfl ha61) (cur2 (fun A62 c63 => oq_ (q_asg rfl) (o_end (za1 (c_seq (za0 (oq_ (za2 rfl) (oq_ (za2 rfl) (o_e rfl (e_lit (vs := [(0, .int .i64 a1)]) (cs := [.int .i64 a1]) (Kd.int .i64) ([a1] : List Int) Try.underlying23 I3 dc_ rfl dc_ rfl rfl (fun _ _ => Kd.za8 _)) (cur2 (fun A64 c65 => za6 h (fun l67 ha68 h => ?_) rfl)))))))))))
   refine o_e rfl (e_app (i := 1) (j := 0) Try.underlying23 I3 rfl dc_ dc_ rfl rfl rfl rfl rfl ha68) (cur2 (fun A69 c70 => oq_ (q_asg rfl) (o_end (za1 (c_seq (za0 (oq_ (za2 rfl) (oq_ (za2 rfl) (oq_ (za2 rfl) (za6 h (fun l71 hz72 h => ?_) rfl))))))))))
   refine zaw (p := l0.length = l0.length ∧ l0.length ≤ c0) (fun w h => h.row_nc (i := 2) rfl) (fun hk73 => oq_ (q_ctv Try.underlying23 Z3 rfl ⟨_, rfl⟩ rfl hk73.1 hk73.2 hz72) (za6 h (fun l74 ha75 h => ?_) rfl))
   refine o_e rfl (e_appr (i := 1) Try.underlying23 I3 rfl dc_ dc_ (fun _ _ _ _ h => h) rfl (fun w h => C_cut (dk := (Kd.int .i64)) rfl hz72 hk73.2 (h.row_Cn (i := 2) rfl)) rfl rfl ha75) (cur2 (fun A76 c77 => oq_ (q_asg rfl) (o_end (za1 (c_ret ?_)))))
   have e0_ := si_ h; clear h
   subst e0_
   exact x_r1 (A76, c77) Try.results162 (zad rfl) rfl (pk_ [1])

def spec_plUsed.l0 (k : Nat) (a0_0 : Int) (l0_1 : List SStep) : Nat → (List Int) → (List Int) → Int → Option ((List Int) × (List Int))
 | 0, _, _, _ => none
 | k17 + 1, l8, l11, i14 => if 0 ≤ i14 then ((spec_l1Has.f l8 (w64 (a0_0 + i14))).bind fun b27 => if b27 = true then ((gt l0_1 i14).bind fun y31 => (gt l0_1 i14).bind fun y33 => (ap l8 ([y31.f0, y33.f1] : List Int)).bind fun l37 => (spec_l1Put.f k l11 i14).bind fun l42 => spec_plUsed.l0 k a0_0 l0_1 k17 l37 l42 (w64 (i14 - 1))) else (spec_plUsed.l0 k a0_0 l0_1 k17 l8 l11 (w64 (i14 - 1)))) else (some (l8, l11))
def spec_plUsed.f (k : Nat) (a0_0 : Int) (l0_1 : List SStep) (l0_2 : List Int) : Option (List Int) := (spec_l1Own.f l0_2).bind fun l4 => (spec_plUsed.l0 k a0_0 l0_1 k l4 ([] : List Int) (w64 ((l0_1.length : Int) - 1))).bind fun (l8, l11) => some l11
theorem spec_plUsed.calls (k : Nat) {w0 ws : World} {P0 : Nat → Prop} (a0_0 : Int) (A0_1 : Option Addr) (c0_1 : Nat) (n0_1 : Nat) (l0_1 : List SStep) (A0_2 : Option Addr) (c0_2 : Nat) (n0_2 : Nat) (l0_2 : List Int) (Z : Below w0.heap.size w0 ws) (hF : Fr w0 ws P0 [] ws) (R0_1 : Stable ws P0 (fun w => Kd.C kStep w A0_1 n0_1 l0_1)) (hc0_1 : n0_1 ≤ c0_1) (R0_2 : Stable ws P0 (fun w => Kd.C (Kd.int .i64) w A0_2 n0_2 l0_2)) (hc0_2 : n0_2 ≤ c0_2) (r_1 : List Int) (h : spec_plUsed.f k a0_0 l0_1 l0_2 = some r_1) :
  Calls Try.prog 148 #[.agg #[.int .i64 a0_0, .slice A0_1 n0_1 c0_1, .slice A0_2 n0_2 c0_2]] ws (Post1 w0 ws P0 (fun ((q_2, q_3) : (Option Addr) × Nat) => .slice q_2 r_1.length q_3) (fun ((q_2, q_3) : (Option Addr) × Nat) => [row (Kd.int .i64) 3 (.slice q_2 r_1.length q_3) r_1])) := by
 unfold spec_plUsed.f at h
 obtain rfl := (R0_1 ws (KeptB.refl _ _)).1
 obtain rfl := (R0_2 ws (KeptB.refl _ _)).1
 refine enter Try.func148 rfl Try.ntmps148 rfl hF (c_seq (za0 (o_e rfl (e_box rfl) (fun g1 => oq_ (q_asg rfl) (o_end (za1 (c_seq (za0 (oq_ (q_f F25_2 rfl) ?_)))))))))
 refine oq_ (q_ldb Y23 rfl (bx_ 0 rfl) rfl) (za6 h (fun l4 hx3 h => ?_) rfl)
 refine o_e rfl (za5 0 Z Try.func98 N98 rfl rfl rfl (fun w P1 hF hB hS hT => spec_l1Own.calls A0_2 c0_2 l0_2.length l0_2 hB hF (hS _ R0_2) hc0_2 _ hx3)) (cur2 (fun A5 c6 => oq_ (q_asg rfl) (o_end (za1 (c_seq (za0 (oq_ (q_asg rfl) (o_end (za1 (c_seq ?_))))))))))
 refine c_seq (za0 (oq_ (q_f F25_1 rfl) (oq_ (q_ldb Y22 rfl (bx_ 1 rfl) rfl) (oq_ (q_len Try.underlying22 rfl) (oq_ (zat rfl rfl) (oq_ (q_asg rfl) (o_end (za1 (zae ?_)))))))))
 refine c_nil (Kd.int .i64) 3 (za6 h (fun o22 hl21 hR20 => ?_) rfl)
 clear h
 refine zas (σ := (List Int) × (List Int) × Int × (Option Addr) × Nat × (Option Addr) × Nat) (fun k17 ((l8, l11, i14, A9, c10, A12, c13) : (List Int) × (List Int) × Int × (Option Addr) × Nat × (Option Addr) × Nat) => spec_plUsed.l0 k a0_0 l0_1 k17 l8 l11 i14 = some o22) [3, 4, 5, 13, 14, 15, 16, 17, 18, 19, 20, 21, 22, 23, 24, 25, 26, 27, 28, 29, 30, 31, 32, 33, 34, 35, 36, 37, 38, 39, 40] (fun ((l8, l11, i14, A9, c10, A12, c13) : (List Int) × (List Int) × Int × (Option Addr) × Nat × (Option Addr) × Nat) => [(3, .slice A9 l8.length c10), (4, .slice A12 l11.length c13), (5, .int .i64 i14)]) (fun ((l8, l11, i14, A9, c10, A12, c13) : (List Int) × (List Int) × Int × (Option Addr) × Nat × (Option Addr) × Nat) => [row (Kd.int .i64) 3 (.slice A12 l11.length c13) l11, row (Kd.int .i64) 3 (.slice A9 l8.length c10) l8, box g1 25 #[.int .i64 a0_0, .slice A0_1 l0_1.length c0_1, .slice A0_2 l0_2.length c0_2]]) k (l4, ([] : List Int), w64 ((l0_1.length : Int) - 1), A5, c6, none, 0) hl21 ⟨rfl, rfl, rfl, trivial⟩ (fun w h => h) (natC (cur7 (fun l8 l11 i14 A9 c10 A12 c13 => fun U23 hJ_ => ?_)) (fun k17 => (cur7 (fun l8 l11 i14 A9 c10 A12 c13 => fun U23 hJ_ => ?_))))
 ·replace hJ_ : spec_plUsed.l0 k a0_0 l0_1 0 l8 l11 i14 = some o22 := hJ_
  rw [spec_plUsed.l0] at hJ_
  exact noneE hJ_
 ·clear hl21
  have h := hJ_; clear hJ_
  replace h : spec_plUsed.l0 k a0_0 l0_1 (k17 + 1) l8 l11 i14 = some o22 := h
  rw [spec_plUsed.l0] at h
  refine c_seq (c_seq (za0 (oq_ (za2 rfl) (oq_ (q_geq rfl rfl) (o_end (za1 (zan _ rfl (fun hb25 => ?_) (fun hb25 => ?_))))))))
  ·replace h := br_t hb25 h
   refine zai (za1 (c_seq (zae (c_seq (za0 (oq_ (za2 rfl) (oq_ (q_f F25_0 rfl) (oq_ (q_ldb Y3 rfl (bx_ 2 rfl) rfl) (oq_ (za2 rfl) ?_)))))))))
   refine oq_ (zay rfl rfl) (za6 h (fun b27 hx26 h => ?_) rfl)
   refine o_e rfl (za5 0 Z Try.func161 N161 rfl rfl rfl (fun w P1 hF hB hS hT => spec_l1Has.calls A9 c10 l8.length l8 (w64 (a0_0 + i14)) hB hF (hT 1 _ rfl).row (hT 1 _ rfl).cap _ hx26)) (fun _ => o_end (za1 (zan _ rfl (fun hb28 => ?_) (fun hb28 => ?_))))
   ·replace h := bb_t hb28 h
    refine c_seq (a_startS (ds := []) [some 0, none, some 2] MO rfl (ap_ 0 rfl (za2 rfl) (ap_ 1 rfl (q_f F25_1 rfl) (at_2 2 rfl (sm_ [some 0, none, some 2]) (q_ldb Y22 rfl (bx_ 2 rfl) rfl) (ap_ 3 rfl (za2 rfl) (a_fact (p := Sh A0_1 l0_1.length l0_1.length) (fun w h => f_sh (dk := kStep) h (fun w h => R0_1.now Z h)) (fun hq29 => za6 h (fun y31 hg30 h => ?_) rfl)))))))
    refine ap_ 4 rfl (q_ix Try.underlying22 Z107 rfl rfl hq29 hg30) (ap_ 5 rfl (q_fe F107_0 rfl) (at_2 6 rfl (sm_ [some 0, none, some 2]) (q_lde (off := 0) Y3 rfl rfl (fun w h => R0_1.now Z h) hg30 (fun _ _ h => h) rfl) (ap_ 7 rfl (q_f F25_1 rfl) (at_2 8 rfl (sm_ [some 0, none, some 2]) (q_ldb Y22 rfl (bx_ 2 rfl) rfl) (ap_ 9 rfl (za2 rfl) (za6 h (fun y33 hg32 h => ?_) rfl))))))
    refine ap_ 10 rfl (q_ix Try.underlying22 Z107 rfl rfl hq29 hg32) (ap_ 11 rfl (q_fe F107_1 rfl) (at_2 12 rfl (sm_ [some 0, none, some 2]) (q_lde (off := 1) Y3 rfl rfl (fun w h => R0_1.now Z h) hg32 (fun _ _ h => h) rfl) (a1_ 13 rfl (e_lit (vs := [(0, .int .i64 y31.f0), (1, .int .i64 y33.f1)]) (cs := [.int .i64 y31.f0, .int .i64 y33.f1]) (Kd.int .i64) ([y31.f0, y33.f1] : List Int) Try.underlying23 I3 dc_ rfl dc_ rfl rfl (fun _ _ => Kd.za8 _)) (sl_ [some 1, none, some 3]) (cur2 (fun A34 c35 => za6 h (fun l37 ha38 h => ?_) rfl)))))
    refine a1_ 14 rfl (e_app (i := 2) (j := 0) Try.underlying23 I3 rfl dc_ dc_ rfl rfl rfl rfl rfl ha38) (sl_ [some 1, none, some 3]) (cur2 (fun A39 c40 => ap_ 15 rfl (q_asg rfl) (zaj kr_ (za1 (za0 (oq_ (za2 rfl) (oq_ (za2 rfl) (o_pick [1, 2, 3] dc_ rfl (za6 h (fun l42 hx41 h => ?_) rfl)))))))))
    refine o_e rfl (za5 1 Z Try.func162 N162 rfl rfl rfl (fun w P1 hF hB hS hT => spec_l1Put.calls k A12 c13 l11.length l11 i14 hB hF _ hx41)) (cur2 (fun A43 c44 => oq_ (q_asg rfl) (o_end (zaf (za1 (za0 (oq_ (za2 rfl) (oq_ (zat rfl rfl) (oq_ (q_asg rfl) (o_end ?_))))))))))
    refine zal k17 (l37, l42, w64 (i14 - 1), A39, c40, A43, c44) (Nat.lt_succ_self _) h ⟨rfl, rfl, rfl, trivial⟩ (pk_ [0, 1, 2]) ?_
    exact of_
   ·replace h := bb_f hb28 h
    refine zai (zaf (za1 (za0 (oq_ (za2 rfl) (oq_ (zat rfl rfl) (oq_ (q_asg rfl) (o_end (zal k17 (l8, l11, w64 (i14 - 1), A9, c10, A12, c13) (Nat.lt_succ_self _) h ⟨rfl, rfl, rfl, trivial⟩ (pk_ [0, 1, 2]) ?_))))))))
    exact of_
  ·replace h := br_f hb25 h
   refine zax (za7 (za7 ?_))
   have e_ := si_ h; replace h := hR20; rw [← e_] at h; clear e_
   refine x_hit (za1 (c_seq (za0 (oq_ (za2 rfl) (oq_ (q_asg rfl) (o_end (za1 (c_ret ?_))))))))
   have e0_ := si_ h; clear h
   subst e0_
   exact x_r1 (A12, c13) Try.results148 (zad rfl) rfl (pk_ [0])

def spec_plPlace.l0 (a1 : Int) : (List Int) → Int → Option ((Int) ⊕ (Unit))
 | [], i1 => some (.inr ())
 | y2 :: ys3, i1 => if y2 = a1 then (some (.inl i1)) else (spec_plPlace.l0 a1 ys3 (i1 + 1))
def spec_plPlace.f (l0 : List Int) (a1 : Int) : Option Int := (spec_plPlace.l0 a1 l0 0).bind fun o_ => match o_ with | .inl r_ => some r_ | .inr _ => some (-1)
theorem spec_plPlace.calls {w0 ws : World} {P0 : Nat → Prop} (A0 : Option Addr) (c0 : Nat) (n0 : Nat) (l0 : List Int) (a1 : Int) (Z : Below w0.heap.size w0 ws) (hF : Fr w0 ws P0 [] ws) (R0 : Stable ws P0 (fun w => Kd.C (Kd.int .i64) w A0 n0 l0)) (hc0 : n0 ≤ c0) (r_1 : Int) (h : spec_plPlace.f l0 a1 = some r_1) :
  Calls Try.prog 168 #[.slice A0 n0 c0, .int .i64 a1] ws (Post1 w0 ws P0 (fun (_ : Unit) => .int .i64 r_1) (fun (_ : Unit) => [])) := by
 unfold spec_plPlace.f at h
 obtain rfl := (R0 ws (KeptB.refl _ _)).1
 refine enter Try.func168 rfl Try.ntmps168 rfl hF (c_seq (za0 (oq_ (q_asg rfl) (o_end (za1 (c_seq (c_seq (za0 (oq_ (za2 rfl) ?_)))))))))
 refine oq_ (q_len Try.underlying23 rfl) (oq_ (za2 rfl) (o_end (za1 (zae (za6 h (fun o9 hl8 hR7 => ?_) rfl)))))
 clear h
 refine c_fact (p := l0.length ≤ 9223372036854775807) (fun w h => (R0.now Z h).2.1) (fun hm6 => zas (σ := (List Int) × Int) (fun k4 ((ys3, i1) : (List Int) × Int) => Rg l0 i1 ys3 ∧ ys3.length = k4 ∧ spec_plPlace.l0 a1 ys3 i1 = some o9) [4, 5, 6, 9, 10, 11, 12, 13, 14, 15, 16, 17, 18] (fun ((ys3, i1) : (List Int) × Int) => [(9, .int .i64 i1)]) (fun ((ys3, i1) : (List Int) × Int) => []) l0.length (l0, 0) ⟨Rg.start _, rfl, hl8⟩ ⟨rfl, trivial⟩ (fun w h => h) (fun k4 => cur2 (listC (fun i1 U10 hJ_ => ?_) (fun y2 ys3 i1 U10 hJ_ => ?_))))
 ·clear hl8
  have hr5 := hJ_.1; have hk11 := hJ_.2.1; have h := hJ_.2.2; clear hJ_
  replace h : spec_plPlace.l0 a1 [] i1 = some o9 := h
  rw [spec_plPlace.l0] at h
  refine c_seq (za0 (oq_ (q_lss rfl rfl) (o_end (za1 (c_seq (zaz (vb_ hr5.ge) (zax (za7 (za7 ?_)))))))))
  have e_ := si_ h; replace h := hR7; rw [← e_] at h; clear e_
  refine x_hit (za1 (c_seq (za0 (oq_ (q_asg rfl) (o_end (za1 (c_ret ?_)))))))
  have e0_ := si_ h; clear h
  subst e0_
  exact x_r1 () Try.results168 (zad rfl) rfl (pk_ [])
 ·clear hl8
  have hr5 := hJ_.1; have hk11 := hJ_.2.1; have h := hJ_.2.2; clear hJ_
  replace h : spec_plPlace.l0 a1 (y2 :: ys3) i1 = some o9 := h
  rw [spec_plPlace.l0] at h
  refine c_seq (za0 (oq_ (q_lss rfl rfl) (o_end (za1 (c_seq (zar (vb_ hr5.lt) (zai (za1 (c_seq ?_)))))))))
  refine zae (c_seq (za0 (oq_ (za2 rfl) (zaw (p := Sh A0 l0.length l0.length) (fun w h => f_sh (dk := (Kd.int .i64)) h (fun w h => R0.now Z h)) (fun hq12 => oq_ (q_ix Try.underlying23 Z3 rfl rfl hq12 hr5.get) (oq_ (q_lde (off := 0) Y3 rfl rfl (fun w h => R0.now Z h) hr5.get (fun _ _ h => h) rfl) (oq_ (q_asg rfl) (oq_ (q_asg rfl) (o_end ?_)))))))))
  refine za1 (c_seq (za0 (oq_ (za2 rfl) (oq_ (za2 rfl) (oq_ (q_eql rfl rfl) (o_end (za1 (zan _ rfl (fun hb13 => ?_) (fun hb13 => ?_)))))))))
  ·replace h := br_t hb13 h
   refine c_seq (za0 (oq_ (za2 rfl) (oq_ (q_asg rfl) (o_end (za1 (c_ret (zao (zaa (zaa ?_)))))))))
   have e_ := si_ h; replace h := hR7; rw [← e_] at h; clear e_
   refine zao (zaa ?_)
   have e0_ := si_ h; clear h
   subst e0_
   exact x_r1 () Try.results168 (zad rfl) rfl (pk_ [])
  ·replace h := br_f hb13 h
   refine zai (zaf (za1 (za0 (oq_ (q_up rfl rfl (hr5.up hm6)) (oq_ (za2 rfl) (o_end (zal ys3.length (ys3, i1 + 1) (by rw [← hk11]; exact Nat.lt_succ_self _) ⟨hr5.step, rfl, h⟩ ⟨rfl, trivial⟩ (pk_ []) ?_)))))))
   exact of_

def spec_plNumber.f (a0_0 : Int) (l0_1 : List SStep) (l0_2 : List Int) (l1 : List Int) (a2 : Int) : Option Int := if a2 < a0_0 then (some a2) else ((spec_plPlace.f l1 (w64 (a2 - a0_0))).bind fun i5 => some (w64 (a0_0 + i5)))
theorem spec_plNumber.calls {w0 ws : World} {P0 : Nat → Prop} (a0_0 : Int) (A0_1 : Option Addr) (c0_1 : Nat) (n0_1 : Nat) (l0_1 : List SStep) (A0_2 : Option Addr) (c0_2 : Nat) (n0_2 : Nat) (l0_2 : List Int) (A1 : Option Addr) (c1 : Nat) (n1 : Nat) (l1 : List Int) (a2 : Int) (Z : Below w0.heap.size w0 ws) (hF : Fr w0 ws P0 [] ws) (R0_1 : Stable ws P0 (fun w => Kd.C kStep w A0_1 n0_1 l0_1)) (hc0_1 : n0_1 ≤ c0_1) (R0_2 : Stable ws P0 (fun w => Kd.C (Kd.int .i64) w A0_2 n0_2 l0_2)) (hc0_2 : n0_2 ≤ c0_2) (R1 : Stable ws P0 (fun w => Kd.C (Kd.int .i64) w A1 n1 l1)) (hc1 : n1 ≤ c1) (r_1 : Int) (h : spec_plNumber.f a0_0 l0_1 l0_2 l1 a2 = some r_1) :
  Calls Try.prog 160 #[.agg #[.int .i64 a0_0, .slice A0_1 n0_1 c0_1, .slice A0_2 n0_2 c0_2], .slice A1 n1 c1, .int .i64 a2] ws (Post1 w0 ws P0 (fun (_ : Unit) => .int .i64 r_1) (fun (_ : Unit) => [])) := by
 unfold spec_plNumber.f at h
 obtain rfl := (R0_1 ws (KeptB.refl _ _)).1
 obtain rfl := (R0_2 ws (KeptB.refl _ _)).1
 obtain rfl := (R1 ws (KeptB.refl _ _)).1
 refine enter Try.func160 rfl Try.ntmps160 rfl hF (c_seq (za0 (o_e rfl (e_box rfl) (fun g1 => oq_ (q_asg rfl) (o_end (za1 (c_seq (c_seq (za0 ?_)))))))))
 refine oq_ (za2 rfl) (oq_ (q_f F25_0 rfl) (oq_ (q_ldb Y3 rfl (bx_ 0 rfl) rfl) (oq_ (q_lss rfl rfl) (o_end (za1 (zan _ rfl (fun hb3 => ?_) (fun hb3 => ?_)))))))
 ·replace h := br_t hb3 h
  refine c_seq (za0 (oq_ (za2 rfl) (oq_ (q_asg rfl) (o_end (za1 (c_ret (zaa ?_)))))))
  have e0_ := si_ h; clear h
  subst e0_
  exact x_r1 () Try.results160 (zad rfl) rfl (pk_ [])
 ·replace h := br_f hb3 h
  refine zai (za1 (c_seq (a_start (ds := []) MO rfl (ap_ 0 rfl (q_f F25_0 rfl) (at_2 1 rfl (fun w h => h) (q_ldb Y3 rfl (bx_ 0 rfl) rfl) (ap_ 2 rfl (za2 rfl) (ap_ 3 rfl (za2 rfl) (ap_ 4 rfl (q_f F25_0 rfl) (at_2 5 rfl (fun w h => h) (q_ldb Y3 rfl (bx_ 0 rfl) rfl) ?_)))))))))
  refine ap_ 6 rfl (zat rfl rfl) (za6 h (fun i5 hx4 h => ?_) rfl)
  refine a1_ 7 rfl (za5 0 Z Try.func168 N168 rfl rfl rfl (fun w P1 hF hB hS hT => spec_plPlace.calls A1 c1 l1.length l1 (w64 (a2 - a0_0)) hB hF (hS _ R1) hc1 _ hx4)) (fun s w h => h) (fun _ => ap_ 8 rfl (zay rfl rfl) (ap_ 9 rfl (q_asg rfl) (zaj kr_ (za1 (c_ret ?_)))))
  have e0_ := si_ h; clear h
  subst e0_
  exact x_r1 () Try.results160 (zad rfl) rfl (pk_ [])

def spec_plKeep.l1 (a0_0 : Int) (l0_1 : List SStep) (l0_2 : List Int) (l1 : List Int) : (List Int) → (List Int) → Int → Option (List Int)
 | [], l23, i26 => some l23
 | y27 :: ys28, l23, i26 => (spec_plNumber.f a0_0 l0_1 l0_2 l1 y27).bind fun i340 => (ap l23 ([i340] : List Int)).bind fun l459 => spec_plKeep.l1 a0_0 l0_1 l0_2 l1 ys28 l459 (i26 + 1)
def spec_plKeep.l0 (a0_0 : Int) (l0_1 : List SStep) (l0_2 : List Int) (l1 : List Int) : (List Int) → (List SStep) → Int → Option (List SStep)
 | [], l8, i11 => some l8
 | y12 :: ys13, l8, i11 => (gt l0_1 y12).bind fun y702 => (spec_plNumber.f a0_0 l0_1 l0_2 l1 y702.f0).bind fun i1067 => (spec_plNumber.f a0_0 l0_1 l0_2 l1 y702.f1).bind fun i1367 => (spec_plStep.f i1067 i1367).bind fun z1427 => (ap l8 ([z1427] : List SStep)).bind fun l1546 => spec_plKeep.l0 a0_0 l0_1 l0_2 l1 ys13 l1546 (i11 + 1)
def spec_plKeep.f (a0_0 : Int) (l0_1 : List SStep) (l0_2 : List Int) (l1 : List Int) : Option ((List SStep) × (List Int)) := (spec_plKeep.l0 a0_0 l0_1 l0_2 l1 l1 ([] : List SStep) 0).bind fun l8 => (spec_plKeep.l1 a0_0 l0_1 l0_2 l1 l0_2 ([] : List Int) 0).bind fun l23 => some (l8, l23)
theorem spec_plKeep.calls {w0 ws : World} {P0 : Nat → Prop} (a0_0 : Int) (A0_1 : Option Addr) (c0_1 : Nat) (n0_1 : Nat) (l0_1 : List SStep) (A0_2 : Option Addr) (c0_2 : Nat) (n0_2 : Nat) (l0_2 : List Int) (A1 : Option Addr) (c1 : Nat) (n1 : Nat) (l1 : List Int) (Z : Below w0.heap.size w0 ws) (hF : Fr w0 ws P0 [] ws) (R0_1 : Stable ws P0 (fun w => Kd.C kStep w A0_1 n0_1 l0_1)) (hc0_1 : n0_1 ≤ c0_1) (R0_2 : Stable ws P0 (fun w => Kd.C (Kd.int .i64) w A0_2 n0_2 l0_2)) (hc0_2 : n0_2 ≤ c0_2) (R1 : Stable ws P0 (fun w => Kd.C (Kd.int .i64) w A1 n1 l1)) (hc1 : n1 ≤ c1) (r_1 : List SStep) (r_4 : List Int) (h : spec_plKeep.f a0_0 l0_1 l0_2 l1 = some (r_1, r_4)) :
  Calls Try.prog 147 #[.agg #[.int .i64 a0_0, .slice A0_1 n0_1 c0_1, .slice A0_2 n0_2 c0_2], .slice A1 n1 c1] ws (Post1 w0 ws P0 (fun ((q_2, q_3, q_5, q_6) : (Option Addr) × Nat × (Option Addr) × Nat) => .agg #[.int .i64 a0_0, .slice q_2 r_1.length q_3, .slice q_5 r_4.length q_6]) (fun ((q_2, q_3, q_5, q_6) : (Option Addr) × Nat × (Option Addr) × Nat) => [row kStep 107 (.slice q_2 r_1.length q_3) r_1, row (Kd.int .i64) 3 (.slice q_5 r_4.length q_6) r_4])) := by
 unfold spec_plKeep.f at h
 obtain rfl := (R0_1 ws (KeptB.refl _ _)).1
 obtain rfl := (R0_2 ws (KeptB.refl _ _)).1
 obtain rfl := (R1 ws (KeptB.refl _ _)).1
 refine enter Try.func147 rfl Try.ntmps147 rfl hF (c_seq (za0 (o_e rfl (e_box rfl) (fun g1 => o_e rfl (zab V25 rfl) (fun g3 => o_end (za1 (c_seq (za0 (oq_ (q_f F25_0 rfl) ?_)))))))))
 refine oq_ (q_ldb Y3 rfl (bx_ 1 rfl) rfl) (oq_ (q_build (vs := [(0, .int .i64 a0_0)]) (cs := [.int .i64 a0_0, .slice none 0 0, .slice none 0 0]) rfl rfl) (o_e rfl (zab V25 rfl) (fun g5 => o_e rfl (zac (i := 0) rfl rfl rfl Z25 rfl rfl) (fun _ => o_end (za1 (c_seq (c_seq (za0 (oq_ (za2 rfl) ?_)))))))))
 refine oq_ (q_len Try.underlying23 rfl) (oq_ (za2 rfl) (o_end (za1 (zae (c_nil kStep 107 (za6 h (fun o19 hl18 hR17 => ?_) rfl))))))
 clear h
 refine c_fact (p := l1.length ≤ 9223372036854775807) (fun w h => (R1.now Z h).2.1) (fun hm16 => zas (σ := (List Int) × (List SStep) × Int × (Option Addr) × Nat) (fun k14 ((ys13, l8, i11, A9, c10) : (List Int) × (List SStep) × Int × (Option Addr) × Nat) => Rg l1 i11 ys13 ∧ ys13.length = k14 ∧ spec_plKeep.l0 a0_0 l0_1 l0_2 l1 ys13 l8 i11 = some o19) [7, 8, 16, 17, 18, 19, 20, 21, 22, 23, 24, 25, 26, 27, 28, 29, 30, 31, 32, 33, 34, 35, 36, 37, 38, 39, 40, 41] (fun ((ys13, l8, i11, A9, c10) : (List Int) × (List SStep) × Int × (Option Addr) × Nat) => [(16, .int .i64 i11)]) (fun ((ys13, l8, i11, A9, c10) : (List Int) × (List SStep) × Int × (Option Addr) × Nat) => [row kStep 107 (.slice A9 l8.length c10) l8, box g5 25 #[.int .i64 a0_0, .slice A9 l8.length c10, .slice none 0 0], box g3 25 #[.int .i64 0, .slice none 0 0, .slice none 0 0], box g1 25 #[.int .i64 a0_0, .slice A0_1 l0_1.length c0_1, .slice A0_2 l0_2.length c0_2]]) l1.length (l1, ([] : List SStep), 0, none, 0) ⟨Rg.start _, rfl, hl18⟩ ⟨rfl, trivial⟩ (fun w h => h) (fun k14 => cur5 (listC (fun l8 i11 A9 c10 U20 hJ_ => ?_) (fun y12 ys13 l8 i11 A9 c10 U20 hJ_ => ?_))))
 ·clear hl18
  have hr15 := hJ_.1; have hk21 := hJ_.2.1; have h := hJ_.2.2; clear hJ_
  replace h : spec_plKeep.l0 a0_0 l0_1 l0_2 l1 [] l8 i11 = some o19 := h
  rw [spec_plKeep.l0] at h
  refine c_seq (za0 (oq_ (q_lss rfl rfl) (o_end (za1 (c_seq (zaz (vb_ hr15.ge) (zax (za7 (za7 ?_)))))))))
  have e_ := si_ h; replace h := hR17; rw [← e_] at h; clear e_
  refine x_hit (za1 (c_seq (c_seq (za0 (oq_ (q_f F25_2 rfl) (oq_ (q_ldb Y23 rfl (bx_ 3 rfl) rfl) (oq_ (q_len Try.underlying23 rfl) (oq_ (za2 rfl) (o_end ?_)))))))))
  refine za1 (zae (c_nil (Kd.int .i64) 3 (za6 h (fun o34 hl33 hR32 => ?_) rfl)))
  clear h
  refine c_fact (p := l0_2.length ≤ 9223372036854775807) (fun w h => (R0_2.now Z h).2.1) (fun hm31 => zas (σ := (List Int) × (List Int) × Int × (Option Addr) × Nat) (fun k29 ((ys28, l23, i26, A24, c25) : (List Int) × (List Int) × Int × (Option Addr) × Nat) => Rg l0_2 i26 ys28 ∧ ys28.length = k29 ∧ spec_plKeep.l1 a0_0 l0_1 l0_2 l1 ys28 l23 i26 = some o34) [10, 45, 46, 47, 48, 49, 50, 51, 52, 53, 54, 55, 56, 57, 58] (fun ((ys28, l23, i26, A24, c25) : (List Int) × (List Int) × Int × (Option Addr) × Nat) => [(45, .int .i64 i26)]) (fun ((ys28, l23, i26, A24, c25) : (List Int) × (List Int) × Int × (Option Addr) × Nat) => [row (Kd.int .i64) 3 (.slice A24 l23.length c25) l23, row kStep 107 (.slice A9 l8.length c10) l8, box g5 25 #[.int .i64 a0_0, .slice A9 l8.length c10, .slice A24 l23.length c25], box g3 25 #[.int .i64 0, .slice none 0 0, .slice none 0 0], box g1 25 #[.int .i64 a0_0, .slice A0_1 l0_1.length c0_1, .slice A0_2 l0_2.length c0_2]]) l0_2.length (l0_2, ([] : List Int), 0, none, 0) ⟨Rg.start _, rfl, hl33⟩ ⟨rfl, trivial⟩ (fun w h => h) (fun k29 => cur5 (listC (fun l23 i26 A24 c25 U35 hJ_ => ?_) (fun y27 ys28 l23 i26 A24 c25 U35 hJ_ => ?_))))
  ·clear hl33
   have hr30 := hJ_.1; have hk36 := hJ_.2.1; have h := hJ_.2.2; clear hJ_
   replace h : spec_plKeep.l1 a0_0 l0_1 l0_2 l1 [] l23 i26 = some o34 := h
   rw [spec_plKeep.l1] at h
   refine c_seq (za0 (oq_ (q_lss rfl rfl) (o_end (za1 (c_seq (zaz (vb_ hr30.ge) (zax (za7 (za7 ?_)))))))))
   have e_ := si_ h; replace h := hR32; rw [← e_] at h; clear e_
   refine x_hit (za1 (c_seq (za0 (oq_ (q_ldB G25 Z25 rfl (bx_ 2 rfl) rfl) (o_e rfl (zac (i := 3) rfl rfl rfl Z25 rfl rfl) (fun _ => o_end (za1 (c_ret ?_))))))))
   have e0_ := si_ h; clear h
   obtain ⟨rfl, e1_⟩ := Prod.mk.inj e0_
   subst e1_
   exact x_r1 (A9, c10, A24, c25) Try.results147 (zb0 rfl G25 Z25 (bx_ 3 rfl) rfl) rfl (pk_ [1, 0])
  ·clear hl33
   have hr30 := hJ_.1; have hk36 := hJ_.2.1; have h := hJ_.2.2; clear hJ_
   replace h : spec_plKeep.l1 a0_0 l0_1 l0_2 l1 (y27 :: ys28) l23 i26 = some o34 := h
   rw [spec_plKeep.l1] at h
   refine c_seq (za0 (oq_ (q_lss rfl rfl) (o_end (za1 (c_seq (zar (vb_ hr30.lt) (zai (za1 (c_seq ?_)))))))))
   refine zae (c_seq (za0 (zaw (p := Sh A0_2 l0_2.length l0_2.length) (fun w h => f_sh (dk := (Kd.int .i64)) h (fun w h => R0_2.now Z h)) (fun hq37 => oq_ (q_ix Try.underlying23 Z3 rfl rfl hq37 hr30.get) (oq_ (q_lde (off := 0) Y3 rfl rfl (fun w h => R0_2.now Z h) hr30.get (fun _ _ h => h) rfl) (oq_ (q_asg rfl) (o_end (za1 (za6 h (fun i340 hx339 h => ?_) rfl)))))))))
   refine za6 h (fun l459 ha460 h => ?_) rfl
   refine a_startS (ds := []) [none, some 1, none, some 3, some 4] MO rfl (ap_ 0 rfl (q_f F25_2 rfl) (at_2 2 rfl (sm_ [none, some 1, none, some 3, some 4]) (q_ldB G25 Z25 rfl (bx_ 4 rfl) rfl) (ap_ 3 rfl (za2 rfl) (ap_ 4 rfl (za2 rfl) (a_two 1 5 rfl rfl rfl rfl kr_ rfl rfl (ev_q rfl (q_ldb Y23 rfl (bx_ 2 rfl) rfl)) (sl_ [none, some 1, none, some 3, some 4]) (za5 0 Z Try.func160 N160 rfl rfl rfl (fun w P1 hF hB hS hT => spec_plNumber.calls a0_0 A0_1 c0_1 l0_1.length l0_1 A0_2 c0_2 l0_2.length l0_2 A1 c1 l1.length l1 y27 hB hF (hS _ R0_1) hc0_1 (hS _ R0_2) hc0_2 (hS _ R1) hc1 _ hx339)) (sl_ [none, some 1, none, some 3, some 4]) (fun _ => ?_) (fun _ => ?_))))))
   ·refine a1_ 5 rfl (za5 0 Z Try.func160 N160 rfl rfl rfl (fun w P1 hF hB hS hT => spec_plNumber.calls a0_0 A0_1 c0_1 l0_1.length l0_1 A0_2 c0_2 l0_2.length l0_2 A1 c1 l1.length l1 y27 hB hF (hS _ R0_1) hc0_1 (hS _ R0_2) hc0_2 (hS _ R1) hc1 _ hx339)) (sl_ [none, some 1, none, some 3, some 4]) (fun _ => a1_ 6 rfl (e_lit (vs := [(0, .int .i64 i340)]) (cs := [.int .i64 i340]) (Kd.int .i64) ([i340] : List Int) Try.underlying23 I3 dc_ rfl dc_ rfl rfl (fun _ _ => Kd.za8 _)) (sl_ [none, some 2, none, some 4, some 5]) (cur2 (fun A399 c400 => a1_ 7 rfl (e_app (i := 1) (j := 0) Try.underlying23 I3 rfl dc_ dc_ rfl rfl rfl rfl rfl ha460) (sl_ [none, some 2, none, some 4, some 5]) (cur2 (fun A461 c462 => ap_ 8 rfl (q_f F25_2 rfl) (a1_ 9 rfl (za9 (i := 3) rfl rfl rfl rfl Z23 rfl rfl) (sl_ [none, some 2, none, some 4, some 5]) (fun _ => zaj kr_ (zaf (za1 (za0 (oq_ (q_up rfl rfl (hr30.up hm31)) ?_)))))))))))
    refine oq_ (za2 rfl) (o_end (zal ys28.length (ys28, l459, i26 + 1, A461, c462) (by rw [← hk36]; exact Nat.lt_succ_self _) ⟨hr30.step, rfl, h⟩ ⟨rfl, trivial⟩ (pk_ [1, 2, 3, 4, 5]) ?_))
    exact of_
   ·refine a_two 1 6 rfl rfl rfl rfl kr_ rfl rfl (ev_q rfl (q_ldb Y23 rfl (bx_ 2 rfl) rfl)) (sl_ [none, some 1, none, some 3, some 4]) (e_lit (vs := [(0, .int .i64 i340)]) (cs := [.int .i64 i340]) (Kd.int .i64) ([i340] : List Int) Try.underlying23 I3 dc_ rfl dc_ rfl rfl (fun _ _ => Kd.za8 _)) (sl_ [none, some 2, none, some 4, some 5]) (fun _ => ?_) (cur2 (fun A399 c400 => ?_))
    ·refine a1_ 6 rfl (e_lit (vs := [(0, .int .i64 i340)]) (cs := [.int .i64 i340]) (Kd.int .i64) ([i340] : List Int) Try.underlying23 I3 dc_ rfl dc_ rfl rfl (fun _ _ => Kd.za8 _)) (sl_ [none, some 2, none, some 4, some 5]) (cur2 (fun A399 c400 => a1_ 7 rfl (e_app (i := 1) (j := 0) Try.underlying23 I3 rfl dc_ dc_ rfl rfl rfl rfl rfl ha460) (sl_ [none, some 2, none, some 4, some 5]) (cur2 (fun A461 c462 => ap_ 8 rfl (q_f F25_2 rfl) (a1_ 9 rfl (za9 (i := 3) rfl rfl rfl rfl Z23 rfl rfl) (sl_ [none, some 2, none, some 4, some 5]) (fun _ => zaj kr_ (zaf (za1 (za0 (oq_ (q_up rfl rfl (hr30.up hm31)) (oq_ (za2 rfl) ?_)))))))))))
     refine o_end (zal ys28.length (ys28, l459, i26 + 1, A461, c462) (by rw [← hk36]; exact Nat.lt_succ_self _) ⟨hr30.step, rfl, h⟩ ⟨rfl, trivial⟩ (pk_ [1, 2, 3, 4, 5]) ?_)
     exact of_
    ·refine a1_ 1 rfl (ev_q rfl (q_ldb Y23 rfl (bx_ 3 rfl) rfl)) (sl_ [none, some 2, none, some 4, some 5]) (fun _ => a1_ 7 rfl (e_app (i := 1) (j := 0) Try.underlying23 I3 rfl dc_ dc_ rfl rfl rfl rfl rfl ha460) (sl_ [none, some 2, none, some 4, some 5]) (cur2 (fun A461 c462 => ap_ 8 rfl (q_f F25_2 rfl) (a1_ 9 rfl (za9 (i := 3) rfl rfl rfl rfl Z23 rfl rfl) (sl_ [none, some 2, none, some 4, some 5]) (fun _ => zaj kr_ (zaf (za1 (za0 (oq_ (q_up rfl rfl (hr30.up hm31)) (oq_ (za2 rfl) ?_))))))))))
     refine o_end (zal ys28.length (ys28, l459, i26 + 1, A461, c462) (by rw [← hk36]; exact Nat.lt_succ_self _) ⟨hr30.step, rfl, h⟩ ⟨rfl, trivial⟩ (pk_ [1, 2, 3, 4, 5]) ?_)
     exact of_
 ·clear hl18
  have hr15 := hJ_.1; have hk21 := hJ_.2.1; have h := hJ_.2.2; clear hJ_
  replace h : spec_plKeep.l0 a0_0 l0_1 l0_2 l1 (y12 :: ys13) l8 i11 = some o19 := h
  rw [spec_plKeep.l0] at h
  refine c_seq (za0 (oq_ (q_lss rfl rfl) (o_end (za1 (c_seq (zar (vb_ hr15.lt) (zai (za1 (c_seq ?_)))))))))
  refine zae (c_seq (za0 (zaw (p := Sh A1 l1.length l1.length) (fun w h => f_sh (dk := (Kd.int .i64)) h (fun w h => R1.now Z h)) (fun hq699 => oq_ (q_ix Try.underlying23 Z3 rfl rfl hq699 hr15.get) (oq_ (q_lde (off := 0) Y3 rfl rfl (fun w h => R1.now Z h) hr15.get (fun _ _ h => h) rfl) (oq_ (q_asg rfl) (o_end (za1 (c_seq ?_)))))))))
  refine za0 (oq_ (q_f F25_1 rfl) (oq_ (q_ldb Y22 rfl (bx_ 3 rfl) rfl) (oq_ (za2 rfl) (zaw (p := Sh A0_1 l0_1.length l0_1.length) (fun w h => f_sh (dk := kStep) h (fun w h => R0_1.now Z h)) (fun hq700 => za6 h (fun y702 hg701 h => ?_) rfl)))))
  refine oq_ (q_ix Try.underlying22 Z107 rfl rfl hq700 hg701) (oq_ (q_ldE G107 Z107 rfl rfl (fun w h => R0_1.now Z h) hg701 (fun _ _ h => h) rfl) (o_e rfl (zab V107 rfl) (fun g703 => o_e rfl (zac (i := 0) rfl rfl rfl Z107 rfl rfl) (fun _ => o_end (za1 (za6 h (fun i1067 hx1066 h => ?_) rfl))))))
  refine za6 h (fun i1367 hx1366 h => ?_) rfl
  refine za6 h (fun z1427 hx1426 h => ?_) rfl
  refine za6 h (fun l1546 ha1547 h => ?_) rfl
  refine a_startS (ds := []) [some 0, none, none, some 3, some 4] MO rfl (ap_ 0 rfl (q_f F25_1 rfl) (at_2 2 rfl (sm_ [some 0, none, none, some 3, some 4]) (q_ldB G25 Z25 rfl (bx_ 4 rfl) rfl) (ap_ 3 rfl (za2 rfl) (ap_ 4 rfl (q_f F107_0 rfl) (at_2 5 rfl (sm_ [some 0, none, none, some 3, some 4]) (q_ldb Y3 rfl (bx_ 0 rfl) rfl) (at_2 7 rfl (sm_ [some 0, none, none, some 3, some 4]) (q_ldB G25 Z25 rfl (bx_ 4 rfl) rfl) (ap_ 8 rfl (za2 rfl) (ap_ 9 rfl (q_f F107_1 rfl) (at_2 10 rfl (sm_ [some 0, none, none, some 3, some 4]) (q_ldb Y3 rfl (bx_ 0 rfl) rfl) ?_)))))))))
  refine a_two 1 6 rfl rfl rfl rfl kr_ rfl rfl (ev_q rfl (q_ldb Y22 rfl (bx_ 2 rfl) rfl)) (sl_ [some 0, none, none, some 3, some 4]) (za5 0 Z Try.func160 N160 rfl rfl rfl (fun w P1 hF hB hS hT => spec_plNumber.calls a0_0 A0_1 c0_1 l0_1.length l0_1 A0_2 c0_2 l0_2.length l0_2 A1 c1 l1.length l1 y702.f0 hB hF (hS _ R0_1) hc0_1 (hS _ R0_2) hc0_2 (hS _ R1) hc1 _ hx1066)) (sl_ [some 0, none, none, some 3, some 4]) (fun _ => ?_) (fun _ => ?_)
  ·refine a1_ 6 rfl (za5 0 Z Try.func160 N160 rfl rfl rfl (fun w P1 hF hB hS hT => spec_plNumber.calls a0_0 A0_1 c0_1 l0_1.length l0_1 A0_2 c0_2 l0_2.length l0_2 A1 c1 l1.length l1 y702.f0 hB hF (hS _ R0_1) hc0_1 (hS _ R0_2) hc0_2 (hS _ R1) hc1 _ hx1066)) (sl_ [some 0, none, none, some 3, some 4]) (fun _ => a1_ 11 rfl (za5 0 Z Try.func160 N160 rfl rfl rfl (fun w P1 hF hB hS hT => spec_plNumber.calls a0_0 A0_1 c0_1 l0_1.length l0_1 A0_2 c0_2 l0_2.length l0_2 A1 c1 l1.length l1 y702.f1 hB hF (hS _ R0_1) hc0_1 (hS _ R0_2) hc0_2 (hS _ R1) hc1 _ hx1366)) (sl_ [some 0, none, none, some 3, some 4]) (fun _ => a1_ 12 rfl (za5 0 Z Try.func146 N146 rfl rfl rfl (fun w P1 hF hB hS hT => spec_plStep.calls i1067 i1367 hB hF _ hx1426)) (sl_ [some 0, none, none, some 3, some 4]) (fun _ => a1_ 13 rfl (e_lit (vs := [(0, .agg #[.int .i64 z1427.f0, .int .i64 z1427.f1])]) (cs := [.int .i64 z1427.f0, .int .i64 z1427.f1]) kStep ([z1427] : List SStep) Try.underlying22 I107 dc_ rfl dc_ rfl rfl (fun _ _ => reps_flat _)) (sl_ [some 1, none, none, some 4, some 5]) (cur2 (fun A1486 c1487 => a1_ 14 rfl (e_app (i := 2) (j := 0) Try.underlying22 I107 rfl dc_ dc_ rfl rfl rfl rfl rfl ha1547) (sl_ [some 1, none, none, some 4, some 5]) (cur2 (fun A1548 c1549 => ap_ 15 rfl (q_f F25_1 rfl) (a1_ 16 rfl (za9 (i := 3) rfl rfl rfl rfl Z22 rfl rfl) (sl_ [some 1, none, none, some 4, some 5]) (fun _ => zaj kr_ (zaf (za1 ?_)))))))))))
   refine za0 (oq_ (q_up rfl rfl (hr15.up hm16)) (oq_ (za2 rfl) (o_end (zal ys13.length (ys13, l1546, i11 + 1, A1548, c1549) (by rw [← hk21]; exact Nat.lt_succ_self _) ⟨hr15.step, rfl, h⟩ ⟨rfl, trivial⟩ (pk_ [2, 3, 4, 5]) ?_))))
   exact of_
  ·refine a_two 1 11 rfl rfl rfl rfl kr_ rfl rfl (ev_q rfl (q_ldb Y22 rfl (bx_ 2 rfl) rfl)) (sl_ [some 0, none, none, some 3, some 4]) (za5 0 Z Try.func160 N160 rfl rfl rfl (fun w P1 hF hB hS hT => spec_plNumber.calls a0_0 A0_1 c0_1 l0_1.length l0_1 A0_2 c0_2 l0_2.length l0_2 A1 c1 l1.length l1 y702.f1 hB hF (hS _ R0_1) hc0_1 (hS _ R0_2) hc0_2 (hS _ R1) hc1 _ hx1366)) (sl_ [some 0, none, none, some 3, some 4]) (fun _ => ?_) (fun _ => ?_)
   ·refine a1_ 11 rfl (za5 0 Z Try.func160 N160 rfl rfl rfl (fun w P1 hF hB hS hT => spec_plNumber.calls a0_0 A0_1 c0_1 l0_1.length l0_1 A0_2 c0_2 l0_2.length l0_2 A1 c1 l1.length l1 y702.f1 hB hF (hS _ R0_1) hc0_1 (hS _ R0_2) hc0_2 (hS _ R1) hc1 _ hx1366)) (sl_ [some 0, none, none, some 3, some 4]) (fun _ => a1_ 12 rfl (za5 0 Z Try.func146 N146 rfl rfl rfl (fun w P1 hF hB hS hT => spec_plStep.calls i1067 i1367 hB hF _ hx1426)) (sl_ [some 0, none, none, some 3, some 4]) (fun _ => a1_ 13 rfl (e_lit (vs := [(0, .agg #[.int .i64 z1427.f0, .int .i64 z1427.f1])]) (cs := [.int .i64 z1427.f0, .int .i64 z1427.f1]) kStep ([z1427] : List SStep) Try.underlying22 I107 dc_ rfl dc_ rfl rfl (fun _ _ => reps_flat _)) (sl_ [some 1, none, none, some 4, some 5]) (cur2 (fun A1486 c1487 => a1_ 14 rfl (e_app (i := 2) (j := 0) Try.underlying22 I107 rfl dc_ dc_ rfl rfl rfl rfl rfl ha1547) (sl_ [some 1, none, none, some 4, some 5]) (cur2 (fun A1548 c1549 => ap_ 15 rfl (q_f F25_1 rfl) (a1_ 16 rfl (za9 (i := 3) rfl rfl rfl rfl Z22 rfl rfl) (sl_ [some 1, none, none, some 4, some 5]) (fun _ => zaj kr_ (zaf (za1 (za0 ?_)))))))))))
    refine oq_ (q_up rfl rfl (hr15.up hm16)) (oq_ (za2 rfl) (o_end (zal ys13.length (ys13, l1546, i11 + 1, A1548, c1549) (by rw [← hk21]; exact Nat.lt_succ_self _) ⟨hr15.step, rfl, h⟩ ⟨rfl, trivial⟩ (pk_ [2, 3, 4, 5]) ?_)))
    exact of_
   ·refine a_two 1 12 rfl rfl rfl rfl kr_ rfl rfl (ev_q rfl (q_ldb Y22 rfl (bx_ 2 rfl) rfl)) (sl_ [some 0, none, none, some 3, some 4]) (za5 0 Z Try.func146 N146 rfl rfl rfl (fun w P1 hF hB hS hT => spec_plStep.calls i1067 i1367 hB hF _ hx1426)) (sl_ [some 0, none, none, some 3, some 4]) (fun _ => ?_) (fun _ => ?_)
    ·refine a1_ 12 rfl (za5 0 Z Try.func146 N146 rfl rfl rfl (fun w P1 hF hB hS hT => spec_plStep.calls i1067 i1367 hB hF _ hx1426)) (sl_ [some 0, none, none, some 3, some 4]) (fun _ => a1_ 13 rfl (e_lit (vs := [(0, .agg #[.int .i64 z1427.f0, .int .i64 z1427.f1])]) (cs := [.int .i64 z1427.f0, .int .i64 z1427.f1]) kStep ([z1427] : List SStep) Try.underlying22 I107 dc_ rfl dc_ rfl rfl (fun _ _ => reps_flat _)) (sl_ [some 1, none, none, some 4, some 5]) (cur2 (fun A1486 c1487 => a1_ 14 rfl (e_app (i := 2) (j := 0) Try.underlying22 I107 rfl dc_ dc_ rfl rfl rfl rfl rfl ha1547) (sl_ [some 1, none, none, some 4, some 5]) (cur2 (fun A1548 c1549 => ap_ 15 rfl (q_f F25_1 rfl) (a1_ 16 rfl (za9 (i := 3) rfl rfl rfl rfl Z22 rfl rfl) (sl_ [some 1, none, none, some 4, some 5]) (fun _ => zaj kr_ (zaf (za1 (za0 (oq_ (q_up rfl rfl (hr15.up hm16)) ?_)))))))))))
     refine oq_ (za2 rfl) (o_end (zal ys13.length (ys13, l1546, i11 + 1, A1548, c1549) (by rw [← hk21]; exact Nat.lt_succ_self _) ⟨hr15.step, rfl, h⟩ ⟨rfl, trivial⟩ (pk_ [2, 3, 4, 5]) ?_))
     exact of_
    ·refine a_two 1 13 rfl rfl rfl rfl kr_ rfl rfl (ev_q rfl (q_ldb Y22 rfl (bx_ 2 rfl) rfl)) (sl_ [some 0, none, none, some 3, some 4]) (e_lit (vs := [(0, .agg #[.int .i64 z1427.f0, .int .i64 z1427.f1])]) (cs := [.int .i64 z1427.f0, .int .i64 z1427.f1]) kStep ([z1427] : List SStep) Try.underlying22 I107 dc_ rfl dc_ rfl rfl (fun _ _ => reps_flat _)) (sl_ [some 1, none, none, some 4, some 5]) (fun _ => ?_) (cur2 (fun A1486 c1487 => ?_))
     ·refine a1_ 13 rfl (e_lit (vs := [(0, .agg #[.int .i64 z1427.f0, .int .i64 z1427.f1])]) (cs := [.int .i64 z1427.f0, .int .i64 z1427.f1]) kStep ([z1427] : List SStep) Try.underlying22 I107 dc_ rfl dc_ rfl rfl (fun _ _ => reps_flat _)) (sl_ [some 1, none, none, some 4, some 5]) (cur2 (fun A1486 c1487 => a1_ 14 rfl (e_app (i := 2) (j := 0) Try.underlying22 I107 rfl dc_ dc_ rfl rfl rfl rfl rfl ha1547) (sl_ [some 1, none, none, some 4, some 5]) (cur2 (fun A1548 c1549 => ap_ 15 rfl (q_f F25_1 rfl) (a1_ 16 rfl (za9 (i := 3) rfl rfl rfl rfl Z22 rfl rfl) (sl_ [some 1, none, none, some 4, some 5]) (fun _ => zaj kr_ (zaf (za1 (za0 (oq_ (q_up rfl rfl (hr15.up hm16)) (oq_ (za2 rfl) ?_)))))))))))
      refine o_end (zal ys13.length (ys13, l1546, i11 + 1, A1548, c1549) (by rw [← hk21]; exact Nat.lt_succ_self _) ⟨hr15.step, rfl, h⟩ ⟨rfl, trivial⟩ (pk_ [2, 3, 4, 5]) ?_)
      exact of_
     ·refine a1_ 1 rfl (ev_q rfl (q_ldb Y22 rfl (bx_ 3 rfl) rfl)) (sl_ [some 1, none, none, some 4, some 5]) (fun _ => a1_ 14 rfl (e_app (i := 2) (j := 0) Try.underlying22 I107 rfl dc_ dc_ rfl rfl rfl rfl rfl ha1547) (sl_ [some 1, none, none, some 4, some 5]) (cur2 (fun A1548 c1549 => ap_ 15 rfl (q_f F25_1 rfl) (a1_ 16 rfl (za9 (i := 3) rfl rfl rfl rfl Z22 rfl rfl) (sl_ [some 1, none, none, some 4, some 5]) (fun _ => zaj kr_ (zaf (za1 (za0 (oq_ (q_up rfl rfl (hr15.up hm16)) (oq_ (za2 rfl) ?_))))))))))
      refine o_end (zal ys13.length (ys13, l1546, i11 + 1, A1548, c1549) (by rw [← hk21]; exact Nat.lt_succ_self _) ⟨hr15.step, rfl, h⟩ ⟨rfl, trivial⟩ (pk_ [2, 3, 4, 5]) ?_)
      exact of_

def spec_meTrim.f (k : Nat) (a0_0 : Int) (l0_1 : List SStep) (l0_2 : List Int) : Option ((List SStep) × (List Int)) := (spec_plUsed.f k a0_0 l0_1 l0_2).bind fun l6 => (spec_plKeep.f a0_0 l0_1 l0_2 l6).bind fun (l10, l11) => some (l10, l11)
theorem spec_meTrim.calls (k : Nat) {w0 ws : World} {P0 : Nat → Prop} (a0_0 : Int) (A0_1 : Option Addr) (c0_1 : Nat) (n0_1 : Nat) (l0_1 : List SStep) (A0_2 : Option Addr) (c0_2 : Nat) (n0_2 : Nat) (l0_2 : List Int) (Z : Below w0.heap.size w0 ws) (hF : Fr w0 ws P0 [] ws) (R0_1 : Stable ws P0 (fun w => Kd.C kStep w A0_1 n0_1 l0_1)) (hc0_1 : n0_1 ≤ c0_1) (R0_2 : Stable ws P0 (fun w => Kd.C (Kd.int .i64) w A0_2 n0_2 l0_2)) (hc0_2 : n0_2 ≤ c0_2) (r_1 : List SStep) (r_4 : List Int) (h : spec_meTrim.f k a0_0 l0_1 l0_2 = some (r_1, r_4)) :
  Calls Try.prog 111 #[.agg #[.int .i64 a0_0, .slice A0_1 n0_1 c0_1, .slice A0_2 n0_2 c0_2]] ws (Post1 w0 ws P0 (fun ((q_2, q_3, q_5, q_6) : (Option Addr) × Nat × (Option Addr) × Nat) => .agg #[.int .i64 a0_0, .slice q_2 r_1.length q_3, .slice q_5 r_4.length q_6]) (fun ((q_2, q_3, q_5, q_6) : (Option Addr) × Nat × (Option Addr) × Nat) => [row kStep 107 (.slice q_2 r_1.length q_3) r_1, row (Kd.int .i64) 3 (.slice q_5 r_4.length q_6) r_4])) := by
 unfold spec_meTrim.f at h
 obtain rfl := (R0_1 ws (KeptB.refl _ _)).1
 obtain rfl := (R0_2 ws (KeptB.refl _ _)).1
 refine enter Try.func111 rfl Try.ntmps111 rfl hF (c_seq (za0 (o_e rfl (e_box rfl) (fun g1 => o_e rfl (zab V25 rfl) (fun g3 => o_end (za1 (c_seq (a_startS (ds := []) [none, some 1] MO rfl (at_2 0 rfl (sm_ [none, some 1]) (q_ldB G25 Z25 rfl (bx_ 1 rfl) rfl) ?_)))))))))
 refine at_2 1 rfl (sm_ [none, some 1]) (q_ldB G25 Z25 rfl (bx_ 1 rfl) rfl) (za6 h (fun l6 hx5 h => ?_) rfl)
 refine a1_ 2 rfl (za5 0 Z Try.func148 N148 rfl rfl rfl (fun w P1 hF hB hS hT => spec_plUsed.calls k a0_0 A0_1 c0_1 l0_1.length l0_1 A0_2 c0_2 l0_2.length l0_2 hB hF (hS _ R0_1) hc0_1 (hS _ R0_2) hc0_2 _ hx5)) (sl_ [none, some 2]) (cur2 (fun A7 c8 => bindE2 h (fun l10 l11 hx9 h => ?_) rfl))
 refine a1_ 3 rfl (za5 0 Z Try.func147 N147 rfl rfl rfl (fun w P1 hF hB hS hT => spec_plKeep.calls a0_0 A0_1 c0_1 l0_1.length l0_1 A0_2 c0_2 l0_2.length l0_2 A7 c8 l6.length l6 hB hF (hS _ R0_1) hc0_1 (hS _ R0_2) hc0_2 (hT 0 _ rfl).row (hT 0 _ rfl).cap _ _ hx9)) (sl_ [none, some 4]) (cur4 (fun A12 c13 A14 c15 => a1_ 4 rfl (zac (i := 3) rfl rfl rfl Z25 rfl rfl) (sl_ [none, some 4]) (fun _ => zaj kr_ (za1 (c_ret ?_)))))
 have e0_ := si_ h; clear h
 obtain ⟨rfl, e1_⟩ := Prod.mk.inj e0_
 subst e1_
 exact x_r1 (A12, c13, A14, c15) Try.results111 (zb0 rfl G25 Z25 (bx_ 3 rfl) rfl) rfl (pk_ [0, 1])

def spec_meWindow.l2 (a1 : Int) : Nat → (List SStep) → (List Int) → Int → Int → Option ((List SStep) × (List Int) × Int)
 | 0, _, _, _, _ => none
 | k70 + 1, l60, l63, i66, i67 => if i66 < a1 then ((spec_meTimes.f 1 l60 l63 i67 i67).bind fun l80 => spec_meWindow.l2 a1 k70 l80 [] (w64 (i66 + 1)) (w64 (1 + (l60.length : Int)))) else (some (l60, l63, i67))
def spec_meWindow.l1 (k : Nat) (a1 : Int) (l5 : List Int) : Nat → (List SStep) → (List Int) → Int → Int → Option ((List SStep) × (List Int) × Int)
 | 0, _, _, _, _ => none
 | k51 + 1, l41, l44, i47, i48 => if 0 ≤ i48 then ((spec_meWindow.l2 a1 k l41 l44 0 i47).bind fun (l60, l63, i67) => (gt l5 i48).bind fun y85 => if 0 < y85 then ((gt l5 i48).bind fun y88 => (spec_meTimes.f 1 l60 l63 i67 (w64 (y88 - 1))).bind fun l90 => spec_meWindow.l1 k a1 l5 k51 l90 [] (w64 (1 + (l60.length : Int))) (w64 (i48 - 1))) else (spec_meWindow.l1 k a1 l5 k51 l60 l63 i67 (w64 (i48 - 1)))) else (some (l41, l44, i47))
def spec_meWindow.l0 (l5 : List Int) : Nat → (List SStep) → (List Int) → Int → Int → Option ((List SStep) × (List Int))
 | 0, _, _, _, _ => none
 | k22 + 1, l12, l15, i18, i19 => (spec_meGreatest.f l5).bind fun i31 => if i19 ≤ i31 then ((spec_meTimes.f 1 l12 l15 i18 0).bind fun l34 => spec_meWindow.l0 l5 k22 l34 [] (w64 (1 + (l12.length : Int))) (w64 (i19 + 1))) else (some (l12, l15))
def spec_meWindow.f (k : Nat) (a0 : Int) (a1 : Int) : Option ((List SStep) × (List Int)) := (nn a1).bind fun _ => (spec_meDigits.f k a0 (IntKind.i64.wrap (1 * 2 ^ min (a1 : Int).toNat IntKind.i64.bits))).bind fun l5 => (spec_meWindow.l0 l5 k ([] : List SStep) ([] : List Int) 0 2).bind fun (l12, l15) => (gt l5 (w64 ((l5.length : Int) - 1))).bind fun y40 => (spec_meWindow.l1 k a1 l5 k l12 l15 (w64 (y40 - 1)) (w64 ((l5.length : Int) - 2))).bind fun (l41, l44, i47) => (spec_meEnd.f 1 l41 l44 i47).bind fun _ => (spec_meTrim.f k 1 l41 ([i47] : List Int)).bind fun (l98, l99) => some (l98, l99)
theorem spec_meWindow.calls (k : Nat) {w0 ws : World} {P0 : Nat → Prop} (a0 : Int) (a1 : Int) (Z : Below w0.heap.size w0 ws) (hF : Fr w0 ws P0 [] ws)  (r_1 : List SStep) (r_4 : List Int) (h : spec_meWindow.f k a0 a1 = some (r_1, r_4)) :
  Calls Try.prog 52 #[.int .i64 a0, .int .i64 a1] ws (Post1 w0 ws P0 (fun ((q_2, q_3, q_5, q_6) : (Option Addr) × Nat × (Option Addr) × Nat) => .agg #[.int .i64 1, .slice q_2 r_1.length q_3, .slice q_5 r_4.length q_6]) (fun ((q_2, q_3, q_5, q_6) : (Option Addr) × Nat × (Option Addr) × Nat) => [row kStep 107 (.slice q_2 r_1.length q_3) r_1, row (Kd.int .i64) 3 (.slice q_5 r_4.length q_6) r_4])) := by
 unfold spec_meWindow.f at h
 refine enter Try.func52 rfl Try.ntmps52 rfl hF (c_seq (za0 (o_e rfl (zab V25 rfl) (fun g1 => o_end (za1 (c_seq (za0 (oq_ (za2 rfl) (oq_ (za2 rfl) ?_)))))))))
 refine za6 h (fun _ hz3 h => ?_) rfl
 refine oq_ (q_shl rfl rfl (nn_le hz3)) (za6 h (fun l5 hx4 h => ?_) rfl)
 refine o_e rfl (za5 0 Z Try.func108 N108 rfl rfl rfl (fun w P1 hF hB hS hT => spec_meDigits.calls k a0 (IntKind.i64.wrap (1 * 2 ^ min (a1 : Int).toNat IntKind.i64.bits)) hB hF _ hx4)) (cur2 (fun A6 c7 => oq_ (q_asg rfl) (o_end (za1 (c_seq (za0 (oq_ (q_build (vs := [(0, .int .i64 1)]) (cs := [.int .i64 1, .slice none 0 0, .slice none 0 0]) rfl rfl) (o_e rfl (zab V25 rfl) (fun g8 => o_e rfl (zac (i := 0) rfl rfl rfl Z25 rfl rfl) (fun _ => o_end ?_))))))))))
 refine za1 (c_seq (za0 (oq_ (q_asg rfl) (o_end (za1 (c_seq (c_seq (za0 (oq_ (q_asg rfl) ?_)))))))))
 refine o_end (za1 (zae (c_nil kStep 107 (c_nil (Kd.int .i64) 3 (za6 h (fun o27 hl26 hR25 => ?_) rfl)))))
 clear h
 refine zas (σ := (List SStep) × (List Int) × Int × Int × (Option Addr) × Nat × (Option Addr) × Nat) (fun k22 ((l12, l15, i18, i19, A13, c14, A16, c17) : (List SStep) × (List Int) × Int × Int × (Option Addr) × Nat × (Option Addr) × Nat) => spec_meWindow.l0 l5 k22 l12 l15 i18 i19 = some o27) [7, 8, 16, 17, 18, 19, 20, 21, 22, 23, 24, 25, 26, 27] (fun ((l12, l15, i18, i19, A13, c14, A16, c17) : (List SStep) × (List Int) × Int × Int × (Option Addr) × Nat × (Option Addr) × Nat) => [(7, .int .i64 i18), (8, .int .i64 i19)]) (fun ((l12, l15, i18, i19, A13, c14, A16, c17) : (List SStep) × (List Int) × Int × Int × (Option Addr) × Nat × (Option Addr) × Nat) => [row (Kd.int .i64) 3 (.slice A16 l15.length c17) l15, row kStep 107 (.slice A13 l12.length c14) l12, box g8 25 #[.int .i64 1, .slice A13 l12.length c14, .slice A16 l15.length c17], row (Kd.int .i64) 3 (.slice A6 l5.length c7) l5, box g1 25 #[.int .i64 0, .slice none 0 0, .slice none 0 0]]) k (([] : List SStep), ([] : List Int), 0, 2, none, 0, none, 0) hl26 ⟨rfl, rfl, trivial⟩ (fun w h => h) (natC (cur8 (fun l12 l15 i18 i19 A13 c14 A16 c17 => fun U28 hJ_ => ?_)) (fun k22 => (cur8 (fun l12 l15 i18 i19 A13 c14 A16 c17 => fun U28 hJ_ => ?_))))
 ·replace hJ_ : spec_meWindow.l0 l5 0 l12 l15 i18 i19 = some o27 := hJ_
  rw [spec_meWindow.l0] at hJ_
  exact noneE hJ_
 ·clear hl26
  have h := hJ_; clear hJ_
  replace h : spec_meWindow.l0 l5 (k22 + 1) l12 l15 i18 i19 = some o27 := h
  rw [spec_meWindow.l0] at h
  refine c_seq (c_seq (za0 (oq_ (za2 rfl) (oq_ (za2 rfl) (za6 h (fun i31 hx30 h => ?_) rfl)))))
  refine o_e rfl (za5 0 Z Try.func109 N109 rfl rfl rfl (fun w P1 hF hB hS hT => spec_meGreatest.calls A6 c7 l5.length l5 hB hF (hT 3 _ rfl).row (hT 3 _ rfl).cap _ hx30)) (fun _ => oq_ (q_leq rfl rfl) (o_end (za1 (zan _ rfl (fun hb32 => ?_) (fun hb32 => ?_)))))
  ·replace h := br_t hb32 h
   refine zai (za1 (c_seq (zae (za0 (oq_ (q_ldB G25 Z25 rfl (bx_ 2 rfl) rfl) (oq_ (za2 rfl) (za6 h (fun l34 hx33 h => ?_) rfl)))))))
   refine o_e rfl (za5 0 Z Try.func110 N110 rfl rfl rfl (fun w P1 hF hB hS hT => spec_meTimes.calls 1 A13 c14 l12.length l12 A16 c17 l15.length l15 i18 0 hB hF (hT 1 _ rfl).row (hT 1 _ rfl).cap (hT 0 _ rfl).row (hT 0 _ rfl).cap _ hx33)) (cur2 (fun A35 c36 => oq_ (za2 rfl) (oq_ (q_ext rfl rfl) (oq_ (q_ext rfl rfl) (o_e rfl (zac (i := 4) rfl rfl rfl Z25 rfl rfl) (fun _ => oq_ (q_asg rfl) (o_end (zaf (za1 (za0 ?_))))))))))
   refine oq_ (za2 rfl) (oq_ (zay rfl rfl) (oq_ (q_asg rfl) (o_end (x_fact (p := 0 = [].length) (fun w h => (h.row_C (i := 1) rfl).2.1) (fun hn37 => zal k22 (l34, [], w64 (1 + (l12.length : Int)), w64 (i19 + 1), A35, c36, none, 0) (Nat.lt_succ_self _) h ⟨rfl, rfl, trivial⟩ (f_pickE (L1 := [row kStep 107 (.slice A35 l34.length c36) l34, row (Kd.int .i64) 3 (.slice none 0 0) [], row (Kd.int .i64) 3 (.slice A16 l15.length c17) l15, row kStep 107 (.slice A13 l12.length c14) l12, box g8 25 #[.int .i64 1, .slice A35 l34.length c36, .slice none 0 0], row (Kd.int .i64) 3 (.slice A6 l5.length c7) l5, box g1 25 #[.int .i64 0, .slice none 0 0, .slice none 0 0]]) rfl [1, 0, 4, 5, 6] dc_ rfl (by (try rw [hn37]); first | done | rfl)) ?_)))))
   exact of_
  ·replace h := br_f hb32 h
   refine zax (za7 (za7 ?_))
   have e_ := si_ h; replace h := hR25; rw [← e_] at h; clear e_
   refine x_hit (za1 (c_seq (za0 (oq_ (za2 rfl) (oq_ (za2 rfl) (oq_ (q_len Try.underlying23 rfl) (oq_ (zat rfl rfl) (zaw (p := Sh A6 l5.length l5.length) (fun w h => f_sh (dk := (Kd.int .i64)) h (rc_ 3 rfl)) (fun hq38 => za6 h (fun y40 hg39 h => ?_) rfl)))))))))
   refine oq_ (q_ix Try.underlying23 Z3 rfl rfl hq38 hg39) (oq_ (q_lde (off := 0) Y3 rfl rfl (rc_ 3 rfl) hg39 (fun _ _ h => h) rfl) (oq_ (zat rfl rfl) (oq_ (q_asg rfl) (o_end (za1 (c_seq (c_seq (za0 (oq_ (za2 rfl) ?_)))))))))
   refine oq_ (q_len Try.underlying23 rfl) (oq_ (zat rfl rfl) (oq_ (q_asg rfl) (o_end (za1 (zae (za6 h (fun o56 hl55 hR54 => ?_) rfl))))))
   clear h
   refine zas (σ := (List SStep) × (List Int) × Int × Int × (Option Addr) × Nat × (Option Addr) × Nat) (fun k51 ((l41, l44, i47, i48, A42, c43, A45, c46) : (List SStep) × (List Int) × Int × Int × (Option Addr) × Nat × (Option Addr) × Nat) => spec_meWindow.l1 k a1 l5 k51 l41 l44 i47 i48 = some o56) [7, 9, 10, 38, 39, 40, 41, 42, 43, 44, 45, 46, 47, 48, 49, 50, 51, 52, 53, 54, 55, 56, 57, 58, 59, 60, 61, 62, 63, 64, 65, 66, 67, 68, 69] (fun ((l41, l44, i47, i48, A42, c43, A45, c46) : (List SStep) × (List Int) × Int × Int × (Option Addr) × Nat × (Option Addr) × Nat) => [(7, .int .i64 i47), (9, .int .i64 i48)]) (fun ((l41, l44, i47, i48, A42, c43, A45, c46) : (List SStep) × (List Int) × Int × Int × (Option Addr) × Nat × (Option Addr) × Nat) => [row (Kd.int .i64) 3 (.slice A45 l44.length c46) l44, row kStep 107 (.slice A42 l41.length c43) l41, box g8 25 #[.int .i64 1, .slice A42 l41.length c43, .slice A45 l44.length c46], row (Kd.int .i64) 3 (.slice A6 l5.length c7) l5, box g1 25 #[.int .i64 0, .slice none 0 0, .slice none 0 0]]) k (l12, l15, w64 (y40 - 1), w64 ((l5.length : Int) - 2), A13, c14, A16, c17) hl55 ⟨rfl, rfl, trivial⟩ (fun w h => h) (natC (cur8 (fun l41 l44 i47 i48 A42 c43 A45 c46 => fun U57 hJ_ => ?_)) (fun k51 => (cur8 (fun l41 l44 i47 i48 A42 c43 A45 c46 => fun U57 hJ_ => ?_))))
   ·replace hJ_ : spec_meWindow.l1 k a1 l5 0 l41 l44 i47 i48 = some o56 := hJ_
    rw [spec_meWindow.l1] at hJ_
    exact noneE hJ_
   ·clear hl55
    have h := hJ_; clear hJ_
    replace h : spec_meWindow.l1 k a1 l5 (k51 + 1) l41 l44 i47 i48 = some o56 := h
    rw [spec_meWindow.l1] at h
    refine c_seq (c_seq (za0 (oq_ (za2 rfl) (oq_ (q_geq rfl rfl) (o_end (za1 (zan _ rfl (fun hb59 => ?_) (fun hb59 => ?_))))))))
    ·replace h := br_t hb59 h
     refine zai (za1 (c_seq (zae (c_seq (c_seq (za0 (oq_ (q_asg rfl) (o_end (za1 ?_)))))))))
     refine zae (za6 h (fun o75 hl74 hR73 => ?_) rfl)
     clear h
     refine zas (σ := (List SStep) × (List Int) × Int × Int × (Option Addr) × Nat × (Option Addr) × Nat) (fun k70 ((l60, l63, i66, i67, A61, c62, A64, c65) : (List SStep) × (List Int) × Int × Int × (Option Addr) × Nat × (Option Addr) × Nat) => spec_meWindow.l2 a1 k70 l60 l63 i66 i67 = some o75) [7, 10, 42, 43, 44, 45, 46, 47, 48, 49, 50, 51, 52, 53] (fun ((l60, l63, i66, i67, A61, c62, A64, c65) : (List SStep) × (List Int) × Int × Int × (Option Addr) × Nat × (Option Addr) × Nat) => [(7, .int .i64 i67), (10, .int .i64 i66)]) (fun ((l60, l63, i66, i67, A61, c62, A64, c65) : (List SStep) × (List Int) × Int × Int × (Option Addr) × Nat × (Option Addr) × Nat) => [row (Kd.int .i64) 3 (.slice A64 l63.length c65) l63, row kStep 107 (.slice A61 l60.length c62) l60, box g8 25 #[.int .i64 1, .slice A61 l60.length c62, .slice A64 l63.length c65], row (Kd.int .i64) 3 (.slice A6 l5.length c7) l5, box g1 25 #[.int .i64 0, .slice none 0 0, .slice none 0 0]]) k (l41, l44, 0, i47, A42, c43, A45, c46) hl74 ⟨rfl, rfl, trivial⟩ (fun w h => h) (natC (cur8 (fun l60 l63 i66 i67 A61 c62 A64 c65 => fun U76 hJ_ => ?_)) (fun k70 => (cur8 (fun l60 l63 i66 i67 A61 c62 A64 c65 => fun U76 hJ_ => ?_))))
     ·replace hJ_ : spec_meWindow.l2 a1 0 l60 l63 i66 i67 = some o75 := hJ_
      rw [spec_meWindow.l2] at hJ_
      exact noneE hJ_
     ·clear hl74
      have h := hJ_; clear hJ_
      replace h : spec_meWindow.l2 a1 (k70 + 1) l60 l63 i66 i67 = some o75 := h
      rw [spec_meWindow.l2] at h
      refine c_seq (c_seq (za0 (oq_ (za2 rfl) (oq_ (za2 rfl) (oq_ (q_lss rfl rfl) (o_end (za1 (zan _ rfl (fun hb78 => ?_) (fun hb78 => ?_)))))))))
      ·replace h := br_t hb78 h
       refine zai (za1 (c_seq (zae (za0 (oq_ (q_ldB G25 Z25 rfl (bx_ 2 rfl) rfl) (oq_ (za2 rfl) (oq_ (za2 rfl) (za6 h (fun l80 hx79 h => ?_) rfl))))))))
       refine o_e rfl (za5 0 Z Try.func110 N110 rfl rfl rfl (fun w P1 hF hB hS hT => spec_meTimes.calls 1 A61 c62 l60.length l60 A64 c65 l63.length l63 i67 i67 hB hF (hT 1 _ rfl).row (hT 1 _ rfl).cap (hT 0 _ rfl).row (hT 0 _ rfl).cap _ hx79)) (cur2 (fun A81 c82 => oq_ (za2 rfl) (oq_ (q_ext rfl rfl) (oq_ (q_ext rfl rfl) (o_e rfl (zac (i := 4) rfl rfl rfl Z25 rfl rfl) (fun _ => oq_ (q_asg rfl) (o_end (zaf (za1 (za0 ?_))))))))))
       refine oq_ (za2 rfl) (oq_ (zay rfl rfl) (oq_ (q_asg rfl) (o_end (x_fact (p := 0 = [].length) (fun w h => (h.row_C (i := 1) rfl).2.1) (fun hn83 => zal k70 (l80, [], w64 (i66 + 1), w64 (1 + (l60.length : Int)), A81, c82, none, 0) (Nat.lt_succ_self _) h ⟨rfl, rfl, trivial⟩ (f_pickE (L1 := [row kStep 107 (.slice A81 l80.length c82) l80, row (Kd.int .i64) 3 (.slice none 0 0) [], row (Kd.int .i64) 3 (.slice A64 l63.length c65) l63, row kStep 107 (.slice A61 l60.length c62) l60, box g8 25 #[.int .i64 1, .slice A81 l80.length c82, .slice none 0 0], row (Kd.int .i64) 3 (.slice A6 l5.length c7) l5, box g1 25 #[.int .i64 0, .slice none 0 0, .slice none 0 0]]) rfl [1, 0, 4, 5, 6] dc_ rfl (by (try rw [hn83]); first | done | rfl)) ?_)))))
       exact of_
      ·replace h := br_f hb78 h
       refine zax (za7 (za7 ?_))
       have e_ := si_ h; replace h := hR73; rw [← e_] at h; clear e_
       refine x_hit (za1 (c_seq (za0 (oq_ (za2 rfl) (oq_ (za2 rfl) (za6 h (fun y85 hg84 h => ?_) rfl))))))
       refine oq_ (q_ix Try.underlying23 Z3 rfl rfl hq38 hg84) (oq_ (q_lde (off := 0) Y3 rfl rfl (rc_ 3 rfl) hg84 (fun _ _ h => h) rfl) (oq_ (q_gtr rfl rfl) (o_end (za1 (zan _ rfl (fun hb86 => ?_) (fun hb86 => ?_))))))
       ·replace h := br_t hb86 h
        refine a_startS (ds := []) [some 0, some 1, none, some 3, some 4] MO rfl (ap_ 1 rfl (za2 rfl) (ap_ 2 rfl (za2 rfl) (ap_ 3 rfl (za2 rfl) (za6 h (fun y88 hg87 h => ?_) rfl))))
        refine ap_ 4 rfl (q_ix Try.underlying23 Z3 rfl rfl hq38 hg87) (at_2 5 rfl (sm_ [some 0, some 1, none, some 3, some 4]) (q_lde (off := 0) Y3 rfl rfl (rc_ 3 rfl) hg87 (fun _ _ h => h) rfl) (ap_ 6 rfl (zat rfl rfl) (a1_ 0 rfl (ev_q rfl (q_ldB G25 Z25 rfl (bx_ 2 rfl) rfl)) (sl_ [some 0, some 1, none, some 3, some 4]) (fun _ => za6 h (fun l90 hx89 h => ?_) rfl))))
        refine a1_ 7 rfl (za5 0 Z Try.func110 N110 rfl rfl rfl (fun w P1 hF hB hS hT => spec_meTimes.calls 1 A61 c62 l60.length l60 A64 c65 l63.length l63 i67 (w64 (y88 - 1)) hB hF (hT 1 _ rfl).row (hT 1 _ rfl).cap (hT 0 _ rfl).row (hT 0 _ rfl).cap _ hx89)) (sl_ [some 2, some 3, none, some 5, some 6]) (cur2 (fun A91 c92 => ap_ 8 rfl (za2 rfl) (ap_ 9 rfl (q_ext rfl rfl) (ap_ 10 rfl (q_ext rfl rfl) (a1_ 11 rfl (zac (i := 4) rfl rfl rfl Z25 rfl rfl) (sl_ [some 2, some 3, none, some 5, some 6]) (fun _ => ap_ 12 rfl (q_asg rfl) (zaj kr_ (zaf (za1 (za0 ?_))))))))))
        refine oq_ (za2 rfl) (oq_ (zat rfl rfl) (oq_ (q_asg rfl) (o_end (x_fact (p := 0 = [].length) (fun w h => (h.row_C (i := 1) rfl).2.1) (fun hn93 => zal k51 (l90, [], w64 (1 + (l60.length : Int)), w64 (i48 - 1), A91, c92, none, 0) (Nat.lt_succ_self _) h ⟨rfl, rfl, trivial⟩ (f_pickE (L1 := [row kStep 107 (.slice A91 l90.length c92) l90, row (Kd.int .i64) 3 (.slice none 0 0) [], row (Kd.int .i64) 3 (.slice A64 l63.length c65) l63, row kStep 107 (.slice A61 l60.length c62) l60, box g8 25 #[.int .i64 1, .slice A91 l90.length c92, .slice none 0 0], row (Kd.int .i64) 3 (.slice A6 l5.length c7) l5, box g1 25 #[.int .i64 0, .slice none 0 0, .slice none 0 0]]) rfl [1, 0, 4, 5, 6] dc_ rfl (by (try rw [hn93]); first | done | rfl)) ?_)))))
        exact of_
       ·replace h := br_f hb86 h
        refine zai (zaf (za1 (za0 (oq_ (za2 rfl) (oq_ (zat rfl rfl) (oq_ (q_asg rfl) (o_end (zal k51 (l60, l63, i67, w64 (i48 - 1), A61, c62, A64, c65) (Nat.lt_succ_self _) h ⟨rfl, rfl, trivial⟩ (pk_ [0, 1, 2, 3, 4]) ?_))))))))
        exact of_
    ·replace h := br_f hb59 h
     refine zax (za7 (za7 ?_))
     have e_ := si_ h; replace h := hR54; rw [← e_] at h; clear e_
     refine x_hit (za1 (c_seq (za0 (oq_ (q_ldB G25 Z25 rfl (bx_ 2 rfl) rfl) (oq_ (za2 rfl) (o_pick [1, 0, 2, 3, 4] dc_ rfl (za6 h (fun _ hx94 h => ?_) rfl)))))))
     refine o_e rfl (za5 1 Z Try.func112 N112 rfl rfl rfl (fun w P1 hF hB hS hT => spec_meEnd.calls 1 A42 c43 l41.length l41 A45 c46 l44.length l44 i47 hB hF (hT 0 _ rfl).row (hT 0 _ rfl).cap hx94)) (cur2 (fun A95 c96 => bindE2 h (fun l98 l99 hx97 h => ?_) rfl))
     refine o_e rfl (za5 0 Z Try.func111 N111 rfl rfl rfl (fun w P1 hF hB hS hT => spec_meTrim.calls k 1 A42 c43 l41.length l41 A95 c96 (([i47] : List Int).length) ([i47] : List Int) hB hF (hT 0 _ rfl).row (hT 0 _ rfl).cap (hT 1 _ rfl).row (hT 1 _ rfl).cap _ _ hx97)) (cur4 (fun A100 c101 A102 c103 => o_e rfl (zac (i := 7) rfl rfl rfl Z25 rfl rfl) (fun _ => o_end (za1 (c_ret ?_)))))
     have e0_ := si_ h; clear h
     obtain ⟨rfl, e1_⟩ := Prod.mk.inj e0_
     subst e1_
     exact x_r1 (A100, c101, A102, c103) Try.results52 (zb0 rfl G25 Z25 (bx_ 7 rfl) rfl) rfl (pk_ [0, 1])

end Go.Proofs.Ytiaohjciddbpoaa.M5
