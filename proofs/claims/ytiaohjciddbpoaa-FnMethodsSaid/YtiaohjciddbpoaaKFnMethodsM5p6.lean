import Derived.Test.YtiaohjciddbpoaaKFnMethodsM5p5
namespace Go.Proofs.Ytiaohjciddbpoaa.M5
set_option maxHeartbeats 8000000
set_option maxRecDepth 100000
open Go.RowKit Go.Proofs.Ytiaohjciddbpoaa.Frame Go.Proofs.YtiaohjciddbpoaaW.PrintLast Go.Proofs.Ytiaohjciddbpoaa.Hand
open Go.Proofs.YtiaohjciddbpoaaW.PrintWords hiding mn mx
set_option linter.unusedVariables false
def spec_meSpans.l1 (l2 : List Int) : Nat → Int → Option Int
 | 0, _ => none
 | k48 + 1, i45 => (gt l2 i45).bind fun y57 => if y57 = 0 then (spec_meSpans.l1 l2 k48 (w64 (i45 + 1))) else (some i45)
def spec_meSpans.l0 (k : Nat) (a0 : Int) (a1 : Int) (l2 : List Int) : Nat → (List Int) → (List Int) → Int → Option ((List Int) × (List Int))
 | 0, _, _, _ => none
 | k16 + 1, l7, l10, i13 => if 0 ≤ i13 then ((gt l2 i13).bind fun y27 => if y27 = 0 then ((ap l7 ([0] : List Int)).bind fun l32 => (ap l10 ([1] : List Int)).bind fun l39 => spec_meSpans.l0 k a0 a1 l2 k16 l32 l39 (w64 (i13 - 1))) else ((spec_l1Most.f 0 (w64 (w64 (i13 - a1) + 1))).bind fun i44 => (spec_meSpans.l1 l2 k i44).bind fun i45 => (nn i45).bind fun _ => (nn (w64 (w64 (i13 - i45) + 1))).bind fun _ => (nz (IntKind.i64.wrap (1 * 2 ^ min (w64 (w64 (i13 - i45) + 1) : Int).toNat IntKind.i64.bits))).bind fun _ => (ap l7 ([(a0 / 2 ^ min (i45 : Int).toNat IntKind.i64.bits).tmod (IntKind.i64.wrap (1 * 2 ^ min (w64 (w64 (i13 - i45) + 1) : Int).toNat IntKind.i64.bits))] : List Int)).bind fun l65 => (ap l10 ([w64 (w64 (i13 - i45) + 1)] : List Int)).bind fun l72 => spec_meSpans.l0 k a0 a1 l2 k16 l65 l72 (w64 (i45 - 1)))) else (some (l7, l10))
def spec_meSpans.f (k : Nat) (a0 : Int) (a1 : Int) : Option ((List Int) × (List Int)) := (spec_meDigits.f k a0 2).bind fun l2 => (spec_meSpans.l0 k a0 a1 l2 k ([] : List Int) ([] : List Int) (w64 ((l2.length : Int) - 1))).bind fun (l7, l10) => some (l7, l10)
theorem spec_meSpans.calls (k : Nat) {w0 ws : World} {P0 : Nat → Prop} (a0 : Int) (a1 : Int) (Z : Below w0.heap.size w0 ws) (hF : Fr w0 ws P0 [] ws)  (r_1 : List Int) (r_4 : List Int) (h : spec_meSpans.f k a0 a1 = some (r_1, r_4)) :
  Calls Try.prog 73 #[.int .i64 a0, .int .i64 a1] ws (Post1 w0 ws P0 (fun ((q_2, q_3, q_5, q_6) : (Option Addr) × Nat × (Option Addr) × Nat) => .tuple #[.slice q_2 r_1.length q_3, .slice q_5 r_4.length q_6]) (fun ((q_2, q_3, q_5, q_6) : (Option Addr) × Nat × (Option Addr) × Nat) => [row (Kd.int .i64) 3 (.slice q_2 r_1.length q_3) r_1, row (Kd.int .i64) 3 (.slice q_5 r_4.length q_6) r_4])) := by
 unfold spec_meSpans.f at h
 refine enter Try.func73 rfl Try.ntmps73 rfl hF (c_seq (za0 (oq_ (q_asg rfl) (oq_ (q_asg rfl) (o_end (za1 (c_seq (za0 (oq_ (za2 rfl) ?_)))))))))
 refine za6 h (fun l2 hx1 h => ?_) rfl
 refine o_e rfl (za5 0 Z Try.func108 N108 rfl rfl rfl (fun w P1 hF hB hS hT => spec_meDigits.calls k a0 2 hB hF _ hx1)) (cur2 (fun A3 c4 => oq_ (q_asg rfl) (o_end (za1 (c_seq (za0 (oq_ (q_asg rfl) (oq_ (q_asg rfl) (o_end (za1 ?_))))))))))
 refine c_seq (c_seq (za0 (oq_ (za2 rfl) (oq_ (q_len Try.underlying23 rfl) (oq_ (zat rfl rfl) (oq_ (q_asg rfl) (o_end (za1 (zae ?_)))))))))
 refine c_nil (Kd.int .i64) 3 (c_nil (Kd.int .i64) 3 (za6 h (fun o21 hl20 hR19 => ?_) rfl))
 clear h
 refine zas (σ := (List Int) × (List Int) × Int × (Option Addr) × Nat × (Option Addr) × Nat) (fun k16 ((l7, l10, i13, A8, c9, A11, c12) : (List Int) × (List Int) × Int × (Option Addr) × Nat × (Option Addr) × Nat) => spec_meSpans.l0 k a0 a1 l2 k16 l7 l10 i13 = some o21) [7, 8, 9, 10, 16, 17, 18, 19, 20, 21, 22, 23, 24, 25, 26, 27, 28, 29, 30, 31, 32, 33, 34, 35, 36, 37, 38, 39, 40, 41, 42, 43, 44, 45, 46, 47, 48, 49, 50, 51, 52, 53, 54, 55, 56, 57, 58, 59, 60, 61, 62, 63] (fun ((l7, l10, i13, A8, c9, A11, c12) : (List Int) × (List Int) × Int × (Option Addr) × Nat × (Option Addr) × Nat) => [(7, .slice A8 l7.length c9), (8, .slice A11 l10.length c12), (9, .int .i64 i13)]) (fun ((l7, l10, i13, A8, c9, A11, c12) : (List Int) × (List Int) × Int × (Option Addr) × Nat × (Option Addr) × Nat) => [row (Kd.int .i64) 3 (.slice A11 l10.length c12) l10, row (Kd.int .i64) 3 (.slice A8 l7.length c9) l7, row (Kd.int .i64) 3 (.slice A3 l2.length c4) l2]) k (([] : List Int), ([] : List Int), w64 ((l2.length : Int) - 1), none, 0, none, 0) hl20 ⟨rfl, rfl, rfl, trivial⟩ (fun w h => h) (natC (cur7 (fun l7 l10 i13 A8 c9 A11 c12 => fun U22 hJ_ => ?_)) (fun k16 => (cur7 (fun l7 l10 i13 A8 c9 A11 c12 => fun U22 hJ_ => ?_))))
 ·replace hJ_ : spec_meSpans.l0 k a0 a1 l2 0 l7 l10 i13 = some o21 := hJ_
  rw [spec_meSpans.l0] at hJ_
  exact noneE hJ_
 ·clear hl20
  have h := hJ_; clear hJ_
  replace h : spec_meSpans.l0 k a0 a1 l2 (k16 + 1) l7 l10 i13 = some o21 := h
  rw [spec_meSpans.l0] at h
  refine c_seq (c_seq (za0 (oq_ (za2 rfl) (oq_ (q_geq rfl rfl) (o_end (za1 (zan _ rfl (fun hb24 => ?_) (fun hb24 => ?_))))))))
  ·replace h := br_t hb24 h
   refine zai (za1 (zae (c_seq (c_seq (za0 (oq_ (za2 rfl) (oq_ (za2 rfl) (zaw (p := Sh A3 l2.length l2.length) (fun w h => f_sh (dk := (Kd.int .i64)) h (rc_ 2 rfl)) (fun hq25 => za6 h (fun y27 hg26 h => ?_) rfl)))))))))
   refine oq_ (q_ix Try.underlying23 Z3 rfl rfl hq25 hg26) (oq_ (q_lde (off := 0) Y3 rfl rfl (rc_ 2 rfl) hg26 (fun _ _ h => h) rfl) (oq_ (q_eql rfl rfl) (o_end (za1 (zan _ rfl (fun hb28 => ?_) (fun hb28 => ?_))))))
   ·replace h := br_t hb28 h
    refine c_seq (za0 (oq_ (za2 rfl) (o_e rfl (e_lit (vs := [(0, .int .i64 0)]) (cs := [.int .i64 0]) (Kd.int .i64) ([0] : List Int) Try.underlying23 I3 dc_ rfl dc_ rfl rfl (fun _ _ => Kd.za8 _)) (cur2 (fun A29 c30 => za6 h (fun l32 ha33 h => ?_) rfl)))))
    refine o_e rfl (e_app (i := 2) (j := 0) Try.underlying23 I3 rfl dc_ dc_ rfl rfl rfl rfl rfl ha33) (cur2 (fun A34 c35 => oq_ (q_asg rfl) (o_end (za1 (c_seq (za0 (oq_ (za2 rfl) (o_e rfl (e_lit (vs := [(0, .int .i64 1)]) (cs := [.int .i64 1]) (Kd.int .i64) ([1] : List Int) Try.underlying23 I3 dc_ rfl dc_ rfl rfl (fun _ _ => Kd.za8 _)) (cur2 (fun A36 c37 => za6 h (fun l39 ha40 h => ?_) rfl))))))))))
    refine o_e rfl (e_app (i := 2) (j := 0) Try.underlying23 I3 rfl dc_ dc_ rfl rfl rfl rfl rfl ha40) (cur2 (fun A41 c42 => oq_ (q_asg rfl) (o_end (za1 (c_seq (za0 (oq_ (za2 rfl) (oq_ (zat rfl rfl) (oq_ (q_asg rfl) (o_end ?_))))))))))
    refine za1 (zax (za7 (x_hit (zal k16 (l32, l39, w64 (i13 - 1), A34, c35, A41, c42) (Nat.lt_succ_self _) h ⟨rfl, rfl, rfl, trivial⟩ (pk_ [2, 3, 4]) ?_))))
    exact of_
   ·replace h := br_f hb28 h
    refine zai (za1 (c_seq (za0 (oq_ (za2 rfl) (oq_ (za2 rfl) (oq_ (zat rfl rfl) (oq_ (zay rfl rfl) (za6 h (fun i44 hx43 h => ?_) rfl))))))))
    refine o_e rfl (za5 0 Z Try.func88 N88 rfl rfl rfl (fun w P1 hF hB hS hT => spec_l1Most.calls 0 (w64 (w64 (i13 - a1) + 1)) hB hF _ hx43)) (fun _ => oq_ (q_asg rfl) (o_end (za1 (c_seq (zae (za6 h (fun o53 hl52 hR51 => ?_) rfl))))))
    clear h
    refine zas (σ := Int) (fun k48 (i45 : Int) => spec_meSpans.l1 l2 k48 i45 = some o53) [10, 36, 37, 38, 39, 40, 41, 42] (fun (i45 : Int) => [(10, .int .i64 i45)]) (fun (i45 : Int) => [row (Kd.int .i64) 3 (.slice A11 l10.length c12) l10, row (Kd.int .i64) 3 (.slice A8 l7.length c9) l7, row (Kd.int .i64) 3 (.slice A3 l2.length c4) l2]) k i44 hl52 ⟨rfl, trivial⟩ (fun w h => h) (natC (fun i45 => fun U54 hJ_ => ?_) (fun k48 => (fun i45 => fun U54 hJ_ => ?_)))
    ·replace hJ_ : spec_meSpans.l1 l2 0 i45 = some o53 := hJ_
     rw [spec_meSpans.l1] at hJ_
     exact noneE hJ_
    ·clear hl52
     have h := hJ_; clear hJ_
     replace h : spec_meSpans.l1 l2 (k48 + 1) i45 = some o53 := h
     rw [spec_meSpans.l1] at h
     refine c_seq (c_seq (za0 (oq_ (za2 rfl) (oq_ (za2 rfl) (za6 h (fun y57 hg56 h => ?_) rfl)))))
     refine oq_ (q_ix Try.underlying23 Z3 rfl rfl hq25 hg56) (oq_ (q_lde (off := 0) Y3 rfl rfl (rc_ 2 rfl) hg56 (fun _ _ h => h) rfl) (oq_ (q_eql rfl rfl) (o_end (za1 (zan _ rfl (fun hb58 => ?_) (fun hb58 => ?_))))))
     ·replace h := br_t hb58 h
      refine zai (za1 (zae (za0 (oq_ (za2 rfl) (oq_ (zay rfl rfl) (oq_ (q_asg rfl) (o_end (zaf (zal k48 (w64 (i45 + 1)) (Nat.lt_succ_self _) h ⟨rfl, trivial⟩ (pk_ [0, 1, 2]) ?_)))))))))
      exact of_
     ·replace h := br_f hb58 h
      refine zax (za7 (za7 ?_))
      have e_ := si_ h; replace h := hR51; rw [← e_] at h; clear e_
      refine x_hit (za1 (c_seq (a_startS (ds := []) [some 0, none, some 2] MO rfl (ap_ 0 rfl (za2 rfl) (ap_ 1 rfl (za2 rfl) (ap_ 2 rfl (za2 rfl) (za6 h (fun _ hz59 h => ?_) rfl)))))))
      refine ap_ 3 rfl (q_shr rfl rfl (nn_le hz59)) (ap_ 4 rfl (za2 rfl) (ap_ 5 rfl (za2 rfl) (ap_ 6 rfl (zat rfl rfl) (ap_ 7 rfl (zay rfl rfl) (za6 h (fun _ hz60 h => ?_) rfl)))))
      refine ap_ 8 rfl (q_shl rfl rfl (nn_le hz60)) (za6 h (fun _ hz61 h => ?_) rfl)
      refine ap_ 9 rfl (q_rem rfl rfl (nz_ne hz61)) (a1_ 10 rfl (e_lit (vs := [(0, .int .i64 ((a0 / 2 ^ min (i45 : Int).toNat IntKind.i64.bits).tmod (IntKind.i64.wrap (1 * 2 ^ min (w64 (w64 (i13 - i45) + 1) : Int).toNat IntKind.i64.bits))))]) (cs := [.int .i64 ((a0 / 2 ^ min (i45 : Int).toNat IntKind.i64.bits).tmod (IntKind.i64.wrap (1 * 2 ^ min (w64 (w64 (i13 - i45) + 1) : Int).toNat IntKind.i64.bits)))]) (Kd.int .i64) ([(a0 / 2 ^ min (i45 : Int).toNat IntKind.i64.bits).tmod (IntKind.i64.wrap (1 * 2 ^ min (w64 (w64 (i13 - i45) + 1) : Int).toNat IntKind.i64.bits))] : List Int) Try.underlying23 I3 dc_ rfl dc_ rfl rfl (fun _ _ => Kd.za8 _)) (sl_ [some 1, none, some 3]) (cur2 (fun A62 c63 => za6 h (fun l65 ha66 h => ?_) rfl)))
      refine a1_ 11 rfl (e_app (i := 2) (j := 0) Try.underlying23 I3 rfl dc_ dc_ rfl rfl rfl rfl rfl ha66) (sl_ [some 1, none, some 3]) (cur2 (fun A67 c68 => ap_ 12 rfl (q_asg rfl) (zaj kr_ (za1 (c_seq (za0 (oq_ (za2 rfl) (oq_ (za2 rfl) (oq_ (za2 rfl) (oq_ (zat rfl rfl) ?_))))))))))
      refine oq_ (zay rfl rfl) (o_e rfl (e_lit (vs := [(0, .int .i64 (w64 (w64 (i13 - i45) + 1)))]) (cs := [.int .i64 (w64 (w64 (i13 - i45) + 1))]) (Kd.int .i64) ([w64 (w64 (i13 - i45) + 1)] : List Int) Try.underlying23 I3 dc_ rfl dc_ rfl rfl (fun _ _ => Kd.za8 _)) (cur2 (fun A69 c70 => za6 h (fun l72 ha73 h => ?_) rfl)))
      refine o_e rfl (e_app (i := 2) (j := 0) Try.underlying23 I3 rfl dc_ dc_ rfl rfl rfl rfl rfl ha73) (cur2 (fun A74 c75 => oq_ (q_asg rfl) (o_end (za1 (za0 (oq_ (za2 rfl) (oq_ (zat rfl rfl) (oq_ (q_asg rfl) (o_end (zaf ?_))))))))))
      refine zal k16 (l65, l72, w64 (i45 - 1), A67, c68, A74, c75) (Nat.lt_succ_self _) h ⟨rfl, rfl, rfl, trivial⟩ (pk_ [2, 3, 4]) ?_
      exact of_
  ·replace h := br_f hb24 h
   refine zax (za7 (za7 ?_))
   have e_ := si_ h; replace h := hR19; rw [← e_] at h; clear e_
   refine x_hit (za1 (c_seq (za0 (oq_ (za2 rfl) (oq_ (za2 rfl) (oq_ (q_asg rfl) (oq_ (q_asg rfl) (o_end (za1 ?_)))))))))
   refine c_ret ?_
   have e0_ := si_ h; clear h
   obtain ⟨rfl, e1_⟩ := Prod.mk.inj e0_
   subst e1_
   exact x_r2 (A8, c9, A11, c12) Try.results73 (zad rfl) (zad rfl) rfl (pk_ [1, 0])

def spec_meOdd.f (a0 : Int) : Option Int := if a0 = 1 then (some 0) else (some (w64 ((w64 (a0 + 1)).tdiv 2)))
theorem spec_meOdd.calls {w0 ws : World} {P0 : Nat → Prop} (a0 : Int) (Z : Below w0.heap.size w0 ws) (hF : Fr w0 ws P0 [] ws)  (r_1 : Int) (h : spec_meOdd.f a0 = some r_1) :
  Calls Try.prog 120 #[.int .i64 a0] ws (Post1 w0 ws P0 (fun (_ : Unit) => .int .i64 r_1) (fun (_ : Unit) => [])) := by
 unfold spec_meOdd.f at h
 refine enter Try.func120 rfl Try.ntmps120 rfl hF (c_seq (za0 (oq_ (q_asg rfl) (o_end (za1 (c_seq (c_seq (za0 (oq_ (za2 rfl) ?_)))))))))
 refine oq_ (q_eql rfl rfl) (o_end (za1 (zan _ rfl (fun hb1 => ?_) (fun hb1 => ?_))))
 ·replace h := br_t hb1 h
  refine c_seq (za0 (oq_ (q_asg rfl) (o_end (za1 (c_ret (zaa ?_))))))
  have e0_ := si_ h; clear h
  subst e0_
  exact x_r1 () Try.results120 (zad rfl) rfl (pk_ [])
 ·replace h := br_f hb1 h
  refine zai (za1 (c_seq (za0 (oq_ (za2 rfl) (oq_ (zay rfl rfl) (oq_ (q_quo64 rfl rfl dc_) (oq_ (q_asg rfl) (o_end (za1 ?_)))))))))
  refine c_ret ?_
  have e0_ := si_ h; clear h
  subst e0_
  exact x_r1 () Try.results120 (zad rfl) rfl (pk_ [])

def spec_meSliding.l0 (l4 : List Int) : Nat → (List SStep) → (List Int) → Int → Int → Option ((List SStep) × (List Int))
 | 0, _, _, _, _ => none
 | k73 + 1, l63, l66, i69, i70 => (spec_meGreatest.f l4).bind fun i82 => if i70 ≤ i82 then ((spec_meTimes.f 1 l63 l66 i69 1).bind fun l85 => spec_meSliding.l0 l4 k73 l85 [] (w64 (1 + (l63.length : Int))) (w64 (i70 + 2))) else (some (l63, l66))
def spec_meSliding.l2 (l5 : List Int) (i100 : Int) : Nat → (List SStep) → (List Int) → Int → Int → Option ((List SStep) × (List Int) × Int)
 | 0, _, _, _, _ => none
 | k123 + 1, l113, l116, i119, i120 => (gt l5 i100).bind fun y133 => if i119 < y133 then ((spec_meTimes.f 1 l113 l116 i120 i120).bind fun l136 => spec_meSliding.l2 l5 i100 k123 l136 [] (w64 (i119 + 1)) (w64 (1 + (l113.length : Int)))) else (some (l113, l116, i120))
def spec_meSliding.l1 (k : Nat) (l4 : List Int) (l5 : List Int) : Nat → (List SStep) → (List Int) → Int → Int → Option ((List SStep) × (List Int) × Int)
 | 0, _, _, _, _ => none
 | k104 + 1, l94, l97, i100, i101 => if i100 < (l4.length : Int) then ((spec_meSliding.l2 l5 i100 k l94 l97 0 i101).bind fun (l113, l116, i120) => (gt l4 i100).bind fun y141 => if 0 < y141 then ((gt l4 i100).bind fun y385 => (spec_meOdd.f y385).bind fun i505 => (spec_meTimes.f 1 l113 l116 i120 i505).bind fun l565 => spec_meSliding.l1 k l4 l5 k104 l565 [] (w64 (i100 + 1)) (w64 (1 + (l113.length : Int)))) else (spec_meSliding.l1 k l4 l5 k104 l113 l116 (w64 (i100 + 1)) i120)) else (some (l94, l97, i101))
def spec_meSliding.f (k : Nat) (a0 : Int) (a1 : Int) : Option ((List SStep) × (List Int)) := (spec_meSpans.f k a0 a1).bind fun (l4, l5) => ((spec_meGreatest.f l4).bind fun i57 => if 3 ≤ i57 then ((spec_meTimes.f 1 [] [] 0 0).bind fun l60 => (spec_meSliding.l0 l4 k l60 [] 0 3).bind fun (l63, l66) => some (l63, l66)) else (some (([] : List SStep), ([] : List Int)))).bind fun (l45, l48) => (gt l4 0).bind fun y91 => (spec_meOdd.f y91).bind fun i93 => (spec_meSliding.l1 k l4 l5 k l45 l48 1 i93).bind fun (l94, l97, i101) => (spec_meEnd.f 1 l94 l97 i101).bind fun _ => (spec_meTrim.f k 1 l94 ([i101] : List Int)).bind fun (l989, l990) => some (l989, l990)
theorem spec_meSliding.calls (k : Nat) {w0 ws : World} {P0 : Nat → Prop} (a0 : Int) (a1 : Int) (Z : Below w0.heap.size w0 ws) (hF : Fr w0 ws P0 [] ws)  (r_1 : List SStep) (r_4 : List Int) (h : spec_meSliding.f k a0 a1 = some (r_1, r_4)) :
  Calls Try.prog 66 #[.int .i64 a0, .int .i64 a1] ws (Post1 w0 ws P0 (fun ((q_2, q_3, q_5, q_6) : (Option Addr) × Nat × (Option Addr) × Nat) => .agg #[.int .i64 1, .slice q_2 r_1.length q_3, .slice q_5 r_4.length q_6]) (fun ((q_2, q_3, q_5, q_6) : (Option Addr) × Nat × (Option Addr) × Nat) => [row kStep 107 (.slice q_2 r_1.length q_3) r_1, row (Kd.int .i64) 3 (.slice q_5 r_4.length q_6) r_4])) := by
 unfold spec_meSliding.f at h
 refine enter Try.func66 rfl Try.ntmps66 rfl hF (c_seq (za0 (o_e rfl (zab V25 rfl) (fun g1 => o_end (za1 (c_seq (za0 (oq_ (za2 rfl) (oq_ (za2 rfl) ?_)))))))))
 refine bindE2 h (fun l4 l5 hx3 h => ?_) rfl
 refine o_e rfl (za5 0 Z Try.func73 N73 rfl rfl rfl (fun w P1 hF hB hS hT => spec_meSpans.calls k a0 a1 hB hF _ _ hx3)) (cur4 (fun A6 c7 A8 c9 => oq_ (za2 rfl) (oq_ (q_ext rfl rfl) (oq_ (q_ext rfl rfl) (oq_ (q_asg rfl) (oq_ (q_asg rfl) (o_end (za1 (c_seq (za0 ?_))))))))))
 refine oq_ (q_build (vs := [(0, .int .i64 1)]) (cs := [.int .i64 1, .slice none 0 0, .slice none 0 0]) rfl rfl) (o_e rfl (zab V25 rfl) (fun g10 => o_e rfl (zac (i := 0) rfl rfl rfl Z25 rfl rfl) (fun _ => o_end (za1 (c_seq (za0 (oq_ (q_asg rfl) (o_end (za1 ?_)))))))))
 refine za6 h (fun o51 hl52 hR53 => ?_) rfl
 clear h
 refine c_cutJ (σ := (List SStep) × (List Int) × (Option Addr) × Nat × (Option Addr) × Nat) (fun (l45, l48, A46, c47, A49, c50) => some (l45, l48) = some o51) [8, 9, 19, 20, 21, 22, 23, 24, 25, 26, 27, 28, 29, 30, 31, 32, 33, 34, 35, 36, 37, 38] (fun (l45, l48, A46, c47, A49, c50) => []) (fun (l45, l48, A46, c47, A49, c50) => [box g1 25 #[.int .i64 0, .slice none 0 0, .slice none 0 0], row (Kd.int .i64) 3 (.slice A6 l4.length c7) l4, row (Kd.int .i64) 3 (.slice A8 l5.length c9) l5, box g10 25 #[.int .i64 1, .slice A46 l45.length c47, .slice A49 l48.length c50], row kStep 107 (.slice A46 l45.length c47) l45, row (Kd.int .i64) 3 (.slice A49 l48.length c50) l48]) ?_ ?_
 ·have h := hl52; clear hl52
  clear hR53
  refine c_seq (za0 (oq_ (za2 rfl) (za6 h (fun i57 hx56 h => ?_) rfl)))
  refine o_e rfl (za5 0 Z Try.func109 N109 rfl rfl rfl (fun w P1 hF hB hS hT => spec_meGreatest.calls A6 c7 l4.length l4 hB hF (hT 1 _ rfl).row (hT 1 _ rfl).cap _ hx56)) (fun _ => oq_ (q_geq rfl rfl) (o_end (za1 (zan _ rfl (fun hb58 => ?_) (fun hb58 => ?_)))))
  ·replace h := br_t hb58 h
   refine c_seq (za0 (oq_ (q_ldB G25 Z25 rfl (bx_ 0 rfl) rfl) (za6 h (fun l60 hx59 h => ?_) rfl)))
   refine o_e rfl (za5 0 Z Try.func110 N110 rfl rfl rfl (fun w P1 hF hB hS hT => spec_meTimes.calls 1 none 0 0 [] none 0 0 [] 0 0 hB hF (stab_nil _) (Nat.le_refl 0) (stab_nil _) (Nat.le_refl 0) _ hx59)) (cur2 (fun A61 c62 => oq_ (za2 rfl) (oq_ (q_ext rfl rfl) (oq_ (q_ext rfl rfl) (o_e rfl (zac (i := 2) rfl rfl rfl Z25 rfl rfl) (fun _ => oq_ (q_asg rfl) (o_end (za1 (c_seq (za0 ?_))))))))))
   refine oq_ (q_asg rfl) (o_end (za1 (c_seq (za0 (oq_ (q_asg rfl) (o_end (za1 (zae (za6 h (fun o78 hl77 hR76 => ?_) rfl)))))))))
   clear h
   refine zas (σ := (List SStep) × (List Int) × Int × Int × (Option Addr) × Nat × (Option Addr) × Nat) (fun k73 ((l63, l66, i69, i70, A64, c65, A67, c68) : (List SStep) × (List Int) × Int × Int × (Option Addr) × Nat × (Option Addr) × Nat) => spec_meSliding.l0 l4 k73 l63 l66 i69 i70 = some o78) [8, 9, 27, 28, 29, 30, 31, 32, 33, 34, 35, 36, 37, 38] (fun ((l63, l66, i69, i70, A64, c65, A67, c68) : (List SStep) × (List Int) × Int × Int × (Option Addr) × Nat × (Option Addr) × Nat) => [(8, .int .i64 i69), (9, .int .i64 i70)]) (fun ((l63, l66, i69, i70, A64, c65, A67, c68) : (List SStep) × (List Int) × Int × Int × (Option Addr) × Nat × (Option Addr) × Nat) => [row kStep 107 (.slice A64 l63.length c65) l63, row (Kd.int .i64) 3 (.slice A67 l66.length c68) l66, box g10 25 #[.int .i64 1, .slice A64 l63.length c65, .slice A67 l66.length c68], row (Kd.int .i64) 3 (.slice A6 l4.length c7) l4, row (Kd.int .i64) 3 (.slice A8 l5.length c9) l5, box g1 25 #[.int .i64 0, .slice none 0 0, .slice none 0 0]]) k (l60, [], 0, 3, A61, c62, none, 0) hl77 ⟨rfl, rfl, trivial⟩ (fun w h => h) (natC (cur8 (fun l63 l66 i69 i70 A64 c65 A67 c68 => fun U79 hJ_ => ?_)) (fun k73 => (cur8 (fun l63 l66 i69 i70 A64 c65 A67 c68 => fun U79 hJ_ => ?_))))
   ·replace hJ_ : spec_meSliding.l0 l4 0 l63 l66 i69 i70 = some o78 := hJ_
    rw [spec_meSliding.l0] at hJ_
    exact noneE hJ_
   ·clear hl77
    have h := hJ_; clear hJ_
    replace h : spec_meSliding.l0 l4 (k73 + 1) l63 l66 i69 i70 = some o78 := h
    rw [spec_meSliding.l0] at h
    refine c_seq (c_seq (za0 (oq_ (za2 rfl) (oq_ (za2 rfl) (za6 h (fun i82 hx81 h => ?_) rfl)))))
    refine o_e rfl (za5 0 Z Try.func109 N109 rfl rfl rfl (fun w P1 hF hB hS hT => spec_meGreatest.calls A6 c7 l4.length l4 hB hF (hT 3 _ rfl).row (hT 3 _ rfl).cap _ hx81)) (fun _ => oq_ (q_leq rfl rfl) (o_end (za1 (zan _ rfl (fun hb83 => ?_) (fun hb83 => ?_)))))
    ·replace h := br_t hb83 h
     refine zai (za1 (c_seq (zae (za0 (oq_ (q_ldB G25 Z25 rfl (bx_ 2 rfl) rfl) (oq_ (za2 rfl) (za6 h (fun l85 hx84 h => ?_) rfl)))))))
     refine o_e rfl (za5 0 Z Try.func110 N110 rfl rfl rfl (fun w P1 hF hB hS hT => spec_meTimes.calls 1 A64 c65 l63.length l63 A67 c68 l66.length l66 i69 1 hB hF (hT 0 _ rfl).row (hT 0 _ rfl).cap (hT 1 _ rfl).row (hT 1 _ rfl).cap _ hx84)) (cur2 (fun A86 c87 => oq_ (za2 rfl) (oq_ (q_ext rfl rfl) (oq_ (q_ext rfl rfl) (o_e rfl (zac (i := 4) rfl rfl rfl Z25 rfl rfl) (fun _ => oq_ (q_asg rfl) (o_end (zaf (za1 (za0 ?_))))))))))
     refine oq_ (za2 rfl) (oq_ (zay rfl rfl) (oq_ (q_asg rfl) (o_end (x_fact (p := 0 = [].length) (fun w h => (h.row_C (i := 1) rfl).2.1) (fun hn88 => zal k73 (l85, [], w64 (1 + (l63.length : Int)), w64 (i70 + 2), A86, c87, none, 0) (Nat.lt_succ_self _) h ⟨rfl, rfl, trivial⟩ (f_pickE (L1 := [row kStep 107 (.slice A86 l85.length c87) l85, row (Kd.int .i64) 3 (.slice none 0 0) [], row kStep 107 (.slice A64 l63.length c65) l63, row (Kd.int .i64) 3 (.slice A67 l66.length c68) l66, box g10 25 #[.int .i64 1, .slice A86 l85.length c87, .slice none 0 0], row (Kd.int .i64) 3 (.slice A6 l4.length c7) l4, row (Kd.int .i64) 3 (.slice A8 l5.length c9) l5, box g1 25 #[.int .i64 0, .slice none 0 0, .slice none 0 0]]) rfl [0, 1, 4, 5, 6, 7] dc_ rfl (by (try rw [hn88]); first | done | rfl)) ?_)))))
     exact of_
    ·replace h := br_f hb83 h
     refine zax (za7 (za7 ?_))
     have e_ := si_ h; replace h := hR76; rw [← e_] at h; clear e_
     refine x_hit (zah (l63, l66, A64, c65, A67, c68) h trivial (pk_ [5, 3, 4, 2, 0, 1]) ?_)
     exact of_
  ·replace h := br_f hb58 h
   refine zai (x_nil kStep 107 (x_nil (Kd.int .i64) 3 (zah (([] : List SStep), ([] : List Int), none, 0, none, 0) h trivial (pk_ [5, 3, 4, 2, 1, 0]) ?_)))
   exact of_
 ·refine (cur6 (fun l45 l48 A46 c47 A49 c50 => fun U54 hJ55 => ?_))
  have e_ := si_ hJ55; have h := hR53; rw [← e_] at h; clear e_ hJ55 hR53 hl52
  refine c_seq (za0 (oq_ (za2 rfl) (zaw (p := Sh A6 l4.length l4.length) (fun w h => f_sh (dk := (Kd.int .i64)) h (rc_ 1 rfl)) (fun hq89 => za6 h (fun y91 hg90 h => ?_) rfl))))
  refine oq_ (q_ix Try.underlying23 Z3 rfl rfl hq89 hg90) (oq_ (q_lde (off := 0) Y3 rfl rfl (rc_ 1 rfl) hg90 (fun _ _ h => h) rfl) (za6 h (fun i93 hx92 h => ?_) rfl))
  refine o_e rfl (za5 0 Z Try.func120 N120 rfl rfl rfl (fun w P1 hF hB hS hT => spec_meOdd.calls y91 hB hF _ hx92)) (fun _ => oq_ (q_asg rfl) (o_end (za1 (c_seq (c_seq (za0 (oq_ (q_asg rfl) (o_end (za1 ?_)))))))))
  refine zae (za6 h (fun o109 hl108 hR107 => ?_) rfl)
  clear h
  refine zas (σ := (List SStep) × (List Int) × Int × Int × (Option Addr) × Nat × (Option Addr) × Nat) (fun k104 ((l94, l97, i100, i101, A95, c96, A98, c99) : (List SStep) × (List Int) × Int × Int × (Option Addr) × Nat × (Option Addr) × Nat) => spec_meSliding.l1 k l4 l5 k104 l94 l97 i100 i101 = some o109) [8, 10, 11, 43, 44, 45, 46, 47, 48, 49, 50, 51, 52, 53, 54, 55, 56, 57, 58, 59, 60, 61, 62, 63, 64, 65, 66, 67, 68, 69, 70, 71, 72, 73, 74, 75, 76, 77, 78, 79] (fun ((l94, l97, i100, i101, A95, c96, A98, c99) : (List SStep) × (List Int) × Int × Int × (Option Addr) × Nat × (Option Addr) × Nat) => [(8, .int .i64 i101), (10, .int .i64 i100)]) (fun ((l94, l97, i100, i101, A95, c96, A98, c99) : (List SStep) × (List Int) × Int × Int × (Option Addr) × Nat × (Option Addr) × Nat) => [box g1 25 #[.int .i64 0, .slice none 0 0, .slice none 0 0], row (Kd.int .i64) 3 (.slice A6 l4.length c7) l4, row (Kd.int .i64) 3 (.slice A8 l5.length c9) l5, box g10 25 #[.int .i64 1, .slice A95 l94.length c96, .slice A98 l97.length c99], row kStep 107 (.slice A95 l94.length c96) l94, row (Kd.int .i64) 3 (.slice A98 l97.length c99) l97]) k (l45, l48, 1, i93, A46, c47, A49, c50) hl108 ⟨rfl, rfl, trivial⟩ (fun w h => h) (natC (cur8 (fun l94 l97 i100 i101 A95 c96 A98 c99 => fun U110 hJ_ => ?_)) (fun k104 => (cur8 (fun l94 l97 i100 i101 A95 c96 A98 c99 => fun U110 hJ_ => ?_))))
  ·replace hJ_ : spec_meSliding.l1 k l4 l5 0 l94 l97 i100 i101 = some o109 := hJ_
   rw [spec_meSliding.l1] at hJ_
   exact noneE hJ_
  ·clear hl108
   have h := hJ_; clear hJ_
   replace h : spec_meSliding.l1 k l4 l5 (k104 + 1) l94 l97 i100 i101 = some o109 := h
   rw [spec_meSliding.l1] at h
   refine c_seq (c_seq (za0 (oq_ (za2 rfl) (oq_ (za2 rfl) (oq_ (q_len Try.underlying23 rfl) (oq_ (q_lss rfl rfl) (o_end (za1 (zan _ rfl (fun hb112 => ?_) (fun hb112 => ?_))))))))))
   ·replace h := br_t hb112 h
    refine zai (za1 (c_seq (zae (c_seq (c_seq (za0 (oq_ (q_asg rfl) (o_end (za1 ?_)))))))))
    refine zae (za6 h (fun o128 hl127 hR126 => ?_) rfl)
    clear h
    refine zas (σ := (List SStep) × (List Int) × Int × Int × (Option Addr) × Nat × (Option Addr) × Nat) (fun k123 ((l113, l116, i119, i120, A114, c115, A117, c118) : (List SStep) × (List Int) × Int × Int × (Option Addr) × Nat × (Option Addr) × Nat) => spec_meSliding.l2 l5 i100 k123 l113 l116 i119 i120 = some o128) [8, 11, 49, 50, 51, 52, 53, 54, 55, 56, 57, 58, 59, 60, 61, 62, 63] (fun ((l113, l116, i119, i120, A114, c115, A117, c118) : (List SStep) × (List Int) × Int × Int × (Option Addr) × Nat × (Option Addr) × Nat) => [(8, .int .i64 i120), (11, .int .i64 i119)]) (fun ((l113, l116, i119, i120, A114, c115, A117, c118) : (List SStep) × (List Int) × Int × Int × (Option Addr) × Nat × (Option Addr) × Nat) => [box g1 25 #[.int .i64 0, .slice none 0 0, .slice none 0 0], row (Kd.int .i64) 3 (.slice A6 l4.length c7) l4, row (Kd.int .i64) 3 (.slice A8 l5.length c9) l5, box g10 25 #[.int .i64 1, .slice A114 l113.length c115, .slice A117 l116.length c118], row kStep 107 (.slice A114 l113.length c115) l113, row (Kd.int .i64) 3 (.slice A117 l116.length c118) l116]) k (l94, l97, 0, i101, A95, c96, A98, c99) hl127 ⟨rfl, rfl, trivial⟩ (fun w h => h) (natC (cur8 (fun l113 l116 i119 i120 A114 c115 A117 c118 => fun U129 hJ_ => ?_)) (fun k123 => (cur8 (fun l113 l116 i119 i120 A114 c115 A117 c118 => fun U129 hJ_ => ?_))))
    ·replace hJ_ : spec_meSliding.l2 l5 i100 0 l113 l116 i119 i120 = some o128 := hJ_
     rw [spec_meSliding.l2] at hJ_
     exact noneE hJ_
    ·clear hl127
     have h := hJ_; clear hJ_
     replace h : spec_meSliding.l2 l5 i100 (k123 + 1) l113 l116 i119 i120 = some o128 := h
     rw [spec_meSliding.l2] at h
     refine c_seq (c_seq (za0 (oq_ (za2 rfl) (oq_ (za2 rfl) (oq_ (za2 rfl) (zaw (p := Sh A8 l5.length l5.length) (fun w h => f_sh (dk := (Kd.int .i64)) h (rc_ 2 rfl)) (fun hq131 => za6 h (fun y133 hg132 h => ?_) rfl)))))))
     refine oq_ (q_ix Try.underlying23 Z3 rfl rfl hq131 hg132) (oq_ (q_lde (off := 0) Y3 rfl rfl (rc_ 2 rfl) hg132 (fun _ _ h => h) rfl) (oq_ (q_lss rfl rfl) (o_end (za1 (zan _ rfl (fun hb134 => ?_) (fun hb134 => ?_))))))
     ·replace h := br_t hb134 h
      refine zai (za1 (c_seq (zae (za0 (oq_ (q_ldB G25 Z25 rfl (bx_ 3 rfl) rfl) (oq_ (za2 rfl) (oq_ (za2 rfl) (za6 h (fun l136 hx135 h => ?_) rfl))))))))
      refine o_e rfl (za5 0 Z Try.func110 N110 rfl rfl rfl (fun w P1 hF hB hS hT => spec_meTimes.calls 1 A114 c115 l113.length l113 A117 c118 l116.length l116 i120 i120 hB hF (hT 4 _ rfl).row (hT 4 _ rfl).cap (hT 5 _ rfl).row (hT 5 _ rfl).cap _ hx135)) (cur2 (fun A137 c138 => oq_ (za2 rfl) (oq_ (q_ext rfl rfl) (oq_ (q_ext rfl rfl) (o_e rfl (zac (i := 5) rfl rfl rfl Z25 rfl rfl) (fun _ => oq_ (q_asg rfl) (o_end (zaf (za1 (za0 ?_))))))))))
      refine oq_ (za2 rfl) (oq_ (zay rfl rfl) (oq_ (q_asg rfl) (o_end (x_fact (p := 0 = [].length) (fun w h => (h.row_C (i := 1) rfl).2.1) (fun hn139 => zal k123 (l136, [], w64 (i119 + 1), w64 (1 + (l113.length : Int)), A137, c138, none, 0) (Nat.lt_succ_self _) h ⟨rfl, rfl, trivial⟩ (f_pickE (L1 := [row kStep 107 (.slice A137 l136.length c138) l136, row (Kd.int .i64) 3 (.slice none 0 0) [], box g1 25 #[.int .i64 0, .slice none 0 0, .slice none 0 0], row (Kd.int .i64) 3 (.slice A6 l4.length c7) l4, row (Kd.int .i64) 3 (.slice A8 l5.length c9) l5, box g10 25 #[.int .i64 1, .slice A137 l136.length c138, .slice none 0 0], row kStep 107 (.slice A114 l113.length c115) l113, row (Kd.int .i64) 3 (.slice A117 l116.length c118) l116]) rfl [2, 3, 4, 5, 0, 1] dc_ rfl (by (try rw [hn139]); first | done | rfl)) ?_)))))
      exact of_
     ·replace h := br_f hb134 h
      refine zax (za7 (za7 ?_))
      have e_ := si_ h; replace h := hR126; rw [← e_] at h; clear e_
      refine x_hit (za1 (c_seq (za0 (oq_ (za2 rfl) (oq_ (za2 rfl) (za6 h (fun y141 hg140 h => ?_) rfl))))))
      refine oq_ (q_ix Try.underlying23 Z3 rfl rfl hq89 hg140) (oq_ (q_lde (off := 0) Y3 rfl rfl (rc_ 1 rfl) hg140 (fun _ _ h => h) rfl) (oq_ (q_gtr rfl rfl) (o_end (za1 (zan _ rfl (fun hb142 => ?_) (fun hb142 => ?_))))))
      ·replace h := br_t hb142 h
       refine za6 h (fun y385 hg384 h => ?_) rfl
       refine za6 h (fun i505 hx504 h => ?_) rfl
       refine za6 h (fun l565 hx564 h => ?_) rfl
       refine a_startS (ds := []) [some 0, some 1, some 2, none, some 4, some 5] MO rfl (ap_ 1 rfl (za2 rfl) (ap_ 2 rfl (za2 rfl) (ap_ 3 rfl (za2 rfl) (ap_ 4 rfl (q_ix Try.underlying23 Z3 rfl rfl hq89 hg384) (at_2 5 rfl (sm_ [some 0, some 1, some 2, none, some 4, some 5]) (q_lde (off := 0) Y3 rfl rfl (rc_ 1 rfl) hg384 (fun _ _ h => h) rfl) (a_two 0 6 rfl rfl rfl rfl kr_ rfl rfl (ev_q rfl (q_ldB G25 Z25 rfl (bx_ 3 rfl) rfl)) (sl_ [some 0, some 1, some 2, none, some 4, some 5]) (za5 0 Z Try.func120 N120 rfl rfl rfl (fun w P1 hF hB hS hT => spec_meOdd.calls y385 hB hF _ hx504)) (sl_ [some 0, some 1, some 2, none, some 4, some 5]) (fun _ => ?_) (fun _ => ?_)))))))
       ·refine a1_ 6 rfl (za5 0 Z Try.func120 N120 rfl rfl rfl (fun w P1 hF hB hS hT => spec_meOdd.calls y385 hB hF _ hx504)) (sl_ [some 0, some 1, some 2, none, some 4, some 5]) (fun _ => a1_ 7 rfl (za5 0 Z Try.func110 N110 rfl rfl rfl (fun w P1 hF hB hS hT => spec_meTimes.calls 1 A114 c115 l113.length l113 A117 c118 l116.length l116 i120 i505 hB hF (hT 4 _ rfl).row (hT 4 _ rfl).cap (hT 5 _ rfl).row (hT 5 _ rfl).cap _ hx564)) (sl_ [some 2, some 3, some 4, none, some 6, some 7]) (cur2 (fun A566 c567 => ap_ 8 rfl (za2 rfl) (ap_ 9 rfl (q_ext rfl rfl) (ap_ 10 rfl (q_ext rfl rfl) (a1_ 11 rfl (zac (i := 5) rfl rfl rfl Z25 rfl rfl) (sl_ [some 2, some 3, some 4, none, some 6, some 7]) (fun _ => ap_ 12 rfl (q_asg rfl) (zaj kr_ (zaf (za1 ?_))))))))))
        refine za0 (oq_ (za2 rfl) (oq_ (zay rfl rfl) (oq_ (q_asg rfl) (o_end (x_fact (p := 0 = [].length) (fun w h => (h.row_C (i := 1) rfl).2.1) (fun hn984 => zal k104 (l565, [], w64 (i100 + 1), w64 (1 + (l113.length : Int)), A566, c567, none, 0) (Nat.lt_succ_self _) h ⟨rfl, rfl, trivial⟩ (f_pickE (L1 := [row kStep 107 (.slice A566 l565.length c567) l565, row (Kd.int .i64) 3 (.slice none 0 0) [], box g1 25 #[.int .i64 0, .slice none 0 0, .slice none 0 0], row (Kd.int .i64) 3 (.slice A6 l4.length c7) l4, row (Kd.int .i64) 3 (.slice A8 l5.length c9) l5, box g10 25 #[.int .i64 1, .slice A566 l565.length c567, .slice none 0 0], row kStep 107 (.slice A114 l113.length c115) l113, row (Kd.int .i64) 3 (.slice A117 l116.length c118) l116]) rfl [2, 3, 4, 5, 0, 1] dc_ rfl (by (try rw [hn984]); first | done | rfl)) ?_))))))
        exact of_
       ·refine a1_ 0 rfl (ev_q rfl (q_ldB G25 Z25 rfl (bx_ 3 rfl) rfl)) (sl_ [some 0, some 1, some 2, none, some 4, some 5]) (fun _ => a1_ 7 rfl (za5 0 Z Try.func110 N110 rfl rfl rfl (fun w P1 hF hB hS hT => spec_meTimes.calls 1 A114 c115 l113.length l113 A117 c118 l116.length l116 i120 i505 hB hF (hT 4 _ rfl).row (hT 4 _ rfl).cap (hT 5 _ rfl).row (hT 5 _ rfl).cap _ hx564)) (sl_ [some 2, some 3, some 4, none, some 6, some 7]) (cur2 (fun A566 c567 => ap_ 8 rfl (za2 rfl) (ap_ 9 rfl (q_ext rfl rfl) (ap_ 10 rfl (q_ext rfl rfl) (a1_ 11 rfl (zac (i := 5) rfl rfl rfl Z25 rfl rfl) (sl_ [some 2, some 3, some 4, none, some 6, some 7]) (fun _ => ap_ 12 rfl (q_asg rfl) (zaj kr_ (zaf (za1 ?_))))))))))
        refine za0 (oq_ (za2 rfl) (oq_ (zay rfl rfl) (oq_ (q_asg rfl) (o_end (x_fact (p := 0 = [].length) (fun w h => (h.row_C (i := 1) rfl).2.1) (fun hn984 => zal k104 (l565, [], w64 (i100 + 1), w64 (1 + (l113.length : Int)), A566, c567, none, 0) (Nat.lt_succ_self _) h ⟨rfl, rfl, trivial⟩ (f_pickE (L1 := [row kStep 107 (.slice A566 l565.length c567) l565, row (Kd.int .i64) 3 (.slice none 0 0) [], box g1 25 #[.int .i64 0, .slice none 0 0, .slice none 0 0], row (Kd.int .i64) 3 (.slice A6 l4.length c7) l4, row (Kd.int .i64) 3 (.slice A8 l5.length c9) l5, box g10 25 #[.int .i64 1, .slice A566 l565.length c567, .slice none 0 0], row kStep 107 (.slice A114 l113.length c115) l113, row (Kd.int .i64) 3 (.slice A117 l116.length c118) l116]) rfl [2, 3, 4, 5, 0, 1] dc_ rfl (by (try rw [hn984]); first | done | rfl)) ?_))))))
        exact of_
      ·replace h := br_f hb142 h
       refine zai (zaf (za1 (za0 (oq_ (za2 rfl) (oq_ (zay rfl rfl) (oq_ (q_asg rfl) (o_end (zal k104 (l113, l116, w64 (i100 + 1), i120, A114, c115, A117, c118) (Nat.lt_succ_self _) h ⟨rfl, rfl, trivial⟩ (pk_ [0, 1, 2, 3, 4, 5]) ?_))))))))
       exact of_
   ·replace h := br_f hb112 h
    refine zax (za7 (za7 ?_))
    have e_ := si_ h; replace h := hR107; rw [← e_] at h; clear e_
    refine x_hit (za1 (c_seq (za0 (oq_ (q_ldB G25 Z25 rfl (bx_ 3 rfl) rfl) (oq_ (za2 rfl) (o_pick [4, 0, 1, 2, 3, 5] dc_ rfl (za6 h (fun _ hx985 h => ?_) rfl)))))))
    refine o_e rfl (za5 1 Z Try.func112 N112 rfl rfl rfl (fun w P1 hF hB hS hT => spec_meEnd.calls 1 A95 c96 l94.length l94 A98 c99 l97.length l97 i101 hB hF (hT 4 _ rfl).row (hT 4 _ rfl).cap hx985)) (cur2 (fun A986 c987 => bindE2 h (fun l989 l990 hx988 h => ?_) rfl))
    refine o_e rfl (za5 0 Z Try.func111 N111 rfl rfl rfl (fun w P1 hF hB hS hT => spec_meTrim.calls k 1 A95 c96 l94.length l94 A986 c987 (([i101] : List Int).length) ([i101] : List Int) hB hF (hT 0 _ rfl).row (hT 0 _ rfl).cap (hT 1 _ rfl).row (hT 1 _ rfl).cap _ _ hx988)) (cur4 (fun A991 c992 A993 c994 => o_e rfl (zac (i := 4) rfl rfl rfl Z25 rfl rfl) (fun _ => o_end (za1 (c_ret ?_)))))
    have e0_ := si_ h; clear h
    obtain ⟨rfl, e1_⟩ := Prod.mk.inj e0_
    subst e1_
    exact x_r1 (A991, c992, A993, c994) Try.results66 (zb0 rfl G25 Z25 (bx_ 4 rfl) rfl) rfl (pk_ [0, 1])

def spec_meFactor.l0 (a0 : Int) : Nat → Int → Option ((Int) ⊕ (Unit))
 | 0, _ => none
 | k4 + 1, i1 => if w64 (i1 * i1) ≤ a0 then ((nz i1).bind fun _ => if a0.tmod i1 = 0 then (some (.inl i1)) else (spec_meFactor.l0 a0 k4 (w64 (i1 + 1)))) else (some (.inr ()))
def spec_meFactor.f (k : Nat) (a0 : Int) : Option Int := (spec_meFactor.l0 a0 k 2).bind fun o_ => match o_ with | .inl r_ => some r_ | .inr _ => some a0
theorem spec_meFactor.calls (k : Nat) {w0 ws : World} {P0 : Nat → Prop} (a0 : Int) (Z : Below w0.heap.size w0 ws) (hF : Fr w0 ws P0 [] ws)  (r_1 : Int) (h : spec_meFactor.f k a0 = some r_1) :
  Calls Try.prog 150 #[.int .i64 a0] ws (Post1 w0 ws P0 (fun (_ : Unit) => .int .i64 r_1) (fun (_ : Unit) => [])) := by
 unfold spec_meFactor.f at h
 refine enter Try.func150 rfl Try.ntmps150 rfl hF (c_seq (za0 (oq_ (q_asg rfl) (o_end (za1 (c_seq (c_seq (za0 (oq_ (q_asg rfl) ?_)))))))))
 refine o_end (za1 (zae (za6 h (fun o9 hl8 hR7 => ?_) rfl)))
 clear h
 refine zas (σ := Int) (fun k4 (i1 : Int) => spec_meFactor.l0 a0 k4 i1 = some o9) [2, 3, 4, 5, 6, 7, 8, 9, 10, 11, 12, 13, 14, 15] (fun (i1 : Int) => [(3, .int .i64 i1)]) (fun (i1 : Int) => []) k 2 hl8 ⟨rfl, trivial⟩ (fun w h => h) (natC (fun i1 => fun U10 hJ_ => ?_) (fun k4 => (fun i1 => fun U10 hJ_ => ?_)))
 ·replace hJ_ : spec_meFactor.l0 a0 0 i1 = some o9 := hJ_
  rw [spec_meFactor.l0] at hJ_
  exact noneE hJ_
 ·clear hl8
  have h := hJ_; clear hJ_
  replace h : spec_meFactor.l0 a0 (k4 + 1) i1 = some o9 := h
  rw [spec_meFactor.l0] at h
  refine c_seq (c_seq (za0 (oq_ (za2 rfl) (oq_ (za2 rfl) (oq_ (q_mul64 rfl rfl) (oq_ (za2 rfl) (oq_ (q_leq rfl rfl) (o_end (za1 ?_)))))))))
  refine zan _ rfl (fun hb12 => ?_) (fun hb12 => ?_)
  ·replace h := br_t hb12 h
   refine zai (za1 (c_seq (zae (c_seq (za0 (oq_ (za2 rfl) (oq_ (za2 rfl) (za6 h (fun _ hz13 h => ?_) rfl))))))))
   refine oq_ (q_rem rfl rfl (nz_ne hz13)) (oq_ (q_eql rfl rfl) (o_end (za1 (zan _ rfl (fun hb14 => ?_) (fun hb14 => ?_)))))
   ·replace h := br_t hb14 h
    refine c_seq (za0 (oq_ (za2 rfl) (oq_ (q_asg rfl) (o_end (za1 (c_ret (zao (zaa (zaa ?_)))))))))
    have e_ := si_ h; replace h := hR7; rw [← e_] at h; clear e_
    refine zao (zaa ?_)
    have e0_ := si_ h; clear h
    subst e0_
    exact x_r1 () Try.results150 (zad rfl) rfl (pk_ [])
   ·replace h := br_f hb14 h
    refine zai (zaf (za1 (za0 (oq_ (za2 rfl) (oq_ (zay rfl rfl) (oq_ (q_asg rfl) (o_end (zal k4 (w64 (i1 + 1)) (Nat.lt_succ_self _) h ⟨rfl, trivial⟩ (pk_ []) ?_))))))))
    exact of_
  ·replace h := br_f hb12 h
   refine zax (za7 (za7 ?_))
   have e_ := si_ h; replace h := hR7; rw [← e_] at h; clear e_
   refine x_hit (za1 (c_seq (za0 (oq_ (za2 rfl) (oq_ (q_asg rfl) (o_end (za1 (c_ret ?_))))))))
   have e0_ := si_ h; clear h
   subst e0_
   exact x_r1 () Try.results150 (zad rfl) rfl (pk_ [])

def spec_plThen.l1 (l14 : List Int) : (List Int) → (List Int) → Int → Option (List Int)
 | [], l32, i35 => some l32
 | y36 :: ys37, l32, i35 => (gt l14 y36).bind fun y49 => (ap l32 ([y49] : List Int)).bind fun l53 => spec_plThen.l1 l14 ys37 l53 (i35 + 1)
def spec_plThen.l0 (a1 : Int) : (List SStep) → (List Int) → (List SStep) → Int → Option ((List Int) × (List SStep))
 | [], l14, l17, i20 => some (l14, l17)
 | y21 :: ys22, l14, l17, i20 => (gt l14 y21.f0).bind fun y62 => (gt l14 y21.f1).bind fun y64 => (spec_plStep.f y62 y64).bind fun z66 => (ap l17 ([z66] : List SStep)).bind fun l70 => (ap l14 ([w64 (w64 (a1 + (l70.length : Int)) - 1)] : List Int)).bind fun l77 => spec_plThen.l0 a1 ys22 l77 l70 (i20 + 1)
def spec_plThen.f (l0 : List SStep) (a1 : Int) (a2_0 : Int) (l2_1 : List SStep) (l2_2 : List Int) (l3 : List Int) : Option ((List SStep) × (List Int)) := (spec_l1Own.f l3).bind fun l4 => (ap ([] : List SStep) l0).bind fun l10 => (spec_plThen.l0 a1 l2_1 l4 l10 0).bind fun (l14, l17) => (spec_plThen.l1 l14 l2_2 ([] : List Int) 0).bind fun l32 => some (l17, l32)
theorem spec_plThen.calls {w0 ws : World} {P0 : Nat → Prop} (A0 : Option Addr) (c0 : Nat) (n0 : Nat) (l0 : List SStep) (a1 : Int) (a2_0 : Int) (A2_1 : Option Addr) (c2_1 : Nat) (n2_1 : Nat) (l2_1 : List SStep) (A2_2 : Option Addr) (c2_2 : Nat) (n2_2 : Nat) (l2_2 : List Int) (A3 : Option Addr) (c3 : Nat) (n3 : Nat) (l3 : List Int) (Z : Below w0.heap.size w0 ws) (hF : Fr w0 ws P0 [] ws) (R0 : Stable ws P0 (fun w => Kd.C kStep w A0 n0 l0)) (hc0 : n0 ≤ c0) (R2_1 : Stable ws P0 (fun w => Kd.C kStep w A2_1 n2_1 l2_1)) (hc2_1 : n2_1 ≤ c2_1) (R2_2 : Stable ws P0 (fun w => Kd.C (Kd.int .i64) w A2_2 n2_2 l2_2)) (hc2_2 : n2_2 ≤ c2_2) (R3 : Stable ws P0 (fun w => Kd.C (Kd.int .i64) w A3 n3 l3)) (hc3 : n3 ≤ c3) (r_1 : List SStep) (r_4 : List Int) (h : spec_plThen.f l0 a1 a2_0 l2_1 l2_2 l3 = some (r_1, r_4)) :
  Calls Try.prog 151 #[.slice A0 n0 c0, .int .i64 a1, .agg #[.int .i64 a2_0, .slice A2_1 n2_1 c2_1, .slice A2_2 n2_2 c2_2], .slice A3 n3 c3] ws (Post1 w0 ws P0 (fun ((q_2, q_3, q_5, q_6) : (Option Addr) × Nat × (Option Addr) × Nat) => .tuple #[.slice q_2 r_1.length q_3, .slice q_5 r_4.length q_6]) (fun ((q_2, q_3, q_5, q_6) : (Option Addr) × Nat × (Option Addr) × Nat) => [row kStep 107 (.slice q_2 r_1.length q_3) r_1, row (Kd.int .i64) 3 (.slice q_5 r_4.length q_6) r_4])) := by
 unfold spec_plThen.f at h
 obtain rfl := (R0 ws (KeptB.refl _ _)).1
 obtain rfl := (R2_1 ws (KeptB.refl _ _)).1
 obtain rfl := (R2_2 ws (KeptB.refl _ _)).1
 obtain rfl := (R3 ws (KeptB.refl _ _)).1
 refine enter Try.func151 rfl Try.ntmps151 rfl hF (c_seq (za0 (o_e rfl (e_box rfl) (fun g1 => oq_ (q_asg rfl) (oq_ (q_asg rfl) (o_end (za1 (c_seq (za0 ?_)))))))))
 refine oq_ (za2 rfl) (za6 h (fun l4 hx3 h => ?_) rfl)
 refine o_e rfl (za5 0 Z Try.func98 N98 rfl rfl rfl (fun w P1 hF hB hS hT => spec_l1Own.calls A3 c3 l3.length l3 hB hF (hS _ R3) hc3 _ hx3)) (cur2 (fun A5 c6 => oq_ (q_asg rfl) (o_end (za1 (c_seq (za0 (o_e rfl (e_lit0 kStep Try.underlying22 I107) (cur2 (fun A7 c8 => oq_ (za2 rfl) (za6 h (fun l10 ha11 h => ?_) rfl))))))))))
 refine o_e rfl (e_appr (i := 0) Try.underlying22 I107 rfl dc_ dc_ (fun _ _ _ _ h => h) rfl (fun w h => R0.now Z h) rfl rfl ha11) (cur2 (fun A12 c13 => oq_ (q_asg rfl) (o_end (za1 (c_seq (c_seq (za0 (oq_ (q_f F25_1 rfl) (oq_ (q_ldb Y22 rfl (bx_ 2 rfl) rfl) (oq_ (q_len Try.underlying22 rfl) ?_))))))))))
 refine oq_ (za2 rfl) (o_end (za1 (zae (za6 h (fun o28 hl27 hR26 => ?_) rfl))))
 clear h
 refine c_fact (p := l2_1.length ≤ 9223372036854775807) (fun w h => (R2_1.now Z h).2.1) (fun hm25 => zas (σ := (List SStep) × (List Int) × (List SStep) × Int × (Option Addr) × Nat × (Option Addr) × Nat) (fun k23 ((ys22, l14, l17, i20, A15, c16, A18, c19) : (List SStep) × (List Int) × (List SStep) × Int × (Option Addr) × Nat × (Option Addr) × Nat) => Rg l2_1 i20 ys22 ∧ ys22.length = k23 ∧ spec_plThen.l0 a1 ys22 l14 l17 i20 = some o28) [10, 11, 13, 25, 26, 27, 28, 29, 30, 31, 32, 33, 34, 35, 36, 37, 38, 39, 40, 41, 42, 43, 44, 45, 46, 47, 48, 49, 50, 51] (fun ((ys22, l14, l17, i20, A15, c16, A18, c19) : (List SStep) × (List Int) × (List SStep) × Int × (Option Addr) × Nat × (Option Addr) × Nat) => [(10, .slice A15 l14.length c16), (11, .slice A18 l17.length c19), (25, .int .i64 i20)]) (fun ((ys22, l14, l17, i20, A15, c16, A18, c19) : (List SStep) × (List Int) × (List SStep) × Int × (Option Addr) × Nat × (Option Addr) × Nat) => [row kStep 107 (.slice A18 l17.length c19) l17, row (Kd.int .i64) 3 (.slice A15 l14.length c16) l14, box g1 25 #[.int .i64 a2_0, .slice A2_1 l2_1.length c2_1, .slice A2_2 l2_2.length c2_2]]) l2_1.length (l2_1, l4, l10, 0, A5, c6, A12, c13) ⟨Rg.start _, rfl, hl27⟩ ⟨rfl, rfl, rfl, trivial⟩ (fun w h => h) (fun k23 => cur8 (listC (fun l14 l17 i20 A15 c16 A18 c19 U29 hJ_ => ?_) (fun y21 ys22 l14 l17 i20 A15 c16 A18 c19 U29 hJ_ => ?_))))
 ·clear hl27
  have hr24 := hJ_.1; have hk30 := hJ_.2.1; have h := hJ_.2.2; clear hJ_
  replace h : spec_plThen.l0 a1 [] l14 l17 i20 = some o28 := h
  rw [spec_plThen.l0] at h
  refine c_seq (za0 (oq_ (q_lss rfl rfl) (o_end (za1 (c_seq (zaz (vb_ hr24.ge) (zax (za7 (za7 ?_)))))))))
  have e_ := si_ h; replace h := hR26; rw [← e_] at h; clear e_
  refine x_hit (za1 (c_seq (za0 (oq_ (q_asg rfl) (o_end (za1 (c_seq (c_seq (za0 ?_)))))))))
  refine oq_ (q_f F25_2 rfl) (oq_ (q_ldb Y23 rfl (bx_ 2 rfl) rfl) (oq_ (q_len Try.underlying23 rfl) (oq_ (za2 rfl) (o_end (za1 (zae (c_nil (Kd.int .i64) 3 (za6 h (fun o43 hl42 hR41 => ?_) rfl))))))))
  clear h
  refine c_fact (p := l2_2.length ≤ 9223372036854775807) (fun w h => (R2_2.now Z h).2.1) (fun hm40 => zas (σ := (List Int) × (List Int) × Int × (Option Addr) × Nat) (fun k38 ((ys37, l32, i35, A33, c34) : (List Int) × (List Int) × Int × (Option Addr) × Nat) => Rg l2_2 i35 ys37 ∧ ys37.length = k38 ∧ spec_plThen.l1 l14 ys37 l32 i35 = some o43) [14, 16, 55, 56, 57, 58, 59, 60, 61, 62, 63, 64, 65, 66] (fun ((ys37, l32, i35, A33, c34) : (List Int) × (List Int) × Int × (Option Addr) × Nat) => [(14, .slice A33 l32.length c34), (55, .int .i64 i35)]) (fun ((ys37, l32, i35, A33, c34) : (List Int) × (List Int) × Int × (Option Addr) × Nat) => [row (Kd.int .i64) 3 (.slice A33 l32.length c34) l32, row kStep 107 (.slice A18 l17.length c19) l17, row (Kd.int .i64) 3 (.slice A15 l14.length c16) l14, box g1 25 #[.int .i64 a2_0, .slice A2_1 l2_1.length c2_1, .slice A2_2 l2_2.length c2_2]]) l2_2.length (l2_2, ([] : List Int), 0, none, 0) ⟨Rg.start _, rfl, hl42⟩ ⟨rfl, rfl, trivial⟩ (fun w h => h) (fun k38 => cur5 (listC (fun l32 i35 A33 c34 U44 hJ_ => ?_) (fun y36 ys37 l32 i35 A33 c34 U44 hJ_ => ?_))))
  ·clear hl42
   have hr39 := hJ_.1; have hk45 := hJ_.2.1; have h := hJ_.2.2; clear hJ_
   replace h : spec_plThen.l1 l14 [] l32 i35 = some o43 := h
   rw [spec_plThen.l1] at h
   refine c_seq (za0 (oq_ (q_lss rfl rfl) (o_end (za1 (c_seq (zaz (vb_ hr39.ge) (zax (za7 (za7 ?_)))))))))
   have e_ := si_ h; replace h := hR41; rw [← e_] at h; clear e_
   refine x_hit (za1 (c_seq (za0 (oq_ (za2 rfl) (oq_ (za2 rfl) (oq_ (q_asg rfl) (oq_ (q_asg rfl) (o_end (za1 ?_)))))))))
   refine c_ret ?_
   have e0_ := si_ h; clear h
   obtain ⟨rfl, e1_⟩ := Prod.mk.inj e0_
   subst e1_
   exact x_r2 (A18, c19, A33, c34) Try.results151 (zad rfl) (zad rfl) rfl (pk_ [1, 0])
  ·clear hl42
   have hr39 := hJ_.1; have hk45 := hJ_.2.1; have h := hJ_.2.2; clear hJ_
   replace h : spec_plThen.l1 l14 (y36 :: ys37) l32 i35 = some o43 := h
   rw [spec_plThen.l1] at h
   refine c_seq (za0 (oq_ (q_lss rfl rfl) (o_end (za1 (c_seq (zar (vb_ hr39.lt) (zai (za1 (c_seq ?_)))))))))
   refine zae (c_seq (za0 (zaw (p := Sh A2_2 l2_2.length l2_2.length) (fun w h => f_sh (dk := (Kd.int .i64)) h (fun w h => R2_2.now Z h)) (fun hq46 => oq_ (q_ix Try.underlying23 Z3 rfl rfl hq46 hr39.get) (oq_ (q_lde (off := 0) Y3 rfl rfl (fun w h => R2_2.now Z h) hr39.get (fun _ _ h => h) rfl) (oq_ (q_asg rfl) (o_end (za1 (za0 ?_)))))))))
   refine oq_ (za2 rfl) (oq_ (za2 rfl) (oq_ (za2 rfl) (zaw (p := Sh A15 l14.length l14.length) (fun w h => f_sh (dk := (Kd.int .i64)) h (rc_ 2 rfl)) (fun hq47 => za6 h (fun y49 hg48 h => ?_) rfl))))
   refine oq_ (q_ix Try.underlying23 Z3 rfl rfl hq47 hg48) (oq_ (q_lde (off := 0) Y3 rfl rfl (rc_ 2 rfl) hg48 (fun _ _ h => h) rfl) (o_e rfl (e_lit (vs := [(0, .int .i64 y49)]) (cs := [.int .i64 y49]) (Kd.int .i64) ([y49] : List Int) Try.underlying23 I3 dc_ rfl dc_ rfl rfl (fun _ _ => Kd.za8 _)) (cur2 (fun A50 c51 => za6 h (fun l53 ha54 h => ?_) rfl))))
   refine o_e rfl (e_app (i := 1) (j := 0) Try.underlying23 I3 rfl dc_ dc_ rfl rfl rfl rfl rfl ha54) (cur2 (fun A55 c56 => oq_ (q_asg rfl) (o_end (zaf (za1 (za0 (oq_ (q_up rfl rfl (hr39.up hm40)) (oq_ (za2 rfl) (o_end (zal ys37.length (ys37, l53, i35 + 1, A55, c56) (by rw [← hk45]; exact Nat.lt_succ_self _) ⟨hr39.step, rfl, h⟩ ⟨rfl, rfl, trivial⟩ (pk_ [1, 2, 3, 4]) ?_))))))))))
   exact of_
 ·clear hl27
  have hr24 := hJ_.1; have hk30 := hJ_.2.1; have h := hJ_.2.2; clear hJ_
  replace h : spec_plThen.l0 a1 (y21 :: ys22) l14 l17 i20 = some o28 := h
  rw [spec_plThen.l0] at h
  refine c_seq (za0 (oq_ (q_lss rfl rfl) (o_end (za1 (c_seq (zar (vb_ hr24.lt) (zai (za1 (c_seq ?_)))))))))
  refine zae (c_seq (za0 (zaw (p := Sh A2_1 l2_1.length l2_1.length) (fun w h => f_sh (dk := kStep) h (fun w h => R2_1.now Z h)) (fun hq57 => oq_ (q_ix Try.underlying22 Z107 rfl rfl hq57 hr24.get) (oq_ (q_ldE G107 Z107 rfl rfl (fun w h => R2_1.now Z h) hr24.get (fun _ _ h => h) rfl) (o_e rfl (zab V107 rfl) (fun g58 => o_e rfl (zac (i := 0) rfl rfl rfl Z107 rfl rfl) (fun _ => o_end (za1 ?_)))))))))
  refine c_seq (a_startS (ds := []) [some 0, none, some 2, some 3] MO rfl (ap_ 0 rfl (za2 rfl) (ap_ 1 rfl (za2 rfl) (ap_ 2 rfl (q_f F107_0 rfl) (at_2 3 rfl (sm_ [some 0, none, some 2, some 3]) (q_ldb Y3 rfl (bx_ 0 rfl) rfl) (a_fact (p := Sh A15 l14.length l14.length) (fun w h => f_sh (dk := (Kd.int .i64)) h (rc_ 2 rfl)) (fun hq60 => za6 h (fun y62 hg61 h => ?_) rfl)))))))
  refine ap_ 4 rfl (q_ix Try.underlying23 Z3 rfl rfl hq60 hg61) (at_2 5 rfl (sm_ [some 0, none, some 2, some 3]) (q_lde (off := 0) Y3 rfl rfl (rc_ 2 rfl) hg61 (fun _ _ h => h) rfl) (ap_ 6 rfl (za2 rfl) (ap_ 7 rfl (q_f F107_1 rfl) (at_2 8 rfl (sm_ [some 0, none, some 2, some 3]) (q_ldb Y3 rfl (bx_ 0 rfl) rfl) (za6 h (fun y64 hg63 h => ?_) rfl)))))
  refine ap_ 9 rfl (q_ix Try.underlying23 Z3 rfl rfl hq60 hg63) (at_2 10 rfl (sm_ [some 0, none, some 2, some 3]) (q_lde (off := 0) Y3 rfl rfl (rc_ 2 rfl) hg63 (fun _ _ h => h) rfl) (za6 h (fun z66 hx65 h => ?_) rfl))
  refine a1_ 11 rfl (za5 0 Z Try.func146 N146 rfl rfl rfl (fun w P1 hF hB hS hT => spec_plStep.calls y62 y64 hB hF _ hx65)) (sl_ [some 0, none, some 2, some 3]) (fun _ => a1_ 12 rfl (e_lit (vs := [(0, .agg #[.int .i64 z66.f0, .int .i64 z66.f1])]) (cs := [.int .i64 z66.f0, .int .i64 z66.f1]) kStep ([z66] : List SStep) Try.underlying22 I107 dc_ rfl dc_ rfl rfl (fun _ _ => reps_flat _)) (sl_ [some 1, none, some 3, some 4]) (cur2 (fun A67 c68 => za6 h (fun l70 ha71 h => ?_) rfl)))
  refine a1_ 13 rfl (e_app (i := 2) (j := 0) Try.underlying22 I107 rfl dc_ dc_ rfl rfl rfl rfl rfl ha71) (sl_ [some 1, none, some 3, some 4]) (cur2 (fun A72 c73 => ap_ 14 rfl (q_asg rfl) (zaj kr_ (za1 (za0 (oq_ (za2 rfl) (oq_ (za2 rfl) (oq_ (za2 rfl) (oq_ (q_len Try.underlying22 rfl) (oq_ (zay rfl rfl) ?_))))))))))
  refine oq_ (zat rfl rfl) (o_e rfl (e_lit (vs := [(0, .int .i64 (w64 (w64 (a1 + (l70.length : Int)) - 1)))]) (cs := [.int .i64 (w64 (w64 (a1 + (l70.length : Int)) - 1))]) (Kd.int .i64) ([w64 (w64 (a1 + (l70.length : Int)) - 1)] : List Int) Try.underlying23 I3 dc_ rfl dc_ rfl rfl (fun _ _ => Kd.za8 _)) (cur2 (fun A74 c75 => za6 h (fun l77 ha78 h => ?_) rfl)))
  refine o_e rfl (e_app (i := 4) (j := 0) Try.underlying23 I3 rfl dc_ dc_ rfl rfl rfl rfl rfl ha78) (cur2 (fun A79 c80 => oq_ (q_asg rfl) (o_end (zaf (za1 (za0 (oq_ (q_up rfl rfl (hr24.up hm25)) (oq_ (za2 rfl) (o_end (zal ys22.length (ys22, l77, l70, i20 + 1, A79, c80, A72, c73) (by rw [← hk30]; exact Nat.lt_succ_self _) ⟨hr24.step, rfl, h⟩ ⟨rfl, rfl, rfl, trivial⟩ (pk_ [3, 4, 5]) ?_))))))))))
  exact of_

def spec_meFactors.f : Nat → Int → Option ((List SStep) × (List Int))
 | 0, _ => none
 | k + 1, a0 => if a0 = 1 then ((spec_meEnd.f 1 ([] : List SStep) [] 0).bind fun _ => some (([] : List SStep), ([0] : List Int))) else ((spec_meFactor.f k a0).bind fun i9 => if i9 = a0 then (((spec_meFactors.f k) (w64 (a0 - 1))).bind fun (l12, l13) => ((gt l13 0).bind fun y993 => (spec_meTimes.f 1 l12 l13 y993 0).bind fun l1112 => some l1112).bind fun l802 => (spec_meEnd.f 1 l802 [] (w64 (1 + (l12.length : Int)))).bind fun _ => some (l802, ([(w64 (1 + (l12.length : Int)))] : List Int))) else (((spec_meFactors.f k) i9).bind fun (l1595, l1596) => (nz i9).bind fun _ => ((spec_meFactors.f k) (w64 (a0.tdiv i9))).bind fun (l1605, l1606) => (spec_plThen.f l1595 1 1 l1605 l1606 l1596).bind fun (l1612, l1613) => some (l1612, l1613)))
theorem spec_meFactors.calls : ∀ (k : Nat) {w0 ws : World} {P0 : Nat → Prop} (a0 : Int) (Z : Below w0.heap.size w0 ws) (hF : Fr w0 ws P0 [] ws)  (r_1 : List SStep) (r_4 : List Int) (h : spec_meFactors.f k a0 = some (r_1, r_4)),
  Calls Try.prog 122 #[.int .i64 a0] ws (Post1 w0 ws P0 (fun ((q_2, q_3, q_5, q_6) : (Option Addr) × Nat × (Option Addr) × Nat) => .agg #[.int .i64 1, .slice q_2 r_1.length q_3, .slice q_5 r_4.length q_6]) (fun ((q_2, q_3, q_5, q_6) : (Option Addr) × Nat × (Option Addr) × Nat) => [row kStep 107 (.slice q_2 r_1.length q_3) r_1, row (Kd.int .i64) 3 (.slice q_5 r_4.length q_6) r_4])) := by
 intro k
 induction k with
 | zero =>
  intros
  rename_i h
  cases h
 | succ k ih =>
  intro w0 ws P0 a0 Z hF  r_1 r_4 h
  rw [spec_meFactors.f] at h
  refine enter Try.func122 rfl Try.ntmps122 rfl hF (c_seq (za0 (o_e rfl (zab V25 rfl) (fun g1 => o_end (za1 (c_seq (c_seq (za0 (oq_ (za2 rfl) ?_)))))))))
  refine oq_ (q_eql rfl rfl) (o_end (za1 (zan _ rfl (fun hb3 => ?_) (fun hb3 => ?_))))
  ·replace h := br_t hb3 h
   refine c_seq (za0 (oq_ (q_build (vs := [(0, .int .i64 1)]) (cs := [.int .i64 1, .slice none 0 0, .slice none 0 0]) rfl rfl) (o_nil kStep 107 (za6 h (fun _ hx4 h => ?_) rfl))))
   refine o_e rfl (za5 1 Z Try.func112 N112 rfl rfl rfl (fun w P1 hF hB hS hT => spec_meEnd.calls 1 none 0 0 ([] : List SStep) none 0 0 [] 0 hB hF (stab_nil _) (Nat.le_refl 0) hx4)) (cur2 (fun A5 c6 => o_e rfl (zac (i := 2) rfl rfl rfl Z25 rfl rfl) (fun _ => o_end (za1 (c_ret (zaa (x_fact (p := 0 = ([] : List SStep).length) (fun w h => (h.row_C (i := 0) rfl).2.1) (fun hn7 => ?_))))))))
   have e0_ := si_ h; clear h
   obtain ⟨rfl, e1_⟩ := Prod.mk.inj e0_
   subst e1_
   exact x_r1 (none, 0, A5, c6) Try.results122 (zb0 (cs := #[.int .i64 1, .slice none 0 0, .slice A5 (([0] : List Int).length) c6]) rfl G25 Z25 (bx_ 2 rfl) rfl) (by (try rw [hn7]); first | done | rfl) (f_pickE (L1 := [row kStep 107 (.slice none 0 0) ([] : List SStep), row (Kd.int .i64) 3 (.slice A5 (([0] : List Int).length) c6) ([0] : List Int), box g1 25 #[.int .i64 1, .slice none 0 0, .slice A5 (([0] : List Int).length) c6]]) rfl [0, 1] dc_ rfl (by (try rw [hn7]); first | done | rfl))
  ·replace h := br_f hb3 h
   refine zai (za1 (c_seq (za0 (oq_ (za2 rfl) (za6 h (fun i9 hx8 h => ?_) rfl)))))
   refine o_e rfl (za5 0 Z Try.func150 N150 rfl rfl rfl (fun w P1 hF hB hS hT => spec_meFactor.calls k a0 hB hF _ hx8)) (fun _ => oq_ (q_asg rfl) (o_end (za1 (c_seq (c_seq (za0 (oq_ (za2 rfl) (oq_ (za2 rfl) (oq_ (q_eql rfl rfl) ?_)))))))))
   refine o_end (za1 (zan _ rfl (fun hb10 => ?_) (fun hb10 => ?_)))
   ·replace h := br_t hb10 h
    refine c_seq (za0 (oq_ (za2 rfl) (oq_ (zat rfl rfl) (bindE2 h (fun l12 l13 hx11 h => ?_) rfl))))
    refine o_e rfl (za5 0 Z Try.func122 N122 rfl rfl rfl (fun w P1 hF hB hS hT => ih (w64 (a0 - 1)) hB hF _ _ hx11)) (cur4 (fun A14 c15 A16 c17 => o_e rfl (zab V25 rfl) (fun g18 => o_e rfl (zac (i := 0) rfl rfl rfl Z25 rfl rfl) (fun _ => o_end (za1 (za6 h (fun o805 hl806 hR807 => ?_) rfl))))))
    clear h
    refine c_cutJ (σ := (List SStep) × Nat × (Option Addr) × Nat) (fun (l802, g801, A803, c804) => some l802 = some o805) [5, 6, 22, 23, 24, 25, 26, 27, 28, 29, 30] (fun (l802, g801, A803, c804) => [(5, .pointer (some ⟨g801, 0, none⟩)), (6, .int .i64 (w64 (1 + (l12.length : Int))))]) (fun (l802, g801, A803, c804) => [box g1 25 #[.int .i64 0, .slice none 0 0, .slice none 0 0], box g801 25 #[.int .i64 1, .slice A803 l802.length c804, .slice none 0 0], row kStep 107 (.slice A803 l802.length c804) l802, row (Kd.int .i64) 3 (.slice none 0 0) [], box g18 25 #[.int .i64 1, .slice A14 l12.length c15, .slice A16 l13.length c17], row kStep 107 (.slice A14 l12.length c15) l12, row (Kd.int .i64) 3 (.slice A16 l13.length c17) l13]) ?_ ?_
    ·have h := hl806; clear hl806
     clear hR807
     refine za6 h (fun y993 hg992 h => ?_) rfl
     refine za6 h (fun l1112 hx1111 h => ?_) rfl
     refine a_start (ds := []) MO rfl (at_2 0 rfl (fun w h => h) (q_ldB G25 Z25 rfl (bx_ 0 rfl) rfl) (ap_ 1 rfl (q_f F25_2 rfl) (at_2 2 rfl (fun w h => h) (q_ldb Y23 rfl (bx_ 0 rfl) rfl) (a_fact (p := Sh A16 l13.length l13.length) (fun w h => f_sh (dk := (Kd.int .i64)) h (rc_ 2 rfl)) (fun hq991 => ap_ 3 rfl (q_ix Try.underlying23 Z3 rfl rfl hq991 hg992) (at_2 4 rfl (fun w h => h) (q_lde (off := 0) Y3 rfl rfl (rc_ 2 rfl) hg992 (fun _ _ h => h) rfl) (a_two 5 9 rfl rfl rfl rfl kr_ rfl rfl (za5 0 Z Try.func110 N110 rfl rfl rfl (fun w P1 hF hB hS hT => spec_meTimes.calls 1 A14 c15 l12.length l12 A16 c17 l13.length l13 y993 0 hB hF (hT 1 _ rfl).row (hT 1 _ rfl).cap (hT 2 _ rfl).row (hT 2 _ rfl).cap _ hx1111)) (sl_ [some 2, some 3, some 4, some 5]) (zab V25 rfl) (sl_ [some 1, some 2, some 3, some 4]) (cur2 (fun A1113 c1114 => ?_)) (fun g1351 => ?_))))))))
     ·refine ap_ 6 rfl (za2 rfl) (ap_ 7 rfl (q_ext rfl rfl) (ap_ 8 rfl (q_ext rfl rfl) (a1_ 9 rfl (zab V25 rfl) (sl_ [some 3, some 4, some 5, some 6]) (fun g1351 => a1_ 10 rfl (zac (i := 0) rfl rfl rfl Z25 rfl rfl) (sl_ [some 3, some 4, some 5, some 6]) (fun _ => ap_ 11 rfl (q_asg rfl) (zaj kr_ (zah (l1112, g1351, A1113, c1114) h ⟨rfl, rfl, trivial⟩ (pk_ [6, 0, 1, 2, 3, 4, 5]) ?_)))))))
      exact of_
     ·refine a1_ 5 rfl (za5 0 Z Try.func110 N110 rfl rfl rfl (fun w P1 hF hB hS hT => spec_meTimes.calls 1 A14 c15 l12.length l12 A16 c17 l13.length l13 y993 0 hB hF (hT 2 _ rfl).row (hT 2 _ rfl).cap (hT 3 _ rfl).row (hT 3 _ rfl).cap _ hx1111)) (sl_ [some 3, some 4, some 5, some 6]) (cur2 (fun A1113 c1114 => ap_ 6 rfl (za2 rfl) (ap_ 7 rfl (q_ext rfl rfl) (ap_ 8 rfl (q_ext rfl rfl) (a1_ 10 rfl (zac (i := 2) rfl rfl rfl Z25 rfl rfl) (sl_ [some 3, some 4, some 5, some 6]) (fun _ => ap_ 11 rfl (q_asg rfl) (zaj kr_ (zah (l1112, g1351, A1113, c1114) h ⟨rfl, rfl, trivial⟩ (pk_ [6, 2, 0, 1, 3, 4, 5]) ?_))))))))
      exact of_
    ·refine (cur4 (fun l802 g801 A803 c804 => fun U808 hJ809 => ?_))
     have e_ := si_ hJ809; have h := hR807; rw [← e_] at h; clear e_ hJ809 hR807 hl806
     refine c_seq (za0 (oq_ (q_ldB G25 Z25 rfl (bx_ 1 rfl) rfl) (oq_ (za2 rfl) (o_pick [2, 0, 1, 3, 4, 5, 6] dc_ rfl (za6 h (fun _ hx1591 h => ?_) rfl)))))
     refine o_e rfl (za5 1 Z Try.func112 N112 rfl rfl rfl (fun w P1 hF hB hS hT => spec_meEnd.calls 1 A803 c804 l802.length l802 none 0 0 [] (w64 (1 + (l12.length : Int))) hB hF (hT 2 _ rfl).row (hT 2 _ rfl).cap hx1591)) (cur2 (fun A1592 c1593 => o_e rfl (zac (i := 2) rfl rfl rfl Z25 rfl rfl) (fun _ => o_end (za1 (c_ret (zaa ?_))))))
     have e0_ := si_ h; clear h
     obtain ⟨rfl, e1_⟩ := Prod.mk.inj e0_
     subst e1_
     exact x_r1 (A803, c804, A1592, c1593) Try.results122 (zb0 rfl G25 Z25 (bx_ 2 rfl) rfl) rfl (pk_ [0, 1])
   ·replace h := br_f hb10 h
    refine zai (za1 (c_seq (za0 (oq_ (za2 rfl) (bindE2 h (fun l1595 l1596 hx1594 h => ?_) rfl)))))
    refine o_e rfl (za5 0 Z Try.func122 N122 rfl rfl rfl (fun w P1 hF hB hS hT => ih i9 hB hF _ _ hx1594)) (cur4 (fun A1597 c1598 A1599 c1600 => o_e rfl (zab V25 rfl) (fun g1601 => o_e rfl (zac (i := 0) rfl rfl rfl Z25 rfl rfl) (fun _ => o_end (za1 (c_seq (a_start (ds := []) MO rfl (ap_ 0 rfl (q_f F25_1 rfl) (at_2 1 rfl (fun w h => h) (q_ldb Y22 rfl (bx_ 0 rfl) rfl) (ap_ 2 rfl (za2 rfl) ?_))))))))))
    refine ap_ 3 rfl (za2 rfl) (za6 h (fun _ hz1603 h => ?_) rfl)
    refine ap_ 4 rfl (q_quo64 rfl rfl (nz_ne hz1603)) (ap_ 6 rfl (q_f F25_2 rfl) (at_2 7 rfl (fun w h => h) (q_ldb Y23 rfl (bx_ 0 rfl) rfl) (bindE2 h (fun l1605 l1606 hx1604 h => ?_) rfl)))
    refine a1_ 5 rfl (za5 0 Z Try.func122 N122 rfl rfl rfl (fun w P1 hF hB hS hT => ih (w64 (a0.tdiv i9)) hB hF _ _ hx1604)) (sl_ [some 2, some 3, some 4, some 5]) (cur4 (fun A1607 c1608 A1609 c1610 => bindE2 h (fun l1612 l1613 hx1611 h => ?_) rfl))
    refine a1_ 8 rfl (za5 0 Z Try.func151 N151 rfl rfl rfl (fun w P1 hF hB hS hT => spec_plThen.calls A1597 c1598 l1595.length l1595 1 1 A1607 c1608 l1605.length l1605 A1609 c1610 l1606.length l1606 A1599 c1600 l1596.length l1596 hB hF (hT 3 _ rfl).row (hT 3 _ rfl).cap (hT 0 _ rfl).row (hT 0 _ rfl).cap (hT 1 _ rfl).row (hT 1 _ rfl).cap (hT 4 _ rfl).row (hT 4 _ rfl).cap _ _ hx1611)) (sl_ [some 4, some 5, some 6, some 7]) (cur4 (fun A1614 c1615 A1616 c1617 => ap_ 9 rfl (za2 rfl) (ap_ 10 rfl (q_ext rfl rfl) (ap_ 11 rfl (q_ext rfl rfl) (ap_ 12 rfl (q_asg rfl) (ap_ 13 rfl (q_asg rfl) (zaj kr_ (za1 (c_seq (za0 ?_))))))))))
    refine oq_ (za2 rfl) (oq_ (za2 rfl) (oq_ (q_build (vs := [(0, .int .i64 1), (1, .slice A1614 l1612.length c1615), (2, .slice A1616 l1613.length c1617)]) (cs := [.int .i64 1, .slice A1614 l1612.length c1615, .slice A1616 l1613.length c1617]) rfl rfl) (o_e rfl (zac (i := 7) rfl rfl rfl Z25 rfl rfl) (fun _ => o_end (za1 (c_ret ?_))))))
    have e0_ := si_ h; clear h
    obtain ⟨rfl, e1_⟩ := Prod.mk.inj e0_
    subst e1_
    exact x_r1 (A1614, c1615, A1616, c1617) Try.results122 (zb0 rfl G25 Z25 (bx_ 7 rfl) rfl) rfl (pk_ [0, 1])

def spec_mePlans.f (k : Nat) (a0 : Int) : Option ((List SStep) × (List Int) × (List SStep) × (List Int) × (List SStep) × (List Int) × (List SStep) × (List Int) × (List SStep) × (List Int) × (List SStep) × (List Int) × (List SStep) × (List Int)) := (spec_meBinary.f k a0).bind fun (l2, l3) => (spec_meRight.f k a0).bind fun (l9, l10) => (spec_meWindow.f k a0 2).bind fun (l16, l17) => (spec_meWindow.f k a0 3).bind fun (l23, l24) => (spec_meSliding.f k a0 2).bind fun (l30, l31) => (spec_meSliding.f k a0 3).bind fun (l37, l38) => (spec_meFactors.f k a0).bind fun (l44, l45) => some (l2, l3, l9, l10, l16, l17, l23, l24, l30, l31, l37, l38, l44, l45)
theorem spec_mePlans.calls (k : Nat) {w0 ws : World} {P0 : Nat → Prop} (a0 : Int) (Z : Below w0.heap.size w0 ws) (hF : Fr w0 ws P0 [] ws)  (r_2 : List SStep) (r_5 : List Int) (r_8 : List SStep) (r_11 : List Int) (r_14 : List SStep) (r_17 : List Int) (r_20 : List SStep) (r_23 : List Int) (r_26 : List SStep) (r_29 : List Int) (r_32 : List SStep) (r_35 : List Int) (r_38 : List SStep) (r_41 : List Int) (h : spec_mePlans.f k a0 = some (r_2, r_5, r_8, r_11, r_14, r_17, r_20, r_23, r_26, r_29, r_32, r_35, r_38, r_41)) :
  Calls Try.prog 68 #[.int .i64 a0] ws (Post1 w0 ws P0 (fun ((q_1, q_3, q_4, q_6, q_7, q_9, q_10, q_12, q_13, q_15, q_16, q_18, q_19, q_21, q_22, q_24, q_25, q_27, q_28, q_30, q_31, q_33, q_34, q_36, q_37, q_39, q_40, q_42, q_43) : Nat × (Option Addr) × Nat × (Option Addr) × Nat × (Option Addr) × Nat × (Option Addr) × Nat × (Option Addr) × Nat × (Option Addr) × Nat × (Option Addr) × Nat × (Option Addr) × Nat × (Option Addr) × Nat × (Option Addr) × Nat × (Option Addr) × Nat × (Option Addr) × Nat × (Option Addr) × Nat × (Option Addr) × Nat) => .slice (some ⟨q_1, 0, none⟩) 7 7) (fun ((q_1, q_3, q_4, q_6, q_7, q_9, q_10, q_12, q_13, q_15, q_16, q_18, q_19, q_21, q_22, q_24, q_25, q_27, q_28, q_30, q_31, q_33, q_34, q_36, q_37, q_39, q_40, q_42, q_43) : Nat × (Option Addr) × Nat × (Option Addr) × Nat × (Option Addr) × Nat × (Option Addr) × Nat × (Option Addr) × Nat × (Option Addr) × Nat × (Option Addr) × Nat × (Option Addr) × Nat × (Option Addr) × Nat × (Option Addr) × Nat × (Option Addr) × Nat × (Option Addr) × Nat × (Option Addr) × Nat × (Option Addr) × Nat) => [box q_1 25 #[.int .i64 1, .slice q_3 r_2.length q_4, .slice q_6 r_5.length q_7, .int .i64 1, .slice q_9 r_8.length q_10, .slice q_12 r_11.length q_13, .int .i64 1, .slice q_15 r_14.length q_16, .slice q_18 r_17.length q_19, .int .i64 1, .slice q_21 r_20.length q_22, .slice q_24 r_23.length q_25, .int .i64 1, .slice q_27 r_26.length q_28, .slice q_30 r_29.length q_31, .int .i64 1, .slice q_33 r_32.length q_34, .slice q_36 r_35.length q_37, .int .i64 1, .slice q_39 r_38.length q_40, .slice q_42 r_41.length q_43], row kStep 107 (.slice q_3 r_2.length q_4) r_2, row (Kd.int .i64) 3 (.slice q_6 r_5.length q_7) r_5, row kStep 107 (.slice q_9 r_8.length q_10) r_8, row (Kd.int .i64) 3 (.slice q_12 r_11.length q_13) r_11, row kStep 107 (.slice q_15 r_14.length q_16) r_14, row (Kd.int .i64) 3 (.slice q_18 r_17.length q_19) r_17, row kStep 107 (.slice q_21 r_20.length q_22) r_20, row (Kd.int .i64) 3 (.slice q_24 r_23.length q_25) r_23, row kStep 107 (.slice q_27 r_26.length q_28) r_26, row (Kd.int .i64) 3 (.slice q_30 r_29.length q_31) r_29, row kStep 107 (.slice q_33 r_32.length q_34) r_32, row (Kd.int .i64) 3 (.slice q_36 r_35.length q_37) r_35, row kStep 107 (.slice q_39 r_38.length q_40) r_38, row (Kd.int .i64) 3 (.slice q_42 r_41.length q_43) r_41])) := by
 unfold spec_mePlans.f at h
 refine enter Try.func68 rfl Try.ntmps68 rfl hF ?_
 refine c_seq ?_
 refine za0 ?_
 refine o_q rfl rfl (q_asg rfl) ?_
 refine o_end ?_
 refine za1 ?_
 refine c_seq ?_
 refine za0 ?_
 refine o_q rfl rfl (za2 rfl) ?_
 refine bindE2 h (fun l2 l3 hx1 h => ?_) rfl
 refine o_e rfl (za5 0 Z Try.func83 N83 rfl rfl rfl (fun w P1 hF hB hS hT => spec_meBinary.calls k a0 hB hF _ _ hx1)) (cur4 (fun A4 c5 A6 c7 => ?_))
 refine o_q rfl rfl (za2 rfl) ?_
 refine bindE2 h (fun l9 l10 hx8 h => ?_) rfl
 refine o_e rfl (za5 0 Z Try.func121 N121 rfl rfl rfl (fun w P1 hF hB hS hT => spec_meRight.calls k a0 hB hF _ _ hx8)) (cur4 (fun A11 c12 A13 c14 => ?_))
 refine o_q rfl rfl (za2 rfl) ?_
 refine bindE2 h (fun l16 l17 hx15 h => ?_) rfl
 refine o_e rfl (za5 0 Z Try.func52 N52 rfl rfl rfl (fun w P1 hF hB hS hT => spec_meWindow.calls k a0 2 hB hF _ _ hx15)) (cur4 (fun A18 c19 A20 c21 => ?_))
 refine o_q rfl rfl (za2 rfl) ?_
 refine bindE2 h (fun l23 l24 hx22 h => ?_) rfl
 refine o_e rfl (za5 0 Z Try.func52 N52 rfl rfl rfl (fun w P1 hF hB hS hT => spec_meWindow.calls k a0 3 hB hF _ _ hx22)) (cur4 (fun A25 c26 A27 c28 => ?_))
 refine o_q rfl rfl (za2 rfl) ?_
 refine bindE2 h (fun l30 l31 hx29 h => ?_) rfl
 refine o_e rfl (za5 0 Z Try.func66 N66 rfl rfl rfl (fun w P1 hF hB hS hT => spec_meSliding.calls k a0 2 hB hF _ _ hx29)) (cur4 (fun A32 c33 A34 c35 => ?_))
 refine o_q rfl rfl (za2 rfl) ?_
 refine bindE2 h (fun l37 l38 hx36 h => ?_) rfl
 refine o_e rfl (za5 0 Z Try.func66 N66 rfl rfl rfl (fun w P1 hF hB hS hT => spec_meSliding.calls k a0 3 hB hF _ _ hx36)) (cur4 (fun A39 c40 A41 c42 => ?_))
 refine o_q rfl rfl (za2 rfl) ?_
 refine bindE2 h (fun l44 l45 hx43 h => ?_) rfl
 refine o_e rfl (za5 0 Z Try.func122 N122 rfl rfl rfl (fun w P1 hF hB hS hT => spec_meFactors.calls k a0 hB hF _ _ hx43)) (cur4 (fun A46 c47 A48 c49 => ?_))
 refine o_e rfl (e_litB (vs := [(0, .agg #[.int .i64 1, .slice A4 l2.length c5, .slice A6 l3.length c7]), (1, .agg #[.int .i64 1, .slice A11 l9.length c12, .slice A13 l10.length c14]), (2, .agg #[.int .i64 1, .slice A18 l16.length c19, .slice A20 l17.length c21]), (3, .agg #[.int .i64 1, .slice A25 l23.length c26, .slice A27 l24.length c28]), (4, .agg #[.int .i64 1, .slice A32 l30.length c33, .slice A34 l31.length c35]), (5, .agg #[.int .i64 1, .slice A39 l37.length c40, .slice A41 l38.length c42]), (6, .agg #[.int .i64 1, .slice A46 l44.length c47, .slice A48 l45.length c49])]) (cs := [.int .i64 1, .slice A4 l2.length c5, .slice A6 l3.length c7, .int .i64 1, .slice A11 l9.length c12, .slice A13 l10.length c14, .int .i64 1, .slice A18 l16.length c19, .slice A20 l17.length c21, .int .i64 1, .slice A25 l23.length c26, .slice A27 l24.length c28, .int .i64 1, .slice A32 l30.length c33, .slice A34 l31.length c35, .int .i64 1, .slice A39 l37.length c40, .slice A41 l38.length c42, .int .i64 1, .slice A46 l44.length c47, .slice A48 l45.length c49]) Try.underlying77 I25 (by decide) rfl (by kernel_rfl)) (fun g50 => ?_)
 refine o_q rfl rfl (q_asg rfl) ?_
 refine o_end ?_
 refine za1 ?_
 refine c_ret ?_
 have e0_ := Option.some.inj h; clear h
 have d0_ := (Prod.mk.inj e0_).1; have e1_ := (Prod.mk.inj e0_).2; clear e0_; subst d0_
 have d1_ := (Prod.mk.inj e1_).1; have e2_ := (Prod.mk.inj e1_).2; clear e1_; subst d1_
 have d2_ := (Prod.mk.inj e2_).1; have e3_ := (Prod.mk.inj e2_).2; clear e2_; subst d2_
 have d3_ := (Prod.mk.inj e3_).1; have e4_ := (Prod.mk.inj e3_).2; clear e3_; subst d3_
 have d4_ := (Prod.mk.inj e4_).1; have e5_ := (Prod.mk.inj e4_).2; clear e4_; subst d4_
 have d5_ := (Prod.mk.inj e5_).1; have e6_ := (Prod.mk.inj e5_).2; clear e5_; subst d5_
 have d6_ := (Prod.mk.inj e6_).1; have e7_ := (Prod.mk.inj e6_).2; clear e6_; subst d6_
 have d7_ := (Prod.mk.inj e7_).1; have e8_ := (Prod.mk.inj e7_).2; clear e7_; subst d7_
 have d8_ := (Prod.mk.inj e8_).1; have e9_ := (Prod.mk.inj e8_).2; clear e8_; subst d8_
 have d9_ := (Prod.mk.inj e9_).1; have e10_ := (Prod.mk.inj e9_).2; clear e9_; subst d9_
 have d10_ := (Prod.mk.inj e10_).1; have e11_ := (Prod.mk.inj e10_).2; clear e10_; subst d10_
 have d11_ := (Prod.mk.inj e11_).1; have e12_ := (Prod.mk.inj e11_).2; clear e11_; subst d11_
 have d12_ := (Prod.mk.inj e12_).1; have e13_ := (Prod.mk.inj e12_).2; clear e12_; subst d12_
 subst e13_
 exact x_r1 (g50, A4, c5, A6, c7, A11, c12, A13, c14, A18, c19, A20, c21, A25, c26, A27, c28, A32, c33, A34, c35, A39, c40, A41, c42, A46, c47, A48, c49) Try.results68 (zad rfl) rfl (fun w h => f_pick [0, 13, 14, 11, 12, 9, 10, 7, 8, 5, 6, 3, 4, 1, 2] (by decide) rfl w h)

def spec_MethodCosts.f (k : Nat) (a0 : Int) : Option ((List Int) × Bool) := (spec_chNumber.f a0).bind fun b2 => if b2 = true then ((spec_mePlans.f k a0).bind fun (l5, l6, l7, l8, l9, l10, l11, l12, l13, l14, l15, l16, l17, l18) => (ap [] ([(l5.length : Int)] : List Int)).bind fun l54 => (ap l54 ([(l7.length : Int)] : List Int)).bind fun l63 => (ap l63 ([(l9.length : Int)] : List Int)).bind fun l72 => (ap l72 ([(l11.length : Int)] : List Int)).bind fun l81 => (ap l81 ([(l13.length : Int)] : List Int)).bind fun l90 => (ap l90 ([(l15.length : Int)] : List Int)).bind fun l99 => (ap l99 ([(l17.length : Int)] : List Int)).bind fun l108 => some (l108, true)) else (some (([] : List Int), false))
theorem spec_MethodCosts.calls (k : Nat) {w0 ws : World} {P0 : Nat → Prop} (a0 : Int) (Z : Below w0.heap.size w0 ws) (hF : Fr w0 ws P0 [] ws)  (r_1 : List Int) (r_4 : Bool) (h : spec_MethodCosts.f k a0 = some (r_1, r_4)) :
  Calls Try.prog 17 #[.int .i64 a0] ws (Post1 w0 ws P0 (fun ((q_2, q_3) : (Option Addr) × Nat) => .tuple #[.slice q_2 r_1.length q_3, .bool r_4]) (fun ((q_2, q_3) : (Option Addr) × Nat) => [row (Kd.int .i64) 3 (.slice q_2 r_1.length q_3) r_1])) := by
 unfold spec_MethodCosts.f at h
 refine enter Try.func17 rfl Try.ntmps17 rfl hF ?_
 refine c_seq ?_
 refine za0 ?_
 refine o_q rfl rfl (q_asg rfl) ?_
 refine o_q rfl rfl (q_asg rfl) ?_
 refine o_end ?_
 refine za1 ?_
 refine c_seq ?_
 refine c_seq ?_
 refine za0 ?_
 refine o_q rfl rfl (za2 rfl) ?_
 refine za6 h (fun b2 hx1 h => ?_) rfl
 refine o_e rfl (za5 0 Z Try.func49 N49 rfl rfl rfl (fun w P1 hF hB hS hT => spec_chNumber.calls a0 hB hF _ hx1)) (fun _ => ?_)
 refine o_q rfl rfl (q_not rfl) ?_
 refine o_end ?_
 refine za1 ?_
 refine zan _ rfl (fun hb3 => ?_) (fun hb3 => ?_)
 ·replace hb3 := nt_t hb3
  replace h := bb_f hb3 h
  refine c_seq ?_
  refine za0 ?_
  refine o_q rfl rfl (q_asg rfl) ?_
  refine o_q rfl rfl (q_asg rfl) ?_
  refine o_end ?_
  refine za1 ?_
  refine c_ret ?_
  refine zaa ?_
  refine x_nil (Kd.int .i64) 3 ?_
  have e0_ := Option.some.inj h; clear h
  have d0_ := (Prod.mk.inj e0_).1; have e1_ := (Prod.mk.inj e0_).2; clear e0_; subst d0_
  subst e1_
  exact x_r2 (none, 0) Try.results17 (zad rfl) (zad rfl) rfl (fun w h => f_pick [0] (by decide) rfl w h)
 ·replace hb3 := nt_f hb3
  replace h := bb_t hb3 h
  refine zai ?_
  refine za1 ?_
  refine c_seq ?_
  refine za0 ?_
  refine o_q rfl rfl (q_asg rfl) ?_
  refine o_end ?_
  refine za1 ?_
  refine c_seq ?_
  refine c_seq ?_
  refine za0 ?_
  refine o_q rfl rfl (za2 rfl) ?_
  refine bindE14 h (fun l5 l6 l7 l8 l9 l10 l11 l12 l13 l14 l15 l16 l17 l18 hx4 h => ?_) rfl
  refine o_e rfl (za5 0 Z Try.func68 N68 rfl rfl rfl (fun w P1 hF hB hS hT => spec_mePlans.calls k a0 hB hF _ _ _ _ _ _ _ _ _ _ _ _ _ _ hx4)) (cur29 (fun c19 A20 c21 A22 c23 A24 c25 A26 c27 A28 c29 A30 c31 A32 c33 A34 c35 A36 c37 A38 c39 A40 c41 A42 c43 A44 c45 A46 c47 => ?_))
  refine o_q rfl rfl (q_len Try.underlying77 rfl) ?_
  refine o_q rfl rfl (za2 rfl) ?_
  refine o_end ?_
  refine za1 ?_
  refine zae ?_
  refine c_rounds 8 ?_
  refine rn_succ ?_
  refine c_seq ?_
  refine za0 ?_
  refine o_q rfl rfl (q_lss rfl rfl) ?_
  refine o_end ?_
  refine za1 ?_
  refine c_seq ?_
  refine zar (congrArg Value.bool (show decide ((0 : Int) < 7) = true from rfl)) ?_
  refine zai ?_
  refine za1 ?_
  refine c_seq ?_
  refine zae ?_
  refine c_seq ?_
  refine za0 ?_
  refine o_q rfl rfl (q_ixB (m := 0) Try.underlying77 Z25 rfl rfl (by decide)) ?_
  refine o_q rfl rfl (q_ldBo (o := 0) (ls := [.int .i64 1, .slice A20 l5.length c21, .slice A22 l6.length c23]) G25 Z25 rfl (fun w h => h.zb2 (i := 0) rfl) rfl rfl) ?_
  refine o_e rfl (zab V25 rfl) (fun g48 => ?_)
  refine o_e rfl (zac (i := 0) rfl rfl rfl Z25 rfl rfl) (fun _ => ?_)
  refine o_end ?_
  refine za1 ?_
  refine za0 ?_
  refine o_q rfl rfl (za2 rfl) ?_
  refine o_q rfl rfl (q_f F25_1 rfl) ?_
  refine o_q rfl rfl (q_ldb Y22 rfl (fun w h => h.zb2 (i := 0) rfl) rfl) ?_
  refine o_q rfl rfl (q_len Try.underlying22 rfl) ?_
  refine o_e rfl (e_lit (vs := [(0, .int .i64 (l5.length : Int))]) (cs := [.int .i64 (l5.length : Int)]) (Kd.int .i64) ([(l5.length : Int)] : List Int) Try.underlying23 I3 (by decide) rfl (by decide) rfl rfl (fun _ _ => Kd.za8 _)) (cur2 (fun A50 c51 => ?_))
  refine o_nil (Kd.int .i64) 3 ?_
  refine za6 h (fun l54 ha55 h => ?_) rfl
  refine o_e rfl (e_app (i := 0) (j := 1) Try.underlying23 I3 rfl (by decide) (by decide) rfl rfl rfl rfl rfl ha55) (cur2 (fun A56 c57 => ?_))
  refine o_q rfl rfl (q_asg rfl) ?_
  refine o_end ?_
  refine zaf ?_
  refine za1 ?_
  refine za0 ?_
  refine o_q rfl rfl (q_addc rfl rfl rfl) ?_
  refine o_q rfl rfl (za2 rfl) ?_
  refine o_end ?_
  refine x_rn ?_
  refine rn_succ ?_
  refine c_seq ?_
  refine za0 ?_
  refine o_q rfl rfl (q_lss rfl rfl) ?_
  refine o_end ?_
  refine za1 ?_
  refine c_seq ?_
  refine zar (congrArg Value.bool (show decide ((1 : Int) < 7) = true from rfl)) ?_
  refine zai ?_
  refine za1 ?_
  refine c_seq ?_
  refine zae ?_
  refine c_seq ?_
  refine za0 ?_
  refine o_q rfl rfl (q_ixB (m := 1) Try.underlying77 Z25 rfl rfl (by decide)) ?_
  refine o_q rfl rfl (q_ldBo (o := 3) (ls := [.int .i64 1, .slice A24 l7.length c25, .slice A26 l8.length c27]) G25 Z25 rfl (fun w h => h.zb2 (i := 3) rfl) rfl rfl) ?_
  refine o_e rfl (zab V25 rfl) (fun g58 => ?_)
  refine o_e rfl (zac (i := 0) rfl rfl rfl Z25 rfl rfl) (fun _ => ?_)
  refine o_end ?_
  refine za1 ?_
  refine za0 ?_
  refine o_q rfl rfl (za2 rfl) ?_
  refine o_q rfl rfl (q_f F25_1 rfl) ?_
  refine o_q rfl rfl (q_ldb Y22 rfl (fun w h => h.zb2 (i := 0) rfl) rfl) ?_
  refine o_q rfl rfl (q_len Try.underlying22 rfl) ?_
  refine o_e rfl (e_lit (vs := [(0, .int .i64 (l7.length : Int))]) (cs := [.int .i64 (l7.length : Int)]) (Kd.int .i64) ([(l7.length : Int)] : List Int) Try.underlying23 I3 (by decide) rfl (by decide) rfl rfl (fun _ _ => Kd.za8 _)) (cur2 (fun A60 c61 => ?_))
  refine za6 h (fun l63 ha64 h => ?_) rfl
  refine o_e rfl (e_app (i := 2) (j := 0) Try.underlying23 I3 rfl (by decide) (by decide) rfl rfl rfl rfl rfl ha64) (cur2 (fun A65 c66 => ?_))
  refine o_q rfl rfl (q_asg rfl) ?_
  refine o_end ?_
  refine zaf ?_
  refine za1 ?_
  refine za0 ?_
  refine o_q rfl rfl (q_addc rfl rfl rfl) ?_
  refine o_q rfl rfl (za2 rfl) ?_
  refine o_end ?_
  refine x_rn ?_
  refine rn_succ ?_
  refine c_seq ?_
  refine za0 ?_
  refine o_q rfl rfl (q_lss rfl rfl) ?_
  refine o_end ?_
  refine za1 ?_
  refine c_seq ?_
  refine zar (congrArg Value.bool (show decide ((2 : Int) < 7) = true from rfl)) ?_
  refine zai ?_
  refine za1 ?_
  refine c_seq ?_
  refine zae ?_
  refine c_seq ?_
  refine za0 ?_
  refine o_q rfl rfl (q_ixB (m := 2) Try.underlying77 Z25 rfl rfl (by decide)) ?_
  refine o_q rfl rfl (q_ldBo (o := 6) (ls := [.int .i64 1, .slice A28 l9.length c29, .slice A30 l10.length c31]) G25 Z25 rfl (fun w h => h.zb2 (i := 5) rfl) rfl rfl) ?_
  refine o_e rfl (zab V25 rfl) (fun g67 => ?_)
  refine o_e rfl (zac (i := 0) rfl rfl rfl Z25 rfl rfl) (fun _ => ?_)
  refine o_end ?_
  refine za1 ?_
  refine za0 ?_
  refine o_q rfl rfl (za2 rfl) ?_
  refine o_q rfl rfl (q_f F25_1 rfl) ?_
  refine o_q rfl rfl (q_ldb Y22 rfl (fun w h => h.zb2 (i := 0) rfl) rfl) ?_
  refine o_q rfl rfl (q_len Try.underlying22 rfl) ?_
  refine o_e rfl (e_lit (vs := [(0, .int .i64 (l9.length : Int))]) (cs := [.int .i64 (l9.length : Int)]) (Kd.int .i64) ([(l9.length : Int)] : List Int) Try.underlying23 I3 (by decide) rfl (by decide) rfl rfl (fun _ _ => Kd.za8 _)) (cur2 (fun A69 c70 => ?_))
  refine za6 h (fun l72 ha73 h => ?_) rfl
  refine o_e rfl (e_app (i := 4) (j := 0) Try.underlying23 I3 rfl (by decide) (by decide) rfl rfl rfl rfl rfl ha73) (cur2 (fun A74 c75 => ?_))
  refine o_q rfl rfl (q_asg rfl) ?_
  refine o_end ?_
  refine zaf ?_
  refine za1 ?_
  refine za0 ?_
  refine o_q rfl rfl (q_addc rfl rfl rfl) ?_
  refine o_q rfl rfl (za2 rfl) ?_
  refine o_end ?_
  refine x_rn ?_
  refine rn_succ ?_
  refine c_seq ?_
  refine za0 ?_
  refine o_q rfl rfl (q_lss rfl rfl) ?_
  refine o_end ?_
  refine za1 ?_
  refine c_seq ?_
  refine zar (congrArg Value.bool (show decide ((3 : Int) < 7) = true from rfl)) ?_
  refine zai ?_
  refine za1 ?_
  refine c_seq ?_
  refine zae ?_
  refine c_seq ?_
  refine za0 ?_
  refine o_q rfl rfl (q_ixB (m := 3) Try.underlying77 Z25 rfl rfl (by decide)) ?_
  refine o_q rfl rfl (q_ldBo (o := 9) (ls := [.int .i64 1, .slice A32 l11.length c33, .slice A34 l12.length c35]) G25 Z25 rfl (fun w h => h.zb2 (i := 7) rfl) rfl rfl) ?_
  refine o_e rfl (zab V25 rfl) (fun g76 => ?_)
  refine o_e rfl (zac (i := 0) rfl rfl rfl Z25 rfl rfl) (fun _ => ?_)
  refine o_end ?_
  refine za1 ?_
  refine za0 ?_
  refine o_q rfl rfl (za2 rfl) ?_
  refine o_q rfl rfl (q_f F25_1 rfl) ?_
  refine o_q rfl rfl (q_ldb Y22 rfl (fun w h => h.zb2 (i := 0) rfl) rfl) ?_
  refine o_q rfl rfl (q_len Try.underlying22 rfl) ?_
  refine o_e rfl (e_lit (vs := [(0, .int .i64 (l11.length : Int))]) (cs := [.int .i64 (l11.length : Int)]) (Kd.int .i64) ([(l11.length : Int)] : List Int) Try.underlying23 I3 (by decide) rfl (by decide) rfl rfl (fun _ _ => Kd.za8 _)) (cur2 (fun A78 c79 => ?_))
  refine za6 h (fun l81 ha82 h => ?_) rfl
  refine o_e rfl (e_app (i := 6) (j := 0) Try.underlying23 I3 rfl (by decide) (by decide) rfl rfl rfl rfl rfl ha82) (cur2 (fun A83 c84 => ?_))
  refine o_q rfl rfl (q_asg rfl) ?_
  refine o_end ?_
  refine zaf ?_
  refine za1 ?_
  refine za0 ?_
  refine o_q rfl rfl (q_addc rfl rfl rfl) ?_
  refine o_q rfl rfl (za2 rfl) ?_
  refine o_end ?_
  refine x_rn ?_
  refine rn_succ ?_
  refine c_seq ?_
  refine za0 ?_
  refine o_q rfl rfl (q_lss rfl rfl) ?_
  refine o_end ?_
  refine za1 ?_
  refine c_seq ?_
  refine zar (congrArg Value.bool (show decide ((4 : Int) < 7) = true from rfl)) ?_
  refine zai ?_
  refine za1 ?_
  refine c_seq ?_
  refine zae ?_
  refine c_seq ?_
  refine za0 ?_
  refine o_q rfl rfl (q_ixB (m := 4) Try.underlying77 Z25 rfl rfl (by decide)) ?_
  refine o_q rfl rfl (q_ldBo (o := 12) (ls := [.int .i64 1, .slice A36 l13.length c37, .slice A38 l14.length c39]) G25 Z25 rfl (fun w h => h.zb2 (i := 9) rfl) rfl rfl) ?_
  refine o_e rfl (zab V25 rfl) (fun g85 => ?_)
  refine o_e rfl (zac (i := 0) rfl rfl rfl Z25 rfl rfl) (fun _ => ?_)
  refine o_end ?_
  refine za1 ?_
  refine za0 ?_
  refine o_q rfl rfl (za2 rfl) ?_
  refine o_q rfl rfl (q_f F25_1 rfl) ?_
  refine o_q rfl rfl (q_ldb Y22 rfl (fun w h => h.zb2 (i := 0) rfl) rfl) ?_
  refine o_q rfl rfl (q_len Try.underlying22 rfl) ?_
  refine o_e rfl (e_lit (vs := [(0, .int .i64 (l13.length : Int))]) (cs := [.int .i64 (l13.length : Int)]) (Kd.int .i64) ([(l13.length : Int)] : List Int) Try.underlying23 I3 (by decide) rfl (by decide) rfl rfl (fun _ _ => Kd.za8 _)) (cur2 (fun A87 c88 => ?_))
  refine za6 h (fun l90 ha91 h => ?_) rfl
  refine o_e rfl (e_app (i := 8) (j := 0) Try.underlying23 I3 rfl (by decide) (by decide) rfl rfl rfl rfl rfl ha91) (cur2 (fun A92 c93 => ?_))
  refine o_q rfl rfl (q_asg rfl) ?_
  refine o_end ?_
  refine zaf ?_
  refine za1 ?_
  refine za0 ?_
  refine o_q rfl rfl (q_addc rfl rfl rfl) ?_
  refine o_q rfl rfl (za2 rfl) ?_
  refine o_end ?_
  refine x_rn ?_
  refine rn_succ ?_
  refine c_seq ?_
  refine za0 ?_
  refine o_q rfl rfl (q_lss rfl rfl) ?_
  refine o_end ?_
  refine za1 ?_
  refine c_seq ?_
  refine zar (congrArg Value.bool (show decide ((5 : Int) < 7) = true from rfl)) ?_
  refine zai ?_
  refine za1 ?_
  refine c_seq ?_
  refine zae ?_
  refine c_seq ?_
  refine za0 ?_
  refine o_q rfl rfl (q_ixB (m := 5) Try.underlying77 Z25 rfl rfl (by decide)) ?_
  refine o_q rfl rfl (q_ldBo (o := 15) (ls := [.int .i64 1, .slice A40 l15.length c41, .slice A42 l16.length c43]) G25 Z25 rfl (fun w h => h.zb2 (i := 11) rfl) rfl rfl) ?_
  refine o_e rfl (zab V25 rfl) (fun g94 => ?_)
  refine o_e rfl (zac (i := 0) rfl rfl rfl Z25 rfl rfl) (fun _ => ?_)
  refine o_end ?_
  refine za1 ?_
  refine za0 ?_
  refine o_q rfl rfl (za2 rfl) ?_
  refine o_q rfl rfl (q_f F25_1 rfl) ?_
  refine o_q rfl rfl (q_ldb Y22 rfl (fun w h => h.zb2 (i := 0) rfl) rfl) ?_
  refine o_q rfl rfl (q_len Try.underlying22 rfl) ?_
  refine o_e rfl (e_lit (vs := [(0, .int .i64 (l15.length : Int))]) (cs := [.int .i64 (l15.length : Int)]) (Kd.int .i64) ([(l15.length : Int)] : List Int) Try.underlying23 I3 (by decide) rfl (by decide) rfl rfl (fun _ _ => Kd.za8 _)) (cur2 (fun A96 c97 => ?_))
  refine za6 h (fun l99 ha100 h => ?_) rfl
  refine o_e rfl (e_app (i := 10) (j := 0) Try.underlying23 I3 rfl (by decide) (by decide) rfl rfl rfl rfl rfl ha100) (cur2 (fun A101 c102 => ?_))
  refine o_q rfl rfl (q_asg rfl) ?_
  refine o_end ?_
  refine zaf ?_
  refine za1 ?_
  refine za0 ?_
  refine o_q rfl rfl (q_addc rfl rfl rfl) ?_
  refine o_q rfl rfl (za2 rfl) ?_
  refine o_end ?_
  refine x_rn ?_
  refine rn_succ ?_
  refine c_seq ?_
  refine za0 ?_
  refine o_q rfl rfl (q_lss rfl rfl) ?_
  refine o_end ?_
  refine za1 ?_
  refine c_seq ?_
  refine zar (congrArg Value.bool (show decide ((6 : Int) < 7) = true from rfl)) ?_
  refine zai ?_
  refine za1 ?_
  refine c_seq ?_
  refine zae ?_
  refine c_seq ?_
  refine za0 ?_
  refine o_q rfl rfl (q_ixB (m := 6) Try.underlying77 Z25 rfl rfl (by decide)) ?_
  refine o_q rfl rfl (q_ldBo (o := 18) (ls := [.int .i64 1, .slice A44 l17.length c45, .slice A46 l18.length c47]) G25 Z25 rfl (fun w h => h.zb2 (i := 13) rfl) rfl rfl) ?_
  refine o_e rfl (zab V25 rfl) (fun g103 => ?_)
  refine o_e rfl (zac (i := 0) rfl rfl rfl Z25 rfl rfl) (fun _ => ?_)
  refine o_end ?_
  refine za1 ?_
  refine za0 ?_
  refine o_q rfl rfl (za2 rfl) ?_
  refine o_q rfl rfl (q_f F25_1 rfl) ?_
  refine o_q rfl rfl (q_ldb Y22 rfl (fun w h => h.zb2 (i := 0) rfl) rfl) ?_
  refine o_q rfl rfl (q_len Try.underlying22 rfl) ?_
  refine o_e rfl (e_lit (vs := [(0, .int .i64 (l17.length : Int))]) (cs := [.int .i64 (l17.length : Int)]) (Kd.int .i64) ([(l17.length : Int)] : List Int) Try.underlying23 I3 (by decide) rfl (by decide) rfl rfl (fun _ _ => Kd.za8 _)) (cur2 (fun A105 c106 => ?_))
  refine za6 h (fun l108 ha109 h => ?_) rfl
  refine o_e rfl (e_app (i := 12) (j := 0) Try.underlying23 I3 rfl (by decide) (by decide) rfl rfl rfl rfl rfl ha109) (cur2 (fun A110 c111 => ?_))
  refine o_q rfl rfl (q_asg rfl) ?_
  refine o_end ?_
  refine zaf ?_
  refine za1 ?_
  refine za0 ?_
  refine o_q rfl rfl (q_addc rfl rfl rfl) ?_
  refine o_q rfl rfl (za2 rfl) ?_
  refine o_end ?_
  refine x_rn ?_
  refine rn_succ ?_
  refine c_seq ?_
  refine za0 ?_
  refine o_q rfl rfl (q_lss rfl rfl) ?_
  refine o_end ?_
  refine za1 ?_
  refine c_seq ?_
  refine zaz (congrArg Value.bool (show decide ((7 : Int) < 7) = false from rfl)) ?_
  refine zax ?_
  refine za7 ?_
  refine za7 ?_
  refine x_hit ?_
  refine za1 ?_
  refine c_seq ?_
  refine za0 ?_
  refine o_q rfl rfl (za2 rfl) ?_
  refine o_q rfl rfl (q_asg rfl) ?_
  refine o_q rfl rfl (q_asg rfl) ?_
  refine o_end ?_
  refine za1 ?_
  refine c_ret ?_
  have e0_ := Option.some.inj h; clear h
  have d0_ := (Prod.mk.inj e0_).1; have e1_ := (Prod.mk.inj e0_).2; clear e0_; subst d0_
  subst e1_
  exact x_r2 (A110, c111) Try.results17 (zad rfl) (zad rfl) rfl (fun w h => f_pick [12] (by decide) rfl w h)

def laws_pSameInts.l0 (l1 : List Int) : (List Int) → Int → Option ((Bool) ⊕ (Unit))
 | [], i2 => some (.inr ())
 | y3 :: ys4, i2 => (gt l1 i2).bind fun y16 => if y3 ≠ y16 then (some (.inl false)) else (laws_pSameInts.l0 l1 ys4 (i2 + 1))
def laws_pSameInts.f (l0 : List Int) (l1 : List Int) : Option Bool := if (l0.length : Int) ≠ (l1.length : Int) then (some false) else ((laws_pSameInts.l0 l1 l0 0).bind fun o_ => match o_ with | .inl r_ => some r_ | .inr _ => some true)
theorem laws_pSameInts.calls {w0 ws : World} {P0 : Nat → Prop} (A0 : Option Addr) (c0 : Nat) (n0 : Nat) (l0 : List Int) (A1 : Option Addr) (c1 : Nat) (n1 : Nat) (l1 : List Int) (Z : Below w0.heap.size w0 ws) (hF : Fr w0 ws P0 [] ws) (R0 : Stable ws P0 (fun w => Kd.C (Kd.int .i64) w A0 n0 l0)) (hc0 : n0 ≤ c0) (R1 : Stable ws P0 (fun w => Kd.C (Kd.int .i64) w A1 n1 l1)) (hc1 : n1 ≤ c1) (r_1 : Bool) (h : laws_pSameInts.f l0 l1 = some r_1) :
  Calls Try.prog 28 #[.slice A0 n0 c0, .slice A1 n1 c1] ws (Post1 w0 ws P0 (fun (_ : Unit) => .bool r_1) (fun (_ : Unit) => [])) := by
 unfold laws_pSameInts.f at h
 obtain rfl := (R0 ws (KeptB.refl _ _)).1
 obtain rfl := (R1 ws (KeptB.refl _ _)).1
 refine enter Try.func28 rfl Try.ntmps28 rfl hF (c_seq (za0 (oq_ (q_asg rfl) (o_end (za1 (c_seq (c_seq (za0 (oq_ (za2 rfl) ?_)))))))))
 refine oq_ (q_len Try.underlying23 rfl) (oq_ (za2 rfl) (oq_ (q_len Try.underlying23 rfl) (oq_ (q_neq rfl rfl) (o_end (za1 (zan _ rfl (fun hb1 => ?_) (fun hb1 => ?_)))))))
 ·replace h := br_t hb1 h
  refine c_seq (za0 (oq_ (q_asg rfl) (o_end (za1 (c_ret (zaa ?_))))))
  have e0_ := si_ h; clear h
  subst e0_
  exact x_r1 () Try.results28 (zad rfl) rfl (pk_ [])
 ·replace h := br_f hb1 h
  refine zai (za1 (c_seq (c_seq (za0 (oq_ (za2 rfl) (oq_ (q_len Try.underlying23 rfl) (oq_ (za2 rfl) (o_end (za1 ?_)))))))))
  refine zae (za6 h (fun o10 hl9 hR8 => ?_) rfl)
  clear h
  refine c_fact (p := l0.length ≤ 9223372036854775807) (fun w h => (R0.now Z h).2.1) (fun hm7 => zas (σ := (List Int) × Int) (fun k5 ((ys4, i2) : (List Int) × Int) => Rg l0 i2 ys4 ∧ ys4.length = k5 ∧ laws_pSameInts.l0 l1 ys4 i2 = some o10) [4, 5, 13, 14, 15, 16, 17, 18, 19, 20, 21, 22, 23, 24, 25] (fun ((ys4, i2) : (List Int) × Int) => [(13, .int .i64 i2)]) (fun ((ys4, i2) : (List Int) × Int) => []) l0.length (l0, 0) ⟨Rg.start _, rfl, hl9⟩ ⟨rfl, trivial⟩ (fun w h => h) (fun k5 => cur2 (listC (fun i2 U11 hJ_ => ?_) (fun y3 ys4 i2 U11 hJ_ => ?_))))
  ·clear hl9
   have hr6 := hJ_.1; have hk12 := hJ_.2.1; have h := hJ_.2.2; clear hJ_
   replace h : laws_pSameInts.l0 l1 [] i2 = some o10 := h
   rw [laws_pSameInts.l0] at h
   refine c_seq (za0 (oq_ (q_lss rfl rfl) (o_end (za1 (c_seq (zaz (vb_ hr6.ge) (zax (za7 (za7 ?_)))))))))
   have e_ := si_ h; replace h := hR8; rw [← e_] at h; clear e_
   refine x_hit (za1 (c_seq (za0 (oq_ (q_asg rfl) (o_end (za1 (c_ret ?_)))))))
   have e0_ := si_ h; clear h
   subst e0_
   exact x_r1 () Try.results28 (zad rfl) rfl (pk_ [])
  ·clear hl9
   have hr6 := hJ_.1; have hk12 := hJ_.2.1; have h := hJ_.2.2; clear hJ_
   replace h : laws_pSameInts.l0 l1 (y3 :: ys4) i2 = some o10 := h
   rw [laws_pSameInts.l0] at h
   refine c_seq (za0 (oq_ (q_lss rfl rfl) (o_end (za1 (c_seq (zar (vb_ hr6.lt) (zai (za1 (c_seq ?_)))))))))
   refine zae (c_seq (za0 (oq_ (za2 rfl) (oq_ (q_asg rfl) (o_end (za1 (c_seq (a_start (ds := []) MO rfl (ap_ 0 rfl (za2 rfl) ?_)))))))))
   refine ap_ 1 rfl (za2 rfl) (a_fact (p := Sh A0 l0.length l0.length) (fun w h => f_sh (dk := (Kd.int .i64)) h (fun w h => R0.now Z h)) (fun hq13 => ap_ 2 rfl (q_ix Try.underlying23 Z3 rfl rfl hq13 hr6.get) (at_2 3 rfl (fun w h => h) (q_lde (off := 0) Y3 rfl rfl (fun w h => R0.now Z h) hr6.get (fun _ _ h => h) rfl) (ap_ 4 rfl (za2 rfl) (ap_ 5 rfl (za2 rfl) (a_fact (p := Sh A1 l1.length l1.length) (fun w h => f_sh (dk := (Kd.int .i64)) h (fun w h => R1.now Z h)) (fun hq14 => za6 h (fun y16 hg15 h => ?_) rfl)))))))
   refine ap_ 6 rfl (q_ix Try.underlying23 Z3 rfl rfl hq14 hg15) (at_2 7 rfl (fun w h => h) (q_lde (off := 0) Y3 rfl rfl (fun w h => R1.now Z h) hg15 (fun _ _ h => h) rfl) (ap_ 8 rfl (q_neq rfl rfl) (zaj kr_ (za1 (zan _ rfl (fun hb17 => ?_) (fun hb17 => ?_))))))
   ·replace h := br_t hb17 h
    refine c_seq (za0 (oq_ (q_asg rfl) (o_end (za1 (c_ret (zao (zaa (zaa ?_))))))))
    have e_ := si_ h; replace h := hR8; rw [← e_] at h; clear e_
    refine zao (zaa ?_)
    have e0_ := si_ h; clear h
    subst e0_
    exact x_r1 () Try.results28 (zad rfl) rfl (pk_ [])
   ·replace h := br_f hb17 h
    refine zai (zaf (za1 (za0 (oq_ (q_up rfl rfl (hr6.up hm7)) (oq_ (za2 rfl) (o_end (zal ys4.length (ys4, i2 + 1) (by rw [← hk12]; exact Nat.lt_succ_self _) ⟨hr6.step, rfl, h⟩ ⟨rfl, trivial⟩ (pk_ []) ?_)))))))
    exact of_

def impl_BestPlan_1.f (a0_0 : Int) (l0_1 : List SStep) (l0_2 : List Int) (a1_0 : Int) (l1_1 : List SStep) (l1_2 : List Int) : Option Unit := some ()
theorem impl_BestPlan_1.calls {w0 ws : World} {P0 : Nat → Prop} (a0_0 : Int) (A0_1 : Option Addr) (c0_1 : Nat) (n0_1 : Nat) (l0_1 : List SStep) (A0_2 : Option Addr) (c0_2 : Nat) (n0_2 : Nat) (l0_2 : List Int) (a1_0 : Int) (A1_1 : Option Addr) (c1_1 : Nat) (n1_1 : Nat) (l1_1 : List SStep) (A1_2 : Option Addr) (c1_2 : Nat) (n1_2 : Nat) (l1_2 : List Int) (Z : Below w0.heap.size w0 ws) (hF : Fr w0 ws P0 [] ws) (R0_1 : Stable ws P0 (fun w => Kd.C kStep w A0_1 n0_1 l0_1)) (hc0_1 : n0_1 ≤ c0_1) (R0_2 : Stable ws P0 (fun w => Kd.C (Kd.int .i64) w A0_2 n0_2 l0_2)) (hc0_2 : n0_2 ≤ c0_2) (R1_1 : Stable ws P0 (fun w => Kd.C kStep w A1_1 n1_1 l1_1)) (hc1_1 : n1_1 ≤ c1_1) (R1_2 : Stable ws P0 (fun w => Kd.C (Kd.int .i64) w A1_2 n1_2 l1_2)) (hc1_2 : n1_2 ≤ c1_2)  (h : impl_BestPlan_1.f a0_0 l0_1 l0_2 a1_0 l1_1 l1_2 = some ()) :
  Calls Try.prog 81 #[.agg #[.int .i64 a0_0, .slice A0_1 n0_1 c0_1, .slice A0_2 n0_2 c0_2], .agg #[.int .i64 a1_0, .slice A1_1 n1_1 c1_1, .slice A1_2 n1_2 c1_2]] ws (Post1 w0 ws P0 (fun (_ : Unit) => .int .i64 (w64 ((l0_1.length : Int) - (l1_1.length : Int)))) (fun (_ : Unit) => [])) := by
 unfold impl_BestPlan_1.f at h
 obtain rfl := (R0_1 ws (KeptB.refl _ _)).1
 obtain rfl := (R0_2 ws (KeptB.refl _ _)).1
 obtain rfl := (R1_1 ws (KeptB.refl _ _)).1
 obtain rfl := (R1_2 ws (KeptB.refl _ _)).1
 refine enter Try.func81 rfl Try.ntmps81 rfl hF ?_
 refine c_seq ?_
 refine za0 ?_
 refine o_e rfl (e_box rfl) (fun g1 => ?_)
 refine o_e rfl (e_box rfl) (fun g3 => ?_)
 refine o_q rfl rfl (q_asg rfl) ?_
 refine o_end ?_
 refine za1 ?_
 refine c_seq ?_
 refine za0 ?_
 refine o_q rfl rfl (q_f F25_1 rfl) ?_
 refine o_q rfl rfl (q_ldb Y22 rfl (fun w h => h.zb2 (i := 1) rfl) rfl) ?_
 refine o_q rfl rfl (q_len Try.underlying22 rfl) ?_
 refine o_q rfl rfl (q_f F25_1 rfl) ?_
 refine o_q rfl rfl (q_ldb Y22 rfl (fun w h => h.zb2 (i := 0) rfl) rfl) ?_
 refine o_q rfl rfl (q_len Try.underlying22 rfl) ?_
 refine o_q rfl rfl (zat rfl rfl) ?_
 refine o_q rfl rfl (q_asg rfl) ?_
 refine o_end ?_
 refine za1 ?_
 refine c_ret ?_
 exact x_r1 () Try.results81 (zad rfl) rfl (fun w h => f_pick [] (by decide) rfl w h)

def slices_MinFunc_impl_Plan_impl_Plan.f (a0_0 : Int) (l0_1 : List SStep) (l0_2 : List Int) (a0_3 : Int) (l0_4 : List SStep) (l0_5 : List Int) (a0_6 : Int) (l0_7 : List SStep) (l0_8 : List Int) (a0_9 : Int) (l0_10 : List SStep) (l0_11 : List Int) (a0_12 : Int) (l0_13 : List SStep) (l0_14 : List Int) (a0_15 : Int) (l0_16 : List SStep) (l0_17 : List Int) (a0_18 : Int) (l0_19 : List SStep) (l0_20 : List Int) : Option (Int × (List SStep) × (List Int)) := ((impl_BestPlan_1.f a0_3 l0_4 l0_5 a0_0 l0_1 l0_2).bind fun _ => if w64 ((l0_4.length : Int) - (l0_1.length : Int)) < 0 then (some (a0_3, l0_4, l0_5)) else (some (a0_0, l0_1, l0_2))).bind fun (i7, l8, l11) => ((impl_BestPlan_1.f a0_6 l0_7 l0_8 i7 l8 l11).bind fun _ => if w64 ((l0_7.length : Int) - (l8.length : Int)) < 0 then (some (a0_6, l0_7, l0_8)) else (some (i7, l8, l11))).bind fun (i23, l24, l27) => ((impl_BestPlan_1.f a0_9 l0_10 l0_11 i23 l24 l27).bind fun _ => if w64 ((l0_10.length : Int) - (l24.length : Int)) < 0 then (some (a0_9, l0_10, l0_11)) else (some (i23, l24, l27))).bind fun (i39, l40, l43) => ((impl_BestPlan_1.f a0_12 l0_13 l0_14 i39 l40 l43).bind fun _ => if w64 ((l0_13.length : Int) - (l40.length : Int)) < 0 then (some (a0_12, l0_13, l0_14)) else (some (i39, l40, l43))).bind fun (i55, l56, l59) => ((impl_BestPlan_1.f a0_15 l0_16 l0_17 i55 l56 l59).bind fun _ => if w64 ((l0_16.length : Int) - (l56.length : Int)) < 0 then (some (a0_15, l0_16, l0_17)) else (some (i55, l56, l59))).bind fun (i71, l72, l75) => ((impl_BestPlan_1.f a0_18 l0_19 l0_20 i71 l72 l75).bind fun _ => if w64 ((l0_19.length : Int) - (l72.length : Int)) < 0 then (some (a0_18, l0_19, l0_20)) else (some (i71, l72, l75))).bind fun (i87, l88, l91) => some (i87, l88, l91)
theorem slices_MinFunc_impl_Plan_impl_Plan.calls {w0 ws : World} {P0 : Nat → Prop} (g0 : Nat) (a0_0 : Int) (A0_1 : Option Addr) (c0_1 : Nat) (n0_1 : Nat) (l0_1 : List SStep) (A0_2 : Option Addr) (c0_2 : Nat) (n0_2 : Nat) (l0_2 : List Int) (a0_3 : Int) (A0_4 : Option Addr) (c0_4 : Nat) (n0_4 : Nat) (l0_4 : List SStep) (A0_5 : Option Addr) (c0_5 : Nat) (n0_5 : Nat) (l0_5 : List Int) (a0_6 : Int) (A0_7 : Option Addr) (c0_7 : Nat) (n0_7 : Nat) (l0_7 : List SStep) (A0_8 : Option Addr) (c0_8 : Nat) (n0_8 : Nat) (l0_8 : List Int) (a0_9 : Int) (A0_10 : Option Addr) (c0_10 : Nat) (n0_10 : Nat) (l0_10 : List SStep) (A0_11 : Option Addr) (c0_11 : Nat) (n0_11 : Nat) (l0_11 : List Int) (a0_12 : Int) (A0_13 : Option Addr) (c0_13 : Nat) (n0_13 : Nat) (l0_13 : List SStep) (A0_14 : Option Addr) (c0_14 : Nat) (n0_14 : Nat) (l0_14 : List Int) (a0_15 : Int) (A0_16 : Option Addr) (c0_16 : Nat) (n0_16 : Nat) (l0_16 : List SStep) (A0_17 : Option Addr) (c0_17 : Nat) (n0_17 : Nat) (l0_17 : List Int) (a0_18 : Int) (A0_19 : Option Addr) (c0_19 : Nat) (n0_19 : Nat) (l0_19 : List SStep) (A0_20 : Option Addr) (c0_20 : Nat) (n0_20 : Nat) (l0_20 : List Int) (Z : Below w0.heap.size w0 ws) (hF : Fr w0 ws P0 [row kStep 107 (.slice A0_1 n0_1 c0_1) l0_1, row (Kd.int .i64) 3 (.slice A0_2 n0_2 c0_2) l0_2, row kStep 107 (.slice A0_4 n0_4 c0_4) l0_4, row (Kd.int .i64) 3 (.slice A0_5 n0_5 c0_5) l0_5, row kStep 107 (.slice A0_7 n0_7 c0_7) l0_7, row (Kd.int .i64) 3 (.slice A0_8 n0_8 c0_8) l0_8, row kStep 107 (.slice A0_10 n0_10 c0_10) l0_10, row (Kd.int .i64) 3 (.slice A0_11 n0_11 c0_11) l0_11, row kStep 107 (.slice A0_13 n0_13 c0_13) l0_13, row (Kd.int .i64) 3 (.slice A0_14 n0_14 c0_14) l0_14, row kStep 107 (.slice A0_16 n0_16 c0_16) l0_16, row (Kd.int .i64) 3 (.slice A0_17 n0_17 c0_17) l0_17, row kStep 107 (.slice A0_19 n0_19 c0_19) l0_19, row (Kd.int .i64) 3 (.slice A0_20 n0_20 c0_20) l0_20] ws) (B0 : Stable ws P0 (fun w => w.heap[g0]? = some (.cells #[.int .i64 a0_0, .slice A0_1 n0_1 c0_1, .slice A0_2 n0_2 c0_2, .int .i64 a0_3, .slice A0_4 n0_4 c0_4, .slice A0_5 n0_5 c0_5, .int .i64 a0_6, .slice A0_7 n0_7 c0_7, .slice A0_8 n0_8 c0_8, .int .i64 a0_9, .slice A0_10 n0_10 c0_10, .slice A0_11 n0_11 c0_11, .int .i64 a0_12, .slice A0_13 n0_13 c0_13, .slice A0_14 n0_14 c0_14, .int .i64 a0_15, .slice A0_16 n0_16 c0_16, .slice A0_17 n0_17 c0_17, .int .i64 a0_18, .slice A0_19 n0_19 c0_19, .slice A0_20 n0_20 c0_20] 25 (0, 0)))) (r_1 : Int) (r_2 : List SStep) (r_5 : List Int) (h : slices_MinFunc_impl_Plan_impl_Plan.f a0_0 l0_1 l0_2 a0_3 l0_4 l0_5 a0_6 l0_7 l0_8 a0_9 l0_10 l0_11 a0_12 l0_13 l0_14 a0_15 l0_16 l0_17 a0_18 l0_19 l0_20 = some (r_1, r_2, r_5)) :
  Calls Try.prog 80 #[.slice (some ⟨g0, 0, none⟩) 7 7, .func (.func 81) #[] #[]] ws (Post1 w0 ws P0 (fun ((q_3, q_4, q_6, q_7) : (Option Addr) × Nat × (Option Addr) × Nat) => .agg #[.int .i64 r_1, .slice q_3 r_2.length q_4, .slice q_6 r_5.length q_7]) (fun ((q_3, q_4, q_6, q_7) : (Option Addr) × Nat × (Option Addr) × Nat) => [row kStep 107 (.slice q_3 r_2.length q_4) r_2, row (Kd.int .i64) 3 (.slice q_6 r_5.length q_7) r_5])) := by
 unfold slices_MinFunc_impl_Plan_impl_Plan.f at h
 obtain rfl := (hF.row_C (i := 0) rfl).2.1
 obtain rfl := (hF.row_C (i := 1) rfl).2.1
 obtain rfl := (hF.row_C (i := 2) rfl).2.1
 obtain rfl := (hF.row_C (i := 3) rfl).2.1
 obtain rfl := (hF.row_C (i := 4) rfl).2.1
 obtain rfl := (hF.row_C (i := 5) rfl).2.1
 obtain rfl := (hF.row_C (i := 6) rfl).2.1
 obtain rfl := (hF.row_C (i := 7) rfl).2.1
 obtain rfl := (hF.row_C (i := 8) rfl).2.1
 obtain rfl := (hF.row_C (i := 9) rfl).2.1
 obtain rfl := (hF.row_C (i := 10) rfl).2.1
 obtain rfl := (hF.row_C (i := 11) rfl).2.1
 obtain rfl := (hF.row_C (i := 12) rfl).2.1
 obtain rfl := (hF.row_C (i := 13) rfl).2.1
 refine enter Try.func80 rfl Try.ntmps80 rfl hF ?_
 refine c_seq ?_
 refine za0 ?_
 refine o_e rfl (zab V25 rfl) (fun g1 => ?_)
 refine o_end ?_
 refine za1 ?_
 refine c_seq ?_
 refine c_seq ?_
 refine za0 ?_
 refine o_q rfl rfl (za2 rfl) ?_
 refine o_q rfl rfl (q_len Try.underlying77 rfl) ?_
 refine o_q rfl rfl (q_lss rfl rfl) ?_
 refine o_end ?_
 refine za1 ?_
 refine zaz (congrArg Value.bool (show decide ((7 : Int) < 1) = false from rfl)) ?_
 refine zai ?_
 refine za1 ?_
 refine c_seq ?_
 refine za0 ?_
 refine o_q rfl rfl (za2 rfl) ?_
 refine o_q rfl rfl (q_ixB (m := 0) Try.underlying77 Z25 rfl rfl (by decide)) ?_
 refine o_q rfl rfl (q_ldBo (o := 0) (ls := [.int .i64 a0_0, .slice A0_1 l0_1.length c0_1, .slice A0_2 l0_2.length c0_2]) G25 Z25 rfl (fun w h => B0.now Z h) rfl rfl) ?_
 refine o_e rfl (zab V25 rfl) (fun g3 => ?_)
 refine o_e rfl (zac (i := 0) rfl rfl rfl Z25 rfl rfl) (fun _ => ?_)
 refine o_end ?_
 refine za1 ?_
 refine c_seq ?_
 refine c_seq ?_
 refine za0 ?_
 refine o_q rfl rfl (q_asg rfl) ?_
 refine o_end ?_
 refine za1 ?_
 refine zae ?_
 refine c_rounds 8 ?_
 refine rn_succ ?_
 refine c_seq ?_
 refine c_seq ?_
 refine za0 ?_
 refine o_q rfl rfl (za2 rfl) ?_
 refine o_q rfl rfl (za2 rfl) ?_
 refine o_q rfl rfl (q_len Try.underlying77 rfl) ?_
 refine o_q rfl rfl (q_lss rfl rfl) ?_
 refine o_end ?_
 refine za1 ?_
 refine zar (congrArg Value.bool (show decide ((1 : Int) < 7) = true from rfl)) ?_
 refine zai ?_
 refine za1 ?_
 refine za6 h (fun o14 hl15 hR16 => ?_) rfl
 clear h
 refine c_cutJ (σ := Int × (List SStep) × (List Int) × (Option Addr) × Nat × (Option Addr) × Nat) (fun (i7, l8, l11, A9, c10, A12, c13) => some (i7, l8, l11) = some o14) [20, 21, 22, 23, 24, 25, 26, 27, 28, 29, 30, 31] (fun (i7, l8, l11, A9, c10, A12, c13) => []) (fun (i7, l8, l11, A9, c10, A12, c13) => [box g1 25 #[.int .i64 0, .slice none 0 0, .slice none 0 0], box g3 25 #[.int .i64 i7, .slice A9 l8.length c10, .slice A12 l11.length c13], row kStep 107 (.slice A9 l8.length c10) l8, row (Kd.int .i64) 3 (.slice A12 l11.length c13) l11, row kStep 107 (.slice A0_7 l0_7.length c0_7) l0_7, row (Kd.int .i64) 3 (.slice A0_8 l0_8.length c0_8) l0_8, row kStep 107 (.slice A0_10 l0_10.length c0_10) l0_10, row (Kd.int .i64) 3 (.slice A0_11 l0_11.length c0_11) l0_11, row kStep 107 (.slice A0_13 l0_13.length c0_13) l0_13, row (Kd.int .i64) 3 (.slice A0_14 l0_14.length c0_14) l0_14, row kStep 107 (.slice A0_16 l0_16.length c0_16) l0_16, row (Kd.int .i64) 3 (.slice A0_17 l0_17.length c0_17) l0_17, row kStep 107 (.slice A0_19 l0_19.length c0_19) l0_19, row (Kd.int .i64) 3 (.slice A0_20 l0_20.length c0_20) l0_20]) ?_ ?_
 ·skip
  have h := hl15; clear hl15
  clear hR16
  refine zae ?_
  refine c_seq ?_
  refine a_start (ds := []) MO rfl ?_
  refine a_pure 0 rfl rfl rfl (by kernel_rfl) (fun _ _ _ h => h) (za2 rfl) ?_
  refine a_pure 1 rfl rfl rfl (by kernel_rfl) (fun _ _ _ h => h) (za2 rfl) ?_
  refine a_pure 2 rfl rfl rfl (by kernel_rfl) (fun _ _ _ h => h) (za2 rfl) ?_
  refine a_pure 3 rfl rfl rfl (by kernel_rfl) (fun _ _ _ h => h) (q_ixB (m := 1) Try.underlying77 Z25 rfl rfl (by decide)) ?_
  refine a_take 4 rfl rfl rfl (by kernel_rfl) (fun _ _ _ h => h) (fun w h => h) (q_ldBo (o := 3) (ls := [.int .i64 a0_3, .slice A0_4 l0_4.length c0_4, .slice A0_5 l0_5.length c0_5]) G25 Z25 rfl (fun w h => B0.now Z h) rfl rfl) ?_
  refine a_take 5 rfl rfl rfl (by kernel_rfl) (fun _ _ _ h => h) (fun w h => h) (q_ldB G25 Z25 rfl (fun w h => h.zb2 (i := 0) rfl) rfl) ?_
  refine za6 h (fun _ hx19 h => ?_) rfl
  refine a_one 6 rfl rfl (by kernel_rfl) rfl (za5 0 Z Try.func81 N81 rfl rfl rfl (fun w P1 hF hB hS hT => impl_BestPlan_1.calls a0_3 A0_4 c0_4 l0_4.length l0_4 A0_5 c0_5 l0_5.length l0_5 a0_0 A0_1 c0_1 l0_1.length l0_1 A0_2 c0_2 l0_2.length l0_2 hB hF (hT 4 _ rfl).row (hT 4 _ rfl).cap (hT 5 _ rfl).row (hT 5 _ rfl).cap (hT 2 _ rfl).row (hT 2 _ rfl).cap (hT 3 _ rfl).row (hT 3 _ rfl).cap hx19)) (fun s w h => h) (fun _ => ?_)
  refine a_pure 7 rfl rfl rfl (by kernel_rfl) (fun _ _ _ h => h) (q_lss rfl rfl) ?_
  refine zaj (by kernel_rfl) ?_
  refine za1 ?_
  refine zan _ rfl (fun hb20 => ?_) (fun hb20 => ?_)
  ·skip
   replace h := br_t hb20 h
   refine za0 ?_
   refine o_q rfl rfl (za2 rfl) ?_
   refine o_q rfl rfl (za2 rfl) ?_
   refine o_q rfl rfl (q_ixB (m := 1) Try.underlying77 Z25 rfl rfl (by decide)) ?_
   refine o_q rfl rfl (q_ldBo (o := 3) (ls := [.int .i64 a0_3, .slice A0_4 l0_4.length c0_4, .slice A0_5 l0_5.length c0_5]) G25 Z25 rfl (fun w h => B0.now Z h) rfl rfl) ?_
   refine o_e rfl (zac (i := 0) rfl rfl rfl Z25 rfl rfl) (fun _ => ?_)
   refine o_end ?_
   refine zaf ?_
   refine zah (a0_3, l0_4, l0_5, A0_4, c0_4, A0_5, c0_5) h trivial (fun w h => f_pick [1, 0, 4, 5, 6, 7, 8, 9, 10, 11, 12, 13, 14, 15] (by decide) rfl w h) ?_
   repeat (first | exact off_refl _ _ | refine off_upd rfl ?_ | refine off_updL rfl ?_ | refine off_mix rfl ?_)
  ·skip
   replace h := br_f hb20 h
   refine zai ?_
   refine zaf ?_
   refine zah (a0_0, l0_1, l0_2, A0_1, c0_1, A0_2, c0_2) h trivial (fun w h => f_pick [1, 0, 2, 3, 6, 7, 8, 9, 10, 11, 12, 13, 14, 15] (by decide) rfl w h) ?_
   repeat (first | exact off_refl _ _ | refine off_upd rfl ?_ | refine off_updL rfl ?_ | refine off_mix rfl ?_)
 ·skip
  refine (cur7 (fun i7 l8 l11 A9 c10 A12 c13 => fun U17 hJ18 => ?_))
  have e_ := Option.some.inj hJ18; have h := hR16; rw [← e_] at h; clear e_ hJ18 hR16 hl15
  refine za0 ?_
  refine o_q rfl rfl (za2 rfl) ?_
  refine o_q rfl rfl (q_addc rfl rfl rfl) ?_
  refine o_q rfl rfl (q_asg rfl) ?_
  refine o_end ?_
  refine x_rn ?_
  refine rn_succ ?_
  refine c_seq ?_
  refine c_seq ?_
  refine za0 ?_
  refine o_q rfl rfl (za2 rfl) ?_
  refine o_q rfl rfl (za2 rfl) ?_
  refine o_q rfl rfl (q_len Try.underlying77 rfl) ?_
  refine o_q rfl rfl (q_lss rfl rfl) ?_
  refine o_end ?_
  refine za1 ?_
  refine zar (congrArg Value.bool (show decide ((2 : Int) < 7) = true from rfl)) ?_
  refine zai ?_
  refine za1 ?_
  refine za6 h (fun o30 hl31 hR32 => ?_) rfl
  clear h
  refine c_cutJ (σ := Int × (List SStep) × (List Int) × (Option Addr) × Nat × (Option Addr) × Nat) (fun (i23, l24, l27, A25, c26, A28, c29) => some (i23, l24, l27) = some o30) [20, 21, 22, 23, 24, 25, 26, 27, 28, 29, 30, 31] (fun (i23, l24, l27, A25, c26, A28, c29) => []) (fun (i23, l24, l27, A25, c26, A28, c29) => [box g1 25 #[.int .i64 0, .slice none 0 0, .slice none 0 0], box g3 25 #[.int .i64 i23, .slice A25 l24.length c26, .slice A28 l27.length c29], row kStep 107 (.slice A25 l24.length c26) l24, row (Kd.int .i64) 3 (.slice A28 l27.length c29) l27, row kStep 107 (.slice A0_10 l0_10.length c0_10) l0_10, row (Kd.int .i64) 3 (.slice A0_11 l0_11.length c0_11) l0_11, row kStep 107 (.slice A0_13 l0_13.length c0_13) l0_13, row (Kd.int .i64) 3 (.slice A0_14 l0_14.length c0_14) l0_14, row kStep 107 (.slice A0_16 l0_16.length c0_16) l0_16, row (Kd.int .i64) 3 (.slice A0_17 l0_17.length c0_17) l0_17, row kStep 107 (.slice A0_19 l0_19.length c0_19) l0_19, row (Kd.int .i64) 3 (.slice A0_20 l0_20.length c0_20) l0_20]) ?_ ?_
  ·skip
   have h := hl31; clear hl31
   clear hR32
   refine zae ?_
   refine c_seq ?_
   refine a_start (ds := []) MO rfl ?_
   refine a_pure 0 rfl rfl rfl (by kernel_rfl) (fun _ _ _ h => h) (za2 rfl) ?_
   refine a_pure 1 rfl rfl rfl (by kernel_rfl) (fun _ _ _ h => h) (za2 rfl) ?_
   refine a_pure 2 rfl rfl rfl (by kernel_rfl) (fun _ _ _ h => h) (za2 rfl) ?_
   refine a_pure 3 rfl rfl rfl (by kernel_rfl) (fun _ _ _ h => h) (q_ixB (m := 2) Try.underlying77 Z25 rfl rfl (by decide)) ?_
   refine a_take 4 rfl rfl rfl (by kernel_rfl) (fun _ _ _ h => h) (fun w h => h) (q_ldBo (o := 6) (ls := [.int .i64 a0_6, .slice A0_7 l0_7.length c0_7, .slice A0_8 l0_8.length c0_8]) G25 Z25 rfl (fun w h => B0.now Z h) rfl rfl) ?_
   refine a_take 5 rfl rfl rfl (by kernel_rfl) (fun _ _ _ h => h) (fun w h => h) (q_ldB G25 Z25 rfl (fun w h => h.zb2 (i := 1) rfl) rfl) ?_
   refine za6 h (fun _ hx35 h => ?_) rfl
   refine a_one 6 rfl rfl (by kernel_rfl) rfl (za5 0 Z Try.func81 N81 rfl rfl rfl (fun w P1 hF hB hS hT => impl_BestPlan_1.calls a0_6 A0_7 c0_7 l0_7.length l0_7 A0_8 c0_8 l0_8.length l0_8 i7 A9 c10 l8.length l8 A12 c13 l11.length l11 hB hF (hT 4 _ rfl).row (hT 4 _ rfl).cap (hT 5 _ rfl).row (hT 5 _ rfl).cap (hT 2 _ rfl).row (hT 2 _ rfl).cap (hT 3 _ rfl).row (hT 3 _ rfl).cap hx35)) (fun s w h => h) (fun _ => ?_)
   refine a_pure 7 rfl rfl rfl (by kernel_rfl) (fun _ _ _ h => h) (q_lss rfl rfl) ?_
   refine zaj (by kernel_rfl) ?_
   refine za1 ?_
   refine zan _ rfl (fun hb36 => ?_) (fun hb36 => ?_)
   ·skip
    replace h := br_t hb36 h
    refine za0 ?_
    refine o_q rfl rfl (za2 rfl) ?_
    refine o_q rfl rfl (za2 rfl) ?_
    refine o_q rfl rfl (q_ixB (m := 2) Try.underlying77 Z25 rfl rfl (by decide)) ?_
    refine o_q rfl rfl (q_ldBo (o := 6) (ls := [.int .i64 a0_6, .slice A0_7 l0_7.length c0_7, .slice A0_8 l0_8.length c0_8]) G25 Z25 rfl (fun w h => B0.now Z h) rfl rfl) ?_
    refine o_e rfl (zac (i := 1) rfl rfl rfl Z25 rfl rfl) (fun _ => ?_)
    refine o_end ?_
    refine zaf ?_
    refine zah (a0_6, l0_7, l0_8, A0_7, c0_7, A0_8, c0_8) h trivial (fun w h => f_pick [0, 1, 4, 5, 6, 7, 8, 9, 10, 11, 12, 13] (by decide) rfl w h) ?_
    repeat (first | exact off_refl _ _ | refine off_upd rfl ?_ | refine off_updL rfl ?_ | refine off_mix rfl ?_)
   ·skip
    replace h := br_f hb36 h
    refine zai ?_
    refine zaf ?_
    refine zah (i7, l8, l11, A9, c10, A12, c13) h trivial (fun w h => f_pick [0, 1, 2, 3, 6, 7, 8, 9, 10, 11, 12, 13] (by decide) rfl w h) ?_
    repeat (first | exact off_refl _ _ | refine off_upd rfl ?_ | refine off_updL rfl ?_ | refine off_mix rfl ?_)
  ·skip
   refine (cur7 (fun i23 l24 l27 A25 c26 A28 c29 => fun U33 hJ34 => ?_))
   have e_ := Option.some.inj hJ34; have h := hR32; rw [← e_] at h; clear e_ hJ34 hR32 hl31
   refine za0 ?_
   refine o_q rfl rfl (za2 rfl) ?_
   refine o_q rfl rfl (q_addc rfl rfl rfl) ?_
   refine o_q rfl rfl (q_asg rfl) ?_
   refine o_end ?_
   refine x_rn ?_
   refine rn_succ ?_
   refine c_seq ?_
   refine c_seq ?_
   refine za0 ?_
   refine o_q rfl rfl (za2 rfl) ?_
   refine o_q rfl rfl (za2 rfl) ?_
   refine o_q rfl rfl (q_len Try.underlying77 rfl) ?_
   refine o_q rfl rfl (q_lss rfl rfl) ?_
   refine o_end ?_
   refine za1 ?_
   refine zar (congrArg Value.bool (show decide ((3 : Int) < 7) = true from rfl)) ?_
   refine zai ?_
   refine za1 ?_
   refine za6 h (fun o46 hl47 hR48 => ?_) rfl
   clear h
   refine c_cutJ (σ := Int × (List SStep) × (List Int) × (Option Addr) × Nat × (Option Addr) × Nat) (fun (i39, l40, l43, A41, c42, A44, c45) => some (i39, l40, l43) = some o46) [20, 21, 22, 23, 24, 25, 26, 27, 28, 29, 30, 31] (fun (i39, l40, l43, A41, c42, A44, c45) => []) (fun (i39, l40, l43, A41, c42, A44, c45) => [box g1 25 #[.int .i64 0, .slice none 0 0, .slice none 0 0], box g3 25 #[.int .i64 i39, .slice A41 l40.length c42, .slice A44 l43.length c45], row kStep 107 (.slice A41 l40.length c42) l40, row (Kd.int .i64) 3 (.slice A44 l43.length c45) l43, row kStep 107 (.slice A0_13 l0_13.length c0_13) l0_13, row (Kd.int .i64) 3 (.slice A0_14 l0_14.length c0_14) l0_14, row kStep 107 (.slice A0_16 l0_16.length c0_16) l0_16, row (Kd.int .i64) 3 (.slice A0_17 l0_17.length c0_17) l0_17, row kStep 107 (.slice A0_19 l0_19.length c0_19) l0_19, row (Kd.int .i64) 3 (.slice A0_20 l0_20.length c0_20) l0_20]) ?_ ?_
   ·skip
    have h := hl47; clear hl47
    clear hR48
    refine zae ?_
    refine c_seq ?_
    refine a_start (ds := []) MO rfl ?_
    refine a_pure 0 rfl rfl rfl (by kernel_rfl) (fun _ _ _ h => h) (za2 rfl) ?_
    refine a_pure 1 rfl rfl rfl (by kernel_rfl) (fun _ _ _ h => h) (za2 rfl) ?_
    refine a_pure 2 rfl rfl rfl (by kernel_rfl) (fun _ _ _ h => h) (za2 rfl) ?_
    refine a_pure 3 rfl rfl rfl (by kernel_rfl) (fun _ _ _ h => h) (q_ixB (m := 3) Try.underlying77 Z25 rfl rfl (by decide)) ?_
    refine a_take 4 rfl rfl rfl (by kernel_rfl) (fun _ _ _ h => h) (fun w h => h) (q_ldBo (o := 9) (ls := [.int .i64 a0_9, .slice A0_10 l0_10.length c0_10, .slice A0_11 l0_11.length c0_11]) G25 Z25 rfl (fun w h => B0.now Z h) rfl rfl) ?_
    refine a_take 5 rfl rfl rfl (by kernel_rfl) (fun _ _ _ h => h) (fun w h => h) (q_ldB G25 Z25 rfl (fun w h => h.zb2 (i := 1) rfl) rfl) ?_
    refine za6 h (fun _ hx51 h => ?_) rfl
    refine a_one 6 rfl rfl (by kernel_rfl) rfl (za5 0 Z Try.func81 N81 rfl rfl rfl (fun w P1 hF hB hS hT => impl_BestPlan_1.calls a0_9 A0_10 c0_10 l0_10.length l0_10 A0_11 c0_11 l0_11.length l0_11 i23 A25 c26 l24.length l24 A28 c29 l27.length l27 hB hF (hT 4 _ rfl).row (hT 4 _ rfl).cap (hT 5 _ rfl).row (hT 5 _ rfl).cap (hT 2 _ rfl).row (hT 2 _ rfl).cap (hT 3 _ rfl).row (hT 3 _ rfl).cap hx51)) (fun s w h => h) (fun _ => ?_)
    refine a_pure 7 rfl rfl rfl (by kernel_rfl) (fun _ _ _ h => h) (q_lss rfl rfl) ?_
    refine zaj (by kernel_rfl) ?_
    refine za1 ?_
    refine zan _ rfl (fun hb52 => ?_) (fun hb52 => ?_)
    ·skip
     replace h := br_t hb52 h
     refine za0 ?_
     refine o_q rfl rfl (za2 rfl) ?_
     refine o_q rfl rfl (za2 rfl) ?_
     refine o_q rfl rfl (q_ixB (m := 3) Try.underlying77 Z25 rfl rfl (by decide)) ?_
     refine o_q rfl rfl (q_ldBo (o := 9) (ls := [.int .i64 a0_9, .slice A0_10 l0_10.length c0_10, .slice A0_11 l0_11.length c0_11]) G25 Z25 rfl (fun w h => B0.now Z h) rfl rfl) ?_
     refine o_e rfl (zac (i := 1) rfl rfl rfl Z25 rfl rfl) (fun _ => ?_)
     refine o_end ?_
     refine zaf ?_
     refine zah (a0_9, l0_10, l0_11, A0_10, c0_10, A0_11, c0_11) h trivial (fun w h => f_pick [0, 1, 4, 5, 6, 7, 8, 9, 10, 11] (by decide) rfl w h) ?_
     repeat (first | exact off_refl _ _ | refine off_upd rfl ?_ | refine off_updL rfl ?_ | refine off_mix rfl ?_)
    ·skip
     replace h := br_f hb52 h
     refine zai ?_
     refine zaf ?_
     refine zah (i23, l24, l27, A25, c26, A28, c29) h trivial (fun w h => f_pick [0, 1, 2, 3, 6, 7, 8, 9, 10, 11] (by decide) rfl w h) ?_
     repeat (first | exact off_refl _ _ | refine off_upd rfl ?_ | refine off_updL rfl ?_ | refine off_mix rfl ?_)
   ·skip
    refine (cur7 (fun i39 l40 l43 A41 c42 A44 c45 => fun U49 hJ50 => ?_))
    have e_ := Option.some.inj hJ50; have h := hR48; rw [← e_] at h; clear e_ hJ50 hR48 hl47
    refine za0 ?_
    refine o_q rfl rfl (za2 rfl) ?_
    refine o_q rfl rfl (q_addc rfl rfl rfl) ?_
    refine o_q rfl rfl (q_asg rfl) ?_
    refine o_end ?_
    refine x_rn ?_
    refine rn_succ ?_
    refine c_seq ?_
    refine c_seq ?_
    refine za0 ?_
    refine o_q rfl rfl (za2 rfl) ?_
    refine o_q rfl rfl (za2 rfl) ?_
    refine o_q rfl rfl (q_len Try.underlying77 rfl) ?_
    refine o_q rfl rfl (q_lss rfl rfl) ?_
    refine o_end ?_
    refine za1 ?_
    refine zar (congrArg Value.bool (show decide ((4 : Int) < 7) = true from rfl)) ?_
    refine zai ?_
    refine za1 ?_
    refine za6 h (fun o62 hl63 hR64 => ?_) rfl
    clear h
    refine c_cutJ (σ := Int × (List SStep) × (List Int) × (Option Addr) × Nat × (Option Addr) × Nat) (fun (i55, l56, l59, A57, c58, A60, c61) => some (i55, l56, l59) = some o62) [20, 21, 22, 23, 24, 25, 26, 27, 28, 29, 30, 31] (fun (i55, l56, l59, A57, c58, A60, c61) => []) (fun (i55, l56, l59, A57, c58, A60, c61) => [box g1 25 #[.int .i64 0, .slice none 0 0, .slice none 0 0], box g3 25 #[.int .i64 i55, .slice A57 l56.length c58, .slice A60 l59.length c61], row kStep 107 (.slice A57 l56.length c58) l56, row (Kd.int .i64) 3 (.slice A60 l59.length c61) l59, row kStep 107 (.slice A0_16 l0_16.length c0_16) l0_16, row (Kd.int .i64) 3 (.slice A0_17 l0_17.length c0_17) l0_17, row kStep 107 (.slice A0_19 l0_19.length c0_19) l0_19, row (Kd.int .i64) 3 (.slice A0_20 l0_20.length c0_20) l0_20]) ?_ ?_
    ·skip
     have h := hl63; clear hl63
     clear hR64
     refine zae ?_
     refine c_seq ?_
     refine a_start (ds := []) MO rfl ?_
     refine a_pure 0 rfl rfl rfl (by kernel_rfl) (fun _ _ _ h => h) (za2 rfl) ?_
     refine a_pure 1 rfl rfl rfl (by kernel_rfl) (fun _ _ _ h => h) (za2 rfl) ?_
     refine a_pure 2 rfl rfl rfl (by kernel_rfl) (fun _ _ _ h => h) (za2 rfl) ?_
     refine a_pure 3 rfl rfl rfl (by kernel_rfl) (fun _ _ _ h => h) (q_ixB (m := 4) Try.underlying77 Z25 rfl rfl (by decide)) ?_
     refine a_take 4 rfl rfl rfl (by kernel_rfl) (fun _ _ _ h => h) (fun w h => h) (q_ldBo (o := 12) (ls := [.int .i64 a0_12, .slice A0_13 l0_13.length c0_13, .slice A0_14 l0_14.length c0_14]) G25 Z25 rfl (fun w h => B0.now Z h) rfl rfl) ?_
     refine a_take 5 rfl rfl rfl (by kernel_rfl) (fun _ _ _ h => h) (fun w h => h) (q_ldB G25 Z25 rfl (fun w h => h.zb2 (i := 1) rfl) rfl) ?_
     refine za6 h (fun _ hx67 h => ?_) rfl
     refine a_one 6 rfl rfl (by kernel_rfl) rfl (za5 0 Z Try.func81 N81 rfl rfl rfl (fun w P1 hF hB hS hT => impl_BestPlan_1.calls a0_12 A0_13 c0_13 l0_13.length l0_13 A0_14 c0_14 l0_14.length l0_14 i39 A41 c42 l40.length l40 A44 c45 l43.length l43 hB hF (hT 4 _ rfl).row (hT 4 _ rfl).cap (hT 5 _ rfl).row (hT 5 _ rfl).cap (hT 2 _ rfl).row (hT 2 _ rfl).cap (hT 3 _ rfl).row (hT 3 _ rfl).cap hx67)) (fun s w h => h) (fun _ => ?_)
     refine a_pure 7 rfl rfl rfl (by kernel_rfl) (fun _ _ _ h => h) (q_lss rfl rfl) ?_
     refine zaj (by kernel_rfl) ?_
     refine za1 ?_
     refine zan _ rfl (fun hb68 => ?_) (fun hb68 => ?_)
     ·skip
      replace h := br_t hb68 h
      refine za0 ?_
      refine o_q rfl rfl (za2 rfl) ?_
      refine o_q rfl rfl (za2 rfl) ?_
      refine o_q rfl rfl (q_ixB (m := 4) Try.underlying77 Z25 rfl rfl (by decide)) ?_
      refine o_q rfl rfl (q_ldBo (o := 12) (ls := [.int .i64 a0_12, .slice A0_13 l0_13.length c0_13, .slice A0_14 l0_14.length c0_14]) G25 Z25 rfl (fun w h => B0.now Z h) rfl rfl) ?_
      refine o_e rfl (zac (i := 1) rfl rfl rfl Z25 rfl rfl) (fun _ => ?_)
      refine o_end ?_
      refine zaf ?_
      refine zah (a0_12, l0_13, l0_14, A0_13, c0_13, A0_14, c0_14) h trivial (fun w h => f_pick [0, 1, 4, 5, 6, 7, 8, 9] (by decide) rfl w h) ?_
      repeat (first | exact off_refl _ _ | refine off_upd rfl ?_ | refine off_updL rfl ?_ | refine off_mix rfl ?_)
     ·skip
      replace h := br_f hb68 h
      refine zai ?_
      refine zaf ?_
      refine zah (i39, l40, l43, A41, c42, A44, c45) h trivial (fun w h => f_pick [0, 1, 2, 3, 6, 7, 8, 9] (by decide) rfl w h) ?_
      repeat (first | exact off_refl _ _ | refine off_upd rfl ?_ | refine off_updL rfl ?_ | refine off_mix rfl ?_)
    ·skip
     refine (cur7 (fun i55 l56 l59 A57 c58 A60 c61 => fun U65 hJ66 => ?_))
     have e_ := Option.some.inj hJ66; have h := hR64; rw [← e_] at h; clear e_ hJ66 hR64 hl63
     refine za0 ?_
     refine o_q rfl rfl (za2 rfl) ?_
     refine o_q rfl rfl (q_addc rfl rfl rfl) ?_
     refine o_q rfl rfl (q_asg rfl) ?_
     refine o_end ?_
     refine x_rn ?_
     refine rn_succ ?_
     refine c_seq ?_
     refine c_seq ?_
     refine za0 ?_
     refine o_q rfl rfl (za2 rfl) ?_
     refine o_q rfl rfl (za2 rfl) ?_
     refine o_q rfl rfl (q_len Try.underlying77 rfl) ?_
     refine o_q rfl rfl (q_lss rfl rfl) ?_
     refine o_end ?_
     refine za1 ?_
     refine zar (congrArg Value.bool (show decide ((5 : Int) < 7) = true from rfl)) ?_
     refine zai ?_
     refine za1 ?_
     refine za6 h (fun o78 hl79 hR80 => ?_) rfl
     clear h
     refine c_cutJ (σ := Int × (List SStep) × (List Int) × (Option Addr) × Nat × (Option Addr) × Nat) (fun (i71, l72, l75, A73, c74, A76, c77) => some (i71, l72, l75) = some o78) [20, 21, 22, 23, 24, 25, 26, 27, 28, 29, 30, 31] (fun (i71, l72, l75, A73, c74, A76, c77) => []) (fun (i71, l72, l75, A73, c74, A76, c77) => [box g1 25 #[.int .i64 0, .slice none 0 0, .slice none 0 0], box g3 25 #[.int .i64 i71, .slice A73 l72.length c74, .slice A76 l75.length c77], row kStep 107 (.slice A73 l72.length c74) l72, row (Kd.int .i64) 3 (.slice A76 l75.length c77) l75, row kStep 107 (.slice A0_19 l0_19.length c0_19) l0_19, row (Kd.int .i64) 3 (.slice A0_20 l0_20.length c0_20) l0_20]) ?_ ?_
     ·skip
      have h := hl79; clear hl79
      clear hR80
      refine zae ?_
      refine c_seq ?_
      refine a_start (ds := []) MO rfl ?_
      refine a_pure 0 rfl rfl rfl (by kernel_rfl) (fun _ _ _ h => h) (za2 rfl) ?_
      refine a_pure 1 rfl rfl rfl (by kernel_rfl) (fun _ _ _ h => h) (za2 rfl) ?_
      refine a_pure 2 rfl rfl rfl (by kernel_rfl) (fun _ _ _ h => h) (za2 rfl) ?_
      refine a_pure 3 rfl rfl rfl (by kernel_rfl) (fun _ _ _ h => h) (q_ixB (m := 5) Try.underlying77 Z25 rfl rfl (by decide)) ?_
      refine a_take 4 rfl rfl rfl (by kernel_rfl) (fun _ _ _ h => h) (fun w h => h) (q_ldBo (o := 15) (ls := [.int .i64 a0_15, .slice A0_16 l0_16.length c0_16, .slice A0_17 l0_17.length c0_17]) G25 Z25 rfl (fun w h => B0.now Z h) rfl rfl) ?_
      refine a_take 5 rfl rfl rfl (by kernel_rfl) (fun _ _ _ h => h) (fun w h => h) (q_ldB G25 Z25 rfl (fun w h => h.zb2 (i := 1) rfl) rfl) ?_
      refine za6 h (fun _ hx83 h => ?_) rfl
      refine a_one 6 rfl rfl (by kernel_rfl) rfl (za5 0 Z Try.func81 N81 rfl rfl rfl (fun w P1 hF hB hS hT => impl_BestPlan_1.calls a0_15 A0_16 c0_16 l0_16.length l0_16 A0_17 c0_17 l0_17.length l0_17 i55 A57 c58 l56.length l56 A60 c61 l59.length l59 hB hF (hT 4 _ rfl).row (hT 4 _ rfl).cap (hT 5 _ rfl).row (hT 5 _ rfl).cap (hT 2 _ rfl).row (hT 2 _ rfl).cap (hT 3 _ rfl).row (hT 3 _ rfl).cap hx83)) (fun s w h => h) (fun _ => ?_)
      refine a_pure 7 rfl rfl rfl (by kernel_rfl) (fun _ _ _ h => h) (q_lss rfl rfl) ?_
      refine zaj (by kernel_rfl) ?_
      refine za1 ?_
      refine zan _ rfl (fun hb84 => ?_) (fun hb84 => ?_)
      ·skip
       replace h := br_t hb84 h
       refine za0 ?_
       refine o_q rfl rfl (za2 rfl) ?_
       refine o_q rfl rfl (za2 rfl) ?_
       refine o_q rfl rfl (q_ixB (m := 5) Try.underlying77 Z25 rfl rfl (by decide)) ?_
       refine o_q rfl rfl (q_ldBo (o := 15) (ls := [.int .i64 a0_15, .slice A0_16 l0_16.length c0_16, .slice A0_17 l0_17.length c0_17]) G25 Z25 rfl (fun w h => B0.now Z h) rfl rfl) ?_
       refine o_e rfl (zac (i := 1) rfl rfl rfl Z25 rfl rfl) (fun _ => ?_)
       refine o_end ?_
       refine zaf ?_
       refine zah (a0_15, l0_16, l0_17, A0_16, c0_16, A0_17, c0_17) h trivial (fun w h => f_pick [0, 1, 4, 5, 6, 7] (by decide) rfl w h) ?_
       repeat (first | exact off_refl _ _ | refine off_upd rfl ?_ | refine off_updL rfl ?_ | refine off_mix rfl ?_)
      ·skip
       replace h := br_f hb84 h
       refine zai ?_
       refine zaf ?_
       refine zah (i55, l56, l59, A57, c58, A60, c61) h trivial (fun w h => f_pick [0, 1, 2, 3, 6, 7] (by decide) rfl w h) ?_
       repeat (first | exact off_refl _ _ | refine off_upd rfl ?_ | refine off_updL rfl ?_ | refine off_mix rfl ?_)
     ·skip
      refine (cur7 (fun i71 l72 l75 A73 c74 A76 c77 => fun U81 hJ82 => ?_))
      have e_ := Option.some.inj hJ82; have h := hR80; rw [← e_] at h; clear e_ hJ82 hR80 hl79
      refine za0 ?_
      refine o_q rfl rfl (za2 rfl) ?_
      refine o_q rfl rfl (q_addc rfl rfl rfl) ?_
      refine o_q rfl rfl (q_asg rfl) ?_
      refine o_end ?_
      refine x_rn ?_
      refine rn_succ ?_
      refine c_seq ?_
      refine c_seq ?_
      refine za0 ?_
      refine o_q rfl rfl (za2 rfl) ?_
      refine o_q rfl rfl (za2 rfl) ?_
      refine o_q rfl rfl (q_len Try.underlying77 rfl) ?_
      refine o_q rfl rfl (q_lss rfl rfl) ?_
      refine o_end ?_
      refine za1 ?_
      refine zar (congrArg Value.bool (show decide ((6 : Int) < 7) = true from rfl)) ?_
      refine zai ?_
      refine za1 ?_
      refine za6 h (fun o94 hl95 hR96 => ?_) rfl
      clear h
      refine c_cutJ (σ := Int × (List SStep) × (List Int) × (Option Addr) × Nat × (Option Addr) × Nat) (fun (i87, l88, l91, A89, c90, A92, c93) => some (i87, l88, l91) = some o94) [20, 21, 22, 23, 24, 25, 26, 27, 28, 29, 30, 31] (fun (i87, l88, l91, A89, c90, A92, c93) => []) (fun (i87, l88, l91, A89, c90, A92, c93) => [box g1 25 #[.int .i64 0, .slice none 0 0, .slice none 0 0], box g3 25 #[.int .i64 i87, .slice A89 l88.length c90, .slice A92 l91.length c93], row kStep 107 (.slice A89 l88.length c90) l88, row (Kd.int .i64) 3 (.slice A92 l91.length c93) l91]) ?_ ?_
      ·skip
       have h := hl95; clear hl95
       clear hR96
       refine zae ?_
       refine c_seq ?_
       refine a_start (ds := []) MO rfl ?_
       refine a_pure 0 rfl rfl rfl (by kernel_rfl) (fun _ _ _ h => h) (za2 rfl) ?_
       refine a_pure 1 rfl rfl rfl (by kernel_rfl) (fun _ _ _ h => h) (za2 rfl) ?_
       refine a_pure 2 rfl rfl rfl (by kernel_rfl) (fun _ _ _ h => h) (za2 rfl) ?_
       refine a_pure 3 rfl rfl rfl (by kernel_rfl) (fun _ _ _ h => h) (q_ixB (m := 6) Try.underlying77 Z25 rfl rfl (by decide)) ?_
       refine a_take 4 rfl rfl rfl (by kernel_rfl) (fun _ _ _ h => h) (fun w h => h) (q_ldBo (o := 18) (ls := [.int .i64 a0_18, .slice A0_19 l0_19.length c0_19, .slice A0_20 l0_20.length c0_20]) G25 Z25 rfl (fun w h => B0.now Z h) rfl rfl) ?_
       refine a_take 5 rfl rfl rfl (by kernel_rfl) (fun _ _ _ h => h) (fun w h => h) (q_ldB G25 Z25 rfl (fun w h => h.zb2 (i := 1) rfl) rfl) ?_
       refine za6 h (fun _ hx99 h => ?_) rfl
       refine a_one 6 rfl rfl (by kernel_rfl) rfl (za5 0 Z Try.func81 N81 rfl rfl rfl (fun w P1 hF hB hS hT => impl_BestPlan_1.calls a0_18 A0_19 c0_19 l0_19.length l0_19 A0_20 c0_20 l0_20.length l0_20 i71 A73 c74 l72.length l72 A76 c77 l75.length l75 hB hF (hT 4 _ rfl).row (hT 4 _ rfl).cap (hT 5 _ rfl).row (hT 5 _ rfl).cap (hT 2 _ rfl).row (hT 2 _ rfl).cap (hT 3 _ rfl).row (hT 3 _ rfl).cap hx99)) (fun s w h => h) (fun _ => ?_)
       refine a_pure 7 rfl rfl rfl (by kernel_rfl) (fun _ _ _ h => h) (q_lss rfl rfl) ?_
       refine zaj (by kernel_rfl) ?_
       refine za1 ?_
       refine zan _ rfl (fun hb100 => ?_) (fun hb100 => ?_)
       ·skip
        replace h := br_t hb100 h
        refine za0 ?_
        refine o_q rfl rfl (za2 rfl) ?_
        refine o_q rfl rfl (za2 rfl) ?_
        refine o_q rfl rfl (q_ixB (m := 6) Try.underlying77 Z25 rfl rfl (by decide)) ?_
        refine o_q rfl rfl (q_ldBo (o := 18) (ls := [.int .i64 a0_18, .slice A0_19 l0_19.length c0_19, .slice A0_20 l0_20.length c0_20]) G25 Z25 rfl (fun w h => B0.now Z h) rfl rfl) ?_
        refine o_e rfl (zac (i := 1) rfl rfl rfl Z25 rfl rfl) (fun _ => ?_)
        refine o_end ?_
        refine zaf ?_
        refine zah (a0_18, l0_19, l0_20, A0_19, c0_19, A0_20, c0_20) h trivial (fun w h => f_pick [0, 1, 4, 5] (by decide) rfl w h) ?_
        repeat (first | exact off_refl _ _ | refine off_upd rfl ?_ | refine off_updL rfl ?_ | refine off_mix rfl ?_)
       ·skip
        replace h := br_f hb100 h
        refine zai ?_
        refine zaf ?_
        refine zah (i71, l72, l75, A73, c74, A76, c77) h trivial (fun w h => f_pick [0, 1, 2, 3] (by decide) rfl w h) ?_
        repeat (first | exact off_refl _ _ | refine off_upd rfl ?_ | refine off_updL rfl ?_ | refine off_mix rfl ?_)
      ·skip
       refine (cur7 (fun i87 l88 l91 A89 c90 A92 c93 => fun U97 hJ98 => ?_))
       have e_ := Option.some.inj hJ98; have h := hR96; rw [← e_] at h; clear e_ hJ98 hR96 hl95
       refine za0 ?_
       refine o_q rfl rfl (za2 rfl) ?_
       refine o_q rfl rfl (q_addc rfl rfl rfl) ?_
       refine o_q rfl rfl (q_asg rfl) ?_
       refine o_end ?_
       refine x_rn ?_
       refine rn_succ ?_
       refine c_seq ?_
       refine c_seq ?_
       refine za0 ?_
       refine o_q rfl rfl (za2 rfl) ?_
       refine o_q rfl rfl (za2 rfl) ?_
       refine o_q rfl rfl (q_len Try.underlying77 rfl) ?_
       refine o_q rfl rfl (q_lss rfl rfl) ?_
       refine o_end ?_
       refine za1 ?_
       refine zaz (congrArg Value.bool (show decide ((7 : Int) < 7) = false from rfl)) ?_
       refine zax ?_
       refine za7 ?_
       refine za7 ?_
       refine x_hit ?_
       refine za1 ?_
       refine c_seq ?_
       refine za0 ?_
       refine o_q rfl rfl (q_ldB G25 Z25 rfl (fun w h => h.zb2 (i := 1) rfl) rfl) ?_
       refine o_e rfl (zac (i := 0) rfl rfl rfl Z25 rfl rfl) (fun _ => ?_)
       refine o_end ?_
       refine za1 ?_
       refine c_ret ?_
       have e0_ := Option.some.inj h; clear h
       have d0_ := (Prod.mk.inj e0_).1; have e1_ := (Prod.mk.inj e0_).2; clear e0_; subst d0_
       have d1_ := (Prod.mk.inj e1_).1; have e2_ := (Prod.mk.inj e1_).2; clear e1_; subst d1_
       subst e2_
       exact x_r1 (A89, c90, A92, c93) Try.results80 (zb0 rfl G25 Z25 (fun w h => h.zb2 (i := 0) rfl) rfl) rfl (fun w h => f_pick [2, 3] (by decide) rfl w h)

end Go.Proofs.Ytiaohjciddbpoaa.M5
