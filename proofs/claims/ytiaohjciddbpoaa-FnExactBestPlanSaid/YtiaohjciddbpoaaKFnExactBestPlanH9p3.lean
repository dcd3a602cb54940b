import Derived.Test.YtiaohjciddbpoaaKFnExactBestPlanH9p2
namespace Go.Proofs.Ytiaohjciddbpoaa.H9
set_option maxHeartbeats 8000000
set_option maxRecDepth 100000
open Go.RowKit Go.Proofs.Ytiaohjciddbpoaa.Frame Go.Proofs.YtiaohjciddbpoaaW.PrintLast Go.Proofs.Ytiaohjciddbpoaa.Hand
open Go.Proofs.YtiaohjciddbpoaaW.PrintWords hiding mn mx
set_option linter.unusedVariables false
def spec_meFactors.f : Nat → Int → Option ((List SStep) × (List Int))
  | 0, _ => none
  | k + 1, a0 => if a0 = 1 then ((spec_meEnd.f 1 ([] : List SStep) [] 0).bind fun _ => some (([] : List SStep), ([0] : List Int))) else ((spec_meFactor.f k a0).bind fun i9 => if i9 = a0 then (((spec_meFactors.f k) (w64 (a0 - 1))).bind fun (l12, l13) => ((gt l13 0).bind fun y993 => (spec_meTimes.f 1 l12 l13 y993 0).bind fun l1112 => some l1112).bind fun l802 => (spec_meEnd.f 1 l802 [] (w64 (1 + (l12.length : Int)))).bind fun _ => some (l802, ([(w64 (1 + (l12.length : Int)))] : List Int))) else (((spec_meFactors.f k) i9).bind fun (l1595, l1596) => (nz i9).bind fun _ => ((spec_meFactors.f k) (w64 (a0.tdiv i9))).bind fun (l1605, l1606) => (spec_plThen.f l1595 1 1 l1605 l1606 l1596).bind fun (l1612, l1613) => some (l1612, l1613)))
theorem spec_meFactors.calls : ∀ (k : Nat) {w0 ws : World} {P0 : Nat → Prop} (a0 : Int) (Z : Below w0.heap.size w0 ws) (hF : Fr w0 ws P0 [] ws)  (r_1 : List SStep) (r_4 : List Int) (h : spec_meFactors.f k a0 = some (r_1, r_4)),
    Calls Try.prog 122 #[.int .i64 a0] ws (Post1 w0 ws P0 (fun ((q_2, q_3, q_5, q_6) : (Option Addr) × Nat × (Option Addr) × Nat) => .agg #[.int .i64 1, .slice q_2 r_1.length q_3, .slice q_5 r_4.length q_6]) (fun ((q_2, q_3, q_5, q_6) : (Option Addr) × Nat × (Option Addr) × Nat) => [row kStep 107 (.slice q_2 r_1.length q_3) r_1, row (Kd.int .i64) 3 (.slice q_5 r_4.length q_6) r_4])) := by
  intro k
  induction k with
  | zero =>
    intros
    rename_i h
    cases h
  | succ k ih =>
    intro w0 ws P0 a0 Z hF  r_1 r_4 h
    rw [spec_meFactors.f] at h
    refine enter Try.func122 rfl Try.ntmps122 rfl hF (c_seq (za0 (o_e rfl (zaf V25 rfl) (fun g1 => o_end (za1 (c_seq (c_seq (za0 (o_q rfl rfl (za2 rfl) ?_)))))))))
    refine o_q rfl rfl (q_eql rfl rfl) (o_end (za1 (zaq _ rfl (fun hb3 => ?_) (fun hb3 => ?_))))
    · skip
      replace h := br_t hb3 h
      refine c_seq (za0 (o_q rfl rfl (q_build (vs := [(0, .int .i64 1)]) (cs := [.int .i64 1, .slice none 0 0, .slice none 0 0]) rfl rfl) (o_nil kStep 107 (za7 h (fun _ hx4 h => ?_) rfl))))
      refine o_e rfl (za6 1 Z Try.func112 N112 rfl rfl rfl (fun w P1 hF hB hS hT => spec_meEnd.calls 1 none 0 0 ([] : List SStep) none 0 0 [] 0 hB hF (stab_nil _) (Nat.le_refl 0) hx4)) (cur2 (fun A5 c6 => o_e rfl (zah (i := 2) rfl rfl rfl Z25 rfl rfl) (fun _ => o_end (za1 (c_ret (zab (x_fact (p := 0 = ([] : List SStep).length) (fun w h => (h.row_C (i := 0) rfl).2.1) (fun hn7 => ?_))))))))
      have e0_ := si_ h; clear h
      obtain ⟨rfl, e1_⟩ := Prod.mk.inj e0_
      subst e1_
      exact x_r1 (none, 0, A5, c6) Try.results122 (zb5 (cs := #[.int .i64 1, .slice none 0 0, .slice A5 (([0] : List Int).length) c6]) rfl G25 Z25 (fun w h => h.za9 (i := 2) rfl) rfl) (by (try rw [hn7]); first | done | rfl) (f_pickE (L1 := [row kStep 107 (.slice none 0 0) ([] : List SStep), row (Kd.int .i64) 3 (.slice A5 (([0] : List Int).length) c6) ([0] : List Int), box g1 25 #[.int .i64 1, .slice none 0 0, .slice A5 (([0] : List Int).length) c6]]) rfl [0, 1] dc_ rfl (by (try rw [hn7]); first | done | rfl))
    · skip
      replace h := br_f hb3 h
      refine zam (za1 (c_seq (za0 (o_q rfl rfl (za2 rfl) (za7 h (fun i9 hx8 h => ?_) rfl)))))
      refine o_e rfl (za6 0 Z Try.func150 N150 rfl rfl rfl (fun w P1 hF hB hS hT => spec_meFactor.calls k a0 hB hF _ hx8)) (fun _ => o_q rfl rfl (q_asg rfl) (o_end (za1 (c_seq (c_seq (za0 (o_q rfl rfl (za2 rfl) (o_q rfl rfl (za2 rfl) (o_q rfl rfl (q_eql rfl rfl) ?_)))))))))
      refine o_end (za1 (zaq _ rfl (fun hb10 => ?_) (fun hb10 => ?_)))
      · skip
        replace h := br_t hb10 h
        refine c_seq (za0 (o_q rfl rfl (za2 rfl) (o_q rfl rfl (zb1 rfl rfl) (bindE2 h (fun l12 l13 hx11 h => ?_) rfl))))
        refine o_e rfl (za6 0 Z Try.func122 N122 rfl rfl rfl (fun w P1 hF hB hS hT => ih (w64 (a0 - 1)) hB hF _ _ hx11)) (cur4 (fun A14 c15 A16 c17 => o_e rfl (zaf V25 rfl) (fun g18 => o_e rfl (zah (i := 0) rfl rfl rfl Z25 rfl rfl) (fun _ => o_end (za1 (za7 h (fun o805 hl806 hR807 => ?_) rfl))))))
        clear h
        refine c_cutJ (σ := (List SStep) × Nat × (Option Addr) × Nat) (fun (l802, g801, A803, c804) => some l802 = some o805) [5, 6, 22, 23, 24, 25, 26, 27, 28, 29, 30] (fun (l802, g801, A803, c804) => [(5, .pointer (some ⟨g801, 0, none⟩)), (6, .int .i64 (w64 (1 + (l12.length : Int))))]) (fun (l802, g801, A803, c804) => [box g1 25 #[.int .i64 0, .slice none 0 0, .slice none 0 0], box g801 25 #[.int .i64 1, .slice A803 l802.length c804, .slice none 0 0], row kStep 107 (.slice A803 l802.length c804) l802, row (Kd.int .i64) 3 (.slice none 0 0) [], box g18 25 #[.int .i64 1, .slice A14 l12.length c15, .slice A16 l13.length c17], row kStep 107 (.slice A14 l12.length c15) l12, row (Kd.int .i64) 3 (.slice A16 l13.length c17) l13]) ?_ ?_
        · skip
          have h := hl806; clear hl806
          clear hR807
          refine za7 h (fun y993 hg992 h => ?_) rfl
          refine za7 h (fun l1112 hx1111 h => ?_) rfl
          refine a_start (ds := []) MO rfl (zau 0 rfl rfl rfl kr_ (fun _ _ _ h => h) (fun w h => h) (q_ldB G25 Z25 rfl (fun w h => h.za9 (i := 0) rfl) rfl) (za4 1 rfl rfl rfl kr_ (fun _ _ _ h => h) (q_f F25_2 rfl) (zau 2 rfl rfl rfl kr_ (fun _ _ _ h => h) (fun w h => h) (q_ldb Y23 rfl (fun w h => h.za9 (i := 0) rfl) rfl) (a_fact (p := Sh A16 l13.length l13.length) (fun w h => f_sh (dk := (Kd.int .i64)) h (fun w h => h.zar (i := 2) rfl)) (fun hq991 => za4 3 rfl rfl rfl kr_ (fun _ _ _ h => h) (q_ix Try.underlying23 Z3 rfl rfl hq991 hg992) (zau 4 rfl rfl rfl kr_ (fun _ _ _ h => h) (fun w h => h) (q_lde (off := 0) Y3 rfl rfl (fun w h => h.zar (i := 2) rfl) hg992 (fun _ _ h => h) rfl) (a_two 5 9 rfl rfl rfl rfl kr_ rfl rfl (za6 0 Z Try.func110 N110 rfl rfl rfl (fun w P1 hF hB hS hT => spec_meTimes.calls 1 A14 c15 l12.length l12 A16 c17 l13.length l13 y993 0 hB hF (hT 1 _ rfl).row (hT 1 _ rfl).cap (hT 2 _ rfl).row (hT 2 _ rfl).cap _ hx1111)) (fun s w h => za3 [some 2, some 3, some 4, some 5] dc_ w h rfl) (zaf V25 rfl) (fun s w h => za3 [some 1, some 2, some 3, some 4] dc_ w h rfl) (cur2 (fun A1113 c1114 => ?_)) (fun g1351 => ?_))))))))
          · skip
            refine za4 6 rfl rfl rfl kr_ (fun _ _ _ h => h) (za2 rfl) (za4 7 rfl rfl rfl kr_ (fun _ _ _ h => h) (q_ext rfl rfl) (za4 8 rfl rfl rfl kr_ (fun _ _ _ h => h) (q_ext rfl rfl) (a_one 9 rfl rfl kr_ rfl (zaf V25 rfl) (fun s w h => za3 [some 3, some 4, some 5, some 6] dc_ w h rfl) (fun g1351 => a_one 10 rfl rfl kr_ rfl (zah (i := 0) rfl rfl rfl Z25 rfl rfl) (fun s w h => za3 [some 3, some 4, some 5, some 6] dc_ w h rfl) (fun _ => za4 11 rfl rfl rfl kr_ (fun _ _ _ h => h) (q_asg rfl) (zao kr_ (zaj (l1112, g1351, A1113, c1114) h ⟨rfl, rfl, trivial⟩ (fun w h => za5 [6, 0, 1, 2, 3, 4, 5] dc_ rfl w h) ?_)))))))
            exact of_
          · skip
            refine a_one 5 rfl rfl kr_ rfl (za6 0 Z Try.func110 N110 rfl rfl rfl (fun w P1 hF hB hS hT => spec_meTimes.calls 1 A14 c15 l12.length l12 A16 c17 l13.length l13 y993 0 hB hF (hT 2 _ rfl).row (hT 2 _ rfl).cap (hT 3 _ rfl).row (hT 3 _ rfl).cap _ hx1111)) (fun s w h => za3 [some 3, some 4, some 5, some 6] dc_ w h rfl) (cur2 (fun A1113 c1114 => za4 6 rfl rfl rfl kr_ (fun _ _ _ h => h) (za2 rfl) (za4 7 rfl rfl rfl kr_ (fun _ _ _ h => h) (q_ext rfl rfl) (za4 8 rfl rfl rfl kr_ (fun _ _ _ h => h) (q_ext rfl rfl) (a_one 10 rfl rfl kr_ rfl (zah (i := 2) rfl rfl rfl Z25 rfl rfl) (fun s w h => za3 [some 3, some 4, some 5, some 6] dc_ w h rfl) (fun _ => za4 11 rfl rfl rfl kr_ (fun _ _ _ h => h) (q_asg rfl) (zao kr_ (zaj (l1112, g1351, A1113, c1114) h ⟨rfl, rfl, trivial⟩ (fun w h => za5 [6, 2, 0, 1, 3, 4, 5] dc_ rfl w h) ?_))))))))
            exact of_
        · skip
          refine (cur4 (fun l802 g801 A803 c804 => fun U808 hJ809 => ?_))
          have e_ := si_ hJ809; have h := hR807; rw [← e_] at h; clear e_ hJ809 hR807 hl806
          refine c_seq (za0 (o_q rfl rfl (q_ldB G25 Z25 rfl (fun w h => h.za9 (i := 1) rfl) rfl) (o_q rfl rfl (za2 rfl) (o_pick [2, 0, 1, 3, 4, 5, 6] dc_ rfl (za7 h (fun _ hx1591 h => ?_) rfl)))))
          refine o_e rfl (za6 1 Z Try.func112 N112 rfl rfl rfl (fun w P1 hF hB hS hT => spec_meEnd.calls 1 A803 c804 l802.length l802 none 0 0 [] (w64 (1 + (l12.length : Int))) hB hF (hT 2 _ rfl).row (hT 2 _ rfl).cap hx1591)) (cur2 (fun A1592 c1593 => o_e rfl (zah (i := 2) rfl rfl rfl Z25 rfl rfl) (fun _ => o_end (za1 (c_ret (zab ?_))))))
          have e0_ := si_ h; clear h
          obtain ⟨rfl, e1_⟩ := Prod.mk.inj e0_
          subst e1_
          exact x_r1 (A803, c804, A1592, c1593) Try.results122 (zb5 rfl G25 Z25 (fun w h => h.za9 (i := 2) rfl) rfl) rfl (fun w h => za5 [0, 1] dc_ rfl w h)
      · skip
        replace h := br_f hb10 h
        refine zam (za1 (c_seq (za0 (o_q rfl rfl (za2 rfl) (bindE2 h (fun l1595 l1596 hx1594 h => ?_) rfl)))))
        refine o_e rfl (za6 0 Z Try.func122 N122 rfl rfl rfl (fun w P1 hF hB hS hT => ih i9 hB hF _ _ hx1594)) (cur4 (fun A1597 c1598 A1599 c1600 => o_e rfl (zaf V25 rfl) (fun g1601 => o_e rfl (zah (i := 0) rfl rfl rfl Z25 rfl rfl) (fun _ => o_end (za1 (c_seq (a_start (ds := []) MO rfl (za4 0 rfl rfl rfl kr_ (fun _ _ _ h => h) (q_f F25_1 rfl) (zau 1 rfl rfl rfl kr_ (fun _ _ _ h => h) (fun w h => h) (q_ldb Y22 rfl (fun w h => h.za9 (i := 0) rfl) rfl) (za4 2 rfl rfl rfl kr_ (fun _ _ _ h => h) (za2 rfl) ?_))))))))))
        refine za4 3 rfl rfl rfl kr_ (fun _ _ _ h => h) (za2 rfl) (za7 h (fun _ hz1603 h => ?_) rfl)
        refine za4 4 rfl rfl rfl kr_ (fun _ _ _ h => h) (q_quo64 rfl rfl (nz_ne hz1603)) (za4 6 rfl rfl rfl kr_ (fun _ _ _ h => h) (q_f F25_2 rfl) (zau 7 rfl rfl rfl kr_ (fun _ _ _ h => h) (fun w h => h) (q_ldb Y23 rfl (fun w h => h.za9 (i := 0) rfl) rfl) (bindE2 h (fun l1605 l1606 hx1604 h => ?_) rfl)))
        refine a_one 5 rfl rfl kr_ rfl (za6 0 Z Try.func122 N122 rfl rfl rfl (fun w P1 hF hB hS hT => ih (w64 (a0.tdiv i9)) hB hF _ _ hx1604)) (fun s w h => za3 [some 2, some 3, some 4, some 5] dc_ w h rfl) (cur4 (fun A1607 c1608 A1609 c1610 => bindE2 h (fun l1612 l1613 hx1611 h => ?_) rfl))
        refine a_one 8 rfl rfl kr_ rfl (za6 0 Z Try.func151 N151 rfl rfl rfl (fun w P1 hF hB hS hT => spec_plThen.calls A1597 c1598 l1595.length l1595 1 1 A1607 c1608 l1605.length l1605 A1609 c1610 l1606.length l1606 A1599 c1600 l1596.length l1596 hB hF (hT 3 _ rfl).row (hT 3 _ rfl).cap (hT 0 _ rfl).row (hT 0 _ rfl).cap (hT 1 _ rfl).row (hT 1 _ rfl).cap (hT 4 _ rfl).row (hT 4 _ rfl).cap _ _ hx1611)) (fun s w h => za3 [some 4, some 5, some 6, some 7] dc_ w h rfl) (cur4 (fun A1614 c1615 A1616 c1617 => za4 9 rfl rfl rfl kr_ (fun _ _ _ h => h) (za2 rfl) (za4 10 rfl rfl rfl kr_ (fun _ _ _ h => h) (q_ext rfl rfl) (za4 11 rfl rfl rfl kr_ (fun _ _ _ h => h) (q_ext rfl rfl) (za4 12 rfl rfl rfl kr_ (fun _ _ _ h => h) (q_asg rfl) (za4 13 rfl rfl rfl kr_ (fun _ _ _ h => h) (q_asg rfl) (zao kr_ (za1 (c_seq (za0 ?_))))))))))
        refine o_q rfl rfl (za2 rfl) (o_q rfl rfl (za2 rfl) (o_q rfl rfl (q_build (vs := [(0, .int .i64 1), (1, .slice A1614 l1612.length c1615), (2, .slice A1616 l1613.length c1617)]) (cs := [.int .i64 1, .slice A1614 l1612.length c1615, .slice A1616 l1613.length c1617]) rfl rfl) (o_e rfl (zah (i := 7) rfl rfl rfl Z25 rfl rfl) (fun _ => o_end (za1 (c_ret ?_))))))
        have e0_ := si_ h; clear h
        obtain ⟨rfl, e1_⟩ := Prod.mk.inj e0_
        subst e1_
        exact x_r1 (A1614, c1615, A1616, c1617) Try.results122 (zb5 rfl G25 Z25 (fun w h => h.za9 (i := 7) rfl) rfl) rfl (fun w h => za5 [0, 1] dc_ rfl w h)

def spec_mePlans.f (k : Nat) (a0 : Int) : Option ((List SStep) × (List Int) × (List SStep) × (List Int) × (List SStep) × (List Int) × (List SStep) × (List Int) × (List SStep) × (List Int) × (List SStep) × (List Int) × (List SStep) × (List Int)) := (spec_meBinary.f k a0).bind fun (l2, l3) => (spec_meRight.f k a0).bind fun (l9, l10) => (spec_meWindow.f k a0 2).bind fun (l16, l17) => (spec_meWindow.f k a0 3).bind fun (l23, l24) => (spec_meSliding.f k a0 2).bind fun (l30, l31) => (spec_meSliding.f k a0 3).bind fun (l37, l38) => (spec_meFactors.f k a0).bind fun (l44, l45) => some (l2, l3, l9, l10, l16, l17, l23, l24, l30, l31, l37, l38, l44, l45)
theorem spec_mePlans.calls (k : Nat) {w0 ws : World} {P0 : Nat → Prop} (a0 : Int) (Z : Below w0.heap.size w0 ws) (hF : Fr w0 ws P0 [] ws)  (r_2 : List SStep) (r_5 : List Int) (r_8 : List SStep) (r_11 : List Int) (r_14 : List SStep) (r_17 : List Int) (r_20 : List SStep) (r_23 : List Int) (r_26 : List SStep) (r_29 : List Int) (r_32 : List SStep) (r_35 : List Int) (r_38 : List SStep) (r_41 : List Int) (h : spec_mePlans.f k a0 = some (r_2, r_5, r_8, r_11, r_14, r_17, r_20, r_23, r_26, r_29, r_32, r_35, r_38, r_41)) :
    Calls Try.prog 68 #[.int .i64 a0] ws (Post1 w0 ws P0 (fun ((q_1, q_3, q_4, q_6, q_7, q_9, q_10, q_12, q_13, q_15, q_16, q_18, q_19, q_21, q_22, q_24, q_25, q_27, q_28, q_30, q_31, q_33, q_34, q_36, q_37, q_39, q_40, q_42, q_43) : Nat × (Option Addr) × Nat × (Option Addr) × Nat × (Option Addr) × Nat × (Option Addr) × Nat × (Option Addr) × Nat × (Option Addr) × Nat × (Option Addr) × Nat × (Option Addr) × Nat × (Option Addr) × Nat × (Option Addr) × Nat × (Option Addr) × Nat × (Option Addr) × Nat × (Option Addr) × Nat × (Option Addr) × Nat) => .slice (some ⟨q_1, 0, none⟩) 7 7) (fun ((q_1, q_3, q_4, q_6, q_7, q_9, q_10, q_12, q_13, q_15, q_16, q_18, q_19, q_21, q_22, q_24, q_25, q_27, q_28, q_30, q_31, q_33, q_34, q_36, q_37, q_39, q_40, q_42, q_43) : Nat × (Option Addr) × Nat × (Option Addr) × Nat × (Option Addr) × Nat × (Option Addr) × Nat × (Option Addr) × Nat × (Option Addr) × Nat × (Option Addr) × Nat × (Option Addr) × Nat × (Option Addr) × Nat × (Option Addr) × Nat × (Option Addr) × Nat × (Option Addr) × Nat × (Option Addr) × Nat × (Option Addr) × Nat) => [box q_1 25 #[.int .i64 1, .slice q_3 r_2.length q_4, .slice q_6 r_5.length q_7, .int .i64 1, .slice q_9 r_8.length q_10, .slice q_12 r_11.length q_13, .int .i64 1, .slice q_15 r_14.length q_16, .slice q_18 r_17.length q_19, .int .i64 1, .slice q_21 r_20.length q_22, .slice q_24 r_23.length q_25, .int .i64 1, .slice q_27 r_26.length q_28, .slice q_30 r_29.length q_31, .int .i64 1, .slice q_33 r_32.length q_34, .slice q_36 r_35.length q_37, .int .i64 1, .slice q_39 r_38.length q_40, .slice q_42 r_41.length q_43], row kStep 107 (.slice q_3 r_2.length q_4) r_2, row (Kd.int .i64) 3 (.slice q_6 r_5.length q_7) r_5, row kStep 107 (.slice q_9 r_8.length q_10) r_8, row (Kd.int .i64) 3 (.slice q_12 r_11.length q_13) r_11, row kStep 107 (.slice q_15 r_14.length q_16) r_14, row (Kd.int .i64) 3 (.slice q_18 r_17.length q_19) r_17, row kStep 107 (.slice q_21 r_20.length q_22) r_20, row (Kd.int .i64) 3 (.slice q_24 r_23.length q_25) r_23, row kStep 107 (.slice q_27 r_26.length q_28) r_26, row (Kd.int .i64) 3 (.slice q_30 r_29.length q_31) r_29, row kStep 107 (.slice q_33 r_32.length q_34) r_32, row (Kd.int .i64) 3 (.slice q_36 r_35.length q_37) r_35, row kStep 107 (.slice q_39 r_38.length q_40) r_38, row (Kd.int .i64) 3 (.slice q_42 r_41.length q_43) r_41])) := by
  unfold spec_mePlans.f at h
  refine enter Try.func68 rfl Try.ntmps68 rfl hF (c_seq (za0 (o_q rfl rfl (q_asg rfl) (o_end (za1 (c_seq (za0 (o_q rfl rfl (za2 rfl) (bindE2 h (fun l2 l3 hx1 h => ?_) rfl)))))))))
  refine o_e rfl (za6 0 Z Try.func83 N83 rfl rfl rfl (fun w P1 hF hB hS hT => spec_meBinary.calls k a0 hB hF _ _ hx1)) (cur4 (fun A4 c5 A6 c7 => o_q rfl rfl (za2 rfl) (bindE2 h (fun l9 l10 hx8 h => ?_) rfl)))
  refine o_e rfl (za6 0 Z Try.func121 N121 rfl rfl rfl (fun w P1 hF hB hS hT => spec_meRight.calls k a0 hB hF _ _ hx8)) (cur4 (fun A11 c12 A13 c14 => o_q rfl rfl (za2 rfl) (bindE2 h (fun l16 l17 hx15 h => ?_) rfl)))
  refine o_e rfl (za6 0 Z Try.func52 N52 rfl rfl rfl (fun w P1 hF hB hS hT => spec_meWindow.calls k a0 2 hB hF _ _ hx15)) (cur4 (fun A18 c19 A20 c21 => o_q rfl rfl (za2 rfl) (bindE2 h (fun l23 l24 hx22 h => ?_) rfl)))
  refine o_e rfl (za6 0 Z Try.func52 N52 rfl rfl rfl (fun w P1 hF hB hS hT => spec_meWindow.calls k a0 3 hB hF _ _ hx22)) (cur4 (fun A25 c26 A27 c28 => o_q rfl rfl (za2 rfl) (bindE2 h (fun l30 l31 hx29 h => ?_) rfl)))
  refine o_e rfl (za6 0 Z Try.func66 N66 rfl rfl rfl (fun w P1 hF hB hS hT => spec_meSliding.calls k a0 2 hB hF _ _ hx29)) (cur4 (fun A32 c33 A34 c35 => o_q rfl rfl (za2 rfl) (bindE2 h (fun l37 l38 hx36 h => ?_) rfl)))
  refine o_e rfl (za6 0 Z Try.func66 N66 rfl rfl rfl (fun w P1 hF hB hS hT => spec_meSliding.calls k a0 3 hB hF _ _ hx36)) (cur4 (fun A39 c40 A41 c42 => o_q rfl rfl (za2 rfl) (bindE2 h (fun l44 l45 hx43 h => ?_) rfl)))
  refine o_e rfl (za6 0 Z Try.func122 N122 rfl rfl rfl (fun w P1 hF hB hS hT => spec_meFactors.calls k a0 hB hF _ _ hx43)) (cur4 (fun A46 c47 A48 c49 => o_e rfl (e_litB (vs := [(0, .agg #[.int .i64 1, .slice A4 l2.length c5, .slice A6 l3.length c7]), (1, .agg #[.int .i64 1, .slice A11 l9.length c12, .slice A13 l10.length c14]), (2, .agg #[.int .i64 1, .slice A18 l16.length c19, .slice A20 l17.length c21]), (3, .agg #[.int .i64 1, .slice A25 l23.length c26, .slice A27 l24.length c28]), (4, .agg #[.int .i64 1, .slice A32 l30.length c33, .slice A34 l31.length c35]), (5, .agg #[.int .i64 1, .slice A39 l37.length c40, .slice A41 l38.length c42]), (6, .agg #[.int .i64 1, .slice A46 l44.length c47, .slice A48 l45.length c49])]) (cs := [.int .i64 1, .slice A4 l2.length c5, .slice A6 l3.length c7, .int .i64 1, .slice A11 l9.length c12, .slice A13 l10.length c14, .int .i64 1, .slice A18 l16.length c19, .slice A20 l17.length c21, .int .i64 1, .slice A25 l23.length c26, .slice A27 l24.length c28, .int .i64 1, .slice A32 l30.length c33, .slice A34 l31.length c35, .int .i64 1, .slice A39 l37.length c40, .slice A41 l38.length c42, .int .i64 1, .slice A46 l44.length c47, .slice A48 l45.length c49]) Try.underlying77 I25 dc_ rfl kr_) (fun g50 => o_q rfl rfl (q_asg rfl) (o_end (za1 (c_ret ?_))))))
  have e0_ := si_ h; clear h
  obtain ⟨rfl, e1_⟩ := Prod.mk.inj e0_
  obtain ⟨rfl, e2_⟩ := Prod.mk.inj e1_
  obtain ⟨rfl, e3_⟩ := Prod.mk.inj e2_
  obtain ⟨rfl, e4_⟩ := Prod.mk.inj e3_
  obtain ⟨rfl, e5_⟩ := Prod.mk.inj e4_
  obtain ⟨rfl, e6_⟩ := Prod.mk.inj e5_
  obtain ⟨rfl, e7_⟩ := Prod.mk.inj e6_
  obtain ⟨rfl, e8_⟩ := Prod.mk.inj e7_
  obtain ⟨rfl, e9_⟩ := Prod.mk.inj e8_
  obtain ⟨rfl, e10_⟩ := Prod.mk.inj e9_
  obtain ⟨rfl, e11_⟩ := Prod.mk.inj e10_
  obtain ⟨rfl, e12_⟩ := Prod.mk.inj e11_
  obtain ⟨rfl, e13_⟩ := Prod.mk.inj e12_
  subst e13_
  exact x_r1 (g50, A4, c5, A6, c7, A11, c12, A13, c14, A18, c19, A20, c21, A25, c26, A27, c28, A32, c33, A34, c35, A39, c40, A41, c42, A46, c47, A48, c49) Try.results68 (zal rfl) rfl (fun w h => za5 [0, 13, 14, 11, 12, 9, 10, 7, 8, 5, 6, 3, 4, 1, 2] dc_ rfl w h)

def spec_plSum.l0 (l1 : List Int) : (List Int) → (List Int) → Int → Option (List Int)
  | [], l3, i6 => some l3
  | y7 :: ys8, l3, i6 => (gt l1 i6).bind fun y20 => (spec_l1Least.f (w64 (y7 + y20)) 1000001).bind fun i22 => (ap l3 ([i22] : List Int)).bind fun l26 => spec_plSum.l0 l1 ys8 l26 (i6 + 1)
def spec_plSum.f (l0 : List Int) (l1 : List Int) : Option (List Int) := (spec_plSum.l0 l1 l0 ([] : List Int) 0).bind fun l3 => some l3
theorem spec_plSum.calls {w0 ws : World} {P0 : Nat → Prop} (A0 : Option Addr) (c0 : Nat) (n0 : Nat) (l0 : List Int) (A1 : Option Addr) (c1 : Nat) (n1 : Nat) (l1 : List Int) (Z : Below w0.heap.size w0 ws) (hF : Fr w0 ws P0 [] ws) (R0 : Stable ws P0 (fun w => Kd.C (Kd.int .i64) w A0 n0 l0)) (hc0 : n0 ≤ c0) (R1 : Stable ws P0 (fun w => Kd.C (Kd.int .i64) w A1 n1 l1)) (hc1 : n1 ≤ c1) (r_1 : List Int) (h : spec_plSum.f l0 l1 = some r_1) :
    Calls Try.prog 157 #[.slice A0 n0 c0, .slice A1 n1 c1] ws (Post1 w0 ws P0 (fun ((q_2, q_3) : (Option Addr) × Nat) => .slice q_2 r_1.length q_3) (fun ((q_2, q_3) : (Option Addr) × Nat) => [row (Kd.int .i64) 3 (.slice q_2 r_1.length q_3) r_1])) := by
  unfold spec_plSum.f at h
  obtain rfl := (R0 ws (KeptB.refl _ _)).1
  obtain rfl := (R1 ws (KeptB.refl _ _)).1
  refine enter Try.func157 rfl Try.ntmps157 rfl hF (c_seq (za0 (o_q rfl rfl (q_asg rfl) (o_end (za1 (c_seq (za0 (o_q rfl rfl (q_asg rfl) (o_end ?_)))))))))
  refine za1 (c_seq (c_seq (za0 (o_q rfl rfl (za2 rfl) (o_q rfl rfl (q_len Try.underlying23 rfl) (o_q rfl rfl (za2 rfl) (o_end (za1 (zai ?_)))))))))
  refine c_nil (Kd.int .i64) 3 (za7 h (fun o14 hl13 hR12 => ?_) rfl)
  clear h
  refine c_fact (p := l0.length ≤ 9223372036854775807) (fun w h => (R0.now Z h).2.1) (fun hm11 => zaw (σ := (List Int) × (List Int) × Int × (Option Addr) × Nat) (fun k9 ((ys8, l3, i6, A4, c5) : (List Int) × (List Int) × Int × (Option Addr) × Nat) => Rg l0 i6 ys8 ∧ ys8.length = k9 ∧ spec_plSum.l0 l1 ys8 l3 i6 = some o14) [5, 6, 9, 10, 11, 12, 13, 14, 15, 16, 17, 18, 19, 20, 21, 22, 23, 24, 25] (fun ((ys8, l3, i6, A4, c5) : (List Int) × (List Int) × Int × (Option Addr) × Nat) => [(5, .slice A4 l3.length c5), (9, .int .i64 i6)]) (fun ((ys8, l3, i6, A4, c5) : (List Int) × (List Int) × Int × (Option Addr) × Nat) => [row (Kd.int .i64) 3 (.slice A4 l3.length c5) l3]) l0.length (l0, ([] : List Int), 0, none, 0) ⟨Rg.start _, rfl, hl13⟩ ⟨rfl, rfl, trivial⟩ (fun w h => h) (fun k9 => cur5 (listC (fun l3 i6 A4 c5 U15 hJ_ => ?_) (fun y7 ys8 l3 i6 A4 c5 U15 hJ_ => ?_))))
  · skip
    clear hl13
    have hr10 := hJ_.1; have hk16 := hJ_.2.1; have h := hJ_.2.2; clear hJ_
    replace h : spec_plSum.l0 l1 [] l3 i6 = some o14 := h
    rw [spec_plSum.l0] at h
    refine c_seq (za0 (o_q rfl rfl (q_lss rfl rfl) (o_end (za1 (c_seq (c_false (vb_ hr10.ge) (zb2 (za8 (za8 ?_)))))))))
    have e_ := si_ h; replace h := hR12; rw [← e_] at h; clear e_
    refine x_hit (za1 (c_seq (za0 (o_q rfl rfl (za2 rfl) (o_q rfl rfl (q_asg rfl) (o_end (za1 (c_ret ?_))))))))
    have e0_ := si_ h; clear h
    subst e0_
    exact x_r1 (A4, c5) Try.results157 (zal rfl) rfl (fun w h => za5 [0] dc_ rfl w h)
  · skip
    clear hl13
    have hr10 := hJ_.1; have hk16 := hJ_.2.1; have h := hJ_.2.2; clear hJ_
    replace h : spec_plSum.l0 l1 (y7 :: ys8) l3 i6 = some o14 := h
    rw [spec_plSum.l0] at h
    refine c_seq (za0 (o_q rfl rfl (q_lss rfl rfl) (o_end (za1 (c_seq (zb8 (vb_ hr10.lt) (zam (za1 (c_seq ?_)))))))))
    refine zai (c_seq (za0 (o_q rfl rfl (za2 rfl) (o_q rfl rfl (q_asg rfl) (o_end (za1 (a_startS (ds := []) [none] MO rfl (za4 0 rfl rfl rfl kr_ (fun _ _ _ h => h) (za2 rfl) (za4 1 rfl rfl rfl kr_ (fun _ _ _ h => h) (za2 rfl) ?_)))))))))
    refine za4 2 rfl rfl rfl kr_ (fun _ _ _ h => h) (za2 rfl) (a_fact (p := Sh A0 l0.length l0.length) (fun w h => f_sh (dk := (Kd.int .i64)) h (fun w h => R0.now Z h)) (fun hq17 => za4 3 rfl rfl rfl kr_ (fun _ _ _ h => h) (q_ix Try.underlying23 Z3 rfl rfl hq17 hr10.get) (zau 4 rfl rfl rfl kr_ (fun _ _ _ h => h) (fun w h => za3 [none] dc_ w h rfl) (q_lde (off := 0) Y3 rfl rfl (fun w h => R0.now Z h) hr10.get (fun _ _ h => h) rfl) (za4 5 rfl rfl rfl kr_ (fun _ _ _ h => h) (za2 rfl) (za4 6 rfl rfl rfl kr_ (fun _ _ _ h => h) (za2 rfl) (a_fact (p := Sh A1 l1.length l1.length) (fun w h => f_sh (dk := (Kd.int .i64)) h (fun w h => R1.now Z h)) (fun hq18 => za7 h (fun y20 hg19 h => ?_) rfl)))))))
    refine za4 7 rfl rfl rfl kr_ (fun _ _ _ h => h) (q_ix Try.underlying23 Z3 rfl rfl hq18 hg19) (zau 8 rfl rfl rfl kr_ (fun _ _ _ h => h) (fun w h => za3 [none] dc_ w h rfl) (q_lde (off := 0) Y3 rfl rfl (fun w h => R1.now Z h) hg19 (fun _ _ h => h) rfl) (za4 9 rfl rfl rfl kr_ (fun _ _ _ h => h) (zb0 rfl rfl) (za7 h (fun i22 hx21 h => ?_) rfl)))
    refine a_one 10 rfl rfl kr_ rfl (za6 0 Z Try.func89 N89 rfl rfl rfl (fun w P1 hF hB hS hT => spec_l1Least.calls (w64 (y7 + y20)) 1000001 hB hF _ hx21)) (fun s w h => za3 [none] dc_ w h rfl) (fun _ => a_one 11 rfl rfl kr_ rfl (e_lit (vs := [(0, .int .i64 i22)]) (cs := [.int .i64 i22]) (Kd.int .i64) ([i22] : List Int) Try.underlying23 I3 dc_ rfl dc_ rfl rfl (fun _ _ => Kd.zad _)) (fun s w h => za3 [none] dc_ w h rfl) (cur2 (fun A23 c24 => za7 h (fun l26 ha27 h => ?_) rfl)))
    refine a_one 12 rfl rfl kr_ rfl (e_app (i := 1) (j := 0) Try.underlying23 I3 rfl dc_ dc_ rfl rfl rfl rfl rfl ha27) (fun s w h => za3 [none] dc_ w h rfl) (cur2 (fun A28 c29 => za4 13 rfl rfl rfl kr_ (fun _ _ _ h => h) (q_asg rfl) (zao kr_ (zak (za1 (za0 (o_q rfl rfl (q_up rfl rfl (hr10.up hm11)) (o_q rfl rfl (za2 rfl) (o_end (zan ys8.length (ys8, l26, i6 + 1, A28, c29) (by rw [← hk16]; exact Nat.lt_succ_self _) ⟨hr10.step, rfl, h⟩ ⟨rfl, rfl, trivial⟩ (fun w h => za5 [1] dc_ rfl w h) ?_))))))))))
    exact of_

def spec_plExponents.l1 : (List SStep) → (List (List Int)) → Int → Option (List (List Int))
  | [], l39, i43 => some l39
  | y44 :: ys45, l39, i43 => (gt l39 y44.f0).bind fun y300 => (gt l39 y44.f1).bind fun y599 => (spec_plSum.f y300 y599).bind fun l719 => (ap l39 ([l719] : List (List Int))).bind fun l838 => spec_plExponents.l1 ys45 l838 (i43 + 1)
def spec_plExponents.l0 (a0_0 : Int) : Nat → (List (List Int)) → Int → Option (List (List Int))
  | 0, _, _ => none
  | k11 + 1, l4, i8 => if i8 < a0_0 then ((mk0 a0_0 (0 : Int)).bind fun l20 => (gt l20 i8).bind fun y27 => (st l20 i8 1).bind fun l28 => (ap l4 ([l28] : List (List Int))).bind fun l34 => spec_plExponents.l0 a0_0 k11 l34 (w64 (i8 + 1))) else (some l4)
def spec_plExponents.f (k : Nat) (a0_0 : Int) (l0_1 : List SStep) (l0_2 : List Int) : Option (List (List Int)) := (spec_plExponents.l0 a0_0 k ([] : List (List Int)) 0).bind fun l4 => (spec_plExponents.l1 l0_1 l4 0).bind fun l39 => some l39
theorem spec_plExponents.calls (k : Nat) {w0 ws : World} {P0 : Nat → Prop} (a0_0 : Int) (A0_1 : Option Addr) (c0_1 : Nat) (n0_1 : Nat) (l0_1 : List SStep) (A0_2 : Option Addr) (c0_2 : Nat) (n0_2 : Nat) (l0_2 : List Int) (Z : Below w0.heap.size w0 ws) (hF : Fr w0 ws P0 [] ws) (R0_1 : Stable ws P0 (fun w => Kd.C kStep w A0_1 n0_1 l0_1)) (hc0_1 : n0_1 ≤ c0_1) (R0_2 : Stable ws P0 (fun w => Kd.C (Kd.int .i64) w A0_2 n0_2 l0_2)) (hc0_2 : n0_2 ≤ c0_2) (r_1 : List (List Int)) (h : spec_plExponents.f k a0_0 l0_1 l0_2 = some r_1) :
    Calls Try.prog 142 #[.agg #[.int .i64 a0_0, .slice A0_1 n0_1 c0_1, .slice A0_2 n0_2 c0_2]] ws (Post1 w0 ws P0 (fun ((q_2, q_3, q_4) : (Option Addr) × Nat × Hd) => .slice q_2 r_1.length q_3) (fun ((q_2, q_3, q_4) : (Option Addr) × Nat × Hd) => [row (gk 3 (Kd.int .i64)) 23 (.slice q_2 r_1.length q_3) (zp q_4 r_1)])) := by
  unfold spec_plExponents.f at h
  obtain rfl := (R0_1 ws (KeptB.refl _ _)).1
  obtain rfl := (R0_2 ws (KeptB.refl _ _)).1
  refine enter Try.func142 rfl Try.ntmps142 rfl hF (c_seq (za0 (o_e rfl (e_box rfl) (fun g1 => o_q rfl rfl (q_asg rfl) (o_end (za1 (c_seq (za0 (o_q rfl rfl (q_asg rfl) ?_)))))))))
  refine o_end (za1 (c_seq (c_seq (za0 (o_q rfl rfl (q_asg rfl) (o_end (za1 (zai (c_nil (gk 3 (Kd.int .i64)) 23 ?_)))))))))
  refine za7 h (fun o16 hl15 hR14 => ?_) rfl
  clear h
  refine zaw (σ := (List (List Int)) × Int × (Option Addr) × Nat × Hd) (fun k11 ((l4, i8, A5, c6, H7) : (List (List Int)) × Int × (Option Addr) × Nat × Hd) => spec_plExponents.l0 a0_0 k11 l4 i8 = some o16) [3, 4, 5, 8, 9, 10, 11, 12, 13, 14, 15, 16, 17, 18, 19, 20, 21, 22, 23] (fun ((l4, i8, A5, c6, H7) : (List (List Int)) × Int × (Option Addr) × Nat × Hd) => [(3, .slice A5 l4.length c6), (4, .int .i64 i8)]) (fun ((l4, i8, A5, c6, H7) : (List (List Int)) × Int × (Option Addr) × Nat × Hd) => [row (gk 3 (Kd.int .i64)) 23 (.slice A5 l4.length c6) (zp H7 l4), box g1 25 #[.int .i64 a0_0, .slice A0_1 l0_1.length c0_1, .slice A0_2 l0_2.length c0_2]]) k (([] : List (List Int)), 0, none, 0, ([] : Hd)) hl15 ⟨rfl, rfl, trivial⟩ (fun w h => h) (natC (cur5 (fun l4 i8 A5 c6 H7 => fun U17 hJ_ => ?_)) (fun k11 => (cur5 (fun l4 i8 A5 c6 H7 => fun U17 hJ_ => ?_))))
  · skip
    replace hJ_ : spec_plExponents.l0 a0_0 0 l4 i8 = some o16 := hJ_
    rw [spec_plExponents.l0] at hJ_
    exact noneE hJ_
  · skip
    clear hl15
    have h := hJ_; clear hJ_
    replace h : spec_plExponents.l0 a0_0 (k11 + 1) l4 i8 = some o16 := h
    rw [spec_plExponents.l0] at h
    refine c_seq (c_seq (za0 (o_q rfl rfl (za2 rfl) (o_q rfl rfl (q_f F25_0 rfl) (o_q rfl rfl (q_ldb Y3 rfl (fun w h => h.za9 (i := 1) rfl) rfl) (o_q rfl rfl (q_lss rfl rfl) (o_end (za1 (zaq _ rfl (fun hb19 => ?_) (fun hb19 => ?_))))))))))
    · skip
      replace h := br_t hb19 h
      refine zam (za1 (c_seq (zai (c_seq (za0 (o_q rfl rfl (q_f F25_0 rfl) (o_q rfl rfl (q_ldb Y3 rfl (fun w h => h.za9 (i := 1) rfl) rfl) (za7 h (fun l20 hm21 h => ?_) rfl))))))))
      refine o_e rfl (e_make (Kd.int .i64) (0 : Int) Try.underlying23 I3 rfl dc_ dc_ (fun _ _ => rfl) rfl rfl hm21) (cur2 (fun A22 c23 => o_q rfl rfl (q_asg rfl) (o_end (za1 (c_seq (za0 (o_q rfl rfl (za2 rfl) (o_q rfl rfl (za2 rfl) (zb4 (p := Sh A22 l20.length l20.length) (fun w h => f_sh (dk := (Kd.int .i64)) h (fun w h => h.zar (i := 0) rfl)) (fun hq25 => za7 h (fun y27 hg26 h => ?_) rfl))))))))))
      refine o_q rfl rfl (q_ix Try.underlying23 Z3 rfl rfl hq25 hg26) (za7 h (fun l28 hs29 h => ?_) rfl)
      refine o_e rfl (e_set (i := 0) rfl rfl rfl Z3 hs29) (fun _ => o_end (za1 (za0 (o_q rfl rfl (za2 rfl) (o_q rfl rfl (za2 rfl) (o_e rfl (e_litG (j := 0) (ue := 3) (dk := (Kd.int .i64)) (ys := l28) Try.underlying47 I23 rfl rfl rfl) (cur3 (fun A30 c31 H33 => za7 h (fun l34 ha35 h => ?_) rfl))))))))
      refine o_e rfl (e_appG (i := 2) (j := 0) Try.underlying47 I23 rfl dc_ rfl rfl rfl rfl rfl ha35) (cur3 (fun A36 c37 H38 => o_q rfl rfl (q_asg rfl) (o_end (zak (za1 (za0 (o_q rfl rfl (za2 rfl) (o_q rfl rfl (zb0 rfl rfl) (o_q rfl rfl (q_asg rfl) (o_end ?_))))))))))
      refine zan k11 (l34, w64 (i8 + 1), A36, c37, H38) (Nat.lt_succ_self _) h ⟨rfl, rfl, trivial⟩ (fun w h => za5 [2, 3] dc_ rfl w h) ?_
      exact of_
    · skip
      replace h := br_f hb19 h
      refine zb2 (za8 (za8 ?_))
      have e_ := si_ h; replace h := hR14; rw [← e_] at h; clear e_
      refine x_hit (za1 (c_seq (c_seq (za0 (o_q rfl rfl (q_f F25_1 rfl) (o_q rfl rfl (q_ldb Y22 rfl (fun w h => h.za9 (i := 1) rfl) rfl) (o_q rfl rfl (q_len Try.underlying22 rfl) (o_q rfl rfl (za2 rfl) (o_end ?_)))))))))
      refine za1 (zai (za7 h (fun o51 hl50 hR49 => ?_) rfl))
      clear h
      refine c_fact (p := l0_1.length ≤ 9223372036854775807) (fun w h => (R0_1.now Z h).2.1) (fun hm48 => zaw (σ := (List SStep) × (List (List Int)) × Int × (Option Addr) × Nat × Hd) (fun k46 ((ys45, l39, i43, A40, c41, H42) : (List SStep) × (List (List Int)) × Int × (Option Addr) × Nat × Hd) => Rg l0_1 i43 ys45 ∧ ys45.length = k46 ∧ spec_plExponents.l1 ys45 l39 i43 = some o51) [3, 7, 27, 28, 29, 30, 31, 32, 33, 34, 35, 36, 37, 38, 39, 40, 41, 42, 43, 44, 45] (fun ((ys45, l39, i43, A40, c41, H42) : (List SStep) × (List (List Int)) × Int × (Option Addr) × Nat × Hd) => [(3, .slice A40 l39.length c41), (27, .int .i64 i43)]) (fun ((ys45, l39, i43, A40, c41, H42) : (List SStep) × (List (List Int)) × Int × (Option Addr) × Nat × Hd) => [row (gk 3 (Kd.int .i64)) 23 (.slice A40 l39.length c41) (zp H42 l39), box g1 25 #[.int .i64 a0_0, .slice A0_1 l0_1.length c0_1, .slice A0_2 l0_2.length c0_2]]) l0_1.length (l0_1, l4, 0, A5, c6, H7) ⟨Rg.start _, rfl, hl50⟩ ⟨rfl, rfl, trivial⟩ (fun w h => h) (fun k46 => cur6 (listC (fun l39 i43 A40 c41 H42 U52 hJ_ => ?_) (fun y44 ys45 l39 i43 A40 c41 H42 U52 hJ_ => ?_))))
      · skip
        clear hl50
        have hr47 := hJ_.1; have hk53 := hJ_.2.1; have h := hJ_.2.2; clear hJ_
        replace h : spec_plExponents.l1 [] l39 i43 = some o51 := h
        rw [spec_plExponents.l1] at h
        refine c_seq (za0 (o_q rfl rfl (q_lss rfl rfl) (o_end (za1 (c_seq (c_false (vb_ hr47.ge) (zb2 (za8 (za8 ?_)))))))))
        have e_ := si_ h; replace h := hR49; rw [← e_] at h; clear e_
        refine x_hit (za1 (c_seq (za0 (o_q rfl rfl (za2 rfl) (o_q rfl rfl (q_asg rfl) (o_end (za1 (c_ret ?_))))))))
        have e0_ := si_ h; clear h
        subst e0_
        exact x_r1 (A40, c41, H42) Try.results142 (zal rfl) rfl (fun w h => za5 [0] dc_ rfl w h)
      · skip
        clear hl50
        have hr47 := hJ_.1; have hk53 := hJ_.2.1; have h := hJ_.2.2; clear hJ_
        replace h : spec_plExponents.l1 (y44 :: ys45) l39 i43 = some o51 := h
        rw [spec_plExponents.l1] at h
        refine c_seq (za0 (o_q rfl rfl (q_lss rfl rfl) (o_end (za1 (c_seq (zb8 (vb_ hr47.lt) (zam (za1 (c_seq ?_)))))))))
        refine zai (c_seq (za0 (zb4 (p := Sh A0_1 l0_1.length l0_1.length) (fun w h => f_sh (dk := kStep) h (fun w h => R0_1.now Z h)) (fun hq54 => o_q rfl rfl (q_ix Try.underlying22 Z107 rfl rfl hq54 hr47.get) (o_q rfl rfl (q_ldE G107 Z107 rfl rfl (fun w h => R0_1.now Z h) hr47.get (fun _ _ h => h) rfl) (o_e rfl (zaf V107 rfl) (fun g55 => o_e rfl (zah (i := 0) rfl rfl rfl Z107 rfl rfl) (fun _ => o_end (za1 ?_)))))))))
        refine za7 h (fun y300 hg299 h => ?_) rfl
        refine za7 h (fun y599 hg598 h => ?_) rfl
        refine za7 h (fun l719 hx718 h => ?_) rfl
        refine za7 h (fun l838 ha839 h => ?_) rfl
        refine a_startS (ds := []) [some 0, none, some 2] MO rfl (za4 0 rfl rfl rfl kr_ (fun _ _ _ h => h) (za2 rfl) (za4 1 rfl rfl rfl kr_ (fun _ _ _ h => h) (za2 rfl) (za4 2 rfl rfl rfl kr_ (fun _ _ _ h => h) (q_f F107_0 rfl) (zau 3 rfl rfl rfl kr_ (fun _ _ _ h => h) (fun w h => za3 [some 0, none, some 2] dc_ w h rfl) (q_ldb Y3 rfl (fun w h => h.za9 (i := 0) rfl) rfl) (a_fact (p := Sh A40 l39.length (zp H42 l39).length) (fun w h => f_sh (dk := (gk 3 (Kd.int .i64))) h (fun w h => h.zar (i := 1) rfl)) (fun hq298 => za4 4 rfl rfl rfl kr_ (fun _ _ _ h => h) (q_ix Try.underlying47 Z23 rfl rfl hq298 (gt_zp hg299)) (za4 6 rfl rfl rfl kr_ (fun _ _ _ h => h) (za2 rfl) (za4 7 rfl rfl rfl kr_ (fun _ _ _ h => h) (q_f F107_1 rfl) (zau 8 rfl rfl rfl kr_ (fun _ _ _ h => h) (fun w h => za3 [some 0, none, some 2] dc_ w h rfl) (q_ldb Y3 rfl (fun w h => h.za9 (i := 0) rfl) rfl) ?_)))))))))
        refine za4 9 rfl rfl rfl kr_ (fun _ _ _ h => h) (q_ix Try.underlying47 Z23 rfl rfl hq298 (gt_zp hg598)) (a_fact (p := y300.length ≤ hC H42 y44.f0) (fun w h => (K_in (h.zar (i := 1) rfl) hg299).1) (fun hc358 => a_fact (p := y599.length ≤ hC H42 y44.f1) (fun w h => (K_in (h.zar (i := 1) rfl) hg598).1) (fun hc658 => a_two 5 10 rfl rfl rfl rfl kr_ rfl rfl (ev_q rfl (q_lde (off := 0) Y23 rfl rfl (fun w h => h.zar (i := 1) rfl) (gt_zp hg299) (fun _ _ h => h.1) rfl)) (fun s w h => za3 [some 0, none, some 2] dc_ w h rfl) (ev_q rfl (q_lde (off := 0) Y23 rfl rfl (fun w h => h.zar (i := 1) rfl) (gt_zp hg598) (fun _ _ h => h.1) rfl)) (fun s w h => za3 [some 0, none, some 2] dc_ w h rfl) (fun _ => ?_) (fun _ => ?_))))
        · skip
          refine a_fact (p := y599.length ≤ hC H42 y44.f1) (fun w h => (K_in (h.zar (i := 1) rfl) hg598).1) (fun hc658 => a_one 10 rfl rfl kr_ rfl (ev_q rfl (q_lde (off := 0) Y23 rfl rfl (fun w h => h.zar (i := 1) rfl) (gt_zp hg598) (fun _ _ h => h.1) rfl)) (fun s w h => za3 [some 0, none, some 2] dc_ w h rfl) (fun _ => a_one 11 rfl rfl kr_ rfl (za6 0 Z Try.func157 N157 rfl rfl rfl (fun w P1 hF hB hS hT => spec_plSum.calls (hA H42 y44.f0) (hC H42 y44.f0) y300.length y300 (hA H42 y44.f1) (hC H42 y44.f1) y599.length y599 hB hF (stab_in (hT 1 _ rfl).row hg299) hc358 (stab_in (hT 1 _ rfl).row hg598) hc658 _ hx718)) (fun s w h => za3 [some 1, none, some 3] dc_ w h rfl) (cur2 (fun A720 c721 => a_one 12 rfl rfl kr_ rfl (e_litG (j := 0) (ue := 3) (dk := (Kd.int .i64)) (ys := l719) Try.underlying47 I23 rfl rfl rfl) (fun s w h => za3 [some 2, none, some 4] dc_ w h rfl) (cur3 (fun A778 c779 H781 => a_one 13 rfl rfl kr_ rfl (e_appG (i := 3) (j := 0) Try.underlying47 I23 rfl dc_ rfl rfl rfl rfl rfl ha839) (fun s w h => za3 [some 2, none, some 4] dc_ w h rfl) (cur3 (fun A840 c841 H842 => za4 14 rfl rfl rfl kr_ (fun _ _ _ h => h) (q_asg rfl) (zao kr_ (zak (za1 (za0 ?_))))))))))))
          refine o_q rfl rfl (q_up rfl rfl (hr47.up hm48)) (o_q rfl rfl (za2 rfl) (o_end (zan ys45.length (ys45, l838, i43 + 1, A840, c841, H842) (by rw [← hk53]; exact Nat.lt_succ_self _) ⟨hr47.step, rfl, h⟩ ⟨rfl, rfl, trivial⟩ (fun w h => za5 [3, 4] dc_ rfl w h) ?_)))
          exact of_
        · skip
          refine a_fact (p := y300.length ≤ hC H42 y44.f0) (fun w h => (K_in (h.zar (i := 1) rfl) hg299).1) (fun hc358 => a_one 5 rfl rfl kr_ rfl (ev_q rfl (q_lde (off := 0) Y23 rfl rfl (fun w h => h.zar (i := 1) rfl) (gt_zp hg299) (fun _ _ h => h.1) rfl)) (fun s w h => za3 [some 0, none, some 2] dc_ w h rfl) (fun _ => a_one 11 rfl rfl kr_ rfl (za6 0 Z Try.func157 N157 rfl rfl rfl (fun w P1 hF hB hS hT => spec_plSum.calls (hA H42 y44.f0) (hC H42 y44.f0) y300.length y300 (hA H42 y44.f1) (hC H42 y44.f1) y599.length y599 hB hF (stab_in (hT 1 _ rfl).row hg299) hc358 (stab_in (hT 1 _ rfl).row hg598) hc658 _ hx718)) (fun s w h => za3 [some 1, none, some 3] dc_ w h rfl) (cur2 (fun A720 c721 => a_one 12 rfl rfl kr_ rfl (e_litG (j := 0) (ue := 3) (dk := (Kd.int .i64)) (ys := l719) Try.underlying47 I23 rfl rfl rfl) (fun s w h => za3 [some 2, none, some 4] dc_ w h rfl) (cur3 (fun A778 c779 H781 => a_one 13 rfl rfl kr_ rfl (e_appG (i := 3) (j := 0) Try.underlying47 I23 rfl dc_ rfl rfl rfl rfl rfl ha839) (fun s w h => za3 [some 2, none, some 4] dc_ w h rfl) (cur3 (fun A840 c841 H842 => za4 14 rfl rfl rfl kr_ (fun _ _ _ h => h) (q_asg rfl) (zao kr_ (zak (za1 (za0 ?_))))))))))))
          refine o_q rfl rfl (q_up rfl rfl (hr47.up hm48)) (o_q rfl rfl (za2 rfl) (o_end (zan ys45.length (ys45, l838, i43 + 1, A840, c841, H842) (by rw [← hk53]; exact Nat.lt_succ_self _) ⟨hr47.step, rfl, h⟩ ⟨rfl, rfl, trivial⟩ (fun w h => za5 [3, 4] dc_ rfl w h) ?_)))
          exact of_

def spec_l1All.l0 (a1 : Int) (a2 : Int) : (List Int) → Int → Option ((Bool) ⊕ (Unit))
  | [], i1 => some (.inr ())
  | y2 :: ys3, i1 => (spec_l1In.f y2 a1 a2).bind fun b14 => if b14 = true then (spec_l1All.l0 a1 a2 ys3 (i1 + 1)) else (some (.inl false))
def spec_l1All.f (l0 : List Int) (a1 : Int) (a2 : Int) : Option Bool := (spec_l1All.l0 a1 a2 l0 0).bind fun o_ => match o_ with | .inl r_ => some r_ | .inr _ => some true
theorem spec_l1All.calls {w0 ws : World} {P0 : Nat → Prop} (A0 : Option Addr) (c0 : Nat) (n0 : Nat) (l0 : List Int) (a1 : Int) (a2 : Int) (Z : Below w0.heap.size w0 ws) (hF : Fr w0 ws P0 [] ws) (R0 : Stable ws P0 (fun w => Kd.C (Kd.int .i64) w A0 n0 l0)) (hc0 : n0 ≤ c0) (r_1 : Bool) (h : spec_l1All.f l0 a1 a2 = some r_1) :
    Calls Try.prog 143 #[.slice A0 n0 c0, .int .i64 a1, .int .i64 a2] ws (Post1 w0 ws P0 (fun (_ : Unit) => .bool r_1) (fun (_ : Unit) => [])) := by
  unfold spec_l1All.f at h
  obtain rfl := (R0 ws (KeptB.refl _ _)).1
  refine enter Try.func143 rfl Try.ntmps143 rfl hF (c_seq (za0 (o_q rfl rfl (q_asg rfl) (o_end (za1 (c_seq (c_seq (za0 (o_q rfl rfl (za2 rfl) ?_)))))))))
  refine o_q rfl rfl (q_len Try.underlying23 rfl) (o_q rfl rfl (za2 rfl) (o_end (za1 (zai (za7 h (fun o9 hl8 hR7 => ?_) rfl)))))
  clear h
  refine c_fact (p := l0.length ≤ 9223372036854775807) (fun w h => (R0.now Z h).2.1) (fun hm6 => zaw (σ := (List Int) × Int) (fun k4 ((ys3, i1) : (List Int) × Int) => Rg l0 i1 ys3 ∧ ys3.length = k4 ∧ spec_l1All.l0 a1 a2 ys3 i1 = some o9) [6, 8, 11, 12, 13, 14, 15, 16, 17, 18, 19, 20] (fun ((ys3, i1) : (List Int) × Int) => [(11, .int .i64 i1)]) (fun ((ys3, i1) : (List Int) × Int) => []) l0.length (l0, 0) ⟨Rg.start _, rfl, hl8⟩ ⟨rfl, trivial⟩ (fun w h => h) (fun k4 => cur2 (listC (fun i1 U10 hJ_ => ?_) (fun y2 ys3 i1 U10 hJ_ => ?_))))
  · skip
    clear hl8
    have hr5 := hJ_.1; have hk11 := hJ_.2.1; have h := hJ_.2.2; clear hJ_
    replace h : spec_l1All.l0 a1 a2 [] i1 = some o9 := h
    rw [spec_l1All.l0] at h
    refine c_seq (za0 (o_q rfl rfl (q_lss rfl rfl) (o_end (za1 (c_seq (c_false (vb_ hr5.ge) (zb2 (za8 (za8 ?_)))))))))
    have e_ := si_ h; replace h := hR7; rw [← e_] at h; clear e_
    refine x_hit (za1 (c_seq (za0 (o_q rfl rfl (q_asg rfl) (o_end (za1 (c_ret ?_)))))))
    have e0_ := si_ h; clear h
    subst e0_
    exact x_r1 () Try.results143 (zal rfl) rfl (fun w h => za5 [] dc_ rfl w h)
  · skip
    clear hl8
    have hr5 := hJ_.1; have hk11 := hJ_.2.1; have h := hJ_.2.2; clear hJ_
    replace h : spec_l1All.l0 a1 a2 (y2 :: ys3) i1 = some o9 := h
    rw [spec_l1All.l0] at h
    refine c_seq (za0 (o_q rfl rfl (q_lss rfl rfl) (o_end (za1 (c_seq (zb8 (vb_ hr5.lt) (zam (za1 (c_seq ?_)))))))))
    refine zai (c_seq (za0 (zb4 (p := Sh A0 l0.length l0.length) (fun w h => f_sh (dk := (Kd.int .i64)) h (fun w h => R0.now Z h)) (fun hq12 => o_q rfl rfl (q_ix Try.underlying23 Z3 rfl rfl hq12 hr5.get) (o_q rfl rfl (q_lde (off := 0) Y3 rfl rfl (fun w h => R0.now Z h) hr5.get (fun _ _ h => h) rfl) (o_q rfl rfl (q_asg rfl) (o_end (za1 (c_seq ?_)))))))))
    refine za0 (o_q rfl rfl (za2 rfl) (o_q rfl rfl (za2 rfl) (o_q rfl rfl (za2 rfl) (za7 h (fun b14 hx13 h => ?_) rfl))))
    refine o_e rfl (za6 0 Z Try.func107 N107 rfl rfl rfl (fun w P1 hF hB hS hT => spec_l1In.calls y2 a1 a2 hB hF _ hx13)) (fun _ => o_q rfl rfl (q_not rfl) (o_end (za1 (zaq _ rfl (fun hb15 => ?_) (fun hb15 => ?_)))))
    · replace hb15 := nt_t hb15
      replace h := bb_f hb15 h
      refine c_seq (za0 (o_q rfl rfl (q_asg rfl) (o_end (za1 (c_ret (zat (zab (zab ?_))))))))
      have e_ := si_ h; replace h := hR7; rw [← e_] at h; clear e_
      refine zat (zab ?_)
      have e0_ := si_ h; clear h
      subst e0_
      exact x_r1 () Try.results143 (zal rfl) rfl (fun w h => za5 [] dc_ rfl w h)
    · replace hb15 := nt_f hb15
      replace h := bb_t hb15 h
      refine zam (zak (za1 (za0 (o_q rfl rfl (q_up rfl rfl (hr5.up hm6)) (o_q rfl rfl (za2 rfl) (o_end (zan ys3.length (ys3, i1 + 1) (by rw [← hk11]; exact Nat.lt_succ_self _) ⟨hr5.step, rfl, h⟩ ⟨rfl, trivial⟩ (fun w h => za5 [] dc_ rfl w h) ?_)))))))
      exact of_

def spec_plGood.l1 : (List (List Int)) → Int → Option ((Bool) ⊕ (Unit))
  | [], i24 => some (.inr ())
  | y25 :: ys26, i24 => (spec_l1All.f y25 0 1000000).bind fun b40 => if b40 = true then (spec_plGood.l1 ys26 (i24 + 1)) else (some (.inl false))
def spec_plGood.l0 (a0_0 : Int) : (List SStep) → Int → Option ((Bool) ⊕ (Unit))
  | [], i8 => some (.inr ())
  | y9 :: ys10, i8 => (spec_l1In.f y9.f0 0 y9.f1).bind fun b46 => if b46 = true then (if w64 (a0_0 + i8) ≤ y9.f1 then (some (.inl false)) else (spec_plGood.l0 a0_0 ys10 (i8 + 1))) else (some (.inl false))
def spec_plGood.f (k : Nat) (a0_0 : Int) (l0_1 : List SStep) (l0_2 : List Int) : Option Bool := (spec_l1In.f a0_0 1 6).bind fun b4 => if b4 = true then (if 40 < (l0_1.length : Int) then (some false) else (if 6 < (l0_2.length : Int) then (some false) else ((spec_plGood.l0 a0_0 l0_1 0).bind fun o_ => match o_ with | .inl r_ => some r_ | .inr _ => (spec_plExponents.f k a0_0 l0_1 l0_2).bind fun l20 => (spec_plGood.l1 l20 0).bind fun o_ => match o_ with | .inl r_ => some r_ | .inr _ => (spec_l1All.f l0_2 0 (w64 (w64 (a0_0 + (l0_1.length : Int)) - 1))).bind fun b36 => some b36))) else (some false)
theorem spec_plGood.calls (k : Nat) {w0 ws : World} {P0 : Nat → Prop} (a0_0 : Int) (A0_1 : Option Addr) (c0_1 : Nat) (n0_1 : Nat) (l0_1 : List SStep) (A0_2 : Option Addr) (c0_2 : Nat) (n0_2 : Nat) (l0_2 : List Int) (Z : Below w0.heap.size w0 ws) (hF : Fr w0 ws P0 [] ws) (R0_1 : Stable ws P0 (fun w => Kd.C kStep w A0_1 n0_1 l0_1)) (hc0_1 : n0_1 ≤ c0_1) (R0_2 : Stable ws P0 (fun w => Kd.C (Kd.int .i64) w A0_2 n0_2 l0_2)) (hc0_2 : n0_2 ≤ c0_2) (r_1 : Bool) (h : spec_plGood.f k a0_0 l0_1 l0_2 = some r_1) :
    Calls Try.prog 96 #[.agg #[.int .i64 a0_0, .slice A0_1 n0_1 c0_1, .slice A0_2 n0_2 c0_2]] ws (Post1 w0 ws P0 (fun (_ : Unit) => .bool r_1) (fun (_ : Unit) => [])) := by
  unfold spec_plGood.f at h
  obtain rfl := (R0_1 ws (KeptB.refl _ _)).1
  obtain rfl := (R0_2 ws (KeptB.refl _ _)).1
  refine enter Try.func96 rfl Try.ntmps96 rfl hF (c_seq (za0 (o_e rfl (e_box rfl) (fun g1 => o_q rfl rfl (q_asg rfl) (o_end (za1 (c_seq (c_seq (za0 ?_)))))))))
  refine o_q rfl rfl (q_f F25_0 rfl) (o_q rfl rfl (q_ldb Y3 rfl (fun w h => h.za9 (i := 0) rfl) rfl) (za7 h (fun b4 hx3 h => ?_) rfl))
  refine o_e rfl (za6 0 Z Try.func107 N107 rfl rfl rfl (fun w P1 hF hB hS hT => spec_l1In.calls a0_0 1 6 hB hF _ hx3)) (fun _ => o_q rfl rfl (q_not rfl) (o_q rfl rfl (za2 rfl) (byB b4 (fun hb5 => ?_) (fun hb5 => ?_))))
  · replace h := bb_t hb5 h
    refine o_w (zae rfl rfl rfl (congrArg (fun b => Value.bool (!(b))) hb5)) rfl (q_f F25_1 rfl) (o_w (zae rfl rfl rfl (congrArg (fun b => Value.bool (!(b))) hb5)) rfl (q_ldb Y22 rfl (fun w h => h.za9 (i := 0) rfl) rfl) (o_w (zae rfl rfl rfl (congrArg (fun b => Value.bool (!(b))) hb5)) rfl (q_len Try.underlying22 rfl) (o_w (zae rfl rfl rfl (congrArg (fun b => Value.bool (!(b))) hb5)) rfl (q_gtr rfl rfl) (o_q rfl rfl (zax false (congrArg (fun b => Value.bool (!(b))) hb5) rfl) (o_q rfl rfl (za2 rfl) (byB (decide (40 < (l0_1.length : Int))) (fun hb6 => ?_) (fun hb6 => ?_)))))))
    · replace h := br_t hb6 h
      refine o_n (d := 18) (zaa rfl rfl rfl (vb_ hb6) rfl) (Eq.refl (some 18)) (o_n (d := 19) (zaa rfl rfl rfl (vb_ hb6) rfl) (Eq.refl (some 19)) (o_n (d := 20) (zaa rfl rfl rfl (vb_ hb6) rfl) (Eq.refl (some 20)) (o_n (d := 21) (zaa rfl rfl rfl (vb_ hb6) rfl) (Eq.refl (some 21)) (o_q rfl rfl (zax true (vb_ hb6) rfl) (o_end (za1 (zb8 rfl (c_seq (za0 ?_)))))))))
      refine o_q rfl rfl (q_asg rfl) (o_end (za1 (c_ret (zab ?_))))
      have e0_ := si_ h; clear h
      subst e0_
      exact x_r1 () Try.results96 (zal rfl) rfl (fun w h => za5 [] dc_ rfl w h)
    · replace h := br_f hb6 h
      refine o_w (zae rfl rfl rfl (vb_ hb6)) rfl (q_f F25_2 rfl) (o_w (zae rfl rfl rfl (vb_ hb6)) rfl (q_ldb Y23 rfl (fun w h => h.za9 (i := 0) rfl) rfl) (o_w (zae rfl rfl rfl (vb_ hb6)) rfl (q_len Try.underlying23 rfl) (o_w (zae rfl rfl rfl (vb_ hb6)) rfl (q_gtr rfl rfl) (o_q rfl rfl (zax false (vb_ hb6) rfl) (o_end (za1 (zaq _ rfl (fun hb7 => ?_) (fun hb7 => ?_))))))))
      · skip
        replace h := br_t hb7 h
        refine c_seq (za0 (o_q rfl rfl (q_asg rfl) (o_end (za1 (c_ret (zab ?_))))))
        have e0_ := si_ h; clear h
        subst e0_
        exact x_r1 () Try.results96 (zal rfl) rfl (fun w h => za5 [] dc_ rfl w h)
      · skip
        replace h := br_f hb7 h
        refine zam (za1 (c_seq (c_seq (za0 (o_q rfl rfl (q_f F25_1 rfl) (o_q rfl rfl (q_ldb Y22 rfl (fun w h => h.za9 (i := 0) rfl) rfl) (o_q rfl rfl (q_len Try.underlying22 rfl) (o_q rfl rfl (za2 rfl) (o_end ?_)))))))))
        refine za1 (zai (za7 h (fun o16 hl15 hR14 => ?_) rfl))
        clear h
        refine c_fact (p := l0_1.length ≤ 9223372036854775807) (fun w h => (R0_1.now Z h).2.1) (fun hm13 => zaw (σ := (List SStep) × Int) (fun k11 ((ys10, i8) : (List SStep) × Int) => Rg l0_1 i8 ys10 ∧ ys10.length = k11 ∧ spec_plGood.l0 a0_0 ys10 i8 = some o16) [2, 3, 4, 26, 27, 28, 29, 30, 31, 32, 33, 34, 35, 36, 37, 38, 39, 40, 41, 42, 43, 44, 45, 46] (fun ((ys10, i8) : (List SStep) × Int) => [(26, .int .i64 i8)]) (fun ((ys10, i8) : (List SStep) × Int) => [box g1 25 #[.int .i64 a0_0, .slice A0_1 l0_1.length c0_1, .slice A0_2 l0_2.length c0_2]]) l0_1.length (l0_1, 0) ⟨Rg.start _, rfl, hl15⟩ ⟨rfl, trivial⟩ (fun w h => h) (fun k11 => cur2 (listC (fun i8 U17 hJ_ => ?_) (fun y9 ys10 i8 U17 hJ_ => ?_))))
        · skip
          clear hl15
          have hr12 := hJ_.1; have hk18 := hJ_.2.1; have h := hJ_.2.2; clear hJ_
          replace h : spec_plGood.l0 a0_0 [] i8 = some o16 := h
          rw [spec_plGood.l0] at h
          refine c_seq (za0 (o_q rfl rfl (q_lss rfl rfl) (o_end (za1 (c_seq (c_false (vb_ hr12.ge) (zb2 (za8 (za8 ?_)))))))))
          have e_ := si_ h; replace h := hR14; rw [← e_] at h; clear e_
          refine x_hit (za1 (c_seq (c_seq (za0 (o_q rfl rfl (q_ldB G25 Z25 rfl (fun w h => h.za9 (i := 0) rfl) rfl) (za7 h (fun l20 hx19 h => ?_) rfl))))))
          refine o_e rfl (za6 0 Z Try.func142 N142 rfl rfl rfl (fun w P1 hF hB hS hT => spec_plExponents.calls k a0_0 A0_1 c0_1 l0_1.length l0_1 A0_2 c0_2 l0_2.length l0_2 hB hF (hS _ R0_1) hc0_1 (hS _ R0_2) hc0_2 _ hx19)) (cur3 (fun A21 c22 H23 => o_q rfl rfl (q_len Try.underlying47 rfl) (o_q rfl rfl (za2 rfl) (o_end (za1 (zai (za7 h (fun o32 hl31 hR30 => ?_) rfl)))))))
          clear h
          refine c_fact (p := l20.length ≤ 9223372036854775807) (fun w h => (h.zar (i := 0) rfl).2.1) (fun hm29 => zaw (σ := (List (List Int)) × Int) (fun k27 ((ys26, i24) : (List (List Int)) × Int) => Rg l20 i24 ys26 ∧ ys26.length = k27 ∧ spec_plGood.l1 ys26 i24 = some o32) [2, 6, 50, 51, 52, 53, 54, 55, 56, 57] (fun ((ys26, i24) : (List (List Int)) × Int) => [(50, .int .i64 i24)]) (fun ((ys26, i24) : (List (List Int)) × Int) => [row (gk 3 (Kd.int .i64)) 23 (.slice A21 l20.length c22) (zp H23 l20), box g1 25 #[.int .i64 a0_0, .slice A0_1 l0_1.length c0_1, .slice A0_2 l0_2.length c0_2]]) l20.length (l20, 0) ⟨Rg.start _, rfl, hl31⟩ ⟨rfl, trivial⟩ (fun w h => h) (fun k27 => cur2 (listC (fun i24 U33 hJ_ => ?_) (fun y25 ys26 i24 U33 hJ_ => ?_))))
          · skip
            clear hl31
            have hr28 := hJ_.1; have hk34 := hJ_.2.1; have h := hJ_.2.2; clear hJ_
            replace h : spec_plGood.l1 [] i24 = some o32 := h
            rw [spec_plGood.l1] at h
            refine c_seq (za0 (o_q rfl rfl (q_lss rfl rfl) (o_end (za1 (c_seq (c_false (vb_ hr28.ge) (zb2 (za8 (za8 ?_)))))))))
            have e_ := si_ h; replace h := hR30; rw [← e_] at h; clear e_
            refine x_hit (za1 (c_seq (za0 (o_q rfl rfl (q_f F25_2 rfl) (o_q rfl rfl (q_ldb Y23 rfl (fun w h => h.za9 (i := 1) rfl) rfl) (o_q rfl rfl (q_f F25_0 rfl) (o_q rfl rfl (q_ldb Y3 rfl (fun w h => h.za9 (i := 1) rfl) rfl) (o_q rfl rfl (q_f F25_1 rfl) (o_q rfl rfl (q_ldb Y22 rfl (fun w h => h.za9 (i := 1) rfl) rfl) ?_)))))))))
            refine o_q rfl rfl (q_len Try.underlying22 rfl) (o_q rfl rfl (zb0 rfl rfl) (o_q rfl rfl (zb1 rfl rfl) (za7 h (fun b36 hx35 h => ?_) rfl)))
            refine o_e rfl (za6 0 Z Try.func143 N143 rfl rfl rfl (fun w P1 hF hB hS hT => spec_l1All.calls A0_2 c0_2 l0_2.length l0_2 0 (w64 (w64 (a0_0 + (l0_1.length : Int)) - 1)) hB hF (hS _ R0_2) hc0_2 _ hx35)) (fun _ => o_q rfl rfl (q_asg rfl) (o_end (za1 (c_ret ?_))))
            have e0_ := si_ h; clear h
            subst e0_
            exact x_r1 () Try.results96 (zal rfl) rfl (fun w h => za5 [] dc_ rfl w h)
          · skip
            clear hl31
            have hr28 := hJ_.1; have hk34 := hJ_.2.1; have h := hJ_.2.2; clear hJ_
            replace h : spec_plGood.l1 (y25 :: ys26) i24 = some o32 := h
            rw [spec_plGood.l1] at h
            refine c_seq (za0 (o_q rfl rfl (q_lss rfl rfl) (o_end (za1 (c_seq (zb8 (vb_ hr28.lt) (zam (za1 (c_seq ?_)))))))))
            refine zai (c_seq (za0 (zb4 (p := Sh A21 l20.length (zp H23 l20).length) (fun w h => f_sh (dk := (gk 3 (Kd.int .i64))) h (fun w h => h.zar (i := 0) rfl)) (fun hq37 => o_q rfl rfl (q_ix Try.underlying47 Z23 rfl rfl hq37 (gt_zp hr28.get)) (zb4 (p := y25.length ≤ hC H23 i24) (fun w h => (K_in (h.zar (i := 0) rfl) hr28.get).1) (fun hc38 => o_q rfl rfl (q_lde (off := 0) Y23 rfl rfl (fun w h => h.zar (i := 0) rfl) (gt_zp hr28.get) (fun _ _ h => h.1) rfl) (o_q rfl rfl (q_asg rfl) (o_end (za1 ?_)))))))))
            refine c_seq (za0 (o_q rfl rfl (za2 rfl) (za7 h (fun b40 hx39 h => ?_) rfl)))
            refine o_e rfl (za6 0 Z Try.func143 N143 rfl rfl rfl (fun w P1 hF hB hS hT => spec_l1All.calls (hA H23 i24) (hC H23 i24) y25.length y25 0 1000000 hB hF (stab_in (hT 0 _ rfl).row hr28.get) hc38 _ hx39)) (fun _ => o_q rfl rfl (q_not rfl) (o_end (za1 (zaq _ rfl (fun hb41 => ?_) (fun hb41 => ?_)))))
            · replace hb41 := nt_t hb41
              replace h := bb_f hb41 h
              refine c_seq (za0 (o_q rfl rfl (q_asg rfl) (o_end (za1 (c_ret (zat (zab (zab ?_))))))))
              have e_ := si_ h; replace h := hR30; rw [← e_] at h; clear e_
              refine zat (zab ?_)
              have e0_ := si_ h; clear h
              subst e0_
              exact x_r1 () Try.results96 (zal rfl) rfl (fun w h => za5 [] dc_ rfl w h)
            · replace hb41 := nt_f hb41
              replace h := bb_t hb41 h
              refine zam (zak (za1 (za0 (o_q rfl rfl (q_up rfl rfl (hr28.up hm29)) (o_q rfl rfl (za2 rfl) (o_end (zan ys26.length (ys26, i24 + 1) (by rw [← hk34]; exact Nat.lt_succ_self _) ⟨hr28.step, rfl, h⟩ ⟨rfl, trivial⟩ (fun w h => za5 [0, 1] dc_ rfl w h) ?_)))))))
              exact of_
        · skip
          clear hl15
          have hr12 := hJ_.1; have hk18 := hJ_.2.1; have h := hJ_.2.2; clear hJ_
          replace h : spec_plGood.l0 a0_0 (y9 :: ys10) i8 = some o16 := h
          rw [spec_plGood.l0] at h
          refine c_seq (za0 (o_q rfl rfl (q_lss rfl rfl) (o_end (za1 (c_seq (zb8 (vb_ hr12.lt) (zam (za1 (c_seq ?_)))))))))
          refine zai (c_seq (za0 (o_q rfl rfl (za2 rfl) (zb4 (p := Sh A0_1 l0_1.length l0_1.length) (fun w h => f_sh (dk := kStep) h (fun w h => R0_1.now Z h)) (fun hq42 => o_q rfl rfl (q_ix Try.underlying22 Z107 rfl rfl hq42 hr12.get) (o_q rfl rfl (q_ldE G107 Z107 rfl rfl (fun w h => R0_1.now Z h) hr12.get (fun _ _ h => h) rfl) (o_e rfl (zaf V107 rfl) (fun g43 => o_q rfl rfl (q_asg rfl) (o_e rfl (zah (i := 0) rfl rfl rfl Z107 rfl rfl) (fun _ => ?_))))))))))
          refine o_end (za1 (c_seq (za0 (o_q rfl rfl (q_f F107_0 rfl) (o_q rfl rfl (q_ldb Y3 rfl (fun w h => h.za9 (i := 0) rfl) rfl) (o_q rfl rfl (q_f F107_1 rfl) (o_q rfl rfl (q_ldb Y3 rfl (fun w h => h.za9 (i := 0) rfl) rfl) (za7 h (fun b46 hx45 h => ?_) rfl))))))))
          refine o_e rfl (za6 0 Z Try.func107 N107 rfl rfl rfl (fun w P1 hF hB hS hT => spec_l1In.calls y9.f0 0 y9.f1 hB hF _ hx45)) (fun _ => o_q rfl rfl (q_not rfl) (o_q rfl rfl (za2 rfl) (byB b46 (fun hb47 => ?_) (fun hb47 => ?_))))
          · replace h := bb_t hb47 h
            refine o_w (zae rfl rfl rfl (congrArg (fun b => Value.bool (!(b))) hb47)) rfl (q_f F107_1 rfl) (o_w (zae rfl rfl rfl (congrArg (fun b => Value.bool (!(b))) hb47)) rfl (q_ldb Y3 rfl (fun w h => h.za9 (i := 0) rfl) rfl) (o_w (zae rfl rfl rfl (congrArg (fun b => Value.bool (!(b))) hb47)) rfl (q_f F25_0 rfl) (o_w (zae rfl rfl rfl (congrArg (fun b => Value.bool (!(b))) hb47)) rfl (q_ldb Y3 rfl (fun w h => h.za9 (i := 1) rfl) rfl) (o_w (zae rfl rfl rfl (congrArg (fun b => Value.bool (!(b))) hb47)) rfl (za2 rfl) (o_w (zae rfl rfl rfl (congrArg (fun b => Value.bool (!(b))) hb47)) rfl (zb0 rfl rfl) (o_w (zae rfl rfl rfl (congrArg (fun b => Value.bool (!(b))) hb47)) rfl (q_geq rfl rfl) (o_q rfl rfl (zax false (congrArg (fun b => Value.bool (!(b))) hb47) rfl) (o_end (za1 ?_)))))))))
            refine zaq _ rfl (fun hb48 => ?_) (fun hb48 => ?_)
            · skip
              replace h := br_t hb48 h
              refine c_seq (za0 (o_q rfl rfl (q_asg rfl) (o_end (za1 (c_ret (zat (zab (zab ?_))))))))
              have e_ := si_ h; replace h := hR14; rw [← e_] at h; clear e_
              refine zat (zab ?_)
              have e0_ := si_ h; clear h
              subst e0_
              exact x_r1 () Try.results96 (zal rfl) rfl (fun w h => za5 [] dc_ rfl w h)
            · skip
              replace h := br_f hb48 h
              refine zam (zak (za1 (za0 (o_q rfl rfl (q_up rfl rfl (hr12.up hm13)) (o_q rfl rfl (za2 rfl) (o_end (zan ys10.length (ys10, i8 + 1) (by rw [← hk18]; exact Nat.lt_succ_self _) ⟨hr12.step, rfl, h⟩ ⟨rfl, trivial⟩ (fun w h => za5 [1] dc_ rfl w h) ?_)))))))
              exact of_
          · replace h := bb_f hb47 h
            refine o_n (d := 38) (zaa rfl rfl rfl (congrArg (fun b => Value.bool (!(b))) hb47) rfl) (Eq.refl (some 38)) (o_n (d := 39) (zaa rfl rfl rfl (congrArg (fun b => Value.bool (!(b))) hb47) rfl) (Eq.refl (some 39)) (o_n (d := 40) (zaa rfl rfl rfl (congrArg (fun b => Value.bool (!(b))) hb47) rfl) (Eq.refl (some 40)) (o_n (d := 41) (zaa rfl rfl rfl (congrArg (fun b => Value.bool (!(b))) hb47) rfl) (Eq.refl (some 41)) (o_n (d := 42) (zaa rfl rfl rfl (congrArg (fun b => Value.bool (!(b))) hb47) rfl) (Eq.refl (some 42)) (o_n (d := 43) (zaa rfl rfl rfl (congrArg (fun b => Value.bool (!(b))) hb47) rfl) (Eq.refl (some 43)) (o_n (d := 44) (zaa rfl rfl rfl (congrArg (fun b => Value.bool (!(b))) hb47) rfl) (Eq.refl (some 44)) (o_q rfl rfl (zax true (congrArg (fun b => Value.bool (!(b))) hb47) rfl) (o_end (za1 ?_)))))))))
            refine zb8 rfl (c_seq (za0 (o_q rfl rfl (q_asg rfl) (o_end (za1 (c_ret (zat (zab (zab ?_)))))))))
            have e_ := si_ h; replace h := hR14; rw [← e_] at h; clear e_
            refine zat (zab ?_)
            have e0_ := si_ h; clear h
            subst e0_
            exact x_r1 () Try.results96 (zal rfl) rfl (fun w h => za5 [] dc_ rfl w h)
  · replace h := bb_f hb5 h
    refine o_n (d := 12) (zaa rfl rfl rfl (congrArg (fun b => Value.bool (!(b))) hb5) rfl) (Eq.refl (some 12)) (o_n (d := 13) (zaa rfl rfl rfl (congrArg (fun b => Value.bool (!(b))) hb5) rfl) (Eq.refl (some 13)) (o_n (d := 14) (zaa rfl rfl rfl (congrArg (fun b => Value.bool (!(b))) hb5) rfl) (Eq.refl (some 14)) (o_n (d := 15) (zaa rfl rfl rfl (congrArg (fun b => Value.bool (!(b))) hb5) rfl) (Eq.refl (some 15)) (o_q rfl rfl (zax true (congrArg (fun b => Value.bool (!(b))) hb5) rfl) (o_q rfl rfl (za2 rfl) (o_n (d := 18) (zaa rfl rfl rfl rfl rfl) (Eq.refl (some 18)) (o_n (d := 19) (zaa rfl rfl rfl rfl rfl) (Eq.refl (some 19)) (o_n (d := 20) (zaa rfl rfl rfl rfl rfl) (Eq.refl (some 20)) (o_n (d := 21) (zaa rfl rfl rfl rfl rfl) (Eq.refl (some 21)) ?_)))))))))
    refine o_q rfl rfl (zax true rfl rfl) (o_end (za1 (zb8 rfl (c_seq (za0 (o_q rfl rfl (q_asg rfl) (o_end (za1 (c_ret ?_)))))))))
    refine zab ?_
    have e0_ := si_ h; clear h
    subst e0_
    exact x_r1 () Try.results96 (zal rfl) rfl (fun w h => za5 [] dc_ rfl w h)

def spec_plIf.f (k : Nat) (a0_0 : Int) (l0_1 : List SStep) (l0_2 : List Int) : Option (Int × (List SStep) × (List Int) × Bool) := (spec_plGood.f k a0_0 l0_1 l0_2).bind fun b6 => if b6 = true then (some (a0_0, l0_1, l0_2, true)) else (some (0, ([] : List SStep), ([] : List Int), false))
theorem spec_plIf.calls (k : Nat) {w0 ws : World} {P0 : Nat → Prop} (a0_0 : Int) (A0_1 : Option Addr) (c0_1 : Nat) (n0_1 : Nat) (l0_1 : List SStep) (A0_2 : Option Addr) (c0_2 : Nat) (n0_2 : Nat) (l0_2 : List Int) (Z : Below w0.heap.size w0 ws) (hF : Fr w0 ws P0 [row kStep 107 (.slice A0_1 n0_1 c0_1) l0_1, row (Kd.int .i64) 3 (.slice A0_2 n0_2 c0_2) l0_2] ws)  (r_1 : Int) (r_2 : List SStep) (r_5 : List Int) (r_8 : Bool) (h : spec_plIf.f k a0_0 l0_1 l0_2 = some (r_1, r_2, r_5, r_8)) :
    Calls Try.prog 51 #[.agg #[.int .i64 a0_0, .slice A0_1 n0_1 c0_1, .slice A0_2 n0_2 c0_2]] ws (Post1 w0 ws P0 (fun ((q_3, q_4, q_6, q_7) : (Option Addr) × Nat × (Option Addr) × Nat) => .tuple #[.agg #[.int .i64 r_1, .slice q_3 r_2.length q_4, .slice q_6 r_5.length q_7], .bool r_8]) (fun ((q_3, q_4, q_6, q_7) : (Option Addr) × Nat × (Option Addr) × Nat) => [row kStep 107 (.slice q_3 r_2.length q_4) r_2, row (Kd.int .i64) 3 (.slice q_6 r_5.length q_7) r_5])) := by
  unfold spec_plIf.f at h
  obtain rfl := (hF.row_C (i := 0) rfl).2.1
  obtain rfl := (hF.row_C (i := 1) rfl).2.1
  refine enter Try.func51 rfl Try.ntmps51 rfl hF (c_seq (za0 (o_e rfl (e_box rfl) (fun g1 => o_e rfl (zaf V25 rfl) (fun g3 => o_q rfl rfl (q_asg rfl) (o_end (za1 (c_seq (c_seq ?_)))))))))
  refine za0 (o_q rfl rfl (q_ldB G25 Z25 rfl (fun w h => h.za9 (i := 1) rfl) rfl) (za7 h (fun b6 hx5 h => ?_) rfl))
  refine o_e rfl (za6 0 Z Try.func96 N96 rfl rfl rfl (fun w P1 hF hB hS hT => spec_plGood.calls k a0_0 A0_1 c0_1 l0_1.length l0_1 A0_2 c0_2 l0_2.length l0_2 hB hF (hT 2 _ rfl).row (hT 2 _ rfl).cap (hT 3 _ rfl).row (hT 3 _ rfl).cap _ hx5)) (fun _ => o_q rfl rfl (q_not rfl) (o_end (za1 (zaq _ rfl (fun hb7 => ?_) (fun hb7 => ?_)))))
  · replace hb7 := nt_t hb7
    replace h := bb_f hb7 h
    refine c_seq (za0 (o_q rfl rfl (q_build (vs := []) (cs := [.int .i64 0, .slice none 0 0, .slice none 0 0]) rfl rfl) (o_e rfl (zah (i := 0) rfl rfl rfl Z25 rfl rfl) (fun _ => o_q rfl rfl (q_asg rfl) (o_end (za1 (c_ret (zab (x_nil kStep 107 ?_)))))))))
    refine x_nil (Kd.int .i64) 3 ?_
    have e0_ := si_ h; clear h
    obtain ⟨rfl, e1_⟩ := Prod.mk.inj e0_
    obtain ⟨rfl, e2_⟩ := Prod.mk.inj e1_
    obtain ⟨rfl, e3_⟩ := Prod.mk.inj e2_
    subst e3_
    exact x_r2 (none, 0, none, 0) Try.results51 (zb5 rfl G25 Z25 (fun w h => h.za9 (i := 2) rfl) rfl) (zal rfl) rfl (fun w h => za5 [1, 0] dc_ rfl w h)
  · replace hb7 := nt_f hb7
    replace h := bb_t hb7 h
    refine zam (za1 (c_seq (za0 (o_q rfl rfl (q_ldB G25 Z25 rfl (fun w h => h.za9 (i := 1) rfl) rfl) (o_e rfl (zah (i := 0) rfl rfl rfl Z25 rfl rfl) (fun _ => o_q rfl rfl (q_asg rfl) (o_end (za1 (c_ret ?_)))))))))
    have e0_ := si_ h; clear h
    obtain ⟨rfl, e1_⟩ := Prod.mk.inj e0_
    obtain ⟨rfl, e2_⟩ := Prod.mk.inj e1_
    obtain ⟨rfl, e3_⟩ := Prod.mk.inj e2_
    subst e3_
    exact x_r2 (A0_1, c0_1, A0_2, c0_2) Try.results51 (zb5 rfl G25 Z25 (fun w h => h.za9 (i := 0) rfl) rfl) (zal rfl) rfl (fun w h => za5 [2, 3] dc_ rfl w h)

def spec_BestPlan.f (k : Nat) (a0 : Int) : Option (Int × (List SStep) × (List Int) × Bool) := (spec_chNumber.f a0).bind fun b4 => if b4 = true then ((spec_meBinary.f k a0).bind fun (l7, l8) => (spec_mePlans.f k a0).bind fun (l16, l17, l18, l19, l20, l21, l22, l23, l24, l25, l26, l27, l28, l29) => (if (l16.length : Int) < (l7.length : Int) then (some (l16, l17)) else (some (l7, l8))).bind fun (l62, l65) => (if (l18.length : Int) < (l62.length : Int) then (some (l18, l19)) else (some (l62, l65))).bind fun (l79, l82) => (if (l20.length : Int) < (l79.length : Int) then (some (l20, l21)) else (some (l79, l82))).bind fun (l96, l99) => (if (l22.length : Int) < (l96.length : Int) then (some (l22, l23)) else (some (l96, l99))).bind fun (l113, l116) => (if (l24.length : Int) < (l113.length : Int) then (some (l24, l25)) else (some (l113, l116))).bind fun (l130, l133) => (if (l26.length : Int) < (l130.length : Int) then (some (l26, l27)) else (some (l130, l133))).bind fun (l147, l150) => (if (l28.length : Int) < (l147.length : Int) then (some (l28, l29)) else (some (l147, l150))).bind fun (l164, l167) => (spec_plIf.f k 1 l164 l167).bind fun (i179, l180, l181, b182) => some (i179, l180, l181, b182)) else (some (0, ([] : List SStep), ([] : List Int), false))
theorem spec_BestPlan.calls (k : Nat) {w0 ws : World} {P0 : Nat → Prop} (a0 : Int) (Z : Below w0.heap.size w0 ws) (hF : Fr w0 ws P0 [] ws)  (r_1 : Int) (r_2 : List SStep) (r_5 : List Int) (r_8 : Bool) (h : spec_BestPlan.f k a0 = some (r_1, r_2, r_5, r_8)) :
    Calls Try.prog 38 #[.int .i64 a0] ws (Post1 w0 ws P0 (fun ((q_3, q_4, q_6, q_7) : (Option Addr) × Nat × (Option Addr) × Nat) => .tuple #[.agg #[.int .i64 r_1, .slice q_3 r_2.length q_4, .slice q_6 r_5.length q_7], .bool r_8]) (fun ((q_3, q_4, q_6, q_7) : (Option Addr) × Nat × (Option Addr) × Nat) => [row kStep 107 (.slice q_3 r_2.length q_4) r_2, row (Kd.int .i64) 3 (.slice q_6 r_5.length q_7) r_5])) := by
  unfold spec_BestPlan.f at h
  refine enter Try.func38 rfl Try.ntmps38 rfl hF (c_seq (za0 (o_e rfl (zaf V25 rfl) (fun g1 => o_q rfl rfl (q_asg rfl) (o_end (za1 (c_seq (c_seq (za0 ?_)))))))))
  refine o_q rfl rfl (za2 rfl) (za7 h (fun b4 hx3 h => ?_) rfl)
  refine o_e rfl (za6 0 Z Try.func49 N49 rfl rfl rfl (fun w P1 hF hB hS hT => spec_chNumber.calls a0 hB hF _ hx3)) (fun _ => o_q rfl rfl (q_not rfl) (o_end (za1 (zaq _ rfl (fun hb5 => ?_) (fun hb5 => ?_)))))
  · replace hb5 := nt_t hb5
    replace h := bb_f hb5 h
    refine c_seq (za0 (o_q rfl rfl (q_build (vs := []) (cs := [.int .i64 0, .slice none 0 0, .slice none 0 0]) rfl rfl) (o_e rfl (zah (i := 0) rfl rfl rfl Z25 rfl rfl) (fun _ => o_q rfl rfl (q_asg rfl) (o_end (za1 (c_ret (zab (x_nil kStep 107 ?_)))))))))
    refine x_nil (Kd.int .i64) 3 ?_
    have e0_ := si_ h; clear h
    obtain ⟨rfl, e1_⟩ := Prod.mk.inj e0_
    obtain ⟨rfl, e2_⟩ := Prod.mk.inj e1_
    obtain ⟨rfl, e3_⟩ := Prod.mk.inj e2_
    subst e3_
    exact x_r2 (none, 0, none, 0) Try.results38 (zb5 rfl G25 Z25 (fun w h => h.za9 (i := 2) rfl) rfl) (zal rfl) rfl (fun w h => za5 [1, 0] dc_ rfl w h)
  · replace hb5 := nt_f hb5
    replace h := bb_t hb5 h
    refine zam (za1 (c_seq (za0 (o_q rfl rfl (za2 rfl) (bindE2 h (fun l7 l8 hx6 h => ?_) rfl)))))
    refine o_e rfl (za6 0 Z Try.func83 N83 rfl rfl rfl (fun w P1 hF hB hS hT => spec_meBinary.calls k a0 hB hF _ _ hx6)) (cur4 (fun A9 c10 A11 c12 => o_e rfl (zaf V25 rfl) (fun g13 => o_e rfl (zah (i := 0) rfl rfl rfl Z25 rfl rfl) (fun _ => o_end (za1 (c_seq (c_seq (za0 (o_q rfl rfl (za2 rfl) (bindE14 h (fun l16 l17 l18 l19 l20 l21 l22 l23 l24 l25 l26 l27 l28 l29 hx15 h => ?_) rfl))))))))))
    refine o_e rfl (za6 0 Z Try.func68 N68 rfl rfl rfl (fun w P1 hF hB hS hT => spec_mePlans.calls k a0 hB hF _ _ _ _ _ _ _ _ _ _ _ _ _ _ hx15)) (cur29 (fun c30 A31 c32 A33 c34 A35 c36 A37 c38 A39 c40 A41 c42 A43 c44 A45 c46 A47 c48 A49 c50 A51 c52 A53 c54 A55 c56 A57 c58 => o_q rfl rfl (q_len Try.underlying77 rfl) (o_q rfl rfl (za2 rfl) (o_end (za1 (zai (c_rounds 8 (rn_succ (c_seq (za0 ?_))))))))))
    refine o_q rfl rfl (q_lss rfl rfl) (o_end (za1 (c_seq (zb8 (vb_ (show decide ((0 : Int) < 7) = true from rfl)) (zam (za1 (za7 h (fun o68 hl69 hR70 => ?_) rfl)))))))
    clear h
    refine c_cutJ (σ := (List SStep) × (List Int) × (Option Addr) × Nat × (Option Addr) × Nat) (fun (l62, l65, A63, c64, A66, c67) => some (l62, l65) = some o68) [6, 18, 19, 20, 21, 22, 23, 24, 25, 26, 27] (fun (l62, l65, A63, c64, A66, c67) => []) (fun (l62, l65, A63, c64, A66, c67) => [box g1 25 #[.int .i64 0, .slice none 0 0, .slice none 0 0], box g13 25 #[.int .i64 1, .slice A63 l62.length c64, .slice A66 l65.length c67], row kStep 107 (.slice A63 l62.length c64) l62, row (Kd.int .i64) 3 (.slice A66 l65.length c67) l65, box c30 25 #[.int .i64 1, .slice A31 l16.length c32, .slice A33 l17.length c34, .int .i64 1, .slice A35 l18.length c36, .slice A37 l19.length c38, .int .i64 1, .slice A39 l20.length c40, .slice A41 l21.length c42, .int .i64 1, .slice A43 l22.length c44, .slice A45 l23.length c46, .int .i64 1, .slice A47 l24.length c48, .slice A49 l25.length c50, .int .i64 1, .slice A51 l26.length c52, .slice A53 l27.length c54, .int .i64 1, .slice A55 l28.length c56, .slice A57 l29.length c58], row kStep 107 (.slice A35 l18.length c36) l18, row (Kd.int .i64) 3 (.slice A37 l19.length c38) l19, row kStep 107 (.slice A39 l20.length c40) l20, row (Kd.int .i64) 3 (.slice A41 l21.length c42) l21, row kStep 107 (.slice A43 l22.length c44) l22, row (Kd.int .i64) 3 (.slice A45 l23.length c46) l23, row kStep 107 (.slice A47 l24.length c48) l24, row (Kd.int .i64) 3 (.slice A49 l25.length c50) l25, row kStep 107 (.slice A51 l26.length c52) l26, row (Kd.int .i64) 3 (.slice A53 l27.length c54) l27, row kStep 107 (.slice A55 l28.length c56) l28, row (Kd.int .i64) 3 (.slice A57 l29.length c58) l29]) ?_ ?_
    · skip
      have h := hl69; clear hl69
      clear hR70
      refine zai (c_seq (za0 (o_q rfl rfl (q_ixB (m := 0) Try.underlying77 Z25 rfl rfl dc_) (o_q rfl rfl (q_ldBo (o := 0) (ls := [.int .i64 1, .slice A31 l16.length c32, .slice A33 l17.length c34]) G25 Z25 rfl (fun w h => h.za9 (i := 0) rfl) rfl rfl) (o_e rfl (zaf V25 rfl) (fun g73 => o_e rfl (zah (i := 0) rfl rfl rfl Z25 rfl rfl) (fun _ => o_end (za1 (c_seq ?_)))))))))
      refine za0 (o_q rfl rfl (q_f F25_1 rfl) (o_q rfl rfl (q_ldb Y22 rfl (fun w h => h.za9 (i := 0) rfl) rfl) (o_q rfl rfl (q_len Try.underlying22 rfl) (o_q rfl rfl (q_f F25_1 rfl) (o_q rfl rfl (q_ldb Y22 rfl (fun w h => h.za9 (i := 16) rfl) rfl) (o_q rfl rfl (q_len Try.underlying22 rfl) (o_q rfl rfl (q_lss rfl rfl) (o_end (za1 ?_)))))))))
      refine zaq _ rfl (fun hb75 => ?_) (fun hb75 => ?_)
      · skip
        replace h := br_t hb75 h
        refine za0 (o_q rfl rfl (q_ldB G25 Z25 rfl (fun w h => h.za9 (i := 0) rfl) rfl) (o_e rfl (zah (i := 16) rfl rfl rfl Z25 rfl rfl) (fun _ => o_end (zak (zaj (l16, l17, A31, c32, A33, c34) h trivial (fun w h => za5 [19, 16, 2, 3, 1, 4, 5, 6, 7, 8, 9, 10, 11, 12, 13, 14, 15] dc_ rfl w h) ?_)))))
        exact of_
      · skip
        replace h := br_f hb75 h
        refine zam (zak (zaj (l7, l8, A9, c10, A11, c12) h trivial (fun w h => za5 [19, 16, 17, 18, 1, 4, 5, 6, 7, 8, 9, 10, 11, 12, 13, 14, 15] dc_ rfl w h) ?_))
        exact of_
    · skip
      refine (cur6 (fun l62 l65 A63 c64 A66 c67 => fun U71 hJ72 => ?_))
      have e_ := si_ hJ72; have h := hR70; rw [← e_] at h; clear e_ hJ72 hR70 hl69
      refine za0 (o_q rfl rfl (q_addc rfl rfl rfl) (o_q rfl rfl (za2 rfl) (o_end (x_rn (rn_succ (c_seq (za0 (o_q rfl rfl (q_lss rfl rfl) (o_end ?_)))))))))
      refine za1 (c_seq (zb8 (vb_ (show decide ((1 : Int) < 7) = true from rfl)) (zam (za1 (za7 h (fun o85 hl86 hR87 => ?_) rfl)))))
      clear h
      refine c_cutJ (σ := (List SStep) × (List Int) × (Option Addr) × Nat × (Option Addr) × Nat) (fun (l79, l82, A80, c81, A83, c84) => some (l79, l82) = some o85) [6, 18, 19, 20, 21, 22, 23, 24, 25, 26, 27] (fun (l79, l82, A80, c81, A83, c84) => []) (fun (l79, l82, A80, c81, A83, c84) => [box g1 25 #[.int .i64 0, .slice none 0 0, .slice none 0 0], box g13 25 #[.int .i64 1, .slice A80 l79.length c81, .slice A83 l82.length c84], row kStep 107 (.slice A80 l79.length c81) l79, row (Kd.int .i64) 3 (.slice A83 l82.length c84) l82, box c30 25 #[.int .i64 1, .slice A31 l16.length c32, .slice A33 l17.length c34, .int .i64 1, .slice A35 l18.length c36, .slice A37 l19.length c38, .int .i64 1, .slice A39 l20.length c40, .slice A41 l21.length c42, .int .i64 1, .slice A43 l22.length c44, .slice A45 l23.length c46, .int .i64 1, .slice A47 l24.length c48, .slice A49 l25.length c50, .int .i64 1, .slice A51 l26.length c52, .slice A53 l27.length c54, .int .i64 1, .slice A55 l28.length c56, .slice A57 l29.length c58], row kStep 107 (.slice A39 l20.length c40) l20, row (Kd.int .i64) 3 (.slice A41 l21.length c42) l21, row kStep 107 (.slice A43 l22.length c44) l22, row (Kd.int .i64) 3 (.slice A45 l23.length c46) l23, row kStep 107 (.slice A47 l24.length c48) l24, row (Kd.int .i64) 3 (.slice A49 l25.length c50) l25, row kStep 107 (.slice A51 l26.length c52) l26, row (Kd.int .i64) 3 (.slice A53 l27.length c54) l27, row kStep 107 (.slice A55 l28.length c56) l28, row (Kd.int .i64) 3 (.slice A57 l29.length c58) l29]) ?_ ?_
      · skip
        have h := hl86; clear hl86
        clear hR87
        refine zai (c_seq (za0 (o_q rfl rfl (q_ixB (m := 1) Try.underlying77 Z25 rfl rfl dc_) (o_q rfl rfl (q_ldBo (o := 3) (ls := [.int .i64 1, .slice A35 l18.length c36, .slice A37 l19.length c38]) G25 Z25 rfl (fun w h => h.za9 (i := 4) rfl) rfl rfl) (o_e rfl (zaf V25 rfl) (fun g90 => o_e rfl (zah (i := 0) rfl rfl rfl Z25 rfl rfl) (fun _ => o_end (za1 (c_seq ?_)))))))))
        refine za0 (o_q rfl rfl (q_f F25_1 rfl) (o_q rfl rfl (q_ldb Y22 rfl (fun w h => h.za9 (i := 0) rfl) rfl) (o_q rfl rfl (q_len Try.underlying22 rfl) (o_q rfl rfl (q_f F25_1 rfl) (o_q rfl rfl (q_ldb Y22 rfl (fun w h => h.za9 (i := 2) rfl) rfl) (o_q rfl rfl (q_len Try.underlying22 rfl) (o_q rfl rfl (q_lss rfl rfl) (o_end (za1 ?_)))))))))
        refine zaq _ rfl (fun hb92 => ?_) (fun hb92 => ?_)
        · skip
          replace h := br_t hb92 h
          refine za0 (o_q rfl rfl (q_ldB G25 Z25 rfl (fun w h => h.za9 (i := 0) rfl) rfl) (o_e rfl (zah (i := 2) rfl rfl rfl Z25 rfl rfl) (fun _ => o_end (zak (zaj (l18, l19, A35, c36, A37, c38) h trivial (fun w h => za5 [1, 2, 6, 7, 5, 8, 9, 10, 11, 12, 13, 14, 15, 16, 17] dc_ rfl w h) ?_)))))
          exact of_
        · skip
          replace h := br_f hb92 h
          refine zam (zak (zaj (l62, l65, A63, c64, A66, c67) h trivial (fun w h => za5 [1, 2, 3, 4, 5, 8, 9, 10, 11, 12, 13, 14, 15, 16, 17] dc_ rfl w h) ?_))
          exact of_
      · skip
        refine (cur6 (fun l79 l82 A80 c81 A83 c84 => fun U88 hJ89 => ?_))
        have e_ := si_ hJ89; have h := hR87; rw [← e_] at h; clear e_ hJ89 hR87 hl86
        refine za0 (o_q rfl rfl (q_addc rfl rfl rfl) (o_q rfl rfl (za2 rfl) (o_end (x_rn (rn_succ (c_seq (za0 (o_q rfl rfl (q_lss rfl rfl) (o_end ?_)))))))))
        refine za1 (c_seq (zb8 (vb_ (show decide ((2 : Int) < 7) = true from rfl)) (zam (za1 (za7 h (fun o102 hl103 hR104 => ?_) rfl)))))
        clear h
        refine c_cutJ (σ := (List SStep) × (List Int) × (Option Addr) × Nat × (Option Addr) × Nat) (fun (l96, l99, A97, c98, A100, c101) => some (l96, l99) = some o102) [6, 18, 19, 20, 21, 22, 23, 24, 25, 26, 27] (fun (l96, l99, A97, c98, A100, c101) => []) (fun (l96, l99, A97, c98, A100, c101) => [box g1 25 #[.int .i64 0, .slice none 0 0, .slice none 0 0], box g13 25 #[.int .i64 1, .slice A97 l96.length c98, .slice A100 l99.length c101], row kStep 107 (.slice A97 l96.length c98) l96, row (Kd.int .i64) 3 (.slice A100 l99.length c101) l99, box c30 25 #[.int .i64 1, .slice A31 l16.length c32, .slice A33 l17.length c34, .int .i64 1, .slice A35 l18.length c36, .slice A37 l19.length c38, .int .i64 1, .slice A39 l20.length c40, .slice A41 l21.length c42, .int .i64 1, .slice A43 l22.length c44, .slice A45 l23.length c46, .int .i64 1, .slice A47 l24.length c48, .slice A49 l25.length c50, .int .i64 1, .slice A51 l26.length c52, .slice A53 l27.length c54, .int .i64 1, .slice A55 l28.length c56, .slice A57 l29.length c58], row kStep 107 (.slice A43 l22.length c44) l22, row (Kd.int .i64) 3 (.slice A45 l23.length c46) l23, row kStep 107 (.slice A47 l24.length c48) l24, row (Kd.int .i64) 3 (.slice A49 l25.length c50) l25, row kStep 107 (.slice A51 l26.length c52) l26, row (Kd.int .i64) 3 (.slice A53 l27.length c54) l27, row kStep 107 (.slice A55 l28.length c56) l28, row (Kd.int .i64) 3 (.slice A57 l29.length c58) l29]) ?_ ?_
        · skip
          have h := hl103; clear hl103
          clear hR104
          refine zai (c_seq (za0 (o_q rfl rfl (q_ixB (m := 2) Try.underlying77 Z25 rfl rfl dc_) (o_q rfl rfl (q_ldBo (o := 6) (ls := [.int .i64 1, .slice A39 l20.length c40, .slice A41 l21.length c42]) G25 Z25 rfl (fun w h => h.za9 (i := 4) rfl) rfl rfl) (o_e rfl (zaf V25 rfl) (fun g107 => o_e rfl (zah (i := 0) rfl rfl rfl Z25 rfl rfl) (fun _ => o_end (za1 (c_seq ?_)))))))))
          refine za0 (o_q rfl rfl (q_f F25_1 rfl) (o_q rfl rfl (q_ldb Y22 rfl (fun w h => h.za9 (i := 0) rfl) rfl) (o_q rfl rfl (q_len Try.underlying22 rfl) (o_q rfl rfl (q_f F25_1 rfl) (o_q rfl rfl (q_ldb Y22 rfl (fun w h => h.za9 (i := 2) rfl) rfl) (o_q rfl rfl (q_len Try.underlying22 rfl) (o_q rfl rfl (q_lss rfl rfl) (o_end (za1 ?_)))))))))
          refine zaq _ rfl (fun hb109 => ?_) (fun hb109 => ?_)
          · skip
            replace h := br_t hb109 h
            refine za0 (o_q rfl rfl (q_ldB G25 Z25 rfl (fun w h => h.za9 (i := 0) rfl) rfl) (o_e rfl (zah (i := 2) rfl rfl rfl Z25 rfl rfl) (fun _ => o_end (zak (zaj (l20, l21, A39, c40, A41, c42) h trivial (fun w h => za5 [1, 2, 6, 7, 5, 8, 9, 10, 11, 12, 13, 14, 15] dc_ rfl w h) ?_)))))
            exact of_
          · skip
            replace h := br_f hb109 h
            refine zam (zak (zaj (l79, l82, A80, c81, A83, c84) h trivial (fun w h => za5 [1, 2, 3, 4, 5, 8, 9, 10, 11, 12, 13, 14, 15] dc_ rfl w h) ?_))
            exact of_
        · skip
          refine (cur6 (fun l96 l99 A97 c98 A100 c101 => fun U105 hJ106 => ?_))
          have e_ := si_ hJ106; have h := hR104; rw [← e_] at h; clear e_ hJ106 hR104 hl103
          refine za0 (o_q rfl rfl (q_addc rfl rfl rfl) (o_q rfl rfl (za2 rfl) (o_end (x_rn (rn_succ (c_seq (za0 (o_q rfl rfl (q_lss rfl rfl) (o_end ?_)))))))))
          refine za1 (c_seq (zb8 (vb_ (show decide ((3 : Int) < 7) = true from rfl)) (zam (za1 (za7 h (fun o119 hl120 hR121 => ?_) rfl)))))
          clear h
          refine c_cutJ (σ := (List SStep) × (List Int) × (Option Addr) × Nat × (Option Addr) × Nat) (fun (l113, l116, A114, c115, A117, c118) => some (l113, l116) = some o119) [6, 18, 19, 20, 21, 22, 23, 24, 25, 26, 27] (fun (l113, l116, A114, c115, A117, c118) => []) (fun (l113, l116, A114, c115, A117, c118) => [box g1 25 #[.int .i64 0, .slice none 0 0, .slice none 0 0], box g13 25 #[.int .i64 1, .slice A114 l113.length c115, .slice A117 l116.length c118], row kStep 107 (.slice A114 l113.length c115) l113, row (Kd.int .i64) 3 (.slice A117 l116.length c118) l116, box c30 25 #[.int .i64 1, .slice A31 l16.length c32, .slice A33 l17.length c34, .int .i64 1, .slice A35 l18.length c36, .slice A37 l19.length c38, .int .i64 1, .slice A39 l20.length c40, .slice A41 l21.length c42, .int .i64 1, .slice A43 l22.length c44, .slice A45 l23.length c46, .int .i64 1, .slice A47 l24.length c48, .slice A49 l25.length c50, .int .i64 1, .slice A51 l26.length c52, .slice A53 l27.length c54, .int .i64 1, .slice A55 l28.length c56, .slice A57 l29.length c58], row kStep 107 (.slice A47 l24.length c48) l24, row (Kd.int .i64) 3 (.slice A49 l25.length c50) l25, row kStep 107 (.slice A51 l26.length c52) l26, row (Kd.int .i64) 3 (.slice A53 l27.length c54) l27, row kStep 107 (.slice A55 l28.length c56) l28, row (Kd.int .i64) 3 (.slice A57 l29.length c58) l29]) ?_ ?_
          · skip
            have h := hl120; clear hl120
            clear hR121
            refine zai (c_seq (za0 (o_q rfl rfl (q_ixB (m := 3) Try.underlying77 Z25 rfl rfl dc_) (o_q rfl rfl (q_ldBo (o := 9) (ls := [.int .i64 1, .slice A43 l22.length c44, .slice A45 l23.length c46]) G25 Z25 rfl (fun w h => h.za9 (i := 4) rfl) rfl rfl) (o_e rfl (zaf V25 rfl) (fun g124 => o_e rfl (zah (i := 0) rfl rfl rfl Z25 rfl rfl) (fun _ => o_end (za1 (c_seq ?_)))))))))
            refine za0 (o_q rfl rfl (q_f F25_1 rfl) (o_q rfl rfl (q_ldb Y22 rfl (fun w h => h.za9 (i := 0) rfl) rfl) (o_q rfl rfl (q_len Try.underlying22 rfl) (o_q rfl rfl (q_f F25_1 rfl) (o_q rfl rfl (q_ldb Y22 rfl (fun w h => h.za9 (i := 2) rfl) rfl) (o_q rfl rfl (q_len Try.underlying22 rfl) (o_q rfl rfl (q_lss rfl rfl) (o_end (za1 ?_)))))))))
            refine zaq _ rfl (fun hb126 => ?_) (fun hb126 => ?_)
            · skip
              replace h := br_t hb126 h
              refine za0 (o_q rfl rfl (q_ldB G25 Z25 rfl (fun w h => h.za9 (i := 0) rfl) rfl) (o_e rfl (zah (i := 2) rfl rfl rfl Z25 rfl rfl) (fun _ => o_end (zak (zaj (l22, l23, A43, c44, A45, c46) h trivial (fun w h => za5 [1, 2, 6, 7, 5, 8, 9, 10, 11, 12, 13] dc_ rfl w h) ?_)))))
              exact of_
            · skip
              replace h := br_f hb126 h
              refine zam (zak (zaj (l96, l99, A97, c98, A100, c101) h trivial (fun w h => za5 [1, 2, 3, 4, 5, 8, 9, 10, 11, 12, 13] dc_ rfl w h) ?_))
              exact of_
          · skip
            refine (cur6 (fun l113 l116 A114 c115 A117 c118 => fun U122 hJ123 => ?_))
            have e_ := si_ hJ123; have h := hR121; rw [← e_] at h; clear e_ hJ123 hR121 hl120
            refine za0 (o_q rfl rfl (q_addc rfl rfl rfl) (o_q rfl rfl (za2 rfl) (o_end (x_rn (rn_succ (c_seq (za0 (o_q rfl rfl (q_lss rfl rfl) (o_end ?_)))))))))
            refine za1 (c_seq (zb8 (vb_ (show decide ((4 : Int) < 7) = true from rfl)) (zam (za1 (za7 h (fun o136 hl137 hR138 => ?_) rfl)))))
            clear h
            refine c_cutJ (σ := (List SStep) × (List Int) × (Option Addr) × Nat × (Option Addr) × Nat) (fun (l130, l133, A131, c132, A134, c135) => some (l130, l133) = some o136) [6, 18, 19, 20, 21, 22, 23, 24, 25, 26, 27] (fun (l130, l133, A131, c132, A134, c135) => []) (fun (l130, l133, A131, c132, A134, c135) => [box g1 25 #[.int .i64 0, .slice none 0 0, .slice none 0 0], box g13 25 #[.int .i64 1, .slice A131 l130.length c132, .slice A134 l133.length c135], row kStep 107 (.slice A131 l130.length c132) l130, row (Kd.int .i64) 3 (.slice A134 l133.length c135) l133, box c30 25 #[.int .i64 1, .slice A31 l16.length c32, .slice A33 l17.length c34, .int .i64 1, .slice A35 l18.length c36, .slice A37 l19.length c38, .int .i64 1, .slice A39 l20.length c40, .slice A41 l21.length c42, .int .i64 1, .slice A43 l22.length c44, .slice A45 l23.length c46, .int .i64 1, .slice A47 l24.length c48, .slice A49 l25.length c50, .int .i64 1, .slice A51 l26.length c52, .slice A53 l27.length c54, .int .i64 1, .slice A55 l28.length c56, .slice A57 l29.length c58], row kStep 107 (.slice A51 l26.length c52) l26, row (Kd.int .i64) 3 (.slice A53 l27.length c54) l27, row kStep 107 (.slice A55 l28.length c56) l28, row (Kd.int .i64) 3 (.slice A57 l29.length c58) l29]) ?_ ?_
            · skip
              have h := hl137; clear hl137
              clear hR138
              refine zai (c_seq (za0 (o_q rfl rfl (q_ixB (m := 4) Try.underlying77 Z25 rfl rfl dc_) (o_q rfl rfl (q_ldBo (o := 12) (ls := [.int .i64 1, .slice A47 l24.length c48, .slice A49 l25.length c50]) G25 Z25 rfl (fun w h => h.za9 (i := 4) rfl) rfl rfl) (o_e rfl (zaf V25 rfl) (fun g141 => o_e rfl (zah (i := 0) rfl rfl rfl Z25 rfl rfl) (fun _ => o_end (za1 (c_seq ?_)))))))))
              refine za0 (o_q rfl rfl (q_f F25_1 rfl) (o_q rfl rfl (q_ldb Y22 rfl (fun w h => h.za9 (i := 0) rfl) rfl) (o_q rfl rfl (q_len Try.underlying22 rfl) (o_q rfl rfl (q_f F25_1 rfl) (o_q rfl rfl (q_ldb Y22 rfl (fun w h => h.za9 (i := 2) rfl) rfl) (o_q rfl rfl (q_len Try.underlying22 rfl) (o_q rfl rfl (q_lss rfl rfl) (o_end (za1 ?_)))))))))
              refine zaq _ rfl (fun hb143 => ?_) (fun hb143 => ?_)
              · skip
                replace h := br_t hb143 h
                refine za0 (o_q rfl rfl (q_ldB G25 Z25 rfl (fun w h => h.za9 (i := 0) rfl) rfl) (o_e rfl (zah (i := 2) rfl rfl rfl Z25 rfl rfl) (fun _ => o_end (zak (zaj (l24, l25, A47, c48, A49, c50) h trivial (fun w h => za5 [1, 2, 6, 7, 5, 8, 9, 10, 11] dc_ rfl w h) ?_)))))
                exact of_
              · skip
                replace h := br_f hb143 h
                refine zam (zak (zaj (l113, l116, A114, c115, A117, c118) h trivial (fun w h => za5 [1, 2, 3, 4, 5, 8, 9, 10, 11] dc_ rfl w h) ?_))
                exact of_
            · skip
              refine (cur6 (fun l130 l133 A131 c132 A134 c135 => fun U139 hJ140 => ?_))
              have e_ := si_ hJ140; have h := hR138; rw [← e_] at h; clear e_ hJ140 hR138 hl137
              refine za0 (o_q rfl rfl (q_addc rfl rfl rfl) (o_q rfl rfl (za2 rfl) (o_end (x_rn (rn_succ (c_seq (za0 (o_q rfl rfl (q_lss rfl rfl) (o_end ?_)))))))))
              refine za1 (c_seq (zb8 (vb_ (show decide ((5 : Int) < 7) = true from rfl)) (zam (za1 (za7 h (fun o153 hl154 hR155 => ?_) rfl)))))
              clear h
              refine c_cutJ (σ := (List SStep) × (List Int) × (Option Addr) × Nat × (Option Addr) × Nat) (fun (l147, l150, A148, c149, A151, c152) => some (l147, l150) = some o153) [6, 18, 19, 20, 21, 22, 23, 24, 25, 26, 27] (fun (l147, l150, A148, c149, A151, c152) => []) (fun (l147, l150, A148, c149, A151, c152) => [box g1 25 #[.int .i64 0, .slice none 0 0, .slice none 0 0], box g13 25 #[.int .i64 1, .slice A148 l147.length c149, .slice A151 l150.length c152], row kStep 107 (.slice A148 l147.length c149) l147, row (Kd.int .i64) 3 (.slice A151 l150.length c152) l150, box c30 25 #[.int .i64 1, .slice A31 l16.length c32, .slice A33 l17.length c34, .int .i64 1, .slice A35 l18.length c36, .slice A37 l19.length c38, .int .i64 1, .slice A39 l20.length c40, .slice A41 l21.length c42, .int .i64 1, .slice A43 l22.length c44, .slice A45 l23.length c46, .int .i64 1, .slice A47 l24.length c48, .slice A49 l25.length c50, .int .i64 1, .slice A51 l26.length c52, .slice A53 l27.length c54, .int .i64 1, .slice A55 l28.length c56, .slice A57 l29.length c58], row kStep 107 (.slice A55 l28.length c56) l28, row (Kd.int .i64) 3 (.slice A57 l29.length c58) l29]) ?_ ?_
              · skip
                have h := hl154; clear hl154
                clear hR155
                refine zai (c_seq (za0 (o_q rfl rfl (q_ixB (m := 5) Try.underlying77 Z25 rfl rfl dc_) (o_q rfl rfl (q_ldBo (o := 15) (ls := [.int .i64 1, .slice A51 l26.length c52, .slice A53 l27.length c54]) G25 Z25 rfl (fun w h => h.za9 (i := 4) rfl) rfl rfl) (o_e rfl (zaf V25 rfl) (fun g158 => o_e rfl (zah (i := 0) rfl rfl rfl Z25 rfl rfl) (fun _ => o_end (za1 (c_seq ?_)))))))))
                refine za0 (o_q rfl rfl (q_f F25_1 rfl) (o_q rfl rfl (q_ldb Y22 rfl (fun w h => h.za9 (i := 0) rfl) rfl) (o_q rfl rfl (q_len Try.underlying22 rfl) (o_q rfl rfl (q_f F25_1 rfl) (o_q rfl rfl (q_ldb Y22 rfl (fun w h => h.za9 (i := 2) rfl) rfl) (o_q rfl rfl (q_len Try.underlying22 rfl) (o_q rfl rfl (q_lss rfl rfl) (o_end (za1 ?_)))))))))
                refine zaq _ rfl (fun hb160 => ?_) (fun hb160 => ?_)
                · skip
                  replace h := br_t hb160 h
                  refine za0 (o_q rfl rfl (q_ldB G25 Z25 rfl (fun w h => h.za9 (i := 0) rfl) rfl) (o_e rfl (zah (i := 2) rfl rfl rfl Z25 rfl rfl) (fun _ => o_end (zak (zaj (l26, l27, A51, c52, A53, c54) h trivial (fun w h => za5 [1, 2, 6, 7, 5, 8, 9] dc_ rfl w h) ?_)))))
                  exact of_
                · skip
                  replace h := br_f hb160 h
                  refine zam (zak (zaj (l130, l133, A131, c132, A134, c135) h trivial (fun w h => za5 [1, 2, 3, 4, 5, 8, 9] dc_ rfl w h) ?_))
                  exact of_
              · skip
                refine (cur6 (fun l147 l150 A148 c149 A151 c152 => fun U156 hJ157 => ?_))
                have e_ := si_ hJ157; have h := hR155; rw [← e_] at h; clear e_ hJ157 hR155 hl154
                refine za0 (o_q rfl rfl (q_addc rfl rfl rfl) (o_q rfl rfl (za2 rfl) (o_end (x_rn (rn_succ (c_seq (za0 (o_q rfl rfl (q_lss rfl rfl) (o_end ?_)))))))))
                refine za1 (c_seq (zb8 (vb_ (show decide ((6 : Int) < 7) = true from rfl)) (zam (za1 (za7 h (fun o170 hl171 hR172 => ?_) rfl)))))
                clear h
                refine c_cutJ (σ := (List SStep) × (List Int) × (Option Addr) × Nat × (Option Addr) × Nat) (fun (l164, l167, A165, c166, A168, c169) => some (l164, l167) = some o170) [6, 18, 19, 20, 21, 22, 23, 24, 25, 26, 27] (fun (l164, l167, A165, c166, A168, c169) => []) (fun (l164, l167, A165, c166, A168, c169) => [box g1 25 #[.int .i64 0, .slice none 0 0, .slice none 0 0], box g13 25 #[.int .i64 1, .slice A165 l164.length c166, .slice A168 l167.length c169], row kStep 107 (.slice A165 l164.length c166) l164, row (Kd.int .i64) 3 (.slice A168 l167.length c169) l167, box c30 25 #[.int .i64 1, .slice A31 l16.length c32, .slice A33 l17.length c34, .int .i64 1, .slice A35 l18.length c36, .slice A37 l19.length c38, .int .i64 1, .slice A39 l20.length c40, .slice A41 l21.length c42, .int .i64 1, .slice A43 l22.length c44, .slice A45 l23.length c46, .int .i64 1, .slice A47 l24.length c48, .slice A49 l25.length c50, .int .i64 1, .slice A51 l26.length c52, .slice A53 l27.length c54, .int .i64 1, .slice A55 l28.length c56, .slice A57 l29.length c58]]) ?_ ?_
                · skip
                  have h := hl171; clear hl171
                  clear hR172
                  refine zai (c_seq (za0 (o_q rfl rfl (q_ixB (m := 6) Try.underlying77 Z25 rfl rfl dc_) (o_q rfl rfl (q_ldBo (o := 18) (ls := [.int .i64 1, .slice A55 l28.length c56, .slice A57 l29.length c58]) G25 Z25 rfl (fun w h => h.za9 (i := 4) rfl) rfl rfl) (o_e rfl (zaf V25 rfl) (fun g175 => o_e rfl (zah (i := 0) rfl rfl rfl Z25 rfl rfl) (fun _ => o_end (za1 (c_seq ?_)))))))))
                  refine za0 (o_q rfl rfl (q_f F25_1 rfl) (o_q rfl rfl (q_ldb Y22 rfl (fun w h => h.za9 (i := 0) rfl) rfl) (o_q rfl rfl (q_len Try.underlying22 rfl) (o_q rfl rfl (q_f F25_1 rfl) (o_q rfl rfl (q_ldb Y22 rfl (fun w h => h.za9 (i := 2) rfl) rfl) (o_q rfl rfl (q_len Try.underlying22 rfl) (o_q rfl rfl (q_lss rfl rfl) (o_end (za1 ?_)))))))))
                  refine zaq _ rfl (fun hb177 => ?_) (fun hb177 => ?_)
                  · skip
                    replace h := br_t hb177 h
                    refine za0 (o_q rfl rfl (q_ldB G25 Z25 rfl (fun w h => h.za9 (i := 0) rfl) rfl) (o_e rfl (zah (i := 2) rfl rfl rfl Z25 rfl rfl) (fun _ => o_end (zak (zaj (l28, l29, A55, c56, A57, c58) h trivial (fun w h => za5 [1, 2, 6, 7, 5] dc_ rfl w h) ?_)))))
                    exact of_
                  · skip
                    replace h := br_f hb177 h
                    refine zam (zak (zaj (l147, l150, A148, c149, A151, c152) h trivial (fun w h => za5 [1, 2, 3, 4, 5] dc_ rfl w h) ?_))
                    exact of_
                · skip
                  refine (cur6 (fun l164 l167 A165 c166 A168 c169 => fun U173 hJ174 => ?_))
                  have e_ := si_ hJ174; have h := hR172; rw [← e_] at h; clear e_ hJ174 hR172 hl171
                  refine za0 (o_q rfl rfl (q_addc rfl rfl rfl) (o_q rfl rfl (za2 rfl) (o_end (x_rn (rn_succ (c_seq (za0 (o_q rfl rfl (q_lss rfl rfl) (o_end ?_)))))))))
                  refine za1 (c_seq (c_false (vb_ (show decide ((7 : Int) < 7) = false from rfl)) (zb2 (za8 (za8 (x_hit (za1 (c_seq (za0 ?_)))))))))
                  refine o_q rfl rfl (q_ldB G25 Z25 rfl (fun w h => h.za9 (i := 1) rfl) rfl) (o_pick [2, 3, 0, 1, 4] dc_ rfl (bindE4 h (fun i179 l180 l181 b182 hx178 h => ?_) rfl))
                  refine o_e rfl (za6 2 Z Try.func51 N51 rfl rfl rfl (fun w P1 hF hB hS hT => spec_plIf.calls k 1 A165 c166 l164.length l164 A168 c169 l167.length l167 hB hF _ _ _ _ hx178)) (cur4 (fun A183 c184 A185 c186 => o_q rfl rfl (q_ext rfl rfl) (o_q rfl rfl (q_ext rfl rfl) (o_e rfl (zah (i := 2) rfl rfl rfl Z25 rfl rfl) (fun _ => o_q rfl rfl (q_asg rfl) (o_end (za1 (c_ret ?_))))))))
                  have e0_ := si_ h; clear h
                  obtain ⟨rfl, e1_⟩ := Prod.mk.inj e0_
                  obtain ⟨rfl, e2_⟩ := Prod.mk.inj e1_
                  obtain ⟨rfl, e3_⟩ := Prod.mk.inj e2_
                  subst e3_
                  exact x_r2 (A183, c184, A185, c186) Try.results38 (zb5 rfl G25 Z25 (fun w h => h.za9 (i := 2) rfl) rfl) (zal rfl) rfl (fun w h => za5 [0, 1] dc_ rfl w h)

def impl_isNumber.f (a0 : Int) : Option Bool := (impl_in.f a0 1 1000000).bind fun b2 => some b2
theorem impl_isNumber.calls {w0 ws : World} {P0 : Nat → Prop} (a0 : Int) (Z : Below w0.heap.size w0 ws) (hF : Fr w0 ws P0 [] ws)  (r_1 : Bool) (h : impl_isNumber.f a0 = some r_1) :
    Calls Try.prog 74 #[.int .i64 a0] ws (Post1 w0 ws P0 (fun (_ : Unit) => .bool r_1) (fun (_ : Unit) => [])) := by
  unfold impl_isNumber.f at h
  refine enter Try.func74 rfl Try.ntmps74 rfl hF (c_seq (za0 (o_q rfl rfl (q_asg rfl) (o_end (za1 (c_seq (za0 (o_q rfl rfl (za2 rfl) (za7 h (fun b2 hx1 h => ?_) rfl)))))))))
  refine o_e rfl (za6 0 Z Try.func113 N113 rfl rfl rfl (fun w P1 hF hB hS hT => impl_in.calls a0 1 1000000 hB hF _ hx1)) (fun _ => o_q rfl rfl (q_asg rfl) (o_end (za1 (c_ret ?_))))
  have e0_ := si_ h; clear h
  subst e0_
  exact x_r1 () Try.results74 (zal rfl) rfl (fun w h => za5 [] dc_ rfl w h)

def impl_newMaker.f (a0 : Int) : Option Unit := some ()
theorem impl_newMaker.calls {w0 ws : World} {P0 : Nat → Prop} (a0 : Int) (Z : Below w0.heap.size w0 ws) (hF : Fr w0 ws P0 [] ws)   (h : impl_newMaker.f a0 = some ()) :
    Calls Try.prog 54 #[.int .i64 a0] ws (Post1 w0 ws P0 (fun (q_1 : Nat) => .pointer (some ⟨q_1, 0, none⟩)) (fun (q_1 : Nat) => [box q_1 94 #[.int .i64 a0, .slice none 0 0, .slice none 0 0], row kStep 107 (.slice none 0 0) [], row (Kd.int .i64) 3 (.slice none 0 0) []])) := by
  unfold impl_newMaker.f at h
  refine enter Try.func54 rfl Try.ntmps54 rfl hF (c_seq (za0 (o_q rfl rfl (q_asg rfl) (o_end (za1 (c_seq (za0 (o_q rfl rfl (za2 rfl) (o_q rfl rfl (q_build (vs := [(0, .int .i64 a0)]) (cs := [.int .i64 a0, .slice none 0 0, .slice none 0 0]) rfl rfl) ?_)))))))))
  refine o_q rfl rfl (q_build (vs := [(0, .agg #[.int .i64 a0, .slice none 0 0, .slice none 0 0])]) (cs := [.int .i64 a0, .slice none 0 0, .slice none 0 0]) rfl rfl) (o_e rfl (e_box rfl) (fun g1 => o_q rfl rfl (q_asg rfl) (o_end (za1 (c_ret (x_nil kStep 107 (x_nil (Kd.int .i64) 3 ?_)))))))
  exact x_r1 g1 Try.results54 (zal rfl) rfl (fun w h => za5 [2, 1, 0] dc_ rfl w h)

def impl_digits.l0 (a1 : Int) : Nat → (List Int) → Int → Option (List Int)
  | 0, _, _ => none
  | k10 + 1, l4, i7 => if 0 < i7 then ((nz a1).bind fun _ => (ap l4 ([i7.tmod a1] : List Int)).bind fun l23 => (nz a1).bind fun _ => impl_digits.l0 a1 k10 l23 (w64 (i7.tdiv a1))) else (some l4)
def impl_digits.f (k : Nat) (a0 : Int) (a1 : Int) : Option (List Int) := (impl_digits.l0 a1 k ([] : List Int) a0).bind fun l4 => some l4
theorem impl_digits.calls (k : Nat) {w0 ws : World} {P0 : Nat → Prop} (a0 : Int) (a1 : Int) (Z : Below w0.heap.size w0 ws) (hF : Fr w0 ws P0 [] ws)  (r_1 : List Int) (h : impl_digits.f k a0 a1 = some r_1) :
    Calls Try.prog 55 #[.int .i64 a0, .int .i64 a1] ws (Post1 w0 ws P0 (fun ((q_2, q_3) : (Option Addr) × Nat) => .slice q_2 r_1.length q_3) (fun ((q_2, q_3) : (Option Addr) × Nat) => [row (Kd.int .i64) 3 (.slice q_2 r_1.length q_3) r_1])) := by
  unfold impl_digits.f at h
  refine enter Try.func55 rfl Try.ntmps55 rfl hF (c_seq (za0 (o_q rfl rfl (q_asg rfl) (o_end (za1 (c_seq (za0 (o_e rfl (e_lit0 (Kd.int .i64) Try.underlying23 I3) (cur2 (fun A1 c2 => o_q rfl rfl (q_asg rfl) ?_))))))))))
  refine o_end (za1 (c_seq (zai (za7 h (fun o15 hl14 hR13 => ?_) rfl))))
  clear h
  refine zaw (σ := (List Int) × Int × (Option Addr) × Nat) (fun k10 ((l4, i7, A5, c6) : (List Int) × Int × (Option Addr) × Nat) => impl_digits.l0 a1 k10 l4 i7 = some o15) [0, 5, 7, 8, 9, 10, 11, 12, 13, 14, 15, 16, 17] (fun ((l4, i7, A5, c6) : (List Int) × Int × (Option Addr) × Nat) => [(0, .int .i64 i7), (5, .slice A5 l4.length c6)]) (fun ((l4, i7, A5, c6) : (List Int) × Int × (Option Addr) × Nat) => [row (Kd.int .i64) 3 (.slice A5 l4.length c6) l4]) k (([] : List Int), a0, A1, c2) hl14 ⟨rfl, rfl, trivial⟩ (fun w h => h) (natC (cur4 (fun l4 i7 A5 c6 => fun U16 hJ_ => ?_)) (fun k10 => (cur4 (fun l4 i7 A5 c6 => fun U16 hJ_ => ?_))))
  · skip
    replace hJ_ : impl_digits.l0 a1 0 l4 i7 = some o15 := hJ_
    rw [impl_digits.l0] at hJ_
    exact noneE hJ_
  · skip
    clear hl14
    have h := hJ_; clear hJ_
    replace h : impl_digits.l0 a1 (k10 + 1) l4 i7 = some o15 := h
    rw [impl_digits.l0] at h
    refine c_seq (c_seq (za0 (o_q rfl rfl (za2 rfl) (o_q rfl rfl (q_gtr rfl rfl) (o_end (za1 (zaq _ rfl (fun hb18 => ?_) (fun hb18 => ?_))))))))
    · skip
      replace h := br_t hb18 h
      refine zam (za1 (c_seq (zai (za0 (o_q rfl rfl (za2 rfl) (o_q rfl rfl (za2 rfl) (o_q rfl rfl (za2 rfl) (za7 h (fun _ hz19 h => ?_) rfl))))))))
      refine o_q rfl rfl (q_rem rfl rfl (nz_ne hz19)) (o_e rfl (e_lit (vs := [(0, .int .i64 (i7.tmod a1))]) (cs := [.int .i64 (i7.tmod a1)]) (Kd.int .i64) ([i7.tmod a1] : List Int) Try.underlying23 I3 dc_ rfl dc_ rfl rfl (fun _ _ => Kd.zad _)) (cur2 (fun A20 c21 => za7 h (fun l23 ha24 h => ?_) rfl)))
      refine o_e rfl (e_app (i := 1) (j := 0) Try.underlying23 I3 rfl dc_ dc_ rfl rfl rfl rfl rfl ha24) (cur2 (fun A25 c26 => o_q rfl rfl (q_asg rfl) (o_end (zak (za1 (za0 (o_q rfl rfl (za2 rfl) (o_q rfl rfl (za2 rfl) (za7 h (fun _ hz27 h => ?_) rfl)))))))))
      refine o_q rfl rfl (q_quo64 rfl rfl (nz_ne hz27)) (o_q rfl rfl (q_asg rfl) (o_end (zan k10 (l23, w64 (i7.tdiv a1), A25, c26) (Nat.lt_succ_self _) h ⟨rfl, rfl, trivial⟩ (fun w h => za5 [1] dc_ rfl w h) ?_)))
      exact of_
    · skip
      replace h := br_f hb18 h
      refine zb2 (za8 (za8 ?_))
      have e_ := si_ h; replace h := hR13; rw [← e_] at h; clear e_
      refine x_hit (za1 (c_seq (za0 (o_q rfl rfl (za2 rfl) (o_q rfl rfl (q_asg rfl) (o_end (za1 (c_ret ?_))))))))
      have e0_ := si_ h; clear h
      subst e0_
      exact x_r1 (A5, c6) Try.results55 (zal rfl) rfl (fun w h => za5 [0] dc_ rfl w h)

theorem bk_int {w : World} {P1 : Nat → Prop} (Bs : Nat) (A : Option Addr) (cap : Nat) (zs : List Int) (hR : Stable w P1 (fun W => Kd.C (Kd.int .i64) W A zs.length zs)) (hB : Stable w P1 (fun W => W.heap[Bs]? = some (.cells #[.slice A zs.length cap] 23 (0, 0)))) :
    SeqStopsK Fence.wide 2 Try.prog 116 #[.pointer (some ⟨Bs, 0, none⟩)] (fun x : BackT zs => #[Value.int .i64 x.1.1, .int .i64 x.1.2]) (KpS w P1) (fun ys => ys.map Subtype.val = bwL zs) (fun _ => True) zs.length w := by
  intro l J Jx W hW hJ hJx hY h0
  have hk0 : KeptB w W P1 := ⟨⟨hW.size, fun i hi _ => hW.block i hi⟩, hW.os, hW.tape, hW.output⟩
  have hlen : zs.length ≤ 9223372036854775807 := (hR w (KeptB.refl _ _)).2.1
  refine enterG (m := 19) Try.func116 rfl Try.ntmps116 rfl (wpIn_seq (wpIn_region_list (g_q (fun c hc => by cases hc) rfl rfl (q_ldb (bt := 23) Y23 rfl (fun w' h' => by subst h'; exact hB _ hk0) rfl) (g_q (fun c hc => by cases hc) rfl rfl (q_len Try.underlying23 rfl) (g_q (fun c hc => by cases hc) rfl rfl (zb1 rfl rfl) (g_q (fun c hc => by cases hc) rfl rfl (q_asg rfl) (wpListIn_nil (wpIn_block (wpIn_loop_ghost (fun m a W' => ∃ (e : Nat → Value) (pre : List (BackT zs)), m ≤ zs.length ∧ a = act ⟨19, [], none⟩ e ∧ e 0 = .func (.yield l) #[] #[] ∧ e 1 = .pointer (some ⟨Bs, 0, none⟩) ∧ e 3 = .int .i64 ((m : Int) - 1) ∧ pre.map Subtype.val = (bwL zs).take (zs.length - m) ∧ J pre W' ∧ KeptB w W' P1) zs.length ⟨_, [], Nat.le_refl _, rfl, rfl, rfl, ?_, by simp, h0, hk0⟩ ?_)))))))))
  · show Value.int .i64 (w64 ((zs.length : Int) - 1)) = _
    rw [zas (by omega)]
  rintro m a W' ⟨e, pre, hm, rfl, he0, he1, he3, hpre, hJp, hk⟩
  have hpl : pre.length = zs.length - m := by
    have := congrArg List.length hpre
    rw [List.length_map, List.length_take, bwL_len] at this
    omega
  refine wpIn_seq (wpIn_seq (wpIn_region_list (g_q (fun c hc => by cases hc) rfl rfl (za2 he3) (g_q (fun c hc => by cases hc) rfl rfl (q_geq rfl rfl) (wpListIn_nil ?_)))))
  cases m with
  | zero =>
    refine wpIn_cond_false rfl (wpIn_exit (exth (exth (inblk (⟨rfl, _, results_none rfl _ _ _, ⟨_, rfl⟩, .inl ⟨pre, ?_, hJp⟩⟩)))))
    show pre.map Subtype.val = _
    rw [hpre, Nat.sub_zero, List.take_of_length_le (by rw [bwL_len]; exact Nat.le_refl _)]
  | succ m =>
    refine wpIn_cond_true ?_ (wpIn_skip ?_)
    · rw [act_eval]
      show Value.bool (decide ((0 : Int) ≤ ((m + 1 : Nat) : Int) - 1)) = _
      rw [decide_eq_true (by omega)]
    refine wpIn_seq (wpIn_block (wpIn_seq (wpIn_region_list ?_)))
    have e3 : e 3 = .int .i64 (m : Int) := by rw [he3]; congr 1; omega
    have hml : m < zs.length := hm
    have hC := hR W' hk
    refine g_q (fun c hc => by cases hc) rfl rfl (za2 he0) (g_q (fun c hc => by cases hc) rfl rfl (za2 e3) (g_q (fun c hc => by cases hc) rfl rfl (q_ldb (bt := 23) Y23 he1 (fun w' h' => by subst h'; exact hB _ hk) rfl) (g_q (fun c hc => by cases hc) rfl rfl (za2 e3) (g_q (fun c hc => by cases hc) rfl rfl (q_ix (xs := zs) Try.underlying23 Z3 rfl rfl (C_sh hC) (gt_at hml)) (g_q (fun c hc => by cases hc) rfl rfl (q_lde (off := 0) Y3 rfl rfl (fun w' h' => by subst h'; exact hC) (gt_at hml) (fun _ _ h => h) rfl) ?_)))))
    have hx : ∃ j : Nat, ((m : Int), zs[m]).1 = (j : Int) ∧ zs[j]? = some ((m : Int), zs[m]).2 := ⟨m, rfl, List.getElem?_eq_getElem hml⟩
    refine g_yield rfl rfl rfl rfl (hY pre ⟨((m : Int), zs[m]), hx⟩ W' hJp (by omega)) (fun e w' h => by rcases h with ⟨rfl, _⟩ | ⟨rfl, _⟩ <;> exact ⟨_, rfl⟩) ?_
    rintro v W3 (⟨hv, hJ3, hk3⟩ | ⟨hv, hJx3⟩)
    · obtain rfl := Ending.returned.inj hv
      refine g_q (fun c hc => by cases hc) rfl rfl (q_not rfl) (wpListIn_nil (wpIn_cond_false rfl (wpIn_skip (wpIn_region_list (g_q (fun c hc => by cases hc) rfl rfl (za2 e3) (g_q (fun c hc => by cases hc) rfl rfl (zb1 rfl rfl) (g_q (fun c hc => by cases hc) rfl rfl (q_asg rfl) (wpListIn_nil (⟨m, Nat.lt_succ_self m, _, pre ++ [⟨((m : Int), zs[m]), hx⟩], by omega, rfl, he0, he1, ?_, ?_, hJ3, hk3 hk⟩)))))))))
      · show Value.int .i64 (w64 ((m : Int) - 1)) = _
        rw [zas (by omega)]
      · rw [List.map_append, hpre]
        have ht := bwL_take zs (zs.length - (m + 1)) (by omega)
        have ei : zs.length - 1 - (zs.length - (m + 1)) = m := by omega
        rw [show zs.length - (m + 1) + 1 = zs.length - m by omega] at ht
        rw [ht]
        congr 1
        simp only [ei, List.map_cons, List.map_nil]
    · obtain rfl := Ending.returned.inj hv
      refine g_q (fun c hc => by cases hc) rfl rfl (q_not rfl) (wpListIn_nil (wpIn_cond_true rfl (wpIn_ret ?_)))
      exact ⟨rfl, _, results_none rfl _ _ _, ⟨_, rfl⟩, .inr ⟨_, trivial, hJx3⟩⟩
theorem bkc_int.calls {w0 ws : World} {P0 : Nat → Prop} (A : Option Addr) (n c : Nat) (hF : Fr w0 ws P0 [] ws) : Calls Try.prog 58 #[.slice A n c] ws (Post1 w0 ws P0 (fun (q : Nat) => .func (.func 116) #[] #[.pointer (some ⟨q, 0, none⟩)]) (fun (q : Nat) => [box q 23 #[.slice A n c]])) := by
  refine enter Try.func58 rfl Try.ntmps58 rfl hF (c_seq (za0 (o_e rfl (e_box rfl) (fun g1 => o_q rfl rfl (q_asg rfl) (o_end (za1 (c_seq (za0 (o_q rfl rfl (q_func (f := .func 116) (a := []) (b := [.tmp 1]) rfl rfl) ?_)))))))))
  refine o_q rfl rfl (q_asg rfl) (o_end (za1 (c_ret ?_)))
  exact x_r1 g1 Try.results58 (zal rfl) rfl (fun w h => h)

def bw_int.f (l0 : List Int) : Option Unit := some ()
theorem bw_int.calls {w0 ws : World} {P0 : Nat → Prop} (A0 : Option Addr) (c0 : Nat) (n0 : Nat) (l0 : List Int) (Z : Below w0.heap.size w0 ws) (hF : Fr w0 ws P0 [] ws) (R0 : Stable ws P0 (fun w => Kd.C (Kd.int .i64) w A0 n0 l0)) (hc0 : n0 ≤ c0) (h : bw_int.f l0 = some ()) :
    Calls Try.prog 58 #[.slice A0 n0 c0] ws (Post1 w0 ws P0 (fun (q : Nat) => .func (.func 116) #[] #[.pointer (some ⟨q, 0, none⟩)]) (fun (q : Nat) => [box q 23 #[.slice A0 n0 c0]])) := bkc_int.calls A0 n0 c0 hF

def impl_step.f (a0 : Int) (a1 : Int) : Option Unit := some ()
theorem impl_step.calls {w0 ws : World} {P0 : Nat → Prop} (a0 : Int) (a1 : Int) (Z : Below w0.heap.size w0 ws) (hF : Fr w0 ws P0 [] ws)   (h : impl_step.f a0 a1 = some ()) :
    Calls Try.prog 114 #[.int .i64 a0, .int .i64 a1] ws (Post1 w0 ws P0 (fun (_ : Unit) => .agg #[.int .i64 (mn a0 a1), .int .i64 (mx a0 a1)]) (fun (_ : Unit) => [])) := by
  unfold impl_step.f at h
  refine enter Try.func114 rfl Try.ntmps114 rfl hF (c_seq (za0 (o_e rfl (zaf V107 rfl) (fun g1 => o_end (za1 (c_seq (za0 (o_q rfl rfl (za2 rfl) (o_q rfl rfl (za2 rfl) ?_)))))))))
  refine o_q rfl rfl (q_min rfl rfl) (o_q rfl rfl (za2 rfl) (o_q rfl rfl (za2 rfl) (o_q rfl rfl (q_max rfl rfl) (o_q rfl rfl (q_build (vs := [(0, .int .i64 (mn a0 a1)), (1, .int .i64 (mx a0 a1))]) (cs := [.int .i64 (mn a0 a1), .int .i64 (mx a0 a1)]) rfl rfl) (o_e rfl (zah (i := 0) rfl rfl rfl Z107 rfl rfl) (fun _ => o_end (za1 (c_ret ?_))))))))
  exact x_r1 () Try.results114 (zb5 rfl G107 Z107 (fun w h => h.za9 (i := 0) rfl) rfl) rfl (fun w h => za5 [] dc_ rfl w h)

def impl_Plan_many_2.f (a0_0 : Int) (l0_1 : List SStep) (l0_2 : List Int) : Option Unit := some ()
theorem impl_Plan_many_2.calls {w0 ws : World} {P0 : Nat → Prop} (g0 : Nat) (a0_0 : Int) (A0_1 : Option Addr) (c0_1 : Nat) (n0_1 : Nat) (l0_1 : List SStep) (A0_2 : Option Addr) (c0_2 : Nat) (n0_2 : Nat) (l0_2 : List Int) (Z : Below w0.heap.size w0 ws) (hF : Fr w0 ws P0 [] ws) (R0_1 : Stable ws P0 (fun w => Kd.C kStep w A0_1 n0_1 l0_1)) (hc0_1 : n0_1 ≤ c0_1) (R0_2 : Stable ws P0 (fun w => Kd.C (Kd.int .i64) w A0_2 n0_2 l0_2)) (hc0_2 : n0_2 ≤ c0_2) (B0 : Stable ws P0 (fun w => w.heap[g0]? = some (.cells #[.int .i64 a0_0, .slice A0_1 n0_1 c0_1, .slice A0_2 n0_2 c0_2] 94 (0, 0))))  (h : impl_Plan_many_2.f a0_0 l0_1 l0_2 = some ()) :
    Calls Try.prog 115 #[.pointer (some ⟨g0, 0, none⟩)] ws (Post1 w0 ws P0 (fun (_ : Unit) => .int .i64 (w64 (a0_0 + (l0_1.length : Int)))) (fun (_ : Unit) => [])) := by
  unfold impl_Plan_many_2.f at h
  obtain rfl := (R0_1 ws (KeptB.refl _ _)).1
  obtain rfl := (R0_2 ws (KeptB.refl _ _)).1
  refine enter Try.func115 rfl Try.ntmps115 rfl hF (c_seq (za0 (o_q rfl rfl (q_asg rfl) (o_end (za1 (c_seq (a_start (ds := []) MO rfl (za4 0 rfl rfl rfl kr_ (fun _ _ _ h => h) (za2 rfl) (za4 1 rfl rfl rfl kr_ (fun _ _ _ h => h) (q_nil rfl) ?_)))))))))
  refine za4 2 rfl rfl rfl kr_ (fun _ _ _ h => h) (q_f F25_0 rfl) (zau 3 rfl rfl rfl kr_ (fun _ _ _ h => h) (fun w h => h) (q_ldb Y3 rfl (fun w h => B0.now Z h) rfl) (za4 4 rfl rfl rfl kr_ (fun _ _ _ h => h) (za2 rfl) (za4 5 rfl rfl rfl kr_ (fun _ _ _ h => h) (q_nil rfl) (za4 6 rfl rfl rfl kr_ (fun _ _ _ h => h) (q_f F25_1 rfl) (zau 7 rfl rfl rfl kr_ (fun _ _ _ h => h) (fun w h => h) (q_ldb Y22 rfl (fun w h => B0.now Z h) rfl) (za4 8 rfl rfl rfl kr_ (fun _ _ _ h => h) (q_len Try.underlying22 rfl) (za4 9 rfl rfl rfl kr_ (fun _ _ _ h => h) (zb0 rfl rfl) (za4 10 rfl rfl rfl kr_ (fun _ _ _ h => h) (q_asg rfl) (zao kr_ ?_)))))))))
  refine za1 (c_ret ?_)
  exact x_r1 () Try.results115 (zal rfl) rfl (fun w h => za5 [] dc_ rfl w h)

def impl_maker_multiply.f (a0_0 : Int) (l0_1 : List SStep) (l0_2 : List Int) (a1 : Int) (a2 : Int) : Option (Int × (List SStep)) := ((impl_step.f a1 a2).bind fun _ => (ap l0_1 ([(⟨mn a1 a2, mx a1 a2⟩ : SStep)] : List SStep)).bind fun l1571 => some l1571).bind fun l962 => (impl_Plan_many_2.f a0_0 l962 l0_2).bind fun _ => some (w64 (w64 (a0_0 + (l962.length : Int)) - 1), l962)
theorem impl_maker_multiply.calls {w0 ws : World} {P0 : Nat → Prop} (g0 : Nat) (a0_0 : Int) (A0_1 : Option Addr) (c0_1 : Nat) (n0_1 : Nat) (l0_1 : List SStep) (A0_2 : Option Addr) (c0_2 : Nat) (n0_2 : Nat) (l0_2 : List Int) (a1 : Int) (a2 : Int) (Z : Below w0.heap.size w0 ws) (hF : Fr w0 ws P0 [box g0 94 #[.int .i64 a0_0, .slice A0_1 n0_1 c0_1, .slice A0_2 n0_2 c0_2], row kStep 107 (.slice A0_1 n0_1 c0_1) l0_1] ws) (R0_2 : Stable ws P0 (fun w => Kd.C (Kd.int .i64) w A0_2 n0_2 l0_2)) (hc0_2 : n0_2 ≤ c0_2) (r_1 : Int) (r_2 : List SStep) (h : impl_maker_multiply.f a0_0 l0_1 l0_2 a1 a2 = some (r_1, r_2)) :
    Calls Try.prog 57 #[.pointer (some ⟨g0, 0, none⟩), .int .i64 a1, .int .i64 a2] ws (Post1 w0 ws P0 (fun ((q_3, q_4) : (Option Addr) × Nat) => .int .i64 r_1) (fun ((q_3, q_4) : (Option Addr) × Nat) => [box g0 94 #[.int .i64 a0_0, .slice q_3 r_2.length q_4, .slice A0_2 n0_2 c0_2], row kStep 107 (.slice q_3 r_2.length q_4) r_2])) := by
  unfold impl_maker_multiply.f at h
  obtain rfl := (hF.row_C (i := 1) rfl).2.1
  obtain rfl := (R0_2 ws (KeptB.refl _ _)).1
  refine enter Try.func57 rfl Try.ntmps57 rfl hF (c_seq (za0 (o_q rfl rfl (q_asg rfl) (o_end (za1 (za7 h (fun o965 hl966 hR967 => ?_) rfl))))))
  clear h
  refine c_cutJ (σ := (List SStep) × (Option Addr) × Nat) (fun (l962, A963, c964) => some l962 = some o965) [7, 8, 9, 10, 11, 12, 13, 14, 15, 16, 17, 18, 19, 20] (fun (l962, A963, c964) => []) (fun (l962, A963, c964) => [box g0 94 #[.int .i64 a0_0, .slice A963 l962.length c964, .slice A0_2 l0_2.length c0_2], row kStep 107 (.slice A963 l962.length c964) l962]) ?_ ?_
  · skip
    have h := hl966; clear hl966
    clear hR967
    refine za7 h (fun _ hx1451 h => ?_) rfl
    refine za7 h (fun l1571 ha1572 h => ?_) rfl
    refine a_startS (ds := []) [none, none] MO rfl (za4 0 rfl rfl rfl kr_ (fun _ _ _ h => h) (za2 rfl) (za4 1 rfl rfl rfl kr_ (fun _ _ _ h => h) (za2 rfl) (za4 2 rfl rfl rfl kr_ (fun _ _ _ h => h) (q_nil rfl) (za4 3 rfl rfl rfl kr_ (fun _ _ _ h => h) (q_f F94_0 rfl) (za4 4 rfl rfl rfl kr_ (fun _ _ _ h => h) (q_f F25_1 rfl) (za4 6 rfl rfl rfl kr_ (fun _ _ _ h => h) (za2 rfl) (za4 7 rfl rfl rfl kr_ (fun _ _ _ h => h) (za2 rfl) (a_two 5 8 rfl rfl rfl rfl kr_ rfl rfl (ev_q rfl (q_ldb Y22 rfl (fun w h => h.za9 (i := 0) rfl) rfl)) (fun s w h => za3 [none, none] dc_ w h rfl) (za6 0 Z Try.func114 N114 rfl rfl rfl (fun w P1 hF hB hS hT => impl_step.calls a1 a2 hB hF hx1451)) (fun s w h => za3 [none, none] dc_ w h rfl) (fun _ => ?_) (fun _ => ?_)))))))))
    · skip
      refine a_one 8 rfl rfl kr_ rfl (za6 0 Z Try.func114 N114 rfl rfl rfl (fun w P1 hF hB hS hT => impl_step.calls a1 a2 hB hF hx1451)) (fun s w h => za3 [none, none] dc_ w h rfl) (fun _ => a_one 9 rfl rfl kr_ rfl (e_lit (vs := [(0, .agg #[.int .i64 (mn a1 a2), .int .i64 (mx a1 a2)])]) (cs := [.int .i64 (mn a1 a2), .int .i64 (mx a1 a2)]) kStep ([(⟨mn a1 a2, mx a1 a2⟩ : SStep)] : List SStep) Try.underlying22 I107 dc_ rfl dc_ rfl rfl (fun _ _ => reps_flat _)) (fun s w h => za3 [none, none] dc_ w h rfl) (cur2 (fun A1511 c1512 => a_one 10 rfl rfl kr_ rfl (e_app (i := 2) (j := 0) Try.underlying22 I107 rfl dc_ dc_ rfl rfl rfl rfl rfl ha1572) (fun s w h => za3 [none, none] dc_ w h rfl) (cur2 (fun A1573 c1574 => za4 11 rfl rfl rfl kr_ (fun _ _ _ h => h) (q_nil rfl) (za4 12 rfl rfl rfl kr_ (fun _ _ _ h => h) (q_f F94_0 rfl) (za4 13 rfl rfl rfl kr_ (fun _ _ _ h => h) (q_f F25_1 rfl) (a_one 14 rfl rfl kr_ rfl (zac (i := 1) rfl rfl rfl rfl Z22 rfl rfl) (fun s w h => za3 [none, none] dc_ w h rfl) (fun _ => zao kr_ (zaj (l1571, A1573, c1574) h trivial (fun w h => za5 [1, 2] dc_ rfl w h) ?_))))))))))
      exact of_
    · skip
      refine a_two 5 9 rfl rfl rfl rfl kr_ rfl rfl (ev_q rfl (q_ldb Y22 rfl (fun w h => h.za9 (i := 0) rfl) rfl)) (fun s w h => za3 [none, none] dc_ w h rfl) (e_lit (vs := [(0, .agg #[.int .i64 (mn a1 a2), .int .i64 (mx a1 a2)])]) (cs := [.int .i64 (mn a1 a2), .int .i64 (mx a1 a2)]) kStep ([(⟨mn a1 a2, mx a1 a2⟩ : SStep)] : List SStep) Try.underlying22 I107 dc_ rfl dc_ rfl rfl (fun _ _ => reps_flat _)) (fun s w h => za3 [none, none] dc_ w h rfl) (fun _ => ?_) (cur2 (fun A1511 c1512 => ?_))
      · skip
        refine a_one 9 rfl rfl kr_ rfl (e_lit (vs := [(0, .agg #[.int .i64 (mn a1 a2), .int .i64 (mx a1 a2)])]) (cs := [.int .i64 (mn a1 a2), .int .i64 (mx a1 a2)]) kStep ([(⟨mn a1 a2, mx a1 a2⟩ : SStep)] : List SStep) Try.underlying22 I107 dc_ rfl dc_ rfl rfl (fun _ _ => reps_flat _)) (fun s w h => za3 [none, none] dc_ w h rfl) (cur2 (fun A1511 c1512 => a_one 10 rfl rfl kr_ rfl (e_app (i := 2) (j := 0) Try.underlying22 I107 rfl dc_ dc_ rfl rfl rfl rfl rfl ha1572) (fun s w h => za3 [none, none] dc_ w h rfl) (cur2 (fun A1573 c1574 => za4 11 rfl rfl rfl kr_ (fun _ _ _ h => h) (q_nil rfl) (za4 12 rfl rfl rfl kr_ (fun _ _ _ h => h) (q_f F94_0 rfl) (za4 13 rfl rfl rfl kr_ (fun _ _ _ h => h) (q_f F25_1 rfl) (a_one 14 rfl rfl kr_ rfl (zac (i := 1) rfl rfl rfl rfl Z22 rfl rfl) (fun s w h => za3 [none, none] dc_ w h rfl) (fun _ => zao kr_ (zaj (l1571, A1573, c1574) h trivial (fun w h => za5 [1, 2] dc_ rfl w h) ?_)))))))))
        exact of_
      · skip
        refine a_one 5 rfl rfl kr_ rfl (ev_q rfl (q_ldb Y22 rfl (fun w h => h.za9 (i := 1) rfl) rfl)) (fun s w h => za3 [none, none] dc_ w h rfl) (fun _ => a_one 10 rfl rfl kr_ rfl (e_app (i := 2) (j := 0) Try.underlying22 I107 rfl dc_ dc_ rfl rfl rfl rfl rfl ha1572) (fun s w h => za3 [none, none] dc_ w h rfl) (cur2 (fun A1573 c1574 => za4 11 rfl rfl rfl kr_ (fun _ _ _ h => h) (q_nil rfl) (za4 12 rfl rfl rfl kr_ (fun _ _ _ h => h) (q_f F94_0 rfl) (za4 13 rfl rfl rfl kr_ (fun _ _ _ h => h) (q_f F25_1 rfl) (a_one 14 rfl rfl kr_ rfl (zac (i := 1) rfl rfl rfl rfl Z22 rfl rfl) (fun s w h => za3 [none, none] dc_ w h rfl) (fun _ => zao kr_ (zaj (l1571, A1573, c1574) h trivial (fun w h => za5 [1, 2] dc_ rfl w h) ?_))))))))
        exact of_
  · skip
    refine (cur3 (fun l962 A963 c964 => fun U968 hJ969 => ?_))
    have e_ := si_ hJ969; have h := hR967; rw [← e_] at h; clear e_ hJ969 hR967 hl966
    refine c_seq (za0 (o_q rfl rfl (za2 rfl) (o_q rfl rfl (q_nil rfl) (o_q rfl rfl (q_f F94_0 rfl) (za7 h (fun _ hx1931 h => ?_) rfl)))))
    refine o_e rfl (za6 0 Z Try.func115 N115 rfl rfl rfl (fun w P1 hF hB hS hT => impl_Plan_many_2.calls g0 a0_0 A963 c964 l962.length l962 A0_2 c0_2 l0_2.length l0_2 hB hF (hT 1 _ rfl).row (hT 1 _ rfl).cap (hS _ R0_2) hc0_2 (hT 0 _ rfl).box hx1931)) (fun _ => o_q rfl rfl (zb1 rfl rfl) (o_q rfl rfl (q_asg rfl) (o_end (za1 (c_ret ?_)))))
    have e0_ := si_ h; clear h
    obtain ⟨rfl, e1_⟩ := Prod.mk.inj e0_
    subst e1_
    exact x_r1 (A963, c964) Try.results57 (zal rfl) rfl (fun w h => za5 [0, 1] dc_ rfl w h)

def impl_maker_plan.f (a0_0 : Int) (l0_1 : List SStep) (l0_2 : List Int) (l1 : List Int) : Option Unit := some ()
theorem impl_maker_plan.calls {w0 ws : World} {P0 : Nat → Prop} (g0 : Nat) (a0_0 : Int) (A0_1 : Option Addr) (c0_1 : Nat) (n0_1 : Nat) (l0_1 : List SStep) (A0_2 : Option Addr) (c0_2 : Nat) (n0_2 : Nat) (l0_2 : List Int) (A1 : Option Addr) (c1 : Nat) (n1 : Nat) (l1 : List Int) (Z : Below w0.heap.size w0 ws) (hF : Fr w0 ws P0 [box g0 94 #[.int .i64 a0_0, .slice A0_1 n0_1 c0_1, .slice A0_2 n0_2 c0_2], row kStep 107 (.slice A0_1 n0_1 c0_1) l0_1, row (Kd.int .i64) 3 (.slice A1 n1 c1) l1] ws) (R0_2 : Stable ws P0 (fun w => Kd.C (Kd.int .i64) w A0_2 n0_2 l0_2)) (hc0_2 : n0_2 ≤ c0_2)  (h : impl_maker_plan.f a0_0 l0_1 l0_2 l1 = some ()) :
    Calls Try.prog 60 #[.pointer (some ⟨g0, 0, none⟩), .slice A1 n1 c1] ws (Post1 w0 ws P0 (fun (_ : Unit) => .agg #[.int .i64 a0_0, .slice A0_1 n0_1 c0_1, .slice A1 n1 c1]) (fun (_ : Unit) => [row kStep 107 (.slice A0_1 n0_1 c0_1) l0_1, row (Kd.int .i64) 3 (.slice A1 n1 c1) l1, box g0 94 #[.int .i64 a0_0, .slice A0_1 n0_1 c0_1, .slice A1 n1 c1]])) := by
  unfold impl_maker_plan.f at h
  obtain rfl := (hF.row_C (i := 1) rfl).2.1
  obtain rfl := (hF.row_C (i := 2) rfl).2.1
  obtain rfl := (R0_2 ws (KeptB.refl _ _)).1
  refine enter Try.func60 rfl Try.ntmps60 rfl hF (c_seq (za0 (o_e rfl (zaf V25 rfl) (fun g1 => o_end (za1 (c_seq (za0 (o_q rfl rfl (za2 rfl) (o_q rfl rfl (za2 rfl) ?_)))))))))
  refine o_q rfl rfl (q_nil rfl) (o_q rfl rfl (q_f F94_0 rfl) (o_q rfl rfl (q_f F25_2 rfl) (o_e rfl (zac (i := 1) rfl rfl rfl rfl Z23 rfl rfl) (fun _ => o_end (za1 (c_seq (za0 (o_q rfl rfl (za2 rfl) (o_q rfl rfl (q_nil rfl) ?_)))))))))
  refine o_q rfl rfl (q_f F94_0 rfl) (o_q rfl rfl (q_ldB G25 Z25 rfl (fun w h => h.za9 (i := 1) rfl) rfl) (o_e rfl (zah (i := 0) rfl rfl rfl Z25 rfl rfl) (fun _ => o_end (za1 (c_ret ?_)))))
  exact x_r1 () Try.results60 (zb5 rfl G25 Z25 (fun w h => h.za9 (i := 0) rfl) rfl) rfl (fun w h => za5 [2, 3, 1] dc_ rfl w h)

def impl_told.f (k : Nat) (a0_0 : Int) (l0_1 : List SStep) (l0_2 : List Int) : Option (Int × (List SStep) × (List Int) × Bool) := (impl_IsPlan.f k a0_0 l0_1 l0_2).bind fun b6 => if b6 = true then (some (a0_0, l0_1, l0_2, true)) else (some (0, ([] : List SStep), ([] : List Int), false))
theorem impl_told.calls (k : Nat) {w0 ws : World} {P0 : Nat → Prop} (a0_0 : Int) (A0_1 : Option Addr) (c0_1 : Nat) (n0_1 : Nat) (l0_1 : List SStep) (A0_2 : Option Addr) (c0_2 : Nat) (n0_2 : Nat) (l0_2 : List Int) (Z : Below w0.heap.size w0 ws) (hF : Fr w0 ws P0 [row kStep 107 (.slice A0_1 n0_1 c0_1) l0_1, row (Kd.int .i64) 3 (.slice A0_2 n0_2 c0_2) l0_2] ws)  (r_1 : Int) (r_2 : List SStep) (r_5 : List Int) (r_8 : Bool) (h : impl_told.f k a0_0 l0_1 l0_2 = some (r_1, r_2, r_5, r_8)) :
    Calls Try.prog 61 #[.agg #[.int .i64 a0_0, .slice A0_1 n0_1 c0_1, .slice A0_2 n0_2 c0_2]] ws (Post1 w0 ws P0 (fun ((q_3, q_4, q_6, q_7) : (Option Addr) × Nat × (Option Addr) × Nat) => .tuple #[.agg #[.int .i64 r_1, .slice q_3 r_2.length q_4, .slice q_6 r_5.length q_7], .bool r_8]) (fun ((q_3, q_4, q_6, q_7) : (Option Addr) × Nat × (Option Addr) × Nat) => [row kStep 107 (.slice q_3 r_2.length q_4) r_2, row (Kd.int .i64) 3 (.slice q_6 r_5.length q_7) r_5])) := by
  unfold impl_told.f at h
  obtain rfl := (hF.row_C (i := 0) rfl).2.1
  obtain rfl := (hF.row_C (i := 1) rfl).2.1
  refine enter Try.func61 rfl Try.ntmps61 rfl hF (c_seq (za0 (o_e rfl (e_box rfl) (fun g1 => o_e rfl (zaf V25 rfl) (fun g3 => o_q rfl rfl (q_asg rfl) (o_end (za1 (c_seq (c_seq ?_)))))))))
  refine za0 (o_q rfl rfl (q_ldB G25 Z25 rfl (fun w h => h.za9 (i := 1) rfl) rfl) (za7 h (fun b6 hx5 h => ?_) rfl))
  refine o_e rfl (za6 0 Z Try.func90 N90 rfl rfl rfl (fun w P1 hF hB hS hT => impl_IsPlan.calls k a0_0 A0_1 c0_1 l0_1.length l0_1 A0_2 c0_2 l0_2.length l0_2 hB hF (hT 2 _ rfl).row (hT 2 _ rfl).cap (hT 3 _ rfl).row (hT 3 _ rfl).cap _ hx5)) (fun _ => o_q rfl rfl (q_not rfl) (o_end (za1 (zaq _ rfl (fun hb7 => ?_) (fun hb7 => ?_)))))
  · replace hb7 := nt_t hb7
    replace h := bb_f hb7 h
    refine c_seq (za0 (o_q rfl rfl (q_build (vs := []) (cs := [.int .i64 0, .slice none 0 0, .slice none 0 0]) rfl rfl) (o_e rfl (zah (i := 0) rfl rfl rfl Z25 rfl rfl) (fun _ => o_q rfl rfl (q_asg rfl) (o_end (za1 (c_ret (zab (x_nil kStep 107 ?_)))))))))
    refine x_nil (Kd.int .i64) 3 ?_
    have e0_ := si_ h; clear h
    obtain ⟨rfl, e1_⟩ := Prod.mk.inj e0_
    obtain ⟨rfl, e2_⟩ := Prod.mk.inj e1_
    obtain ⟨rfl, e3_⟩ := Prod.mk.inj e2_
    subst e3_
    exact x_r2 (none, 0, none, 0) Try.results61 (zb5 rfl G25 Z25 (fun w h => h.za9 (i := 2) rfl) rfl) (zal rfl) rfl (fun w h => za5 [1, 0] dc_ rfl w h)
  · replace hb7 := nt_f hb7
    replace h := bb_t hb7 h
    refine zam (za1 (c_seq (za0 (o_q rfl rfl (q_ldB G25 Z25 rfl (fun w h => h.za9 (i := 1) rfl) rfl) (o_e rfl (zah (i := 0) rfl rfl rfl Z25 rfl rfl) (fun _ => o_q rfl rfl (q_asg rfl) (o_end (za1 (c_ret ?_)))))))))
    have e0_ := si_ h; clear h
    obtain ⟨rfl, e1_⟩ := Prod.mk.inj e0_
    obtain ⟨rfl, e2_⟩ := Prod.mk.inj e1_
    obtain ⟨rfl, e3_⟩ := Prod.mk.inj e2_
    subst e3_
    exact x_r2 (A0_1, c0_1, A0_2, c0_2) Try.results61 (zb5 rfl G25 Z25 (fun w h => h.za9 (i := 0) rfl) rfl) (zal rfl) rfl (fun w h => za5 [2, 3] dc_ rfl w h)

end Go.Proofs.Ytiaohjciddbpoaa.H9
