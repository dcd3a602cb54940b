import Derived.Test.YtnnlfipcoahcnaaDoorKFnExactParsePlanP2p1
namespace Go.Proofs.YtnnlfipcoahcnaaDoor.P2
open Go.RowKit Go.Proofs.YtnnlfipcoahcnaaDoor.Frame Go.Proofs.YtnnlfipcoahcnaaDoorW.PrintLast Go.Proofs.YtnnlfipcoahcnaaDoor.Hand
open Go.Proofs.YtnnlfipcoahcnaaDoorW.PrintWords hiding mn mx
set_option linter.unusedVariables false
/-! ### loop.example/g01098/spec.plIf: function 40 -/
def spec_plIf.f (k : Nat) (a0_0 : Int) (l0_1 : List SStep) (l0_2 : List Int) : Option (Int × (List SStep) × (List Int) × Bool) := (spec_plGood.f k a0_0 l0_1 l0_2).bind fun b6 => if b6 = true then (some (a0_0, l0_1, l0_2, true)) else (some (0, ([] : List SStep), ([] : List Int), false))
set_option maxHeartbeats 600000 in
set_option maxRecDepth 100000 in
theorem spec_plIf.calls (k : Nat) {w0 ws : World} {P0 : Nat → Prop} (a0_0 : Int) (A0_1 : Option Addr) (c0_1 : Nat) (n0_1 : Nat) (l0_1 : List SStep) (A0_2 : Option Addr) (c0_2 : Nat) (n0_2 : Nat) (l0_2 : List Int) (Z : Below w0.heap.size w0 ws) (hF : Fr w0 ws P0 [row kStep 69 (.slice A0_1 n0_1 c0_1) l0_1, row (Kd.int .i64) 3 (.slice A0_2 n0_2 c0_2) l0_2] ws)  (r_1 : Int) (r_2 : List SStep) (r_5 : List Int) (r_8 : Bool) (h : spec_plIf.f k a0_0 l0_1 l0_2 = some (r_1, r_2, r_5, r_8)) :
    Calls Tryd.prog 40 #[.agg #[.int .i64 a0_0, .slice A0_1 n0_1 c0_1, .slice A0_2 n0_2 c0_2]] ws (Post1 w0 ws P0 (fun ((q_3, q_4, q_6, q_7) : (Option Addr) × Nat × (Option Addr) × Nat) => .tuple #[.agg #[.int .i64 r_1, .slice q_3 r_2.length q_4, .slice q_6 r_5.length q_7], .bool r_8]) (fun ((q_3, q_4, q_6, q_7) : (Option Addr) × Nat × (Option Addr) × Nat) => [row kStep 69 (.slice q_3 r_2.length q_4) r_2, row (Kd.int .i64) 3 (.slice q_6 r_5.length q_7) r_5])) := by
  unfold spec_plIf.f at h
  obtain rfl := (hF.row_C (i := 0) rfl).2.1
  obtain rfl := (hF.row_C (i := 1) rfl).2.1
  refine enter Tryd.func40 rfl Tryd.ntmps40 rfl hF ?_
  refine c_seq ?_
  refine za0 ?_
  refine o_e rfl (e_box rfl) (fun g1 => ?_)
  refine o_e rfl (e_alloc V31 rfl) (fun g3 => ?_)
  refine o_q rfl rfl (q_asg rfl) ?_
  refine o_end ?_
  refine za1 ?_
  refine c_seq ?_
  refine c_seq ?_
  refine za0 ?_
  refine o_q rfl rfl (q_ldB G31 Z31 rfl (fun w h => h.zai (i := 1) rfl) rfl) ?_
  refine za6 h (fun b6 hx5 h => ?_) rfl
  refine o_e rfl (za9 0 Z Tryd.func22 N22 rfl rfl rfl (fun w P1 hF hB hS hT => spec_plGood.calls k a0_0 A0_1 c0_1 l0_1.length l0_1 A0_2 c0_2 l0_2.length l0_2 hB hF (hT 2 _ rfl).row (hT 2 _ rfl).cap (hT 3 _ rfl).row (hT 3 _ rfl).cap _ hx5)) (fun _ => ?_)
  refine o_q rfl rfl (q_not rfl) ?_
  refine o_end ?_
  refine za1 ?_
  refine zao _ rfl (fun hb7 => ?_) (fun hb7 => ?_)
  · replace hb7 := nt_t hb7
    replace h := bb_f hb7 h
    refine c_seq ?_
    refine za0 ?_
    refine o_q rfl rfl (q_build (vs := []) (cs := [.int .i64 0, .slice none 0 0, .slice none 0 0]) rfl rfl) ?_
    refine o_e rfl (e_storeA (i := 0) rfl rfl rfl Z31 rfl rfl) (fun _ => ?_)
    refine o_q rfl rfl (q_asg rfl) ?_
    refine o_end ?_
    refine za1 ?_
    refine c_ret ?_
    refine za3 ?_
    refine x_nil kStep 69 ?_
    refine x_nil (Kd.int .i64) 3 ?_
    have e0_ := Option.some.inj h; clear h
    have d0_ := (Prod.mk.inj e0_).1; have e1_ := (Prod.mk.inj e0_).2; clear e0_; subst d0_
    have d1_ := (Prod.mk.inj e1_).1; have e2_ := (Prod.mk.inj e1_).2; clear e1_; subst d1_
    have d2_ := (Prod.mk.inj e2_).1; have e3_ := (Prod.mk.inj e2_).2; clear e2_; subst d2_
    subst e3_
    exact x_r2 (none, 0, none, 0) Tryd.results40 (rv_cell rfl G31 Z31 (fun w h => h.zai (i := 2) rfl) rfl) (zab rfl) rfl (fun w h => za8 [1, 0] (by decide) rfl w h)
  · replace hb7 := nt_f hb7
    replace h := bb_t hb7 h
    refine zak ?_
    refine za1 ?_
    refine c_seq ?_
    refine za0 ?_
    refine o_q rfl rfl (q_ldB G31 Z31 rfl (fun w h => h.zai (i := 1) rfl) rfl) ?_
    refine o_e rfl (e_storeA (i := 0) rfl rfl rfl Z31 rfl rfl) (fun _ => ?_)
    refine o_q rfl rfl (q_asg rfl) ?_
    refine o_end ?_
    refine za1 ?_
    refine c_ret ?_
    have e0_ := Option.some.inj h; clear h
    have d0_ := (Prod.mk.inj e0_).1; have e1_ := (Prod.mk.inj e0_).2; clear e0_; subst d0_
    have d1_ := (Prod.mk.inj e1_).1; have e2_ := (Prod.mk.inj e1_).2; clear e1_; subst d1_
    have d2_ := (Prod.mk.inj e2_).1; have e3_ := (Prod.mk.inj e2_).2; clear e2_; subst d2_
    subst e3_
    exact x_r2 (A0_1, c0_1, A0_2, c0_2) Tryd.results40 (rv_cell rfl G31 Z31 (fun w h => h.zai (i := 0) rfl) rfl) (zab rfl) rfl (fun w h => za8 [2, 3] (by decide) rfl w h)

/-! ### loop.example/g01098/spec.ParsePlan: function 16 -/
def spec_ParsePlan.l0 (k : Nat) : (List ByteArray) → (List SStep) → Int → Option ((Int × (List SStep) × (List Int) × Bool) ⊕ ((List SStep)))
  | [], l2471, i2474 => some (.inr l2471)
  | y2475 :: ys2476, l2471, i2474 => (spec_l1Split.f k y2475 42).bind fun l2487 => if (l2487.length : Int) ≠ 2 then (some (.inl (0, ([] : List SStep), ([] : List Int), false))) else ((gt l2487 0).bind fun y2674 => (spec_l1Read.f k y2674).bind fun i2793 => (gt l2487 1).bind fun y2913 => (spec_l1Read.f k y2913).bind fun i3033 => (ap l2471 ([(⟨i2793, i3033⟩ : SStep)] : List SStep)).bind fun l3212 => spec_ParsePlan.l0 k ys2476 l3212 (i2474 + 1))
def spec_ParsePlan.f (k : Nat) (a0 : ByteArray) : Option (Int × (List SStep) × (List Int) × Bool) := (spec_l1Split.f k a0 58).bind fun l4 => if (l4.length : Int) ≠ 3 then (some (0, ([] : List SStep), ([] : List Int), false)) else (((gt l4 0).bind fun y802 => (spec_l1Read.f k y802).bind fun i921 => (gt l4 2).bind fun y1041 => (spec_plRead.f k y1041).bind fun l1161 => some (i921, l1161)).bind fun (i730, l731) => ((gt l4 1).bind fun y2462 => if y2462 ≠ (⟨#[45]⟩ : ByteArray) then ((gt l4 1).bind fun y2465 => (spec_l1Split.f k y2465 44).bind fun l2467 => (spec_ParsePlan.l0 k l2467 ([] : List SStep) 0).bind fun o_ => match o_ with | .inl r_ => some (.inl r_) | .inr l2471 => some (.inr l2471)) else (some (.inr ([] : List SStep))) : Option ((Int × (List SStep) × (List Int) × Bool) ⊕ ((List SStep)))).bind fun o_ => match o_ with | .inl r_ => some r_ | .inr l2452 => (spec_plIf.f k i730 l2452 l731).bind fun (i3453, l3454, l3455, b3456) => some (i3453, l3454, l3455, b3456))
set_option maxHeartbeats 600000 in
set_option maxRecDepth 100000 in
theorem spec_ParsePlan.calls (k : Nat) {w0 ws : World} {P0 : Nat → Prop} (a0 : ByteArray) (Z : Below w0.heap.size w0 ws) (hF : Fr w0 ws P0 [] ws)  (r_1 : Int) (r_2 : List SStep) (r_5 : List Int) (r_8 : Bool) (h : spec_ParsePlan.f k a0 = some (r_1, r_2, r_5, r_8)) :
    Calls Tryd.prog 16 #[.string a0] ws (Post1 w0 ws P0 (fun ((q_3, q_4, q_6, q_7) : (Option Addr) × Nat × (Option Addr) × Nat) => .tuple #[.agg #[.int .i64 r_1, .slice q_3 r_2.length q_4, .slice q_6 r_5.length q_7], .bool r_8]) (fun ((q_3, q_4, q_6, q_7) : (Option Addr) × Nat × (Option Addr) × Nat) => [row kStep 69 (.slice q_3 r_2.length q_4) r_2, row (Kd.int .i64) 3 (.slice q_6 r_5.length q_7) r_5])) := by
  unfold spec_ParsePlan.f at h
  refine enter Tryd.func16 rfl Tryd.ntmps16 rfl hF ?_
  refine c_seq ?_
  refine za0 ?_
  refine o_e rfl (e_alloc V31 rfl) (fun g1 => ?_)
  refine o_q rfl rfl (q_asg rfl) ?_
  refine o_end ?_
  refine za1 ?_
  refine c_seq ?_
  refine za0 ?_
  refine o_q rfl rfl (za2 rfl) ?_
  refine za6 h (fun l4 hx3 h => ?_) rfl
  refine o_e rfl (za9 0 Z Tryd.func37 N37 rfl rfl rfl (fun w P1 hF hB hS hT => spec_l1Split.calls k a0 58 hB hF _ hx3)) (cur2 (fun A5 c6 => ?_))
  refine o_q rfl rfl (q_asg rfl) ?_
  refine o_end ?_
  refine za1 ?_
  refine c_seq ?_
  refine c_seq ?_
  refine za0 ?_
  refine o_q rfl rfl (za2 rfl) ?_
  refine o_q rfl rfl (q_len Tryd.underlying64 rfl) ?_
  refine o_q rfl rfl (q_neq rfl rfl) ?_
  refine o_end ?_
  refine za1 ?_
  refine zao _ rfl (fun hb7 => ?_) (fun hb7 => ?_)
  · skip
    replace h := br_t hb7 h
    refine c_seq ?_
    refine za0 ?_
    refine o_q rfl rfl (q_build (vs := []) (cs := [.int .i64 0, .slice none 0 0, .slice none 0 0]) rfl rfl) ?_
    refine o_e rfl (e_storeA (i := 1) rfl rfl rfl Z31 rfl rfl) (fun _ => ?_)
    refine o_q rfl rfl (q_asg rfl) ?_
    refine o_end ?_
    refine za1 ?_
    refine c_ret ?_
    refine za3 ?_
    refine x_nil kStep 69 ?_
    refine x_nil (Kd.int .i64) 3 ?_
    have e0_ := Option.some.inj h; clear h
    have d0_ := (Prod.mk.inj e0_).1; have e1_ := (Prod.mk.inj e0_).2; clear e0_; subst d0_
    have d1_ := (Prod.mk.inj e1_).1; have e2_ := (Prod.mk.inj e1_).2; clear e1_; subst d1_
    have d2_ := (Prod.mk.inj e2_).1; have e3_ := (Prod.mk.inj e2_).2; clear e2_; subst d2_
    subst e3_
    exact x_r2 (none, 0, none, 0) Tryd.results16 (rv_cell rfl G31 Z31 (fun w h => h.zai (i := 3) rfl) rfl) (zab rfl) rfl (fun w h => za8 [1, 0] (by decide) rfl w h)
  · skip
    replace h := br_f hb7 h
    refine zak ?_
    refine za1 ?_
    refine za6 h (fun o734 hl735 hR736 => ?_) rfl
    clear h
    refine c_cutJ (σ := Int × (List Int) × Nat × (Option Addr) × Nat) (fun (i730, l731, g729, A732, c733) => some (i730, l731) = some o734) [5, 15, 16, 17, 18, 19, 20, 21, 22, 23] (fun (i730, l731, g729, A732, c733) => [(5, .pointer (some ⟨g729, 0, none⟩))]) (fun (i730, l731, g729, A732, c733) => [box g1 31 #[.int .i64 0, .slice none 0 0, .slice none 0 0], row Kd.string 9 (.slice A5 l4.length c6) l4, box g729 31 #[.int .i64 i730, .slice none 0 0, .slice A732 l731.length c733], row (Kd.int .i64) 3 (.slice A732 l731.length c733) l731]) ?_ ?_
    · skip
      have h := hl735; clear hl735
      clear hR736
      refine za6 h (fun y802 hg801 h => ?_) rfl
      refine za6 h (fun i921 hx920 h => ?_) rfl
      refine za6 h (fun y1041 hg1040 h => ?_) rfl
      refine za6 h (fun l1161 hx1160 h => ?_) rfl
      refine a_start (ds := []) MO rfl ?_
      refine zaa 0 rfl rfl rfl (by kernel_rfl) (fun _ _ _ h => h) (za2 rfl) ?_
      refine a_fact (p := Sh A5 l4.length l4.length) (fun w h => f_sh (dk := Kd.string) h (fun w h => h.zar (i := 0) rfl)) (fun hq800 => ?_)
      refine zaa 1 rfl rfl rfl (by kernel_rfl) (fun _ _ _ h => h) (q_ix Tryd.underlying64 Z9 rfl rfl hq800 hg801) ?_
      refine a_take 2 rfl rfl rfl (by kernel_rfl) (fun _ _ _ h => h) (fun w h => h) (q_lde (off := 0) Y9 rfl rfl (fun w h => h.zar (i := 0) rfl) hg801 (fun _ _ h => h) rfl) ?_
      refine zaa 4 rfl rfl rfl (by kernel_rfl) (fun _ _ _ h => h) (za2 rfl) ?_
      refine zaa 5 rfl rfl rfl (by kernel_rfl) (fun _ _ _ h => h) (q_ix Tryd.underlying64 Z9 rfl rfl hq800 hg1040) ?_
      refine a_take 6 rfl rfl rfl (by kernel_rfl) (fun _ _ _ h => h) (fun w h => h) (q_lde (off := 0) Y9 rfl rfl (fun w h => h.zar (i := 0) rfl) hg1040 (fun _ _ h => h) rfl) ?_
      refine a_two 3 9 rfl rfl rfl rfl (by kernel_rfl) rfl rfl (za9 0 Z Tryd.func38 N38 rfl rfl rfl (fun w P1 hF hB hS hT => spec_l1Read.calls k y802 hB hF _ hx920)) (fun s w h => h) (e_alloc V31 rfl) (fun s w h => zac [some 1, some 2] (by decide) w h rfl) (fun _ => ?_) (fun g1280 => ?_)
      · skip
        refine a_two 7 9 rfl rfl rfl rfl (by kernel_rfl) rfl rfl (za9 0 Z Tryd.func39 N39 rfl rfl rfl (fun w P1 hF hB hS hT => spec_plRead.calls k y1041 hB hF _ hx1160)) (fun s w h => zac [some 1, some 2] (by decide) w h rfl) (e_alloc V31 rfl) (fun s w h => zac [some 1, some 2] (by decide) w h rfl) (cur2 (fun A1162 c1163 => ?_)) (fun g1280 => ?_)
        · skip
          refine zaa 8 rfl rfl rfl (by kernel_rfl) (fun _ _ _ h => h) (q_build (vs := [(0, .int .i64 i921), (2, .slice A1162 l1161.length c1163)]) (cs := [.int .i64 i921, .slice none 0 0, .slice A1162 l1161.length c1163]) rfl rfl) ?_
          refine a_one 9 rfl rfl (by kernel_rfl) rfl (e_alloc V31 rfl) (fun s w h => zac [some 2, some 3] (by decide) w h rfl) (fun g1280 => ?_)
          refine a_one 10 rfl rfl (by kernel_rfl) rfl (e_storeA (i := 0) rfl rfl rfl Z31 rfl rfl) (fun s w h => zac [some 2, some 3] (by decide) w h rfl) (fun _ => ?_)
          refine a_done (by kernel_rfl) ?_
          refine x_meetJ (i921, l1161, g1280, A1162, c1163) h ⟨rfl, trivial⟩ (fun w h => za8 [3, 2, 0, 1] (by decide) rfl w h) ?_
          repeat (first | exact zae _ _ | refine zal rfl ?_ | refine zaf rfl ?_ | refine zam rfl ?_)
        · skip
          refine a_one 7 rfl rfl (by kernel_rfl) rfl (za9 0 Z Tryd.func39 N39 rfl rfl rfl (fun w P1 hF hB hS hT => spec_plRead.calls k y1041 hB hF _ hx1160)) (fun s w h => zac [some 2, some 3] (by decide) w h rfl) (cur2 (fun A1162 c1163 => ?_))
          refine zaa 8 rfl rfl rfl (by kernel_rfl) (fun _ _ _ h => h) (q_build (vs := [(0, .int .i64 i921), (2, .slice A1162 l1161.length c1163)]) (cs := [.int .i64 i921, .slice none 0 0, .slice A1162 l1161.length c1163]) rfl rfl) ?_
          refine a_one 10 rfl rfl (by kernel_rfl) rfl (e_storeA (i := 1) rfl rfl rfl Z31 rfl rfl) (fun s w h => zac [some 2, some 3] (by decide) w h rfl) (fun _ => ?_)
          refine a_done (by kernel_rfl) ?_
          refine x_meetJ (i921, l1161, g1280, A1162, c1163) h ⟨rfl, trivial⟩ (fun w h => za8 [3, 2, 1, 0] (by decide) rfl w h) ?_
          repeat (first | exact zae _ _ | refine zal rfl ?_ | refine zaf rfl ?_ | refine zam rfl ?_)
      · skip
        refine a_one 3 rfl rfl (by kernel_rfl) rfl (za9 0 Z Tryd.func38 N38 rfl rfl rfl (fun w P1 hF hB hS hT => spec_l1Read.calls k y802 hB hF _ hx920)) (fun s w h => zac [some 1, some 2] (by decide) w h rfl) (fun _ => ?_)
        refine a_one 7 rfl rfl (by kernel_rfl) rfl (za9 0 Z Tryd.func39 N39 rfl rfl rfl (fun w P1 hF hB hS hT => spec_plRead.calls k y1041 hB hF _ hx1160)) (fun s w h => zac [some 2, some 3] (by decide) w h rfl) (cur2 (fun A1162 c1163 => ?_))
        refine zaa 8 rfl rfl rfl (by kernel_rfl) (fun _ _ _ h => h) (q_build (vs := [(0, .int .i64 i921), (2, .slice A1162 l1161.length c1163)]) (cs := [.int .i64 i921, .slice none 0 0, .slice A1162 l1161.length c1163]) rfl rfl) ?_
        refine a_one 10 rfl rfl (by kernel_rfl) rfl (e_storeA (i := 1) rfl rfl rfl Z31 rfl rfl) (fun s w h => zac [some 2, some 3] (by decide) w h rfl) (fun _ => ?_)
        refine a_done (by kernel_rfl) ?_
        refine x_meetJ (i921, l1161, g1280, A1162, c1163) h ⟨rfl, trivial⟩ (fun w h => za8 [3, 2, 1, 0] (by decide) rfl w h) ?_
        repeat (first | exact zae _ _ | refine zal rfl ?_ | refine zaf rfl ?_ | refine zam rfl ?_)
    · skip
      refine (cur5 (fun i730 l731 g729 A732 c733 => fun U737 hJ738 => ?_))
      have e_ := Option.some.inj hJ738; have h := hR736; rw [← e_] at h; clear e_ hJ738 hR736 hl735
      refine za6 h (fun o2455 hl2456 hR2457 => ?_) rfl
      clear h
      refine c_cutJ (σ := (List SStep) × (Option Addr) × Nat) (fun (l2452, A2453, c2454) => some (.inr l2452) = some o2455) [3, 7, 8, 24, 25, 26, 27, 28, 29, 30, 31, 32, 33, 34, 35, 36, 37, 38, 39, 40, 41, 42, 43, 44, 45, 46, 47, 48, 49, 50, 51, 52, 53, 54, 55, 56, 57] (fun (l2452, A2453, c2454) => []) (fun (l2452, A2453, c2454) => [box g1 31 #[.int .i64 0, .slice none 0 0, .slice none 0 0], box g729 31 #[.int .i64 i730, .slice A2453 l2452.length c2454, .slice A732 l731.length c733], row kStep 69 (.slice A2453 l2452.length c2454) l2452, row (Kd.int .i64) 3 (.slice A732 l731.length c733) l731, row Kd.string 9 (.slice A5 l4.length c6) l4]) ?_ ?_
      · skip
        have h := hl2456; clear hl2456
        refine c_seq ?_
        refine za0 ?_
        refine o_q rfl rfl (za2 rfl) ?_
        refine o_fact (p := Sh A5 l4.length l4.length) (fun w h => f_sh (dk := Kd.string) h (fun w h => h.zar (i := 1) rfl)) (fun hq2460 => ?_)
        refine za6 h (fun y2462 hg2461 h => ?_) rfl
        refine o_q rfl rfl (q_ix Tryd.underlying64 Z9 rfl rfl hq2460 hg2461) ?_
        refine o_q rfl rfl (q_lde (off := 0) Y9 rfl rfl (fun w h => h.zar (i := 1) rfl) hg2461 (fun _ _ h => h) rfl) ?_
        refine o_q rfl rfl (q_sneq rfl rfl) ?_
        refine o_end ?_
        refine za1 ?_
        refine zao _ rfl (fun hb2463 => ?_) (fun hb2463 => ?_)
        · skip
          replace h := br_t hb2463 h
          refine c_seq ?_
          refine za0 ?_
          refine o_q rfl rfl (za2 rfl) ?_
          refine za6 h (fun y2465 hg2464 h => ?_) rfl
          refine o_q rfl rfl (q_ix Tryd.underlying64 Z9 rfl rfl hq2460 hg2464) ?_
          refine o_q rfl rfl (q_lde (off := 0) Y9 rfl rfl (fun w h => h.zar (i := 1) rfl) hg2464 (fun _ _ h => h) rfl) ?_
          refine za6 h (fun l2467 hx2466 h => ?_) rfl
          refine o_e rfl (za9 0 Z Tryd.func37 N37 rfl rfl rfl (fun w P1 hF hB hS hT => spec_l1Split.calls k y2465 44 hB hF _ hx2466)) (cur2 (fun A2468 c2469 => ?_))
          refine o_q rfl rfl (q_len Tryd.underlying64 rfl) ?_
          refine o_q rfl rfl (za2 rfl) ?_
          refine o_end ?_
          refine za1 ?_
          refine zaj ?_
          refine c_nil kStep 69 ?_
          refine za6 h (fun o2482 hl2481 hR2480 => ?_) rfl
          clear h
          refine c_fact (p := l2467.length ≤ 9223372036854775807) (fun w h => (h.zar (i := 1) rfl).2.1) (fun hm2479 => ?_)
          refine c_loopL (σ := (List ByteArray) × (List SStep) × Int × (Option Addr) × Nat) (fun k2477 ((ys2476, l2471, i2474, A2472, c2473) : (List ByteArray) × (List SStep) × Int × (Option Addr) × Nat) => Rg l2467 i2474 ys2476 ∧ ys2476.length = k2477 ∧ spec_ParsePlan.l0 k ys2476 l2471 i2474 = some o2482) [3, 7, 8, 33, 34, 35, 36, 37, 38, 39, 40, 41, 42, 43, 44, 45, 46, 47, 48, 49, 50, 51, 52, 53, 54, 55, 56, 57] (fun ((ys2476, l2471, i2474, A2472, c2473) : (List ByteArray) × (List SStep) × Int × (Option Addr) × Nat) => [(33, .int .i64 i2474)]) (fun ((ys2476, l2471, i2474, A2472, c2473) : (List ByteArray) × (List SStep) × Int × (Option Addr) × Nat) => [row kStep 69 (.slice A2472 l2471.length c2473) l2471, row Kd.string 9 (.slice A2468 l2467.length c2469) l2467, box g1 31 #[.int .i64 0, .slice none 0 0, .slice none 0 0], row Kd.string 9 (.slice A5 l4.length c6) l4, box g729 31 #[.int .i64 i730, .slice A2472 l2471.length c2473, .slice A732 l731.length c733], row (Kd.int .i64) 3 (.slice A732 l731.length c733) l731]) l2467.length (l2467, ([] : List SStep), 0, none, 0) ⟨Rg.start _, rfl, hl2481⟩ ⟨rfl, trivial⟩ (fun w h => h) ?_
          refine fun k2477 => cur5 (listC (fun l2471 i2474 A2472 c2473 U2483 hJ_ => ?_) (fun y2475 ys2476 l2471 i2474 A2472 c2473 U2483 hJ_ => ?_))
          · skip
            clear hl2481
            have hr2478 := hJ_.1; have hk2484 := hJ_.2.1; have h := hJ_.2.2; clear hJ_
            replace h : spec_ParsePlan.l0 k [] l2471 i2474 = some o2482 := h
            rw [spec_ParsePlan.l0] at h
            refine c_seq ?_
            refine za0 ?_
            refine o_q rfl rfl (q_lss rfl rfl) ?_
            refine o_end ?_
            refine za1 ?_
            refine c_seq ?_
            refine c_false (congrArg Value.bool hr2478.ge) ?_
            refine c_exit ?_
            refine za7 ?_
            refine za7 ?_
            have e_ := Option.some.inj h; replace h := hR2480; rw [← e_] at h; clear e_
            refine x_hit ?_
            refine x_meetJ (l2471, A2472, c2473) h trivial (fun w h => za8 [2, 4, 0, 5, 3] (by decide) rfl w h) ?_
            repeat (first | exact zae _ _ | refine zal rfl ?_ | refine zaf rfl ?_ | refine zam rfl ?_)
          · skip
            clear hl2481
            have hr2478 := hJ_.1; have hk2484 := hJ_.2.1; have h := hJ_.2.2; clear hJ_
            replace h : spec_ParsePlan.l0 k (y2475 :: ys2476) l2471 i2474 = some o2482 := h
            rw [spec_ParsePlan.l0] at h
            refine c_seq ?_
            refine za0 ?_
            refine o_q rfl rfl (q_lss rfl rfl) ?_
            refine o_end ?_
            refine za1 ?_
            refine c_seq ?_
            refine c_true (congrArg Value.bool hr2478.lt) ?_
            refine zak ?_
            refine za1 ?_
            refine c_seq ?_
            refine zaj ?_
            refine c_seq ?_
            refine za0 ?_
            refine o_fact (p := Sh A2468 l2467.length l2467.length) (fun w h => f_sh (dk := Kd.string) h (fun w h => h.zar (i := 1) rfl)) (fun hq2485 => ?_)
            refine o_q rfl rfl (q_ix Tryd.underlying64 Z9 rfl rfl hq2485 hr2478.get) ?_
            refine o_q rfl rfl (q_lde (off := 0) Y9 rfl rfl (fun w h => h.zar (i := 1) rfl) hr2478.get (fun _ _ h => h) rfl) ?_
            refine o_q rfl rfl (q_asg rfl) ?_
            refine o_end ?_
            refine za1 ?_
            refine c_seq ?_
            refine za0 ?_
            refine o_q rfl rfl (za2 rfl) ?_
            refine za6 h (fun l2487 hx2486 h => ?_) rfl
            refine o_e rfl (za9 0 Z Tryd.func37 N37 rfl rfl rfl (fun w P1 hF hB hS hT => spec_l1Split.calls k y2475 42 hB hF _ hx2486)) (cur2 (fun A2488 c2489 => ?_))
            refine o_q rfl rfl (q_asg rfl) ?_
            refine o_end ?_
            refine za1 ?_
            refine c_seq ?_
            refine c_seq ?_
            refine za0 ?_
            refine o_q rfl rfl (za2 rfl) ?_
            refine o_q rfl rfl (q_len Tryd.underlying64 rfl) ?_
            refine o_q rfl rfl (q_neq rfl rfl) ?_
            refine o_end ?_
            refine za1 ?_
            refine zao _ rfl (fun hb2490 => ?_) (fun hb2490 => ?_)
            · skip
              replace h := br_t hb2490 h
              refine c_seq ?_
              refine za0 ?_
              refine o_q rfl rfl (q_build (vs := []) (cs := [.int .i64 0, .slice none 0 0, .slice none 0 0]) rfl rfl) ?_
              refine o_e rfl (e_storeA (i := 3) rfl rfl rfl Z31 rfl rfl) (fun _ => ?_)
              refine o_q rfl rfl (q_asg rfl) ?_
              refine o_end ?_
              refine za1 ?_
              refine c_ret ?_
              refine za3 ?_
              refine zad ?_
              refine za3 ?_
              refine za3 ?_
              have e_ := Option.some.inj h; replace h := hR2480; rw [← e_] at h; clear e_
              refine zad ?_
              refine za3 ?_
              have e_ := Option.some.inj h; replace h := hR2457; rw [← e_] at h; clear e_
              refine x_nil kStep 69 ?_
              refine x_nil (Kd.int .i64) 3 ?_
              have e0_ := Option.some.inj h; clear h
              have d0_ := (Prod.mk.inj e0_).1; have e1_ := (Prod.mk.inj e0_).2; clear e0_; subst d0_
              have d1_ := (Prod.mk.inj e1_).1; have e2_ := (Prod.mk.inj e1_).2; clear e1_; subst d1_
              have d2_ := (Prod.mk.inj e2_).1; have e3_ := (Prod.mk.inj e2_).2; clear e2_; subst d2_
              subst e3_
              exact x_r2 (none, 0, none, 0) Tryd.results16 (rv_cell rfl G31 Z31 (fun w h => h.zai (i := 5) rfl) rfl) (zab rfl) rfl (fun w h => za8 [1, 0] (by decide) rfl w h)
            · skip
              replace h := br_f hb2490 h
              refine zak ?_
              refine za1 ?_
              refine za6 h (fun y2674 hg2673 h => ?_) rfl
              refine za6 h (fun i2793 hx2792 h => ?_) rfl
              refine za6 h (fun y2913 hg2912 h => ?_) rfl
              refine za6 h (fun i3033 hx3032 h => ?_) rfl
              refine za6 h (fun l3212 ha3213 h => ?_) rfl
              refine a_startS (ds := []) [some 0, none, some 2, some 3, some 4, none, some 6] MO rfl ?_
              refine zaa 0 rfl rfl rfl (by kernel_rfl) (fun _ _ _ h => h) (q_f F31_1 rfl) ?_
              refine zaa 2 rfl rfl rfl (by kernel_rfl) (fun _ _ _ h => h) (za2 rfl) ?_
              refine a_fact (p := Sh A2488 l2487.length l2487.length) (fun w h => f_sh (dk := Kd.string) h (fun w h => h.zar (i := 0) rfl)) (fun hq2672 => ?_)
              refine zaa 3 rfl rfl rfl (by kernel_rfl) (fun _ _ _ h => h) (q_ix Tryd.underlying64 Z9 rfl rfl hq2672 hg2673) ?_
              refine a_take 4 rfl rfl rfl (by kernel_rfl) (fun _ _ _ h => h) (fun w h => zac [some 0, none, some 2, some 3, some 4, none, some 6] (by decide) w h rfl) (q_lde (off := 0) Y9 rfl rfl (fun w h => h.zar (i := 0) rfl) hg2673 (fun _ _ h => h) rfl) ?_
              refine zaa 6 rfl rfl rfl (by kernel_rfl) (fun _ _ _ h => h) (za2 rfl) ?_
              refine zaa 7 rfl rfl rfl (by kernel_rfl) (fun _ _ _ h => h) (q_ix Tryd.underlying64 Z9 rfl rfl hq2672 hg2912) ?_
              refine a_take 8 rfl rfl rfl (by kernel_rfl) (fun _ _ _ h => h) (fun w h => zac [some 0, none, some 2, some 3, some 4, none, some 6] (by decide) w h rfl) (q_lde (off := 0) Y9 rfl rfl (fun w h => h.zar (i := 0) rfl) hg2912 (fun _ _ h => h) rfl) ?_
              refine a_two 1 5 rfl rfl rfl rfl (by kernel_rfl) rfl rfl (ev_q rfl (q_ldb Y29 rfl (fun w h => h.zai (i := 5) rfl) rfl)) (fun s w h => zac [some 0, none, some 2, some 3, some 4, none, some 6] (by decide) w h rfl) (za9 0 Z Tryd.func38 N38 rfl rfl rfl (fun w P1 hF hB hS hT => spec_l1Read.calls k y2674 hB hF _ hx2792)) (fun s w h => zac [some 0, none, some 2, some 3, some 4, none, some 6] (by decide) w h rfl) (fun _ => ?_) (fun _ => ?_)
              · skip
                refine a_one 5 rfl rfl (by kernel_rfl) rfl (za9 0 Z Tryd.func38 N38 rfl rfl rfl (fun w P1 hF hB hS hT => spec_l1Read.calls k y2674 hB hF _ hx2792)) (fun s w h => zac [some 0, none, some 2, some 3, some 4, none, some 6] (by decide) w h rfl) (fun _ => ?_)
                refine a_one 9 rfl rfl (by kernel_rfl) rfl (za9 0 Z Tryd.func38 N38 rfl rfl rfl (fun w P1 hF hB hS hT => spec_l1Read.calls k y2913 hB hF _ hx3032)) (fun s w h => zac [some 0, none, some 2, some 3, some 4, none, some 6] (by decide) w h rfl) (fun _ => ?_)
                refine zaa 10 rfl rfl rfl (by kernel_rfl) (fun _ _ _ h => h) (q_build (vs := [(0, .int .i64 i2793), (1, .int .i64 i3033)]) (cs := [.int .i64 i2793, .int .i64 i3033]) rfl rfl) ?_
                refine a_one 11 rfl rfl (by kernel_rfl) rfl (e_lit (vs := [(0, .agg #[.int .i64 i2793, .int .i64 i3033])]) (cs := [.int .i64 i2793, .int .i64 i3033]) kStep ([(⟨i2793, i3033⟩ : SStep)] : List SStep) Tryd.underlying29 I69 (by decide) rfl (by decide) rfl rfl (fun _ _ => reps_flat _)) (fun s w h => zac [some 1, none, some 3, some 4, some 5, none, some 7] (by decide) w h rfl) (cur2 (fun A3152 c3153 => ?_))
                refine a_one 12 rfl rfl (by kernel_rfl) rfl (e_app (i := 2) (j := 0) Tryd.underlying29 I69 rfl (by decide) (by decide) rfl rfl rfl rfl rfl ha3213) (fun s w h => zac [some 1, none, some 3, some 4, some 5, none, some 7] (by decide) w h rfl) (cur2 (fun A3214 c3215 => ?_))
                refine zaa 13 rfl rfl rfl (by kernel_rfl) (fun _ _ _ h => h) (q_f F31_1 rfl) ?_
                refine a_one 14 rfl rfl (by kernel_rfl) rfl (e_store (i := 6) rfl rfl rfl rfl Z29 rfl rfl) (fun s w h => zac [some 1, none, some 3, some 4, some 5, none, some 7] (by decide) w h rfl) (fun _ => ?_)
                refine a_done (by kernel_rfl) ?_
                refine x_block ?_
                refine za1 ?_
                refine za0 ?_
                refine o_q rfl rfl (q_up rfl rfl (hr2478.up hm2479)) ?_
                refine o_q rfl rfl (za2 rfl) ?_
                refine o_end ?_
                refine zan ys2476.length (ys2476, l3212, i2474 + 1, A3214, c3215) (by rw [← hk2484]; exact Nat.lt_succ_self _) ⟨hr2478.step, rfl, h⟩ ⟨rfl, trivial⟩ (fun w h => za8 [2, 3, 4, 5, 6, 7] (by decide) rfl w h) ?_
                repeat (first | exact zae _ _ | refine zal rfl ?_ | refine zaf rfl ?_ | refine zam rfl ?_)
              · skip
                refine a_two 1 9 rfl rfl rfl rfl (by kernel_rfl) rfl rfl (ev_q rfl (q_ldb Y29 rfl (fun w h => h.zai (i := 5) rfl) rfl)) (fun s w h => zac [some 0, none, some 2, some 3, some 4, none, some 6] (by decide) w h rfl) (za9 0 Z Tryd.func38 N38 rfl rfl rfl (fun w P1 hF hB hS hT => spec_l1Read.calls k y2913 hB hF _ hx3032)) (fun s w h => zac [some 0, none, some 2, some 3, some 4, none, some 6] (by decide) w h rfl) (fun _ => ?_) (fun _ => ?_)
                · skip
                  refine a_one 9 rfl rfl (by kernel_rfl) rfl (za9 0 Z Tryd.func38 N38 rfl rfl rfl (fun w P1 hF hB hS hT => spec_l1Read.calls k y2913 hB hF _ hx3032)) (fun s w h => zac [some 0, none, some 2, some 3, some 4, none, some 6] (by decide) w h rfl) (fun _ => ?_)
                  refine zaa 10 rfl rfl rfl (by kernel_rfl) (fun _ _ _ h => h) (q_build (vs := [(0, .int .i64 i2793), (1, .int .i64 i3033)]) (cs := [.int .i64 i2793, .int .i64 i3033]) rfl rfl) ?_
                  refine a_one 11 rfl rfl (by kernel_rfl) rfl (e_lit (vs := [(0, .agg #[.int .i64 i2793, .int .i64 i3033])]) (cs := [.int .i64 i2793, .int .i64 i3033]) kStep ([(⟨i2793, i3033⟩ : SStep)] : List SStep) Tryd.underlying29 I69 (by decide) rfl (by decide) rfl rfl (fun _ _ => reps_flat _)) (fun s w h => zac [some 1, none, some 3, some 4, some 5, none, some 7] (by decide) w h rfl) (cur2 (fun A3152 c3153 => ?_))
                  refine a_one 12 rfl rfl (by kernel_rfl) rfl (e_app (i := 2) (j := 0) Tryd.underlying29 I69 rfl (by decide) (by decide) rfl rfl rfl rfl rfl ha3213) (fun s w h => zac [some 1, none, some 3, some 4, some 5, none, some 7] (by decide) w h rfl) (cur2 (fun A3214 c3215 => ?_))
                  refine zaa 13 rfl rfl rfl (by kernel_rfl) (fun _ _ _ h => h) (q_f F31_1 rfl) ?_
                  refine a_one 14 rfl rfl (by kernel_rfl) rfl (e_store (i := 6) rfl rfl rfl rfl Z29 rfl rfl) (fun s w h => zac [some 1, none, some 3, some 4, some 5, none, some 7] (by decide) w h rfl) (fun _ => ?_)
                  refine a_done (by kernel_rfl) ?_
                  refine x_block ?_
                  refine za1 ?_
                  refine za0 ?_
                  refine o_q rfl rfl (q_up rfl rfl (hr2478.up hm2479)) ?_
                  refine o_q rfl rfl (za2 rfl) ?_
                  refine o_end ?_
                  refine zan ys2476.length (ys2476, l3212, i2474 + 1, A3214, c3215) (by rw [← hk2484]; exact Nat.lt_succ_self _) ⟨hr2478.step, rfl, h⟩ ⟨rfl, trivial⟩ (fun w h => za8 [2, 3, 4, 5, 6, 7] (by decide) rfl w h) ?_
                  repeat (first | exact zae _ _ | refine zal rfl ?_ | refine zaf rfl ?_ | refine zam rfl ?_)
                · skip
                  refine zaa 10 rfl rfl rfl (by kernel_rfl) (fun _ _ _ h => h) (q_build (vs := [(0, .int .i64 i2793), (1, .int .i64 i3033)]) (cs := [.int .i64 i2793, .int .i64 i3033]) rfl rfl) ?_
                  refine a_two 1 11 rfl rfl rfl rfl (by kernel_rfl) rfl rfl (ev_q rfl (q_ldb Y29 rfl (fun w h => h.zai (i := 5) rfl) rfl)) (fun s w h => zac [some 0, none, some 2, some 3, some 4, none, some 6] (by decide) w h rfl) (e_lit (vs := [(0, .agg #[.int .i64 i2793, .int .i64 i3033])]) (cs := [.int .i64 i2793, .int .i64 i3033]) kStep ([(⟨i2793, i3033⟩ : SStep)] : List SStep) Tryd.underlying29 I69 (by decide) rfl (by decide) rfl rfl (fun _ _ => reps_flat _)) (fun s w h => zac [some 1, none, some 3, some 4, some 5, none, some 7] (by decide) w h rfl) (fun _ => ?_) (cur2 (fun A3152 c3153 => ?_))
                  · skip
                    refine a_one 11 rfl rfl (by kernel_rfl) rfl (e_lit (vs := [(0, .agg #[.int .i64 i2793, .int .i64 i3033])]) (cs := [.int .i64 i2793, .int .i64 i3033]) kStep ([(⟨i2793, i3033⟩ : SStep)] : List SStep) Tryd.underlying29 I69 (by decide) rfl (by decide) rfl rfl (fun _ _ => reps_flat _)) (fun s w h => zac [some 1, none, some 3, some 4, some 5, none, some 7] (by decide) w h rfl) (cur2 (fun A3152 c3153 => ?_))
                    refine a_one 12 rfl rfl (by kernel_rfl) rfl (e_app (i := 2) (j := 0) Tryd.underlying29 I69 rfl (by decide) (by decide) rfl rfl rfl rfl rfl ha3213) (fun s w h => zac [some 1, none, some 3, some 4, some 5, none, some 7] (by decide) w h rfl) (cur2 (fun A3214 c3215 => ?_))
                    refine zaa 13 rfl rfl rfl (by kernel_rfl) (fun _ _ _ h => h) (q_f F31_1 rfl) ?_
                    refine a_one 14 rfl rfl (by kernel_rfl) rfl (e_store (i := 6) rfl rfl rfl rfl Z29 rfl rfl) (fun s w h => zac [some 1, none, some 3, some 4, some 5, none, some 7] (by decide) w h rfl) (fun _ => ?_)
                    refine a_done (by kernel_rfl) ?_
                    refine x_block ?_
                    refine za1 ?_
                    refine za0 ?_
                    refine o_q rfl rfl (q_up rfl rfl (hr2478.up hm2479)) ?_
                    refine o_q rfl rfl (za2 rfl) ?_
                    refine o_end ?_
                    refine zan ys2476.length (ys2476, l3212, i2474 + 1, A3214, c3215) (by rw [← hk2484]; exact Nat.lt_succ_self _) ⟨hr2478.step, rfl, h⟩ ⟨rfl, trivial⟩ (fun w h => za8 [2, 3, 4, 5, 6, 7] (by decide) rfl w h) ?_
                    repeat (first | exact zae _ _ | refine zal rfl ?_ | refine zaf rfl ?_ | refine zam rfl ?_)
                  · skip
                    refine a_one 1 rfl rfl (by kernel_rfl) rfl (ev_q rfl (q_ldb Y29 rfl (fun w h => h.zai (i := 6) rfl) rfl)) (fun s w h => zac [some 1, none, some 3, some 4, some 5, none, some 7] (by decide) w h rfl) (fun _ => ?_)
                    refine a_one 12 rfl rfl (by kernel_rfl) rfl (e_app (i := 2) (j := 0) Tryd.underlying29 I69 rfl (by decide) (by decide) rfl rfl rfl rfl rfl ha3213) (fun s w h => zac [some 1, none, some 3, some 4, some 5, none, some 7] (by decide) w h rfl) (cur2 (fun A3214 c3215 => ?_))
                    refine zaa 13 rfl rfl rfl (by kernel_rfl) (fun _ _ _ h => h) (q_f F31_1 rfl) ?_
                    refine a_one 14 rfl rfl (by kernel_rfl) rfl (e_store (i := 6) rfl rfl rfl rfl Z29 rfl rfl) (fun s w h => zac [some 1, none, some 3, some 4, some 5, none, some 7] (by decide) w h rfl) (fun _ => ?_)
                    refine a_done (by kernel_rfl) ?_
                    refine x_block ?_
                    refine za1 ?_
                    refine za0 ?_
                    refine o_q rfl rfl (q_up rfl rfl (hr2478.up hm2479)) ?_
                    refine o_q rfl rfl (za2 rfl) ?_
                    refine o_end ?_
                    refine zan ys2476.length (ys2476, l3212, i2474 + 1, A3214, c3215) (by rw [← hk2484]; exact Nat.lt_succ_self _) ⟨hr2478.step, rfl, h⟩ ⟨rfl, trivial⟩ (fun w h => za8 [2, 3, 4, 5, 6, 7] (by decide) rfl w h) ?_
                    repeat (first | exact zae _ _ | refine zal rfl ?_ | refine zaf rfl ?_ | refine zam rfl ?_)
        · skip
          replace h := br_f hb2463 h
          refine zak ?_
          refine x_nil kStep 69 ?_
          refine x_meetJ (([] : List SStep), none, 0) h trivial (fun w h => za8 [1, 3, 0, 4, 2] (by decide) rfl w h) ?_
          repeat (first | exact zae _ _ | refine zal rfl ?_ | refine zaf rfl ?_ | refine zam rfl ?_)
      · skip
        refine (cur3 (fun l2452 A2453 c2454 => fun U2458 hJ2459 => ?_))
        have e_ := Option.some.inj hJ2459; have h := hR2457; rw [← e_] at h; clear e_ hJ2459 hR2457 hl2456
        refine c_seq ?_
        refine za0 ?_
        refine o_q rfl rfl (q_ldB G31 Z31 rfl (fun w h => h.zai (i := 1) rfl) rfl) ?_
        refine o_pick [2, 3, 0, 1, 4] (by decide) rfl ?_
        refine bindE4 h (fun i3453 l3454 l3455 b3456 hx3452 h => ?_) rfl
        refine o_e rfl (za9 2 Z Tryd.func40 N40 rfl rfl rfl (fun w P1 hF hB hS hT => spec_plIf.calls k i730 A2453 c2454 l2452.length l2452 A732 c733 l731.length l731 hB hF _ _ _ _ hx3452)) (cur4 (fun A3457 c3458 A3459 c3460 => ?_))
        refine o_q rfl rfl (q_ext rfl rfl) ?_
        refine o_q rfl rfl (q_ext rfl rfl) ?_
        refine o_e rfl (e_storeA (i := 2) rfl rfl rfl Z31 rfl rfl) (fun _ => ?_)
        refine o_q rfl rfl (q_asg rfl) ?_
        refine o_end ?_
        refine za1 ?_
        refine c_ret ?_
        have e0_ := Option.some.inj h; clear h
        have d0_ := (Prod.mk.inj e0_).1; have e1_ := (Prod.mk.inj e0_).2; clear e0_; subst d0_
        have d1_ := (Prod.mk.inj e1_).1; have e2_ := (Prod.mk.inj e1_).2; clear e1_; subst d1_
        have d2_ := (Prod.mk.inj e2_).1; have e3_ := (Prod.mk.inj e2_).2; clear e2_; subst d2_
        subst e3_
        exact x_r2 (A3457, c3458, A3459, c3460) Tryd.results16 (rv_cell rfl G31 Z31 (fun w h => h.zai (i := 2) rfl) rfl) (zab rfl) rfl (fun w h => za8 [0, 1] (by decide) rfl w h)

/-! ### loop.example/g01098/impl.numberOf: function 42 -/
def impl_numberOf.f (a0 : ByteArray) : Option Int := (strconv_Atoi.f a0).bind fun i2 => some i2
set_option maxHeartbeats 600000 in
set_option maxRecDepth 100000 in
theorem impl_numberOf.calls {w0 ws : World} {P0 : Nat → Prop} (a0 : ByteArray) (Z : Below w0.heap.size w0 ws) (hF : Fr w0 ws P0 [] ws) (GW : Stable ws P0 GP) (r_1 : Int) (h : impl_numberOf.f a0 = some r_1) :
    Calls Tryd.prog 42 #[.string a0] ws (Post1 w0 ws P0 (fun (_ : Unit) => .int .i64 r_1) (fun (_ : Unit) => [])) := by
  unfold impl_numberOf.f at h
  refine enter Tryd.func42 rfl Tryd.ntmps42 rfl hF ?_
  refine c_seq ?_
  refine za0 ?_
  refine o_q rfl rfl (q_asg rfl) ?_
  refine o_end ?_
  refine za1 ?_
  refine c_seq ?_
  refine za0 ?_
  refine o_q rfl rfl (za2 rfl) ?_
  refine za6 h (fun i2 hx1 h => ?_) rfl
  refine o_e rfl (za9 0 Z Tryd.func72 N72 rfl rfl rfl (fun w P1 hF hB hS hT => strconv_Atoi.calls a0 hB hF (hS _ GW) _ hx1)) (fun E3 => ?_)
  refine o_q rfl rfl (za2 rfl) ?_
  refine o_q rfl rfl (q_ext rfl rfl) ?_
  refine o_q rfl rfl (q_ext rfl rfl) ?_
  refine o_q rfl rfl (q_asg rfl) ?_
  refine o_q rfl rfl (q_asg rfl) ?_
  refine o_end ?_
  refine za1 ?_
  refine c_seq ?_
  refine za0 ?_
  refine o_q rfl rfl (za2 rfl) ?_
  refine o_q rfl rfl (q_asg rfl) ?_
  refine o_end ?_
  refine za1 ?_
  refine c_ret ?_
  have e0_ := Option.some.inj h; clear h
  subst e0_
  exact x_r1 () Tryd.results42 (zab rfl) rfl (fun w h => za8 [] (by decide) rfl w h)

/-! ### loop.example/g01098/impl.parts: function 44 -/
def impl_parts.f (a0 : ByteArray) (a1 : Int) : Option (List ByteArray) := if a0 = (⟨#[45]⟩ : ByteArray) then (some ([] : List ByteArray)) else ((strings_SplitN.f a0 (⟨#[44]⟩ : ByteArray) (w64 (a1 + 1))).bind fun l3 => some l3)
set_option maxHeartbeats 600000 in
set_option maxRecDepth 100000 in
theorem impl_parts.calls {w0 ws : World} {P0 : Nat → Prop} (a0 : ByteArray) (a1 : Int) (Z : Below w0.heap.size w0 ws) (hF : Fr w0 ws P0 [] ws) (GW : Stable ws P0 GP) (r_1 : List ByteArray) (h : impl_parts.f a0 a1 = some r_1) :
    Calls Tryd.prog 44 #[.string a0, .int .i64 a1] ws (Post1 w0 ws P0 (fun ((q_2, q_3) : (Option Addr) × Nat) => .slice q_2 r_1.length q_3) (fun ((q_2, q_3) : (Option Addr) × Nat) => [row Kd.string 9 (.slice q_2 r_1.length q_3) r_1])) := by
  unfold impl_parts.f at h
  refine enter Tryd.func44 rfl Tryd.ntmps44 rfl hF ?_
  refine c_seq ?_
  refine za0 ?_
  refine o_q rfl rfl (q_asg rfl) ?_
  refine o_end ?_
  refine za1 ?_
  refine c_seq ?_
  refine c_seq ?_
  refine za0 ?_
  refine o_q rfl rfl (za2 rfl) ?_
  refine o_q rfl rfl (q_seql rfl rfl) ?_
  refine o_end ?_
  refine za1 ?_
  refine zao _ rfl (fun hb1 => ?_) (fun hb1 => ?_)
  · skip
    replace h := br_t hb1 h
    refine c_seq ?_
    refine za0 ?_
    refine o_q rfl rfl (q_asg rfl) ?_
    refine o_end ?_
    refine za1 ?_
    refine c_ret ?_
    refine za3 ?_
    refine x_nil Kd.string 9 ?_
    have e0_ := Option.some.inj h; clear h
    subst e0_
    exact x_r1 (none, 0) Tryd.results44 (zab rfl) rfl (fun w h => za8 [0] (by decide) rfl w h)
  · skip
    replace h := br_f hb1 h
    refine zak ?_
    refine za1 ?_
    refine c_seq ?_
    refine za0 ?_
    refine o_q rfl rfl (za2 rfl) ?_
    refine o_q rfl rfl (za2 rfl) ?_
    refine o_q rfl rfl (q_add64 rfl rfl) ?_
    refine za6 h (fun l3 hx2 h => ?_) rfl
    refine o_e rfl (za9 0 Z Tryd.func41 N41 rfl rfl rfl (fun w P1 hF hB hS hT => strings_SplitN.calls a0 (⟨#[44]⟩ : ByteArray) (w64 (a1 + 1)) hB hF (hS _ GW) _ hx2)) (cur2 (fun A4 c5 => ?_))
    refine o_q rfl rfl (q_asg rfl) ?_
    refine o_end ?_
    refine za1 ?_
    refine c_ret ?_
    have e0_ := Option.some.inj h; clear h
    subst e0_
    exact x_r1 (A4, c5) Tryd.results44 (zab rfl) rfl (fun w h => za8 [0] (by decide) rfl w h)

/-! ### loop.example/g01098/impl.numbersOf: function 43 -/
def impl_numbersOf.l0 : (List ByteArray) → (List Int) → Int → Option (List Int)
  | [], l4, i7 => some l4
  | y8 :: ys9, l4, i7 => (impl_numberOf.f y8).bind fun i20 => (ap l4 ([i20] : List Int)).bind fun l24 => impl_numbersOf.l0 ys9 l24 (i7 + 1)
def impl_numbersOf.f (l0 : List ByteArray) : Option (List Int) := (impl_numbersOf.l0 l0 ([] : List Int) 0).bind fun l4 => some l4
set_option maxHeartbeats 600000 in
set_option maxRecDepth 100000 in
theorem impl_numbersOf.calls {w0 ws : World} {P0 : Nat → Prop} (A0 : Option Addr) (c0 : Nat) (n0 : Nat) (l0 : List ByteArray) (Z : Below w0.heap.size w0 ws) (hF : Fr w0 ws P0 [] ws) (R0 : Stable ws P0 (fun w => Kd.C Kd.string w A0 n0 l0)) (hc0 : n0 ≤ c0) (GW : Stable ws P0 GP) (r_1 : List Int) (h : impl_numbersOf.f l0 = some r_1) :
    Calls Tryd.prog 43 #[.slice A0 n0 c0] ws (Post1 w0 ws P0 (fun ((q_2, q_3) : (Option Addr) × Nat) => .slice q_2 r_1.length q_3) (fun ((q_2, q_3) : (Option Addr) × Nat) => [row (Kd.int .i64) 3 (.slice q_2 r_1.length q_3) r_1])) := by
  unfold impl_numbersOf.f at h
  obtain rfl := (R0 ws (KeptB.refl _ _)).1
  refine enter Tryd.func43 rfl Tryd.ntmps43 rfl hF ?_
  refine c_seq ?_
  refine za0 ?_
  refine o_q rfl rfl (q_asg rfl) ?_
  refine o_end ?_
  refine za1 ?_
  refine c_seq ?_
  refine za0 ?_
  refine o_e rfl (e_lit0 (Kd.int .i64) Tryd.underlying23 I3) (cur2 (fun A1 c2 => ?_))
  refine o_q rfl rfl (q_asg rfl) ?_
  refine o_end ?_
  refine za1 ?_
  refine c_seq ?_
  refine c_seq ?_
  refine za0 ?_
  refine o_q rfl rfl (za2 rfl) ?_
  refine o_q rfl rfl (q_len Tryd.underlying64 rfl) ?_
  refine o_q rfl rfl (za2 rfl) ?_
  refine o_end ?_
  refine za1 ?_
  refine zaj ?_
  refine za6 h (fun o15 hl14 hR13 => ?_) rfl
  clear h
  refine c_fact (p := l0.length ≤ 9223372036854775807) (fun w h => (R0.now Z h).2.1) (fun hm12 => ?_)
  refine c_loopL (σ := (List ByteArray) × (List Int) × Int × (Option Addr) × Nat) (fun k10 ((ys9, l4, i7, A5, c6) : (List ByteArray) × (List Int) × Int × (Option Addr) × Nat) => Rg l0 i7 ys9 ∧ ys9.length = k10 ∧ impl_numbersOf.l0 ys9 l4 i7 = some o15) [3, 5, 9, 10, 11, 12, 13, 14, 15, 16, 17, 18] (fun ((ys9, l4, i7, A5, c6) : (List ByteArray) × (List Int) × Int × (Option Addr) × Nat) => [(3, .slice A5 l4.length c6), (9, .int .i64 i7)]) (fun ((ys9, l4, i7, A5, c6) : (List ByteArray) × (List Int) × Int × (Option Addr) × Nat) => [row (Kd.int .i64) 3 (.slice A5 l4.length c6) l4]) l0.length (l0, ([] : List Int), 0, A1, c2) ⟨Rg.start _, rfl, hl14⟩ ⟨rfl, rfl, trivial⟩ (fun w h => h) ?_
  refine fun k10 => cur5 (listC (fun l4 i7 A5 c6 U16 hJ_ => ?_) (fun y8 ys9 l4 i7 A5 c6 U16 hJ_ => ?_))
  · skip
    clear hl14
    have hr11 := hJ_.1; have hk17 := hJ_.2.1; have h := hJ_.2.2; clear hJ_
    replace h : impl_numbersOf.l0 [] l4 i7 = some o15 := h
    rw [impl_numbersOf.l0] at h
    refine c_seq ?_
    refine za0 ?_
    refine o_q rfl rfl (q_lss rfl rfl) ?_
    refine o_end ?_
    refine za1 ?_
    refine c_seq ?_
    refine c_false (congrArg Value.bool hr11.ge) ?_
    refine c_exit ?_
    refine za7 ?_
    refine za7 ?_
    have e_ := Option.some.inj h; replace h := hR13; rw [← e_] at h; clear e_
    refine x_hit ?_
    refine za1 ?_
    refine c_seq ?_
    refine za0 ?_
    refine o_q rfl rfl (za2 rfl) ?_
    refine o_q rfl rfl (q_asg rfl) ?_
    refine o_end ?_
    refine za1 ?_
    refine c_ret ?_
    have e0_ := Option.some.inj h; clear h
    subst e0_
    exact x_r1 (A5, c6) Tryd.results43 (zab rfl) rfl (fun w h => za8 [0] (by decide) rfl w h)
  · skip
    clear hl14
    have hr11 := hJ_.1; have hk17 := hJ_.2.1; have h := hJ_.2.2; clear hJ_
    replace h : impl_numbersOf.l0 (y8 :: ys9) l4 i7 = some o15 := h
    rw [impl_numbersOf.l0] at h
    refine c_seq ?_
    refine za0 ?_
    refine o_q rfl rfl (q_lss rfl rfl) ?_
    refine o_end ?_
    refine za1 ?_
    refine c_seq ?_
    refine c_true (congrArg Value.bool hr11.lt) ?_
    refine zak ?_
    refine za1 ?_
    refine c_seq ?_
    refine zaj ?_
    refine c_seq ?_
    refine za0 ?_
    refine o_fact (p := Sh A0 l0.length l0.length) (fun w h => f_sh (dk := Kd.string) h (fun w h => R0.now Z h)) (fun hq18 => ?_)
    refine o_q rfl rfl (q_ix Tryd.underlying64 Z9 rfl rfl hq18 hr11.get) ?_
    refine o_q rfl rfl (q_lde (off := 0) Y9 rfl rfl (fun w h => R0.now Z h) hr11.get (fun _ _ h => h) rfl) ?_
    refine o_q rfl rfl (q_asg rfl) ?_
    refine o_end ?_
    refine za1 ?_
    refine za0 ?_
    refine o_q rfl rfl (za2 rfl) ?_
    refine o_q rfl rfl (za2 rfl) ?_
    refine za6 h (fun i20 hx19 h => ?_) rfl
    refine o_e rfl (za9 0 Z Tryd.func42 N42 rfl rfl rfl (fun w P1 hF hB hS hT => impl_numberOf.calls y8 hB hF (hS _ GW) _ hx19)) (fun _ => ?_)
    refine o_e rfl (e_lit (vs := [(0, .int .i64 i20)]) (cs := [.int .i64 i20]) (Kd.int .i64) ([i20] : List Int) Tryd.underlying23 I3 (by decide) rfl (by decide) rfl rfl (fun _ _ => Kd.reps_scalar _)) (cur2 (fun A21 c22 => ?_))
    refine za6 h (fun l24 ha25 h => ?_) rfl
    refine o_e rfl (e_app (i := 1) (j := 0) Tryd.underlying23 I3 rfl (by decide) (by decide) rfl rfl rfl rfl rfl ha25) (cur2 (fun A26 c27 => ?_))
    refine o_q rfl rfl (q_asg rfl) ?_
    refine o_end ?_
    refine x_block ?_
    refine za1 ?_
    refine za0 ?_
    refine o_q rfl rfl (q_up rfl rfl (hr11.up hm12)) ?_
    refine o_q rfl rfl (za2 rfl) ?_
    refine o_end ?_
    refine zan ys9.length (ys9, l24, i7 + 1, A26, c27) (by rw [← hk17]; exact Nat.lt_succ_self _) ⟨hr11.step, rfl, h⟩ ⟨rfl, rfl, trivial⟩ (fun w h => za8 [1] (by decide) rfl w h) ?_
    repeat (first | exact zae _ _ | refine zal rfl ?_ | refine zaf rfl ?_ | refine zam rfl ?_)

/-! ### loop.example/g01098/impl.listed: function 62 -/
def impl_listed.f (l0 : List ByteArray) : Option ByteArray := if (l0.length : Int) = 0 then (some (⟨#[45]⟩ : ByteArray)) else ((strings_Join.f l0 (⟨#[44]⟩ : ByteArray)).bind fun s3 => some s3)
set_option maxHeartbeats 600000 in
set_option maxRecDepth 100000 in
theorem impl_listed.calls {w0 ws : World} {P0 : Nat → Prop} (A0 : Option Addr) (c0 : Nat) (n0 : Nat) (l0 : List ByteArray) (Z : Below w0.heap.size w0 ws) (hF : Fr w0 ws P0 [] ws) (R0 : Stable ws P0 (fun w => Kd.C Kd.string w A0 n0 l0)) (hc0 : n0 ≤ c0) (r_1 : ByteArray) (h : impl_listed.f l0 = some r_1) :
    Calls Tryd.prog 62 #[.slice A0 n0 c0] ws (Post1 w0 ws P0 (fun (_ : Unit) => .string r_1) (fun (_ : Unit) => [])) := by
  unfold impl_listed.f at h
  obtain rfl := (R0 ws (KeptB.refl _ _)).1
  refine enter Tryd.func62 rfl Tryd.ntmps62 rfl hF ?_
  refine c_seq ?_
  refine za0 ?_
  refine o_q rfl rfl (q_asg rfl) ?_
  refine o_end ?_
  refine za1 ?_
  refine c_seq ?_
  refine c_seq ?_
  refine za0 ?_
  refine o_q rfl rfl (za2 rfl) ?_
  refine o_q rfl rfl (q_len Tryd.underlying64 rfl) ?_
  refine o_q rfl rfl (q_eql rfl rfl) ?_
  refine o_end ?_
  refine za1 ?_
  refine zao _ rfl (fun hb1 => ?_) (fun hb1 => ?_)
  · skip
    replace h := br_t hb1 h
    refine c_seq ?_
    refine za0 ?_
    refine o_q rfl rfl (q_asg rfl) ?_
    refine o_end ?_
    refine za1 ?_
    refine c_ret ?_
    refine za3 ?_
    have e0_ := Option.some.inj h; clear h
    subst e0_
    exact x_r1 () Tryd.results62 (zab rfl) rfl (fun w h => za8 [] (by decide) rfl w h)
  · skip
    replace h := br_f hb1 h
    refine zak ?_
    refine za1 ?_
    refine c_seq ?_
    refine za0 ?_
    refine o_q rfl rfl (za2 rfl) ?_
    refine za6 h (fun s3 hx2 h => ?_) rfl
    refine o_e rfl (za9 0 Z Tryd.func69 N69 rfl rfl rfl (fun w P1 hF hB hS hT => strings_Join.calls A0 c0 l0.length l0 (⟨#[44]⟩ : ByteArray) hB hF (hS _ R0) hc0 _ hx2)) (fun _ => ?_)
    refine o_q rfl rfl (q_asg rfl) ?_
    refine o_end ?_
    refine za1 ?_
    refine c_ret ?_
    have e0_ := Option.some.inj h; clear h
    subst e0_
    exact x_r1 () Tryd.results62 (zab rfl) rfl (fun w h => za8 [] (by decide) rfl w h)

/-! ### loop.example/g01098/impl.numbersText: function 63 -/
def impl_numbersText.l0 : (List Int) → (List ByteArray) → Int → Option (List ByteArray)
  | [], l4, i7 => some l4
  | y8 :: ys9, l4, i7 => (strconv_Itoa.f y8).bind fun s22 => (ap l4 ([s22] : List ByteArray)).bind fun l26 => impl_numbersText.l0 ys9 l26 (i7 + 1)
def impl_numbersText.f (l0 : List Int) : Option ByteArray := (impl_numbersText.l0 l0 ([] : List ByteArray) 0).bind fun l4 => (impl_listed.f l4).bind fun s19 => some s19
set_option maxHeartbeats 600000 in
set_option maxRecDepth 100000 in
theorem impl_numbersText.calls {w0 ws : World} {P0 : Nat → Prop} (A0 : Option Addr) (c0 : Nat) (n0 : Nat) (l0 : List Int) (Z : Below w0.heap.size w0 ws) (hF : Fr w0 ws P0 [] ws) (R0 : Stable ws P0 (fun w => Kd.C (Kd.int .i64) w A0 n0 l0)) (hc0 : n0 ≤ c0) (r_1 : ByteArray) (h : impl_numbersText.f l0 = some r_1) :
    Calls Tryd.prog 63 #[.slice A0 n0 c0] ws (Post1 w0 ws P0 (fun (_ : Unit) => .string r_1) (fun (_ : Unit) => [])) := by
  unfold impl_numbersText.f at h
  obtain rfl := (R0 ws (KeptB.refl _ _)).1
  refine enter Tryd.func63 rfl Tryd.ntmps63 rfl hF ?_
  refine c_seq ?_
  refine za0 ?_
  refine o_q rfl rfl (q_asg rfl) ?_
  refine o_end ?_
  refine za1 ?_
  refine c_seq ?_
  refine za0 ?_
  refine o_e rfl (e_lit0 Kd.string Tryd.underlying64 I9) (cur2 (fun A1 c2 => ?_))
  refine o_q rfl rfl (q_asg rfl) ?_
  refine o_end ?_
  refine za1 ?_
  refine c_seq ?_
  refine c_seq ?_
  refine za0 ?_
  refine o_q rfl rfl (za2 rfl) ?_
  refine o_q rfl rfl (q_len Tryd.underlying23 rfl) ?_
  refine o_q rfl rfl (za2 rfl) ?_
  refine o_end ?_
  refine za1 ?_
  refine zaj ?_
  refine za6 h (fun o15 hl14 hR13 => ?_) rfl
  clear h
  refine c_fact (p := l0.length ≤ 9223372036854775807) (fun w h => (R0.now Z h).2.1) (fun hm12 => ?_)
  refine c_loopL (σ := (List Int) × (List ByteArray) × Int × (Option Addr) × Nat) (fun k10 ((ys9, l4, i7, A5, c6) : (List Int) × (List ByteArray) × Int × (Option Addr) × Nat) => Rg l0 i7 ys9 ∧ ys9.length = k10 ∧ impl_numbersText.l0 ys9 l4 i7 = some o15) [3, 5, 9, 10, 11, 12, 13, 14, 15, 16, 17, 18] (fun ((ys9, l4, i7, A5, c6) : (List Int) × (List ByteArray) × Int × (Option Addr) × Nat) => [(3, .slice A5 l4.length c6), (9, .int .i64 i7)]) (fun ((ys9, l4, i7, A5, c6) : (List Int) × (List ByteArray) × Int × (Option Addr) × Nat) => [row Kd.string 9 (.slice A5 l4.length c6) l4]) l0.length (l0, ([] : List ByteArray), 0, A1, c2) ⟨Rg.start _, rfl, hl14⟩ ⟨rfl, rfl, trivial⟩ (fun w h => h) ?_
  refine fun k10 => cur5 (listC (fun l4 i7 A5 c6 U16 hJ_ => ?_) (fun y8 ys9 l4 i7 A5 c6 U16 hJ_ => ?_))
  · skip
    clear hl14
    have hr11 := hJ_.1; have hk17 := hJ_.2.1; have h := hJ_.2.2; clear hJ_
    replace h : impl_numbersText.l0 [] l4 i7 = some o15 := h
    rw [impl_numbersText.l0] at h
    refine c_seq ?_
    refine za0 ?_
    refine o_q rfl rfl (q_lss rfl rfl) ?_
    refine o_end ?_
    refine za1 ?_
    refine c_seq ?_
    refine c_false (congrArg Value.bool hr11.ge) ?_
    refine c_exit ?_
    refine za7 ?_
    refine za7 ?_
    have e_ := Option.some.inj h; replace h := hR13; rw [← e_] at h; clear e_
    refine x_hit ?_
    refine za1 ?_
    refine c_seq ?_
    refine za0 ?_
    refine o_q rfl rfl (za2 rfl) ?_
    refine za6 h (fun s19 hx18 h => ?_) rfl
    refine o_e rfl (za9 0 Z Tryd.func62 N62 rfl rfl rfl (fun w P1 hF hB hS hT => impl_listed.calls A5 c6 l4.length l4 hB hF (hT 0 _ rfl).row (hT 0 _ rfl).cap _ hx18)) (fun _ => ?_)
    refine o_q rfl rfl (q_asg rfl) ?_
    refine o_end ?_
    refine za1 ?_
    refine c_ret ?_
    have e0_ := Option.some.inj h; clear h
    subst e0_
    exact x_r1 () Tryd.results63 (zab rfl) rfl (fun w h => za8 [] (by decide) rfl w h)
  · skip
    clear hl14
    have hr11 := hJ_.1; have hk17 := hJ_.2.1; have h := hJ_.2.2; clear hJ_
    replace h : impl_numbersText.l0 (y8 :: ys9) l4 i7 = some o15 := h
    rw [impl_numbersText.l0] at h
    refine c_seq ?_
    refine za0 ?_
    refine o_q rfl rfl (q_lss rfl rfl) ?_
    refine o_end ?_
    refine za1 ?_
    refine c_seq ?_
    refine c_true (congrArg Value.bool hr11.lt) ?_
    refine zak ?_
    refine za1 ?_
    refine c_seq ?_
    refine zaj ?_
    refine c_seq ?_
    refine za0 ?_
    refine o_fact (p := Sh A0 l0.length l0.length) (fun w h => f_sh (dk := (Kd.int .i64)) h (fun w h => R0.now Z h)) (fun hq20 => ?_)
    refine o_q rfl rfl (q_ix Tryd.underlying23 Z3 rfl rfl hq20 hr11.get) ?_
    refine o_q rfl rfl (q_lde (off := 0) Y3 rfl rfl (fun w h => R0.now Z h) hr11.get (fun _ _ h => h) rfl) ?_
    refine o_q rfl rfl (q_asg rfl) ?_
    refine o_end ?_
    refine za1 ?_
    refine za0 ?_
    refine o_q rfl rfl (za2 rfl) ?_
    refine o_q rfl rfl (za2 rfl) ?_
    refine za6 h (fun s22 hx21 h => ?_) rfl
    refine o_e rfl (za9 0 Z Tryd.func61 N61 rfl rfl rfl (fun w P1 hF hB hS hT => strconv_Itoa.calls y8 hB hF _ hx21)) (fun _ => ?_)
    refine o_e rfl (e_lit (vs := [(0, .string s22)]) (cs := [.string s22]) Kd.string ([s22] : List ByteArray) Tryd.underlying64 I9 (by decide) rfl (by decide) rfl rfl (fun _ _ => Kd.reps_scalar _)) (cur2 (fun A23 c24 => ?_))
    refine za6 h (fun l26 ha27 h => ?_) rfl
    refine o_e rfl (e_app (i := 1) (j := 0) Tryd.underlying64 I9 rfl (by decide) (by decide) rfl rfl rfl rfl rfl ha27) (cur2 (fun A28 c29 => ?_))
    refine o_q rfl rfl (q_asg rfl) ?_
    refine o_end ?_
    refine x_block ?_
    refine za1 ?_
    refine za0 ?_
    refine o_q rfl rfl (q_up rfl rfl (hr11.up hm12)) ?_
    refine o_q rfl rfl (za2 rfl) ?_
    refine o_end ?_
    refine zan ys9.length (ys9, l26, i7 + 1, A28, c29) (by rw [← hk17]; exact Nat.lt_succ_self _) ⟨hr11.step, rfl, h⟩ ⟨rfl, rfl, trivial⟩ (fun w h => za8 [1] (by decide) rfl w h) ?_
    repeat (first | exact zae _ _ | refine zal rfl ?_ | refine zaf rfl ?_ | refine zam rfl ?_)

/-! ### (*loop.example/g01098/impl.Plan).text: function 27 -/
def impl_Plan_text.l0 : (List SStep) → (List ByteArray) → Int → Option (List ByteArray)
  | [], l4, i7 => some l4
  | y8 :: ys9, l4, i7 => (strconv_Itoa.f y8.f0).bind fun s36 => (sap s36 (⟨#[42]⟩ : ByteArray)).bind fun s38 => (strconv_Itoa.f y8.f1).bind fun s40 => (sap s38 s40).bind fun s42 => (ap l4 ([s42] : List ByteArray)).bind fun l46 => impl_Plan_text.l0 ys9 l46 (i7 + 1)
def impl_Plan_text.f (a0_0 : Int) (l0_1 : List SStep) (l0_2 : List Int) : Option ByteArray := (impl_Plan_text.l0 l0_1 ([] : List ByteArray) 0).bind fun l4 => (strconv_Itoa.f a0_0).bind fun s19 => (sap s19 (⟨#[58]⟩ : ByteArray)).bind fun s21 => (impl_listed.f l4).bind fun s23 => (sap s21 s23).bind fun s25 => (sap s25 (⟨#[58]⟩ : ByteArray)).bind fun s27 => (impl_numbersText.f l0_2).bind fun s29 => (sap s27 s29).bind fun s31 => some s31
set_option maxHeartbeats 600000 in
set_option maxRecDepth 100000 in
theorem impl_Plan_text.calls {w0 ws : World} {P0 : Nat → Prop} (g0 : Nat) (a0_0 : Int) (A0_1 : Option Addr) (c0_1 : Nat) (n0_1 : Nat) (l0_1 : List SStep) (A0_2 : Option Addr) (c0_2 : Nat) (n0_2 : Nat) (l0_2 : List Int) (Z : Below w0.heap.size w0 ws) (hF : Fr w0 ws P0 [] ws) (R0_1 : Stable ws P0 (fun w => Kd.C kStep w A0_1 n0_1 l0_1)) (hc0_1 : n0_1 ≤ c0_1) (R0_2 : Stable ws P0 (fun w => Kd.C (Kd.int .i64) w A0_2 n0_2 l0_2)) (hc0_2 : n0_2 ≤ c0_2) (B0 : Stable ws P0 (fun w => w.heap[g0]? = some (.cells #[.int .i64 a0_0, .slice A0_1 n0_1 c0_1, .slice A0_2 n0_2 c0_2] 31 (0, 0)))) (r_1 : ByteArray) (h : impl_Plan_text.f a0_0 l0_1 l0_2 = some r_1) :
    Calls Tryd.prog 27 #[.pointer (some ⟨g0, 0, none⟩)] ws (Post1 w0 ws P0 (fun (_ : Unit) => .string r_1) (fun (_ : Unit) => [])) := by
  unfold impl_Plan_text.f at h
  obtain rfl := (R0_1 ws (KeptB.refl _ _)).1
  obtain rfl := (R0_2 ws (KeptB.refl _ _)).1
  refine enter Tryd.func27 rfl Tryd.ntmps27 rfl hF ?_
  refine c_seq ?_
  refine za0 ?_
  refine o_q rfl rfl (q_asg rfl) ?_
  refine o_end ?_
  refine za1 ?_
  refine c_seq ?_
  refine za0 ?_
  refine o_e rfl (e_lit0 Kd.string Tryd.underlying64 I9) (cur2 (fun A1 c2 => ?_))
  refine o_q rfl rfl (q_asg rfl) ?_
  refine o_end ?_
  refine za1 ?_
  refine c_seq ?_
  refine c_seq ?_
  refine za0 ?_
  refine o_q rfl rfl (za2 rfl) ?_
  refine o_q rfl rfl (q_nil rfl) ?_
  refine o_q rfl rfl (q_f F31_1 rfl) ?_
  refine o_q rfl rfl (q_ldb Y29 rfl (fun w h => B0.now Z h) rfl) ?_
  refine o_q rfl rfl (q_len Tryd.underlying29 rfl) ?_
  refine o_q rfl rfl (za2 rfl) ?_
  refine o_end ?_
  refine za1 ?_
  refine zaj ?_
  refine za6 h (fun o15 hl14 hR13 => ?_) rfl
  clear h
  refine c_fact (p := l0_1.length ≤ 9223372036854775807) (fun w h => (R0_1.now Z h).2.1) (fun hm12 => ?_)
  refine c_loopL (σ := (List SStep) × (List ByteArray) × Int × (Option Addr) × Nat) (fun k10 ((ys9, l4, i7, A5, c6) : (List SStep) × (List ByteArray) × Int × (Option Addr) × Nat) => Rg l0_1 i7 ys9 ∧ ys9.length = k10 ∧ impl_Plan_text.l0 ys9 l4 i7 = some o15) [3, 5, 12, 13, 14, 15, 16, 17, 18, 19, 20, 21, 22, 23, 24, 25, 26, 27] (fun ((ys9, l4, i7, A5, c6) : (List SStep) × (List ByteArray) × Int × (Option Addr) × Nat) => [(3, .slice A5 l4.length c6), (12, .int .i64 i7)]) (fun ((ys9, l4, i7, A5, c6) : (List SStep) × (List ByteArray) × Int × (Option Addr) × Nat) => [row Kd.string 9 (.slice A5 l4.length c6) l4]) l0_1.length (l0_1, ([] : List ByteArray), 0, A1, c2) ⟨Rg.start _, rfl, hl14⟩ ⟨rfl, rfl, trivial⟩ (fun w h => h) ?_
  refine fun k10 => cur5 (listC (fun l4 i7 A5 c6 U16 hJ_ => ?_) (fun y8 ys9 l4 i7 A5 c6 U16 hJ_ => ?_))
  · skip
    clear hl14
    have hr11 := hJ_.1; have hk17 := hJ_.2.1; have h := hJ_.2.2; clear hJ_
    replace h : impl_Plan_text.l0 [] l4 i7 = some o15 := h
    rw [impl_Plan_text.l0] at h
    refine c_seq ?_
    refine za0 ?_
    refine o_q rfl rfl (q_lss rfl rfl) ?_
    refine o_end ?_
    refine za1 ?_
    refine c_seq ?_
    refine c_false (congrArg Value.bool hr11.ge) ?_
    refine c_exit ?_
    refine za7 ?_
    refine za7 ?_
    have e_ := Option.some.inj h; replace h := hR13; rw [← e_] at h; clear e_
    refine x_hit ?_
    refine za1 ?_
    refine c_seq ?_
    refine a_start (ds := []) MO rfl ?_
    refine zaa 0 rfl rfl rfl (by kernel_rfl) (fun _ _ _ h => h) (za2 rfl) ?_
    refine zaa 1 rfl rfl rfl (by kernel_rfl) (fun _ _ _ h => h) (q_nil rfl) ?_
    refine zaa 2 rfl rfl rfl (by kernel_rfl) (fun _ _ _ h => h) (q_f F31_0 rfl) ?_
    refine a_take 3 rfl rfl rfl (by kernel_rfl) (fun _ _ _ h => h) (fun w h => h) (q_ldb Y3 rfl (fun w h => B0.now Z h) rfl) ?_
    refine zaa 6 rfl rfl rfl (by kernel_rfl) (fun _ _ _ h => h) (za2 rfl) ?_
    refine zaa 10 rfl rfl rfl (by kernel_rfl) (fun _ _ _ h => h) (za2 rfl) ?_
    refine zaa 11 rfl rfl rfl (by kernel_rfl) (fun _ _ _ h => h) (q_nil rfl) ?_
    refine zaa 12 rfl rfl rfl (by kernel_rfl) (fun _ _ _ h => h) (q_f F31_2 rfl) ?_
    refine a_take 13 rfl rfl rfl (by kernel_rfl) (fun _ _ _ h => h) (fun w h => h) (q_ldb Y23 rfl (fun w h => B0.now Z h) rfl) ?_
    refine za6 h (fun s19 hx18 h => ?_) rfl
    refine a_one 4 rfl rfl (by kernel_rfl) rfl (za9 0 Z Tryd.func61 N61 rfl rfl rfl (fun w P1 hF hB hS hT => strconv_Itoa.calls a0_0 hB hF _ hx18)) (fun s w h => h) (fun _ => ?_)
    refine za6 h (fun s21 hs20 h => ?_) rfl
    refine zaa 5 rfl rfl rfl (by kernel_rfl) (fun _ _ _ h => h) (q_sap rfl rfl hs20) ?_
    refine za6 h (fun s23 hx22 h => ?_) rfl
    refine a_one 7 rfl rfl (by kernel_rfl) rfl (za9 0 Z Tryd.func62 N62 rfl rfl rfl (fun w P1 hF hB hS hT => impl_listed.calls A5 c6 l4.length l4 hB hF (hT 0 _ rfl).row (hT 0 _ rfl).cap _ hx22)) (fun s w h => h) (fun _ => ?_)
    refine za6 h (fun s25 hs24 h => ?_) rfl
    refine zaa 8 rfl rfl rfl (by kernel_rfl) (fun _ _ _ h => h) (q_sap rfl rfl hs24) ?_
    refine za6 h (fun s27 hs26 h => ?_) rfl
    refine zaa 9 rfl rfl rfl (by kernel_rfl) (fun _ _ _ h => h) (q_sap rfl rfl hs26) ?_
    refine za6 h (fun s29 hx28 h => ?_) rfl
    refine a_one 14 rfl rfl (by kernel_rfl) rfl (za9 0 Z Tryd.func63 N63 rfl rfl rfl (fun w P1 hF hB hS hT => impl_numbersText.calls A0_2 c0_2 l0_2.length l0_2 hB hF (hS _ R0_2) hc0_2 _ hx28)) (fun s w h => h) (fun _ => ?_)
    refine za6 h (fun s31 hs30 h => ?_) rfl
    refine zaa 15 rfl rfl rfl (by kernel_rfl) (fun _ _ _ h => h) (q_sap rfl rfl hs30) ?_
    refine zaa 16 rfl rfl rfl (by kernel_rfl) (fun _ _ _ h => h) (q_asg rfl) ?_
    refine a_done (by kernel_rfl) ?_
    refine za1 ?_
    refine c_ret ?_
    have e0_ := Option.some.inj h; clear h
    subst e0_
    exact x_r1 () Tryd.results27 (zab rfl) rfl (fun w h => za8 [] (by decide) rfl w h)
  · skip
    clear hl14
    have hr11 := hJ_.1; have hk17 := hJ_.2.1; have h := hJ_.2.2; clear hJ_
    replace h : impl_Plan_text.l0 (y8 :: ys9) l4 i7 = some o15 := h
    rw [impl_Plan_text.l0] at h
    refine c_seq ?_
    refine za0 ?_
    refine o_q rfl rfl (q_lss rfl rfl) ?_
    refine o_end ?_
    refine za1 ?_
    refine c_seq ?_
    refine c_true (congrArg Value.bool hr11.lt) ?_
    refine zak ?_
    refine za1 ?_
    refine c_seq ?_
    refine zaj ?_
    refine c_seq ?_
    refine za0 ?_
    refine o_fact (p := Sh A0_1 l0_1.length l0_1.length) (fun w h => f_sh (dk := kStep) h (fun w h => R0_1.now Z h)) (fun hq32 => ?_)
    refine o_q rfl rfl (q_ix Tryd.underlying29 Z69 rfl rfl hq32 hr11.get) ?_
    refine o_q rfl rfl (q_ldE G69 Z69 rfl rfl (fun w h => R0_1.now Z h) hr11.get (fun _ _ h => h) rfl) ?_
    refine o_e rfl (e_alloc V69 rfl) (fun g33 => ?_)
    refine o_e rfl (e_storeA (i := 0) rfl rfl rfl Z69 rfl rfl) (fun _ => ?_)
    refine o_end ?_
    refine za1 ?_
    refine a_startS (ds := []) [some 0, none] MO rfl ?_
    refine zaa 0 rfl rfl rfl (by kernel_rfl) (fun _ _ _ h => h) (za2 rfl) ?_
    refine zaa 1 rfl rfl rfl (by kernel_rfl) (fun _ _ _ h => h) (q_f F69_0 rfl) ?_
    refine a_take 2 rfl rfl rfl (by kernel_rfl) (fun _ _ _ h => h) (fun w h => zac [some 0, none] (by decide) w h rfl) (q_ldb Y3 rfl (fun w h => h.zai (i := 0) rfl) rfl) ?_
    refine zaa 5 rfl rfl rfl (by kernel_rfl) (fun _ _ _ h => h) (q_f F69_1 rfl) ?_
    refine a_take 6 rfl rfl rfl (by kernel_rfl) (fun _ _ _ h => h) (fun w h => zac [some 0, none] (by decide) w h rfl) (q_ldb Y3 rfl (fun w h => h.zai (i := 0) rfl) rfl) ?_
    refine za6 h (fun s36 hx35 h => ?_) rfl
    refine a_one 3 rfl rfl (by kernel_rfl) rfl (za9 0 Z Tryd.func61 N61 rfl rfl rfl (fun w P1 hF hB hS hT => strconv_Itoa.calls y8.f0 hB hF _ hx35)) (fun s w h => zac [some 0, none] (by decide) w h rfl) (fun _ => ?_)
    refine za6 h (fun s38 hs37 h => ?_) rfl
    refine zaa 4 rfl rfl rfl (by kernel_rfl) (fun _ _ _ h => h) (q_sap rfl rfl hs37) ?_
    refine za6 h (fun s40 hx39 h => ?_) rfl
    refine a_one 7 rfl rfl (by kernel_rfl) rfl (za9 0 Z Tryd.func61 N61 rfl rfl rfl (fun w P1 hF hB hS hT => strconv_Itoa.calls y8.f1 hB hF _ hx39)) (fun s w h => zac [some 0, none] (by decide) w h rfl) (fun _ => ?_)
    refine za6 h (fun s42 hs41 h => ?_) rfl
    refine zaa 8 rfl rfl rfl (by kernel_rfl) (fun _ _ _ h => h) (q_sap rfl rfl hs41) ?_
    refine a_one 9 rfl rfl (by kernel_rfl) rfl (e_lit (vs := [(0, .string s42)]) (cs := [.string s42]) Kd.string ([s42] : List ByteArray) Tryd.underlying64 I9 (by decide) rfl (by decide) rfl rfl (fun _ _ => Kd.reps_scalar _)) (fun s w h => zac [some 1, none] (by decide) w h rfl) (cur2 (fun A43 c44 => ?_))
    refine za6 h (fun l46 ha47 h => ?_) rfl
    refine a_one 10 rfl rfl (by kernel_rfl) rfl (e_app (i := 2) (j := 0) Tryd.underlying64 I9 rfl (by decide) (by decide) rfl rfl rfl rfl rfl ha47) (fun s w h => zac [some 1, none] (by decide) w h rfl) (cur2 (fun A48 c49 => ?_))
    refine zaa 11 rfl rfl rfl (by kernel_rfl) (fun _ _ _ h => h) (q_asg rfl) ?_
    refine a_done (by kernel_rfl) ?_
    refine x_block ?_
    refine za1 ?_
    refine za0 ?_
    refine o_q rfl rfl (q_up rfl rfl (hr11.up hm12)) ?_
    refine o_q rfl rfl (za2 rfl) ?_
    refine o_end ?_
    refine zan ys9.length (ys9, l46, i7 + 1, A48, c49) (by rw [← hk17]; exact Nat.lt_succ_self _) ⟨hr11.step, rfl, h⟩ ⟨rfl, rfl, trivial⟩ (fun w h => za8 [2] (by decide) rfl w h) ?_
    repeat (first | exact zae _ _ | refine zal rfl ?_ | refine zaf rfl ?_ | refine zam rfl ?_)

/-! ### loop.example/g01098/impl.ParsePlan: function 17 -/
def impl_ParsePlan.l0 : (List ByteArray) → (List SStep) → Int → Option (List SStep)
  | [], l1588, i1591 => some l1588
  | y1592 :: ys1593, l1588, i1591 => (strings_Cut.f y1592 (⟨#[42]⟩ : ByteArray)).bind fun (s1621, s1622, b1623) => (impl_numberOf.f s1621).bind fun i1806 => (impl_numberOf.f s1622).bind fun i1926 => (ap l1588 ([(⟨i1806, i1926⟩ : SStep)] : List SStep)).bind fun l2105 => impl_ParsePlan.l0 ys1593 l2105 (i1591 + 1)
def impl_ParsePlan.f (k : Nat) (a0 : ByteArray) : Option (Int × (List SStep) × (List Int) × Bool) := (strings_SplitN.f a0 (⟨#[58]⟩ : ByteArray) 4).bind fun l4 => if (l4.length : Int) ≠ 3 then (some (0, ([] : List SStep), ([] : List Int), false)) else (((gt l4 0).bind fun y862 => (impl_numberOf.f y862).bind fun i981 => (gt l4 2).bind fun y1101 => (impl_parts.f y1101 6).bind fun l1221 => (impl_numbersOf.f l1221).bind fun l1281 => some (i981, l1281)).bind fun (i790, l791) => (gt l4 1).bind fun y1582 => (impl_parts.f y1582 40).bind fun l1584 => (impl_ParsePlan.l0 l1584 ([] : List SStep) 0).bind fun l1588 => ((impl_IsPlan.f k i790 l1588 l791).bind fun b1614 => if b1614 = true then ((impl_Plan_text.f i790 l1588 l791).bind fun s1617 => some (decide (s1617 ≠ a0))) else (some true)).bind fun b1607 => if b1607 = true then (some (0, ([] : List SStep), ([] : List Int), false)) else (some (i790, l1588, l791, true)))
set_option maxHeartbeats 600000 in
set_option maxRecDepth 100000 in
theorem impl_ParsePlan.calls (k : Nat) {w0 ws : World} {P0 : Nat → Prop} (a0 : ByteArray) (Z : Below w0.heap.size w0 ws) (hF : Fr w0 ws P0 [] ws) (GW : Stable ws P0 GP) (r_1 : Int) (r_2 : List SStep) (r_5 : List Int) (r_8 : Bool) (h : impl_ParsePlan.f k a0 = some (r_1, r_2, r_5, r_8)) :
    Calls Tryd.prog 17 #[.string a0] ws (Post1 w0 ws P0 (fun ((q_3, q_4, q_6, q_7) : (Option Addr) × Nat × (Option Addr) × Nat) => .tuple #[.agg #[.int .i64 r_1, .slice q_3 r_2.length q_4, .slice q_6 r_5.length q_7], .bool r_8]) (fun ((q_3, q_4, q_6, q_7) : (Option Addr) × Nat × (Option Addr) × Nat) => [row kStep 69 (.slice q_3 r_2.length q_4) r_2, row (Kd.int .i64) 3 (.slice q_6 r_5.length q_7) r_5])) := by
  unfold impl_ParsePlan.f at h
  refine enter Tryd.func17 rfl Tryd.ntmps17 rfl hF ?_
  refine c_seq ?_
  refine za0 ?_
  refine o_e rfl (e_alloc V31 rfl) (fun g1 => ?_)
  refine o_q rfl rfl (q_asg rfl) ?_
  refine o_end ?_
  refine za1 ?_
  refine c_seq ?_
  refine za0 ?_
  refine o_q rfl rfl (za2 rfl) ?_
  refine za6 h (fun l4 hx3 h => ?_) rfl
  refine o_e rfl (za9 0 Z Tryd.func41 N41 rfl rfl rfl (fun w P1 hF hB hS hT => strings_SplitN.calls a0 (⟨#[58]⟩ : ByteArray) 4 hB hF (hS _ GW) _ hx3)) (cur2 (fun A5 c6 => ?_))
  refine o_q rfl rfl (q_asg rfl) ?_
  refine o_end ?_
  refine za1 ?_
  refine c_seq ?_
  refine c_seq ?_
  refine za0 ?_
  refine o_q rfl rfl (za2 rfl) ?_
  refine o_q rfl rfl (q_len Tryd.underlying64 rfl) ?_
  refine o_q rfl rfl (q_neq rfl rfl) ?_
  refine o_end ?_
  refine za1 ?_
  refine zao _ rfl (fun hb7 => ?_) (fun hb7 => ?_)
  · skip
    replace h := br_t hb7 h
    refine c_seq ?_
    refine za0 ?_
    refine o_q rfl rfl (q_build (vs := []) (cs := [.int .i64 0, .slice none 0 0, .slice none 0 0]) rfl rfl) ?_
    refine o_e rfl (e_storeA (i := 1) rfl rfl rfl Z31 rfl rfl) (fun _ => ?_)
    refine o_q rfl rfl (q_asg rfl) ?_
    refine o_end ?_
    refine za1 ?_
    refine c_ret ?_
    refine za3 ?_
    refine x_nil kStep 69 ?_
    refine x_nil (Kd.int .i64) 3 ?_
    have e0_ := Option.some.inj h; clear h
    have d0_ := (Prod.mk.inj e0_).1; have e1_ := (Prod.mk.inj e0_).2; clear e0_; subst d0_
    have d1_ := (Prod.mk.inj e1_).1; have e2_ := (Prod.mk.inj e1_).2; clear e1_; subst d1_
    have d2_ := (Prod.mk.inj e2_).1; have e3_ := (Prod.mk.inj e2_).2; clear e2_; subst d2_
    subst e3_
    exact x_r2 (none, 0, none, 0) Tryd.results17 (rv_cell rfl G31 Z31 (fun w h => h.zai (i := 3) rfl) rfl) (zab rfl) rfl (fun w h => za8 [1, 0] (by decide) rfl w h)
  · skip
    replace h := br_f hb7 h
    refine zak ?_
    refine za1 ?_
    refine za6 h (fun o794 hl795 hR796 => ?_) rfl
    clear h
    refine c_cutJ (σ := Int × (List Int) × Nat × (Option Addr) × Nat) (fun (i790, l791, g789, A792, c793) => some (i790, l791) = some o794) [5, 17, 18, 19, 20, 21, 22, 23, 24, 25, 26] (fun (i790, l791, g789, A792, c793) => [(5, .pointer (some ⟨g789, 0, none⟩))]) (fun (i790, l791, g789, A792, c793) => [box g1 31 #[.int .i64 0, .slice none 0 0, .slice none 0 0], row Kd.string 9 (.slice A5 l4.length c6) l4, box g789 31 #[.int .i64 i790, .slice none 0 0, .slice A792 l791.length c793], row (Kd.int .i64) 3 (.slice A792 l791.length c793) l791]) ?_ ?_
    · skip
      have h := hl795; clear hl795
      clear hR796
      refine za6 h (fun y862 hg861 h => ?_) rfl
      refine za6 h (fun i981 hx980 h => ?_) rfl
      refine za6 h (fun y1101 hg1100 h => ?_) rfl
      refine za6 h (fun l1221 hx1220 h => ?_) rfl
      refine za6 h (fun l1281 hx1280 h => ?_) rfl
      refine a_start (ds := []) MO rfl ?_
      refine zaa 0 rfl rfl rfl (by kernel_rfl) (fun _ _ _ h => h) (za2 rfl) ?_
      refine a_fact (p := Sh A5 l4.length l4.length) (fun w h => f_sh (dk := Kd.string) h (fun w h => h.zar (i := 0) rfl)) (fun hq860 => ?_)
      refine zaa 1 rfl rfl rfl (by kernel_rfl) (fun _ _ _ h => h) (q_ix Tryd.underlying64 Z9 rfl rfl hq860 hg861) ?_
      refine a_take 2 rfl rfl rfl (by kernel_rfl) (fun _ _ _ h => h) (fun w h => h) (q_lde (off := 0) Y9 rfl rfl (fun w h => h.zar (i := 0) rfl) hg861 (fun _ _ h => h) rfl) ?_
      refine zaa 4 rfl rfl rfl (by kernel_rfl) (fun _ _ _ h => h) (za2 rfl) ?_
      refine zaa 5 rfl rfl rfl (by kernel_rfl) (fun _ _ _ h => h) (q_ix Tryd.underlying64 Z9 rfl rfl hq860 hg1100) ?_
      refine a_take 6 rfl rfl rfl (by kernel_rfl) (fun _ _ _ h => h) (fun w h => h) (q_lde (off := 0) Y9 rfl rfl (fun w h => h.zar (i := 0) rfl) hg1100 (fun _ _ h => h) rfl) ?_
      refine a_two 3 10 rfl rfl rfl rfl (by kernel_rfl) rfl rfl (za9 0 Z Tryd.func42 N42 rfl rfl rfl (fun w P1 hF hB hS hT => impl_numberOf.calls y862 hB hF (hS _ GW) _ hx980)) (fun s w h => h) (e_alloc V31 rfl) (fun s w h => zac [some 1, some 2] (by decide) w h rfl) (fun _ => ?_) (fun g1400 => ?_)
      · skip
        refine a_two 7 10 rfl rfl rfl rfl (by kernel_rfl) rfl rfl (za9 0 Z Tryd.func44 N44 rfl rfl rfl (fun w P1 hF hB hS hT => impl_parts.calls y1101 6 hB hF (hS _ GW) _ hx1220)) (fun s w h => zac [some 1, some 2] (by decide) w h rfl) (e_alloc V31 rfl) (fun s w h => zac [some 1, some 2] (by decide) w h rfl) (cur2 (fun A1222 c1223 => ?_)) (fun g1400 => ?_)
        · skip
          refine a_two 8 10 rfl rfl rfl rfl (by kernel_rfl) rfl rfl (za9 0 Z Tryd.func43 N43 rfl rfl rfl (fun w P1 hF hB hS hT => impl_numbersOf.calls A1222 c1223 l1221.length l1221 hB hF (hT 0 _ rfl).row (hT 0 _ rfl).cap (hS _ GW) _ hx1280)) (fun s w h => zac [some 2, some 3] (by decide) w h rfl) (e_alloc V31 rfl) (fun s w h => zac [some 2, some 3] (by decide) w h rfl) (cur2 (fun A1282 c1283 => ?_)) (fun g1400 => ?_)
          · skip
            refine zaa 9 rfl rfl rfl (by kernel_rfl) (fun _ _ _ h => h) (q_build (vs := [(0, .int .i64 i981), (2, .slice A1282 l1281.length c1283)]) (cs := [.int .i64 i981, .slice none 0 0, .slice A1282 l1281.length c1283]) rfl rfl) ?_
            refine a_one 10 rfl rfl (by kernel_rfl) rfl (e_alloc V31 rfl) (fun s w h => zac [some 3, some 4] (by decide) w h rfl) (fun g1400 => ?_)
            refine a_one 11 rfl rfl (by kernel_rfl) rfl (e_storeA (i := 0) rfl rfl rfl Z31 rfl rfl) (fun s w h => zac [some 3, some 4] (by decide) w h rfl) (fun _ => ?_)
            refine a_done (by kernel_rfl) ?_
            refine x_meetJ (i981, l1281, g1400, A1282, c1283) h ⟨rfl, trivial⟩ (fun w h => za8 [4, 3, 0, 1] (by decide) rfl w h) ?_
            repeat (first | exact zae _ _ | refine zal rfl ?_ | refine zaf rfl ?_ | refine zam rfl ?_)
          · skip
            refine a_one 8 rfl rfl (by kernel_rfl) rfl (za9 0 Z Tryd.func43 N43 rfl rfl rfl (fun w P1 hF hB hS hT => impl_numbersOf.calls A1222 c1223 l1221.length l1221 hB hF (hT 1 _ rfl).row (hT 1 _ rfl).cap (hS _ GW) _ hx1280)) (fun s w h => zac [some 3, some 4] (by decide) w h rfl) (cur2 (fun A1282 c1283 => ?_))
            refine zaa 9 rfl rfl rfl (by kernel_rfl) (fun _ _ _ h => h) (q_build (vs := [(0, .int .i64 i981), (2, .slice A1282 l1281.length c1283)]) (cs := [.int .i64 i981, .slice none 0 0, .slice A1282 l1281.length c1283]) rfl rfl) ?_
            refine a_one 11 rfl rfl (by kernel_rfl) rfl (e_storeA (i := 1) rfl rfl rfl Z31 rfl rfl) (fun s w h => zac [some 3, some 4] (by decide) w h rfl) (fun _ => ?_)
            refine a_done (by kernel_rfl) ?_
            refine x_meetJ (i981, l1281, g1400, A1282, c1283) h ⟨rfl, trivial⟩ (fun w h => za8 [4, 3, 1, 0] (by decide) rfl w h) ?_
            repeat (first | exact zae _ _ | refine zal rfl ?_ | refine zaf rfl ?_ | refine zam rfl ?_)
        · skip
          refine a_one 7 rfl rfl (by kernel_rfl) rfl (za9 0 Z Tryd.func44 N44 rfl rfl rfl (fun w P1 hF hB hS hT => impl_parts.calls y1101 6 hB hF (hS _ GW) _ hx1220)) (fun s w h => zac [some 2, some 3] (by decide) w h rfl) (cur2 (fun A1222 c1223 => ?_))
          refine a_one 8 rfl rfl (by kernel_rfl) rfl (za9 0 Z Tryd.func43 N43 rfl rfl rfl (fun w P1 hF hB hS hT => impl_numbersOf.calls A1222 c1223 l1221.length l1221 hB hF (hT 0 _ rfl).row (hT 0 _ rfl).cap (hS _ GW) _ hx1280)) (fun s w h => zac [some 3, some 4] (by decide) w h rfl) (cur2 (fun A1282 c1283 => ?_))
          refine zaa 9 rfl rfl rfl (by kernel_rfl) (fun _ _ _ h => h) (q_build (vs := [(0, .int .i64 i981), (2, .slice A1282 l1281.length c1283)]) (cs := [.int .i64 i981, .slice none 0 0, .slice A1282 l1281.length c1283]) rfl rfl) ?_
          refine a_one 11 rfl rfl (by kernel_rfl) rfl (e_storeA (i := 2) rfl rfl rfl Z31 rfl rfl) (fun s w h => zac [some 3, some 4] (by decide) w h rfl) (fun _ => ?_)
          refine a_done (by kernel_rfl) ?_
          refine x_meetJ (i981, l1281, g1400, A1282, c1283) h ⟨rfl, trivial⟩ (fun w h => za8 [4, 3, 2, 0] (by decide) rfl w h) ?_
          repeat (first | exact zae _ _ | refine zal rfl ?_ | refine zaf rfl ?_ | refine zam rfl ?_)
      · skip
        refine a_one 3 rfl rfl (by kernel_rfl) rfl (za9 0 Z Tryd.func42 N42 rfl rfl rfl (fun w P1 hF hB hS hT => impl_numberOf.calls y862 hB hF (hS _ GW) _ hx980)) (fun s w h => zac [some 1, some 2] (by decide) w h rfl) (fun _ => ?_)
        refine a_one 7 rfl rfl (by kernel_rfl) rfl (za9 0 Z Tryd.func44 N44 rfl rfl rfl (fun w P1 hF hB hS hT => impl_parts.calls y1101 6 hB hF (hS _ GW) _ hx1220)) (fun s w h => zac [some 2, some 3] (by decide) w h rfl) (cur2 (fun A1222 c1223 => ?_))
        refine a_one 8 rfl rfl (by kernel_rfl) rfl (za9 0 Z Tryd.func43 N43 rfl rfl rfl (fun w P1 hF hB hS hT => impl_numbersOf.calls A1222 c1223 l1221.length l1221 hB hF (hT 0 _ rfl).row (hT 0 _ rfl).cap (hS _ GW) _ hx1280)) (fun s w h => zac [some 3, some 4] (by decide) w h rfl) (cur2 (fun A1282 c1283 => ?_))
        refine zaa 9 rfl rfl rfl (by kernel_rfl) (fun _ _ _ h => h) (q_build (vs := [(0, .int .i64 i981), (2, .slice A1282 l1281.length c1283)]) (cs := [.int .i64 i981, .slice none 0 0, .slice A1282 l1281.length c1283]) rfl rfl) ?_
        refine a_one 11 rfl rfl (by kernel_rfl) rfl (e_storeA (i := 2) rfl rfl rfl Z31 rfl rfl) (fun s w h => zac [some 3, some 4] (by decide) w h rfl) (fun _ => ?_)
        refine a_done (by kernel_rfl) ?_
        refine x_meetJ (i981, l1281, g1400, A1282, c1283) h ⟨rfl, trivial⟩ (fun w h => za8 [4, 3, 2, 0] (by decide) rfl w h) ?_
        repeat (first | exact zae _ _ | refine zal rfl ?_ | refine zaf rfl ?_ | refine zam rfl ?_)
    · skip
      refine (cur5 (fun i790 l791 g789 A792 c793 => fun U797 hJ798 => ?_))
      have e_ := Option.some.inj hJ798; have h := hR796; rw [← e_] at h; clear e_ hJ798 hR796 hl795
      refine c_seq ?_
      refine c_seq ?_
      refine za0 ?_
      refine o_q rfl rfl (za2 rfl) ?_
      refine o_fact (p := Sh A5 l4.length l4.length) (fun w h => f_sh (dk := Kd.string) h (fun w h => h.zar (i := 1) rfl)) (fun hq1580 => ?_)
      refine za6 h (fun y1582 hg1581 h => ?_) rfl
      refine o_q rfl rfl (q_ix Tryd.underlying64 Z9 rfl rfl hq1580 hg1581) ?_
      refine o_q rfl rfl (q_lde (off := 0) Y9 rfl rfl (fun w h => h.zar (i := 1) rfl) hg1581 (fun _ _ h => h) rfl) ?_
      refine za6 h (fun l1584 hx1583 h => ?_) rfl
      refine o_e rfl (za9 0 Z Tryd.func44 N44 rfl rfl rfl (fun w P1 hF hB hS hT => impl_parts.calls y1582 40 hB hF (hS _ GW) _ hx1583)) (cur2 (fun A1585 c1586 => ?_))
      refine o_q rfl rfl (q_len Tryd.underlying64 rfl) ?_
      refine o_q rfl rfl (za2 rfl) ?_
      refine o_end ?_
      refine za1 ?_
      refine zaj ?_
      refine c_nil kStep 69 ?_
      refine za6 h (fun o1599 hl1598 hR1597 => ?_) rfl
      clear h
      refine c_fact (p := l1584.length ≤ 9223372036854775807) (fun w h => (h.zar (i := 1) rfl).2.1) (fun hm1596 => ?_)
      refine c_loopL (σ := (List ByteArray) × (List SStep) × Int × (Option Addr) × Nat) (fun k1594 ((ys1593, l1588, i1591, A1589, c1590) : (List ByteArray) × (List SStep) × Int × (Option Addr) × Nat) => Rg l1584 i1591 ys1593 ∧ ys1593.length = k1594 ∧ impl_ParsePlan.l0 ys1593 l1588 i1591 = some o1599) [7, 8, 9, 10, 32, 33, 34, 35, 36, 37, 38, 39, 40, 41, 42, 43, 44, 45, 46, 47, 48, 49, 50, 51, 52] (fun ((ys1593, l1588, i1591, A1589, c1590) : (List ByteArray) × (List SStep) × Int × (Option Addr) × Nat) => [(32, .int .i64 i1591)]) (fun ((ys1593, l1588, i1591, A1589, c1590) : (List ByteArray) × (List SStep) × Int × (Option Addr) × Nat) => [row kStep 69 (.slice A1589 l1588.length c1590) l1588, row Kd.string 9 (.slice A1585 l1584.length c1586) l1584, box g1 31 #[.int .i64 0, .slice none 0 0, .slice none 0 0], row Kd.string 9 (.slice A5 l4.length c6) l4, box g789 31 #[.int .i64 i790, .slice A1589 l1588.length c1590, .slice A792 l791.length c793], row (Kd.int .i64) 3 (.slice A792 l791.length c793) l791]) l1584.length (l1584, ([] : List SStep), 0, none, 0) ⟨Rg.start _, rfl, hl1598⟩ ⟨rfl, trivial⟩ (fun w h => h) ?_
      refine fun k1594 => cur5 (listC (fun l1588 i1591 A1589 c1590 U1600 hJ_ => ?_) (fun y1592 ys1593 l1588 i1591 A1589 c1590 U1600 hJ_ => ?_))
      · skip
        clear hl1598
        have hr1595 := hJ_.1; have hk1601 := hJ_.2.1; have h := hJ_.2.2; clear hJ_
        replace h : impl_ParsePlan.l0 [] l1588 i1591 = some o1599 := h
        rw [impl_ParsePlan.l0] at h
        refine c_seq ?_
        refine za0 ?_
        refine o_q rfl rfl (q_lss rfl rfl) ?_
        refine o_end ?_
        refine za1 ?_
        refine c_seq ?_
        refine c_false (congrArg Value.bool hr1595.ge) ?_
        refine c_exit ?_
        refine za7 ?_
        refine za7 ?_
        have e_ := Option.some.inj h; replace h := hR1597; rw [← e_] at h; clear e_
        refine x_hit ?_
        refine za1 ?_
        refine c_seq ?_
        refine za6 h (fun o1608 hl1609 hR1610 => ?_) rfl
        clear h
        refine c_cutJ (σ := Bool) (fun b1607 => some b1607 = some o1608) [53, 54, 55, 56, 57, 58, 59, 60] (fun b1607 => [(60, .bool b1607)]) (fun b1607 => [box g1 31 #[.int .i64 0, .slice none 0 0, .slice none 0 0], box g789 31 #[.int .i64 i790, .slice A1589 l1588.length c1590, .slice A792 l791.length c793], row kStep 69 (.slice A1589 l1588.length c1590) l1588, row (Kd.int .i64) 3 (.slice A792 l791.length c793) l791, row Kd.string 9 (.slice A1585 l1584.length c1586) l1584, row Kd.string 9 (.slice A5 l4.length c6) l4]) ?_ ?_
        · skip
          have h := hl1609; clear hl1609
          clear hR1610
          refine za0 ?_
          refine o_q rfl rfl (q_ldB G31 Z31 rfl (fun w h => h.zai (i := 4) rfl) rfl) ?_
          refine za6 h (fun b1614 hx1613 h => ?_) rfl
          refine o_e rfl (za9 0 Z Tryd.func26 N26 rfl rfl rfl (fun w P1 hF hB hS hT => impl_IsPlan.calls k i790 A1589 c1590 l1588.length l1588 A792 c793 l791.length l791 hB hF (hT 0 _ rfl).row (hT 0 _ rfl).cap (hT 5 _ rfl).row (hT 5 _ rfl).cap _ hx1613)) (fun _ => ?_)
          refine o_q rfl rfl (q_not rfl) ?_
          refine o_q rfl rfl (za2 rfl) ?_
          refine byB b1614 (fun hb1615 => ?_) (fun hb1615 => ?_)
          · replace h := bb_t hb1615 h
            refine za6 h (fun s1617 hx1616 h => ?_) rfl
            refine o_ew (za5 rfl rfl rfl (congrArg (fun b => Value.bool (!(b))) hb1615)) (za9 0 Z Tryd.func27 N27 rfl rfl rfl (fun w P1 hF hB hS hT => impl_Plan_text.calls g789 i790 A1589 c1590 l1588.length l1588 A792 c793 l791.length l791 hB hF (hT 0 _ rfl).row (hT 0 _ rfl).cap (hT 5 _ rfl).row (hT 5 _ rfl).cap (hT 4 _ rfl).box _ hx1616)) (fun _ => ?_)
            refine o_w (za5 rfl rfl rfl (congrArg (fun b => Value.bool (!(b))) hb1615)) rfl (za2 rfl) ?_
            refine o_w (za5 rfl rfl rfl (congrArg (fun b => Value.bool (!(b))) hb1615)) rfl (q_sneq rfl rfl) ?_
            refine o_q rfl rfl (q_pick false (congrArg (fun b => Value.bool (!(b))) hb1615) rfl) ?_
            refine o_end ?_
            refine x_meetJ (decide (s1617 ≠ a0)) h ⟨rfl, trivial⟩ (fun w h => za8 [2, 4, 0, 5, 1, 3] (by decide) rfl w h) ?_
            repeat (first | exact zae _ _ | refine zal rfl ?_ | refine zaf rfl ?_ | refine zam rfl ?_)
          · replace h := bb_f hb1615 h
            refine @o_n _ _ _ _ _ _ _ _ _ _ _ 57 (za4 rfl rfl rfl (congrArg (fun b => Value.bool (!(b))) hb1615) rfl) (Eq.refl (some 57)) ?_
            refine @o_n _ _ _ _ _ _ _ _ _ _ _ 58 (za4 rfl rfl rfl (congrArg (fun b => Value.bool (!(b))) hb1615) rfl) (Eq.refl (some 58)) ?_
            refine @o_n _ _ _ _ _ _ _ _ _ _ _ 59 (za4 rfl rfl rfl (congrArg (fun b => Value.bool (!(b))) hb1615) rfl) (Eq.refl (some 59)) ?_
            refine o_q rfl rfl (q_pick true (congrArg (fun b => Value.bool (!(b))) hb1615) rfl) ?_
            refine o_end ?_
            refine x_meetJ true h ⟨rfl, trivial⟩ (fun w h => za8 [2, 4, 0, 5, 1, 3] (by decide) rfl w h) ?_
            repeat (first | exact zae _ _ | refine zal rfl ?_ | refine zaf rfl ?_ | refine zam rfl ?_)
        · skip
          refine (fun b1607 => fun U1611 hJ1612 => ?_)
          have e_ := Option.some.inj hJ1612; have h := hR1610; rw [← e_] at h; clear e_ hJ1612 hR1610 hl1609
          refine zao _ rfl (fun hb1618 => ?_) (fun hb1618 => ?_)
          · skip
            replace h := bb_t hb1618 h
            refine c_seq ?_
            refine za0 ?_
            refine o_q rfl rfl (q_build (vs := []) (cs := [.int .i64 0, .slice none 0 0, .slice none 0 0]) rfl rfl) ?_
            refine o_e rfl (e_storeA (i := 0) rfl rfl rfl Z31 rfl rfl) (fun _ => ?_)
            refine o_q rfl rfl (q_asg rfl) ?_
            refine o_end ?_
            refine za1 ?_
            refine c_ret ?_
            refine za3 ?_
            refine x_nil kStep 69 ?_
            refine x_nil (Kd.int .i64) 3 ?_
            have e0_ := Option.some.inj h; clear h
            have d0_ := (Prod.mk.inj e0_).1; have e1_ := (Prod.mk.inj e0_).2; clear e0_; subst d0_
            have d1_ := (Prod.mk.inj e1_).1; have e2_ := (Prod.mk.inj e1_).2; clear e1_; subst d1_
            have d2_ := (Prod.mk.inj e2_).1; have e3_ := (Prod.mk.inj e2_).2; clear e2_; subst d2_
            subst e3_
            exact x_r2 (none, 0, none, 0) Tryd.results17 (rv_cell rfl G31 Z31 (fun w h => h.zai (i := 2) rfl) rfl) (zab rfl) rfl (fun w h => za8 [1, 0] (by decide) rfl w h)
          · skip
            replace h := bb_f hb1618 h
            refine zak ?_
            refine za1 ?_
            refine c_seq ?_
            refine za0 ?_
            refine o_q rfl rfl (q_ldB G31 Z31 rfl (fun w h => h.zai (i := 1) rfl) rfl) ?_
            refine o_e rfl (e_storeA (i := 0) rfl rfl rfl Z31 rfl rfl) (fun _ => ?_)
            refine o_q rfl rfl (q_asg rfl) ?_
            refine o_end ?_
            refine za1 ?_
            refine c_ret ?_
            have e0_ := Option.some.inj h; clear h
            have d0_ := (Prod.mk.inj e0_).1; have e1_ := (Prod.mk.inj e0_).2; clear e0_; subst d0_
            have d1_ := (Prod.mk.inj e1_).1; have e2_ := (Prod.mk.inj e1_).2; clear e1_; subst d1_
            have d2_ := (Prod.mk.inj e2_).1; have e3_ := (Prod.mk.inj e2_).2; clear e2_; subst d2_
            subst e3_
            exact x_r2 (A1589, c1590, A792, c793) Tryd.results17 (rv_cell rfl G31 Z31 (fun w h => h.zai (i := 0) rfl) rfl) (zab rfl) rfl (fun w h => za8 [2, 3] (by decide) rfl w h)
      · skip
        clear hl1598
        have hr1595 := hJ_.1; have hk1601 := hJ_.2.1; have h := hJ_.2.2; clear hJ_
        replace h : impl_ParsePlan.l0 (y1592 :: ys1593) l1588 i1591 = some o1599 := h
        rw [impl_ParsePlan.l0] at h
        refine c_seq ?_
        refine za0 ?_
        refine o_q rfl rfl (q_lss rfl rfl) ?_
        refine o_end ?_
        refine za1 ?_
        refine c_seq ?_
        refine c_true (congrArg Value.bool hr1595.lt) ?_
        refine zak ?_
        refine za1 ?_
        refine c_seq ?_
        refine zaj ?_
        refine c_seq ?_
        refine za0 ?_
        refine o_fact (p := Sh A1585 l1584.length l1584.length) (fun w h => f_sh (dk := Kd.string) h (fun w h => h.zar (i := 1) rfl)) (fun hq1619 => ?_)
        refine o_q rfl rfl (q_ix Tryd.underlying64 Z9 rfl rfl hq1619 hr1595.get) ?_
        refine o_q rfl rfl (q_lde (off := 0) Y9 rfl rfl (fun w h => h.zar (i := 1) rfl) hr1595.get (fun _ _ h => h) rfl) ?_
        refine o_q rfl rfl (q_asg rfl) ?_
        refine o_end ?_
        refine za1 ?_
        refine c_seq ?_
        refine za0 ?_
        refine o_q rfl rfl (za2 rfl) ?_
        refine bindE3 h (fun s1621 s1622 b1623 hx1620 h => ?_) rfl
        refine o_e rfl (za9 0 Z Tryd.func45 N45 rfl rfl rfl (fun w P1 hF hB hS hT => strings_Cut.calls y1592 (⟨#[42]⟩ : ByteArray) hB hF (hS _ GW) _ _ _ hx1620)) (fun _ => ?_)
        refine o_q rfl rfl (za2 rfl) ?_
        refine o_q rfl rfl (q_ext rfl rfl) ?_
        refine o_q rfl rfl (q_ext rfl rfl) ?_
        refine o_q rfl rfl (q_ext rfl rfl) ?_
        refine o_q rfl rfl (q_asg rfl) ?_
        refine o_q rfl rfl (q_asg rfl) ?_
        refine o_q rfl rfl (q_asg rfl) ?_
        refine o_end ?_
        refine za1 ?_
        refine za6 h (fun i1806 hx1805 h => ?_) rfl
        refine za6 h (fun i1926 hx1925 h => ?_) rfl
        refine za6 h (fun l2105 ha2106 h => ?_) rfl
        refine a_startS (ds := []) [none, some 1, some 2, some 3, none, some 5] MO rfl ?_
        refine zaa 0 rfl rfl rfl (by kernel_rfl) (fun _ _ _ h => h) (q_f F31_1 rfl) ?_
        refine zaa 2 rfl rfl rfl (by kernel_rfl) (fun _ _ _ h => h) (za2 rfl) ?_
        refine zaa 4 rfl rfl rfl (by kernel_rfl) (fun _ _ _ h => h) (za2 rfl) ?_
        refine a_two 1 3 rfl rfl rfl rfl (by kernel_rfl) rfl rfl (ev_q rfl (q_ldb Y29 rfl (fun w h => h.zai (i := 4) rfl) rfl)) (fun s w h => zac [none, some 1, some 2, some 3, none, some 5] (by decide) w h rfl) (za9 0 Z Tryd.func42 N42 rfl rfl rfl (fun w P1 hF hB hS hT => impl_numberOf.calls s1621 hB hF (hS _ GW) _ hx1805)) (fun s w h => zac [none, some 1, some 2, some 3, none, some 5] (by decide) w h rfl) (fun _ => ?_) (fun _ => ?_)
        · skip
          refine a_one 3 rfl rfl (by kernel_rfl) rfl (za9 0 Z Tryd.func42 N42 rfl rfl rfl (fun w P1 hF hB hS hT => impl_numberOf.calls s1621 hB hF (hS _ GW) _ hx1805)) (fun s w h => zac [none, some 1, some 2, some 3, none, some 5] (by decide) w h rfl) (fun _ => ?_)
          refine a_one 5 rfl rfl (by kernel_rfl) rfl (za9 0 Z Tryd.func42 N42 rfl rfl rfl (fun w P1 hF hB hS hT => impl_numberOf.calls s1622 hB hF (hS _ GW) _ hx1925)) (fun s w h => zac [none, some 1, some 2, some 3, none, some 5] (by decide) w h rfl) (fun _ => ?_)
          refine zaa 6 rfl rfl rfl (by kernel_rfl) (fun _ _ _ h => h) (q_build (vs := [(0, .int .i64 i1806), (1, .int .i64 i1926)]) (cs := [.int .i64 i1806, .int .i64 i1926]) rfl rfl) ?_
          refine a_one 7 rfl rfl (by kernel_rfl) rfl (e_lit (vs := [(0, .agg #[.int .i64 i1806, .int .i64 i1926])]) (cs := [.int .i64 i1806, .int .i64 i1926]) kStep ([(⟨i1806, i1926⟩ : SStep)] : List SStep) Tryd.underlying29 I69 (by decide) rfl (by decide) rfl rfl (fun _ _ => reps_flat _)) (fun s w h => zac [none, some 2, some 3, some 4, none, some 6] (by decide) w h rfl) (cur2 (fun A2045 c2046 => ?_))
          refine a_one 8 rfl rfl (by kernel_rfl) rfl (e_app (i := 1) (j := 0) Tryd.underlying29 I69 rfl (by decide) (by decide) rfl rfl rfl rfl rfl ha2106) (fun s w h => zac [none, some 2, some 3, some 4, none, some 6] (by decide) w h rfl) (cur2 (fun A2107 c2108 => ?_))
          refine zaa 9 rfl rfl rfl (by kernel_rfl) (fun _ _ _ h => h) (q_f F31_1 rfl) ?_
          refine a_one 10 rfl rfl (by kernel_rfl) rfl (e_store (i := 5) rfl rfl rfl rfl Z29 rfl rfl) (fun s w h => zac [none, some 2, some 3, some 4, none, some 6] (by decide) w h rfl) (fun _ => ?_)
          refine a_done (by kernel_rfl) ?_
          refine x_block ?_
          refine za1 ?_
          refine za0 ?_
          refine o_q rfl rfl (q_up rfl rfl (hr1595.up hm1596)) ?_
          refine o_q rfl rfl (za2 rfl) ?_
          refine o_end ?_
          refine zan ys1593.length (ys1593, l2105, i1591 + 1, A2107, c2108) (by rw [← hk1601]; exact Nat.lt_succ_self _) ⟨hr1595.step, rfl, h⟩ ⟨rfl, trivial⟩ (fun w h => za8 [1, 2, 3, 4, 5, 6] (by decide) rfl w h) ?_
          repeat (first | exact zae _ _ | refine zal rfl ?_ | refine zaf rfl ?_ | refine zam rfl ?_)
        · skip
          refine a_two 1 5 rfl rfl rfl rfl (by kernel_rfl) rfl rfl (ev_q rfl (q_ldb Y29 rfl (fun w h => h.zai (i := 4) rfl) rfl)) (fun s w h => zac [none, some 1, some 2, some 3, none, some 5] (by decide) w h rfl) (za9 0 Z Tryd.func42 N42 rfl rfl rfl (fun w P1 hF hB hS hT => impl_numberOf.calls s1622 hB hF (hS _ GW) _ hx1925)) (fun s w h => zac [none, some 1, some 2, some 3, none, some 5] (by decide) w h rfl) (fun _ => ?_) (fun _ => ?_)
          · skip
            refine a_one 5 rfl rfl (by kernel_rfl) rfl (za9 0 Z Tryd.func42 N42 rfl rfl rfl (fun w P1 hF hB hS hT => impl_numberOf.calls s1622 hB hF (hS _ GW) _ hx1925)) (fun s w h => zac [none, some 1, some 2, some 3, none, some 5] (by decide) w h rfl) (fun _ => ?_)
            refine zaa 6 rfl rfl rfl (by kernel_rfl) (fun _ _ _ h => h) (q_build (vs := [(0, .int .i64 i1806), (1, .int .i64 i1926)]) (cs := [.int .i64 i1806, .int .i64 i1926]) rfl rfl) ?_
            refine a_one 7 rfl rfl (by kernel_rfl) rfl (e_lit (vs := [(0, .agg #[.int .i64 i1806, .int .i64 i1926])]) (cs := [.int .i64 i1806, .int .i64 i1926]) kStep ([(⟨i1806, i1926⟩ : SStep)] : List SStep) Tryd.underlying29 I69 (by decide) rfl (by decide) rfl rfl (fun _ _ => reps_flat _)) (fun s w h => zac [none, some 2, some 3, some 4, none, some 6] (by decide) w h rfl) (cur2 (fun A2045 c2046 => ?_))
            refine a_one 8 rfl rfl (by kernel_rfl) rfl (e_app (i := 1) (j := 0) Tryd.underlying29 I69 rfl (by decide) (by decide) rfl rfl rfl rfl rfl ha2106) (fun s w h => zac [none, some 2, some 3, some 4, none, some 6] (by decide) w h rfl) (cur2 (fun A2107 c2108 => ?_))
            refine zaa 9 rfl rfl rfl (by kernel_rfl) (fun _ _ _ h => h) (q_f F31_1 rfl) ?_
            refine a_one 10 rfl rfl (by kernel_rfl) rfl (e_store (i := 5) rfl rfl rfl rfl Z29 rfl rfl) (fun s w h => zac [none, some 2, some 3, some 4, none, some 6] (by decide) w h rfl) (fun _ => ?_)
            refine a_done (by kernel_rfl) ?_
            refine x_block ?_
            refine za1 ?_
            refine za0 ?_
            refine o_q rfl rfl (q_up rfl rfl (hr1595.up hm1596)) ?_
            refine o_q rfl rfl (za2 rfl) ?_
            refine o_end ?_
            refine zan ys1593.length (ys1593, l2105, i1591 + 1, A2107, c2108) (by rw [← hk1601]; exact Nat.lt_succ_self _) ⟨hr1595.step, rfl, h⟩ ⟨rfl, trivial⟩ (fun w h => za8 [1, 2, 3, 4, 5, 6] (by decide) rfl w h) ?_
            repeat (first | exact zae _ _ | refine zal rfl ?_ | refine zaf rfl ?_ | refine zam rfl ?_)
          · skip
            refine zaa 6 rfl rfl rfl (by kernel_rfl) (fun _ _ _ h => h) (q_build (vs := [(0, .int .i64 i1806), (1, .int .i64 i1926)]) (cs := [.int .i64 i1806, .int .i64 i1926]) rfl rfl) ?_
            refine a_two 1 7 rfl rfl rfl rfl (by kernel_rfl) rfl rfl (ev_q rfl (q_ldb Y29 rfl (fun w h => h.zai (i := 4) rfl) rfl)) (fun s w h => zac [none, some 1, some 2, some 3, none, some 5] (by decide) w h rfl) (e_lit (vs := [(0, .agg #[.int .i64 i1806, .int .i64 i1926])]) (cs := [.int .i64 i1806, .int .i64 i1926]) kStep ([(⟨i1806, i1926⟩ : SStep)] : List SStep) Tryd.underlying29 I69 (by decide) rfl (by decide) rfl rfl (fun _ _ => reps_flat _)) (fun s w h => zac [none, some 2, some 3, some 4, none, some 6] (by decide) w h rfl) (fun _ => ?_) (cur2 (fun A2045 c2046 => ?_))
            · skip
              refine a_one 7 rfl rfl (by kernel_rfl) rfl (e_lit (vs := [(0, .agg #[.int .i64 i1806, .int .i64 i1926])]) (cs := [.int .i64 i1806, .int .i64 i1926]) kStep ([(⟨i1806, i1926⟩ : SStep)] : List SStep) Tryd.underlying29 I69 (by decide) rfl (by decide) rfl rfl (fun _ _ => reps_flat _)) (fun s w h => zac [none, some 2, some 3, some 4, none, some 6] (by decide) w h rfl) (cur2 (fun A2045 c2046 => ?_))
              refine a_one 8 rfl rfl (by kernel_rfl) rfl (e_app (i := 1) (j := 0) Tryd.underlying29 I69 rfl (by decide) (by decide) rfl rfl rfl rfl rfl ha2106) (fun s w h => zac [none, some 2, some 3, some 4, none, some 6] (by decide) w h rfl) (cur2 (fun A2107 c2108 => ?_))
              refine zaa 9 rfl rfl rfl (by kernel_rfl) (fun _ _ _ h => h) (q_f F31_1 rfl) ?_
              refine a_one 10 rfl rfl (by kernel_rfl) rfl (e_store (i := 5) rfl rfl rfl rfl Z29 rfl rfl) (fun s w h => zac [none, some 2, some 3, some 4, none, some 6] (by decide) w h rfl) (fun _ => ?_)
              refine a_done (by kernel_rfl) ?_
              refine x_block ?_
              refine za1 ?_
              refine za0 ?_
              refine o_q rfl rfl (q_up rfl rfl (hr1595.up hm1596)) ?_
              refine o_q rfl rfl (za2 rfl) ?_
              refine o_end ?_
              refine zan ys1593.length (ys1593, l2105, i1591 + 1, A2107, c2108) (by rw [← hk1601]; exact Nat.lt_succ_self _) ⟨hr1595.step, rfl, h⟩ ⟨rfl, trivial⟩ (fun w h => za8 [1, 2, 3, 4, 5, 6] (by decide) rfl w h) ?_
              repeat (first | exact zae _ _ | refine zal rfl ?_ | refine zaf rfl ?_ | refine zam rfl ?_)
            · skip
              refine a_one 1 rfl rfl (by kernel_rfl) rfl (ev_q rfl (q_ldb Y29 rfl (fun w h => h.zai (i := 5) rfl) rfl)) (fun s w h => zac [none, some 2, some 3, some 4, none, some 6] (by decide) w h rfl) (fun _ => ?_)
              refine a_one 8 rfl rfl (by kernel_rfl) rfl (e_app (i := 1) (j := 0) Tryd.underlying29 I69 rfl (by decide) (by decide) rfl rfl rfl rfl rfl ha2106) (fun s w h => zac [none, some 2, some 3, some 4, none, some 6] (by decide) w h rfl) (cur2 (fun A2107 c2108 => ?_))
              refine zaa 9 rfl rfl rfl (by kernel_rfl) (fun _ _ _ h => h) (q_f F31_1 rfl) ?_
              refine a_one 10 rfl rfl (by kernel_rfl) rfl (e_store (i := 5) rfl rfl rfl rfl Z29 rfl rfl) (fun s w h => zac [none, some 2, some 3, some 4, none, some 6] (by decide) w h rfl) (fun _ => ?_)
              refine a_done (by kernel_rfl) ?_
              refine x_block ?_
              refine za1 ?_
              refine za0 ?_
              refine o_q rfl rfl (q_up rfl rfl (hr1595.up hm1596)) ?_
              refine o_q rfl rfl (za2 rfl) ?_
              refine o_end ?_
              refine zan ys1593.length (ys1593, l2105, i1591 + 1, A2107, c2108) (by rw [← hk1601]; exact Nat.lt_succ_self _) ⟨hr1595.step, rfl, h⟩ ⟨rfl, trivial⟩ (fun w h => za8 [1, 2, 3, 4, 5, 6] (by decide) rfl w h) ?_
              repeat (first | exact zae _ _ | refine zal rfl ?_ | refine zaf rfl ?_ | refine zam rfl ?_)

/-! ### loop.example/g01098/laws.eqStep: function 64 -/
def laws_eqStep.f (a0 : SStep) (a1 : SStep) : Option Bool := if a0.f0 ≠ a1.f0 then (some false) else (if a0.f1 ≠ a1.f1 then (some false) else (some true))
set_option maxHeartbeats 600000 in
set_option maxRecDepth 100000 in
theorem laws_eqStep.calls {w0 ws : World} {P0 : Nat → Prop} (a0 : SStep) (a1 : SStep) (Z : Below w0.heap.size w0 ws) (hF : Fr w0 ws P0 [] ws)  (r_1 : Bool) (h : laws_eqStep.f a0 a1 = some r_1) :
    Calls Tryd.prog 64 #[.agg #[.int .i64 a0.f0, .int .i64 a0.f1], .agg #[.int .i64 a1.f0, .int .i64 a1.f1]] ws (Post1 w0 ws P0 (fun (_ : Unit) => .bool r_1) (fun (_ : Unit) => [])) := by
  unfold laws_eqStep.f at h
  refine enter Tryd.func64 rfl Tryd.ntmps64 rfl hF ?_
  refine c_seq ?_
  refine za0 ?_
  refine o_e rfl (e_box rfl) (fun g1 => ?_)
  refine o_e rfl (e_box rfl) (fun g3 => ?_)
  refine o_q rfl rfl (q_asg rfl) ?_
  refine o_end ?_
  refine za1 ?_
  refine c_seq ?_
  refine c_seq ?_
  refine za0 ?_
  refine o_q rfl rfl (q_f F69_0 rfl) ?_
  refine o_q rfl rfl (q_ldb Y3 rfl (fun w h => h.zai (i := 1) rfl) rfl) ?_
  refine o_q rfl rfl (q_f F69_0 rfl) ?_
  refine o_q rfl rfl (q_ldb Y3 rfl (fun w h => h.zai (i := 0) rfl) rfl) ?_
  refine o_q rfl rfl (q_neq rfl rfl) ?_
  refine o_end ?_
  refine za1 ?_
  refine zao _ rfl (fun hb5 => ?_) (fun hb5 => ?_)
  · skip
    replace h := br_t hb5 h
    refine c_seq ?_
    refine za0 ?_
    refine o_q rfl rfl (q_asg rfl) ?_
    refine o_end ?_
    refine za1 ?_
    refine c_ret ?_
    refine za3 ?_
    have e0_ := Option.some.inj h; clear h
    subst e0_
    exact x_r1 () Tryd.results64 (zab rfl) rfl (fun w h => za8 [] (by decide) rfl w h)
  · skip
    replace h := br_f hb5 h
    refine zak ?_
    refine za1 ?_
    refine c_seq ?_
    refine c_seq ?_
    refine za0 ?_
    refine o_q rfl rfl (q_f F69_1 rfl) ?_
    refine o_q rfl rfl (q_ldb Y3 rfl (fun w h => h.zai (i := 1) rfl) rfl) ?_
    refine o_q rfl rfl (q_f F69_1 rfl) ?_
    refine o_q rfl rfl (q_ldb Y3 rfl (fun w h => h.zai (i := 0) rfl) rfl) ?_
    refine o_q rfl rfl (q_neq rfl rfl) ?_
    refine o_end ?_
    refine za1 ?_
    refine zao _ rfl (fun hb6 => ?_) (fun hb6 => ?_)
    · skip
      replace h := br_t hb6 h
      refine c_seq ?_
      refine za0 ?_
      refine o_q rfl rfl (q_asg rfl) ?_
      refine o_end ?_
      refine za1 ?_
      refine c_ret ?_
      refine za3 ?_
      have e0_ := Option.some.inj h; clear h
      subst e0_
      exact x_r1 () Tryd.results64 (zab rfl) rfl (fun w h => za8 [] (by decide) rfl w h)
    · skip
      replace h := br_f hb6 h
      refine zak ?_
      refine za1 ?_
      refine c_seq ?_
      refine za0 ?_
      refine o_q rfl rfl (q_asg rfl) ?_
      refine o_end ?_
      refine za1 ?_
      refine c_ret ?_
      have e0_ := Option.some.inj h; clear h
      subst e0_
      exact x_r1 () Tryd.results64 (zab rfl) rfl (fun w h => za8 [] (by decide) rfl w h)

/-! ### loop.example/g01098/laws.eqStepS: function 28 -/
def laws_eqStepS.l0 (l0 : List SStep) (l1 : List SStep) : Nat → Int → Option ((Bool) ⊕ (Unit))
  | 0, _ => none
  | k5 + 1, i2 => if i2 < (l0.length : Int) then ((gt l0 i2).bind fun y16 => (gt l1 i2).bind fun y19 => (laws_eqStep.f y16 y19).bind fun b21 => if b21 = true then (laws_eqStepS.l0 l0 l1 k5 (w64 (i2 + 1))) else (some (.inl false))) else (some (.inr ()))
def laws_eqStepS.f (k : Nat) (l0 : List SStep) (l1 : List SStep) : Option Bool := if (l0.length : Int) ≠ (l1.length : Int) then (some false) else ((laws_eqStepS.l0 l0 l1 k 0).bind fun o_ => match o_ with | .inl r_ => some r_ | .inr _ => some true)
set_option maxHeartbeats 600000 in
set_option maxRecDepth 100000 in
theorem laws_eqStepS.calls (k : Nat) {w0 ws : World} {P0 : Nat → Prop} (A0 : Option Addr) (c0 : Nat) (n0 : Nat) (l0 : List SStep) (A1 : Option Addr) (c1 : Nat) (n1 : Nat) (l1 : List SStep) (Z : Below w0.heap.size w0 ws) (hF : Fr w0 ws P0 [] ws) (R0 : Stable ws P0 (fun w => Kd.C kStep w A0 n0 l0)) (hc0 : n0 ≤ c0) (R1 : Stable ws P0 (fun w => Kd.C kStep w A1 n1 l1)) (hc1 : n1 ≤ c1) (r_1 : Bool) (h : laws_eqStepS.f k l0 l1 = some r_1) :
    Calls Tryd.prog 28 #[.slice A0 n0 c0, .slice A1 n1 c1] ws (Post1 w0 ws P0 (fun (_ : Unit) => .bool r_1) (fun (_ : Unit) => [])) := by
  unfold laws_eqStepS.f at h
  obtain rfl := (R0 ws (KeptB.refl _ _)).1
  obtain rfl := (R1 ws (KeptB.refl _ _)).1
  refine enter Tryd.func28 rfl Tryd.ntmps28 rfl hF ?_
  refine c_seq ?_
  refine za0 ?_
  refine o_q rfl rfl (q_asg rfl) ?_
  refine o_end ?_
  refine za1 ?_
  refine c_seq ?_
  refine c_seq ?_
  refine za0 ?_
  refine o_q rfl rfl (za2 rfl) ?_
  refine o_q rfl rfl (q_len Tryd.underlying29 rfl) ?_
  refine o_q rfl rfl (za2 rfl) ?_
  refine o_q rfl rfl (q_len Tryd.underlying29 rfl) ?_
  refine o_q rfl rfl (q_neq rfl rfl) ?_
  refine o_end ?_
  refine za1 ?_
  refine zao _ rfl (fun hb1 => ?_) (fun hb1 => ?_)
  · skip
    replace h := br_t hb1 h
    refine c_seq ?_
    refine za0 ?_
    refine o_q rfl rfl (q_asg rfl) ?_
    refine o_end ?_
    refine za1 ?_
    refine c_ret ?_
    refine za3 ?_
    have e0_ := Option.some.inj h; clear h
    subst e0_
    exact x_r1 () Tryd.results28 (zab rfl) rfl (fun w h => za8 [] (by decide) rfl w h)
  · skip
    replace h := br_f hb1 h
    refine zak ?_
    refine za1 ?_
    refine c_seq ?_
    refine c_seq ?_
    refine za0 ?_
    refine o_q rfl rfl (q_asg rfl) ?_
    refine o_end ?_
    refine za1 ?_
    refine zaj ?_
    refine za6 h (fun o10 hl9 hR8 => ?_) rfl
    clear h
    refine c_loopL (σ := Int) (fun k5 (i2 : Int) => laws_eqStepS.l0 l0 l1 k5 i2 = some o10) [4, 5, 11, 12, 13, 14, 15, 16, 17, 18, 19, 20, 21, 22, 23, 24, 25, 26] (fun (i2 : Int) => [(5, .int .i64 i2)]) (fun (i2 : Int) => []) k 0 hl9 ⟨rfl, trivial⟩ (fun w h => h) ?_
    refine natC (fun i2 => fun U11 hJ_ => ?_) (fun k5 => (fun i2 => fun U11 hJ_ => ?_))
    · skip
      replace hJ_ : laws_eqStepS.l0 l0 l1 0 i2 = some o10 := hJ_
      rw [laws_eqStepS.l0] at hJ_
      exact noneE hJ_
    · skip
      clear hl9
      have h := hJ_; clear hJ_
      replace h : laws_eqStepS.l0 l0 l1 (k5 + 1) i2 = some o10 := h
      rw [laws_eqStepS.l0] at h
      refine c_seq ?_
      refine c_seq ?_
      refine za0 ?_
      refine o_q rfl rfl (za2 rfl) ?_
      refine o_q rfl rfl (za2 rfl) ?_
      refine o_q rfl rfl (q_len Tryd.underlying29 rfl) ?_
      refine o_q rfl rfl (q_lss rfl rfl) ?_
      refine o_end ?_
      refine za1 ?_
      refine zao _ rfl (fun hb13 => ?_) (fun hb13 => ?_)
      · skip
        replace h := br_t hb13 h
        refine zak ?_
        refine za1 ?_
        refine c_seq ?_
        refine zaj ?_
        refine c_seq ?_
        refine a_start (ds := []) MO rfl ?_
        refine zaa 0 rfl rfl rfl (by kernel_rfl) (fun _ _ _ h => h) (za2 rfl) ?_
        refine zaa 1 rfl rfl rfl (by kernel_rfl) (fun _ _ _ h => h) (za2 rfl) ?_
        refine a_fact (p := Sh A0 l0.length l0.length) (fun w h => f_sh (dk := kStep) h (fun w h => R0.now Z h)) (fun hq14 => ?_)
        refine za6 h (fun y16 hg15 h => ?_) rfl
        refine zaa 2 rfl rfl rfl (by kernel_rfl) (fun _ _ _ h => h) (q_ix Tryd.underlying29 Z69 rfl rfl hq14 hg15) ?_
        refine a_take 3 rfl rfl rfl (by kernel_rfl) (fun _ _ _ h => h) (fun w h => h) (q_ldE G69 Z69 rfl rfl (fun w h => R0.now Z h) hg15 (fun _ _ h => h) rfl) ?_
        refine zaa 4 rfl rfl rfl (by kernel_rfl) (fun _ _ _ h => h) (za2 rfl) ?_
        refine zaa 5 rfl rfl rfl (by kernel_rfl) (fun _ _ _ h => h) (za2 rfl) ?_
        refine a_fact (p := Sh A1 l1.length l1.length) (fun w h => f_sh (dk := kStep) h (fun w h => R1.now Z h)) (fun hq17 => ?_)
        refine za6 h (fun y19 hg18 h => ?_) rfl
        refine zaa 6 rfl rfl rfl (by kernel_rfl) (fun _ _ _ h => h) (q_ix Tryd.underlying29 Z69 rfl rfl hq17 hg18) ?_
        refine a_take 7 rfl rfl rfl (by kernel_rfl) (fun _ _ _ h => h) (fun w h => h) (q_ldE G69 Z69 rfl rfl (fun w h => R1.now Z h) hg18 (fun _ _ h => h) rfl) ?_
        refine za6 h (fun b21 hx20 h => ?_) rfl
        refine a_one 8 rfl rfl (by kernel_rfl) rfl (za9 0 Z Tryd.func64 N64 rfl rfl rfl (fun w P1 hF hB hS hT => laws_eqStep.calls y16 y19 hB hF _ hx20)) (fun s w h => h) (fun _ => ?_)
        refine zaa 9 rfl rfl rfl (by kernel_rfl) (fun _ _ _ h => h) (q_not rfl) ?_
        refine a_done (by kernel_rfl) ?_
        refine za1 ?_
        refine zao _ rfl (fun hb22 => ?_) (fun hb22 => ?_)
        · replace hb22 := nt_t hb22
          replace h := bb_f hb22 h
          refine c_seq ?_
          refine za0 ?_
          refine o_q rfl rfl (q_asg rfl) ?_
          refine o_end ?_
          refine za1 ?_
          refine c_ret ?_
          refine zad ?_
          refine za3 ?_
          refine za3 ?_
          have e_ := Option.some.inj h; replace h := hR8; rw [← e_] at h; clear e_
          refine zad ?_
          refine za3 ?_
          have e0_ := Option.some.inj h; clear h
          subst e0_
          exact x_r1 () Tryd.results28 (zab rfl) rfl (fun w h => za8 [] (by decide) rfl w h)
        · replace hb22 := nt_f hb22
          replace h := bb_t hb22 h
          refine zak ?_
          refine x_block ?_
          refine za1 ?_
          refine za0 ?_
          refine o_q rfl rfl (za2 rfl) ?_
          refine o_q rfl rfl (q_add64 rfl rfl) ?_
          refine o_q rfl rfl (q_asg rfl) ?_
          refine o_end ?_
          refine zan k5 (w64 (i2 + 1)) (Nat.lt_succ_self _) h ⟨rfl, trivial⟩ (fun w h => za8 [] (by decide) rfl w h) ?_
          repeat (first | exact zae _ _ | refine zal rfl ?_ | refine zaf rfl ?_ | refine zam rfl ?_)
      · skip
        replace h := br_f hb13 h
        refine c_exit ?_
        refine za7 ?_
        refine za7 ?_
        have e_ := Option.some.inj h; replace h := hR8; rw [← e_] at h; clear e_
        refine x_hit ?_
        refine za1 ?_
        refine c_seq ?_
        refine za0 ?_
        refine o_q rfl rfl (q_asg rfl) ?_
        refine o_end ?_
        refine za1 ?_
        refine c_ret ?_
        have e0_ := Option.some.inj h; clear h
        subst e0_
        exact x_r1 () Tryd.results28 (zab rfl) rfl (fun w h => za8 [] (by decide) rfl w h)

/-! ### loop.example/g01098/laws.eqIntS: function 29 -/
def laws_eqIntS.l0 (l0 : List Int) (l1 : List Int) : Nat → Int → Option ((Bool) ⊕ (Unit))
  | 0, _ => none
  | k5 + 1, i2 => if i2 < (l0.length : Int) then ((gt l0 i2).bind fun y16 => (gt l1 i2).bind fun y19 => if y16 ≠ y19 then (some (.inl false)) else (laws_eqIntS.l0 l0 l1 k5 (w64 (i2 + 1)))) else (some (.inr ()))
def laws_eqIntS.f (k : Nat) (l0 : List Int) (l1 : List Int) : Option Bool := if (l0.length : Int) ≠ (l1.length : Int) then (some false) else ((laws_eqIntS.l0 l0 l1 k 0).bind fun o_ => match o_ with | .inl r_ => some r_ | .inr _ => some true)
set_option maxHeartbeats 600000 in
set_option maxRecDepth 100000 in
theorem laws_eqIntS.calls (k : Nat) {w0 ws : World} {P0 : Nat → Prop} (A0 : Option Addr) (c0 : Nat) (n0 : Nat) (l0 : List Int) (A1 : Option Addr) (c1 : Nat) (n1 : Nat) (l1 : List Int) (Z : Below w0.heap.size w0 ws) (hF : Fr w0 ws P0 [] ws) (R0 : Stable ws P0 (fun w => Kd.C (Kd.int .i64) w A0 n0 l0)) (hc0 : n0 ≤ c0) (R1 : Stable ws P0 (fun w => Kd.C (Kd.int .i64) w A1 n1 l1)) (hc1 : n1 ≤ c1) (r_1 : Bool) (h : laws_eqIntS.f k l0 l1 = some r_1) :
    Calls Tryd.prog 29 #[.slice A0 n0 c0, .slice A1 n1 c1] ws (Post1 w0 ws P0 (fun (_ : Unit) => .bool r_1) (fun (_ : Unit) => [])) := by
  unfold laws_eqIntS.f at h
  obtain rfl := (R0 ws (KeptB.refl _ _)).1
  obtain rfl := (R1 ws (KeptB.refl _ _)).1
  refine enter Tryd.func29 rfl Tryd.ntmps29 rfl hF ?_
  refine c_seq ?_
  refine za0 ?_
  refine o_q rfl rfl (q_asg rfl) ?_
  refine o_end ?_
  refine za1 ?_
  refine c_seq ?_
  refine c_seq ?_
  refine za0 ?_
  refine o_q rfl rfl (za2 rfl) ?_
  refine o_q rfl rfl (q_len Tryd.underlying23 rfl) ?_
  refine o_q rfl rfl (za2 rfl) ?_
  refine o_q rfl rfl (q_len Tryd.underlying23 rfl) ?_
  refine o_q rfl rfl (q_neq rfl rfl) ?_
  refine o_end ?_
  refine za1 ?_
  refine zao _ rfl (fun hb1 => ?_) (fun hb1 => ?_)
  · skip
    replace h := br_t hb1 h
    refine c_seq ?_
    refine za0 ?_
    refine o_q rfl rfl (q_asg rfl) ?_
    refine o_end ?_
    refine za1 ?_
    refine c_ret ?_
    refine za3 ?_
    have e0_ := Option.some.inj h; clear h
    subst e0_
    exact x_r1 () Tryd.results29 (zab rfl) rfl (fun w h => za8 [] (by decide) rfl w h)
  · skip
    replace h := br_f hb1 h
    refine zak ?_
    refine za1 ?_
    refine c_seq ?_
    refine c_seq ?_
    refine za0 ?_
    refine o_q rfl rfl (q_asg rfl) ?_
    refine o_end ?_
    refine za1 ?_
    refine zaj ?_
    refine za6 h (fun o10 hl9 hR8 => ?_) rfl
    clear h
    refine c_loopL (σ := Int) (fun k5 (i2 : Int) => laws_eqIntS.l0 l0 l1 k5 i2 = some o10) [4, 5, 11, 12, 13, 14, 15, 16, 17, 18, 19, 20, 21, 22, 23, 24, 25] (fun (i2 : Int) => [(5, .int .i64 i2)]) (fun (i2 : Int) => []) k 0 hl9 ⟨rfl, trivial⟩ (fun w h => h) ?_
    refine natC (fun i2 => fun U11 hJ_ => ?_) (fun k5 => (fun i2 => fun U11 hJ_ => ?_))
    · skip
      replace hJ_ : laws_eqIntS.l0 l0 l1 0 i2 = some o10 := hJ_
      rw [laws_eqIntS.l0] at hJ_
      exact noneE hJ_
    · skip
      clear hl9
      have h := hJ_; clear hJ_
      replace h : laws_eqIntS.l0 l0 l1 (k5 + 1) i2 = some o10 := h
      rw [laws_eqIntS.l0] at h
      refine c_seq ?_
      refine c_seq ?_
      refine za0 ?_
      refine o_q rfl rfl (za2 rfl) ?_
      refine o_q rfl rfl (za2 rfl) ?_
      refine o_q rfl rfl (q_len Tryd.underlying23 rfl) ?_
      refine o_q rfl rfl (q_lss rfl rfl) ?_
      refine o_end ?_
      refine za1 ?_
      refine zao _ rfl (fun hb13 => ?_) (fun hb13 => ?_)
      · skip
        replace h := br_t hb13 h
        refine zak ?_
        refine za1 ?_
        refine c_seq ?_
        refine zaj ?_
        refine c_seq ?_
        refine a_start (ds := []) MO rfl ?_
        refine zaa 0 rfl rfl rfl (by kernel_rfl) (fun _ _ _ h => h) (za2 rfl) ?_
        refine zaa 1 rfl rfl rfl (by kernel_rfl) (fun _ _ _ h => h) (za2 rfl) ?_
        refine a_fact (p := Sh A0 l0.length l0.length) (fun w h => f_sh (dk := (Kd.int .i64)) h (fun w h => R0.now Z h)) (fun hq14 => ?_)
        refine za6 h (fun y16 hg15 h => ?_) rfl
        refine zaa 2 rfl rfl rfl (by kernel_rfl) (fun _ _ _ h => h) (q_ix Tryd.underlying23 Z3 rfl rfl hq14 hg15) ?_
        refine a_take 3 rfl rfl rfl (by kernel_rfl) (fun _ _ _ h => h) (fun w h => h) (q_lde (off := 0) Y3 rfl rfl (fun w h => R0.now Z h) hg15 (fun _ _ h => h) rfl) ?_
        refine zaa 4 rfl rfl rfl (by kernel_rfl) (fun _ _ _ h => h) (za2 rfl) ?_
        refine zaa 5 rfl rfl rfl (by kernel_rfl) (fun _ _ _ h => h) (za2 rfl) ?_
        refine a_fact (p := Sh A1 l1.length l1.length) (fun w h => f_sh (dk := (Kd.int .i64)) h (fun w h => R1.now Z h)) (fun hq17 => ?_)
        refine za6 h (fun y19 hg18 h => ?_) rfl
        refine zaa 6 rfl rfl rfl (by kernel_rfl) (fun _ _ _ h => h) (q_ix Tryd.underlying23 Z3 rfl rfl hq17 hg18) ?_
        refine a_take 7 rfl rfl rfl (by kernel_rfl) (fun _ _ _ h => h) (fun w h => h) (q_lde (off := 0) Y3 rfl rfl (fun w h => R1.now Z h) hg18 (fun _ _ h => h) rfl) ?_
        refine zaa 8 rfl rfl rfl (by kernel_rfl) (fun _ _ _ h => h) (q_neq rfl rfl) ?_
        refine a_done (by kernel_rfl) ?_
        refine za1 ?_
        refine zao _ rfl (fun hb20 => ?_) (fun hb20 => ?_)
        · skip
          replace h := br_t hb20 h
          refine c_seq ?_
          refine za0 ?_
          refine o_q rfl rfl (q_asg rfl) ?_
          refine o_end ?_
          refine za1 ?_
          refine c_ret ?_
          refine zad ?_
          refine za3 ?_
          refine za3 ?_
          have e_ := Option.some.inj h; replace h := hR8; rw [← e_] at h; clear e_
          refine zad ?_
          refine za3 ?_
          have e0_ := Option.some.inj h; clear h
          subst e0_
          exact x_r1 () Tryd.results29 (zab rfl) rfl (fun w h => za8 [] (by decide) rfl w h)
        · skip
          replace h := br_f hb20 h
          refine zak ?_
          refine x_block ?_
          refine za1 ?_
          refine za0 ?_
          refine o_q rfl rfl (za2 rfl) ?_
          refine o_q rfl rfl (q_add64 rfl rfl) ?_
          refine o_q rfl rfl (q_asg rfl) ?_
          refine o_end ?_
          refine zan k5 (w64 (i2 + 1)) (Nat.lt_succ_self _) h ⟨rfl, trivial⟩ (fun w h => za8 [] (by decide) rfl w h) ?_
          repeat (first | exact zae _ _ | refine zal rfl ?_ | refine zaf rfl ?_ | refine zam rfl ?_)
      · skip
        replace h := br_f hb13 h
        refine c_exit ?_
        refine za7 ?_
        refine za7 ?_
        have e_ := Option.some.inj h; replace h := hR8; rw [← e_] at h; clear e_
        refine x_hit ?_
        refine za1 ?_
        refine c_seq ?_
        refine za0 ?_
        refine o_q rfl rfl (q_asg rfl) ?_
        refine o_end ?_
        refine za1 ?_
        refine c_ret ?_
        have e0_ := Option.some.inj h; clear h
        subst e0_
        exact x_r1 () Tryd.results29 (zab rfl) rfl (fun w h => za8 [] (by decide) rfl w h)

/-! ### loop.example/g01098/laws.eqPlan: function 10 -/
def laws_eqPlan.f (k : Nat) (a0_0 : Int) (l0_1 : List SStep) (l0_2 : List Int) (a1_0 : Int) (l1_1 : List SStep) (l1_2 : List Int) : Option Bool := if a0_0 ≠ a1_0 then (some false) else ((laws_eqStepS.f k l0_1 l1_1).bind fun b7 => if b7 = true then ((laws_eqIntS.f k l0_2 l1_2).bind fun b10 => if b10 = true then (some true) else (some false)) else (some false))
set_option maxHeartbeats 600000 in
set_option maxRecDepth 100000 in
theorem laws_eqPlan.calls (k : Nat) {w0 ws : World} {P0 : Nat → Prop} (a0_0 : Int) (A0_1 : Option Addr) (c0_1 : Nat) (n0_1 : Nat) (l0_1 : List SStep) (A0_2 : Option Addr) (c0_2 : Nat) (n0_2 : Nat) (l0_2 : List Int) (a1_0 : Int) (A1_1 : Option Addr) (c1_1 : Nat) (n1_1 : Nat) (l1_1 : List SStep) (A1_2 : Option Addr) (c1_2 : Nat) (n1_2 : Nat) (l1_2 : List Int) (Z : Below w0.heap.size w0 ws) (hF : Fr w0 ws P0 [] ws) (R0_1 : Stable ws P0 (fun w => Kd.C kStep w A0_1 n0_1 l0_1)) (hc0_1 : n0_1 ≤ c0_1) (R0_2 : Stable ws P0 (fun w => Kd.C (Kd.int .i64) w A0_2 n0_2 l0_2)) (hc0_2 : n0_2 ≤ c0_2) (R1_1 : Stable ws P0 (fun w => Kd.C kStep w A1_1 n1_1 l1_1)) (hc1_1 : n1_1 ≤ c1_1) (R1_2 : Stable ws P0 (fun w => Kd.C (Kd.int .i64) w A1_2 n1_2 l1_2)) (hc1_2 : n1_2 ≤ c1_2) (r_1 : Bool) (h : laws_eqPlan.f k a0_0 l0_1 l0_2 a1_0 l1_1 l1_2 = some r_1) :
    Calls Tryd.prog 10 #[.agg #[.int .i64 a0_0, .slice A0_1 n0_1 c0_1, .slice A0_2 n0_2 c0_2], .agg #[.int .i64 a1_0, .slice A1_1 n1_1 c1_1, .slice A1_2 n1_2 c1_2]] ws (Post1 w0 ws P0 (fun (_ : Unit) => .bool r_1) (fun (_ : Unit) => [])) := by
  unfold laws_eqPlan.f at h
  obtain rfl := (R0_1 ws (KeptB.refl _ _)).1
  obtain rfl := (R0_2 ws (KeptB.refl _ _)).1
  obtain rfl := (R1_1 ws (KeptB.refl _ _)).1
  obtain rfl := (R1_2 ws (KeptB.refl _ _)).1
  refine enter Tryd.func10 rfl Tryd.ntmps10 rfl hF ?_
  refine c_seq ?_
  refine za0 ?_
  refine o_e rfl (e_box rfl) (fun g1 => ?_)
  refine o_e rfl (e_box rfl) (fun g3 => ?_)
  refine o_q rfl rfl (q_asg rfl) ?_
  refine o_end ?_
  refine za1 ?_
  refine c_seq ?_
  refine c_seq ?_
  refine za0 ?_
  refine o_q rfl rfl (q_f F31_0 rfl) ?_
  refine o_q rfl rfl (q_ldb Y3 rfl (fun w h => h.zai (i := 1) rfl) rfl) ?_
  refine o_q rfl rfl (q_f F31_0 rfl) ?_
  refine o_q rfl rfl (q_ldb Y3 rfl (fun w h => h.zai (i := 0) rfl) rfl) ?_
  refine o_q rfl rfl (q_neq rfl rfl) ?_
  refine o_end ?_
  refine za1 ?_
  refine zao _ rfl (fun hb5 => ?_) (fun hb5 => ?_)
  · skip
    replace h := br_t hb5 h
    refine c_seq ?_
    refine za0 ?_
    refine o_q rfl rfl (q_asg rfl) ?_
    refine o_end ?_
    refine za1 ?_
    refine c_ret ?_
    refine za3 ?_
    have e0_ := Option.some.inj h; clear h
    subst e0_
    exact x_r1 () Tryd.results10 (zab rfl) rfl (fun w h => za8 [] (by decide) rfl w h)
  · skip
    replace h := br_f hb5 h
    refine zak ?_
    refine za1 ?_
    refine c_seq ?_
    refine c_seq ?_
    refine za0 ?_
    refine o_q rfl rfl (q_f F31_1 rfl) ?_
    refine o_q rfl rfl (q_ldb Y29 rfl (fun w h => h.zai (i := 1) rfl) rfl) ?_
    refine o_q rfl rfl (q_f F31_1 rfl) ?_
    refine o_q rfl rfl (q_ldb Y29 rfl (fun w h => h.zai (i := 0) rfl) rfl) ?_
    refine za6 h (fun b7 hx6 h => ?_) rfl
    refine o_e rfl (za9 0 Z Tryd.func28 N28 rfl rfl rfl (fun w P1 hF hB hS hT => laws_eqStepS.calls k A0_1 c0_1 l0_1.length l0_1 A1_1 c1_1 l1_1.length l1_1 hB hF (hS _ R0_1) hc0_1 (hS _ R1_1) hc1_1 _ hx6)) (fun _ => ?_)
    refine o_q rfl rfl (q_not rfl) ?_
    refine o_end ?_
    refine za1 ?_
    refine zao _ rfl (fun hb8 => ?_) (fun hb8 => ?_)
    · replace hb8 := nt_t hb8
      replace h := bb_f hb8 h
      refine c_seq ?_
      refine za0 ?_
      refine o_q rfl rfl (q_asg rfl) ?_
      refine o_end ?_
      refine za1 ?_
      refine c_ret ?_
      refine za3 ?_
      have e0_ := Option.some.inj h; clear h
      subst e0_
      exact x_r1 () Tryd.results10 (zab rfl) rfl (fun w h => za8 [] (by decide) rfl w h)
    · replace hb8 := nt_f hb8
      replace h := bb_t hb8 h
      refine zak ?_
      refine za1 ?_
      refine c_seq ?_
      refine c_seq ?_
      refine za0 ?_
      refine o_q rfl rfl (q_f F31_2 rfl) ?_
      refine o_q rfl rfl (q_ldb Y23 rfl (fun w h => h.zai (i := 1) rfl) rfl) ?_
      refine o_q rfl rfl (q_f F31_2 rfl) ?_
      refine o_q rfl rfl (q_ldb Y23 rfl (fun w h => h.zai (i := 0) rfl) rfl) ?_
      refine za6 h (fun b10 hx9 h => ?_) rfl
      refine o_e rfl (za9 0 Z Tryd.func29 N29 rfl rfl rfl (fun w P1 hF hB hS hT => laws_eqIntS.calls k A0_2 c0_2 l0_2.length l0_2 A1_2 c1_2 l1_2.length l1_2 hB hF (hS _ R0_2) hc0_2 (hS _ R1_2) hc1_2 _ hx9)) (fun _ => ?_)
      refine o_q rfl rfl (q_not rfl) ?_
      refine o_end ?_
      refine za1 ?_
      refine zao _ rfl (fun hb11 => ?_) (fun hb11 => ?_)
      · replace hb11 := nt_t hb11
        replace h := bb_f hb11 h
        refine c_seq ?_
        refine za0 ?_
        refine o_q rfl rfl (q_asg rfl) ?_
        refine o_end ?_
        refine za1 ?_
        refine c_ret ?_
        refine za3 ?_
        have e0_ := Option.some.inj h; clear h
        subst e0_
        exact x_r1 () Tryd.results10 (zab rfl) rfl (fun w h => za8 [] (by decide) rfl w h)
      · replace hb11 := nt_f hb11
        replace h := bb_t hb11 h
        refine zak ?_
        refine za1 ?_
        refine c_seq ?_
        refine za0 ?_
        refine o_q rfl rfl (q_asg rfl) ?_
        refine o_end ?_
        refine za1 ?_
        refine c_ret ?_
        have e0_ := Option.some.inj h; clear h
        subst e0_
        exact x_r1 () Tryd.results10 (zab rfl) rfl (fun w h => za8 [] (by decide) rfl w h)

/-! ### loop.example/g01098/laws.markStepS: function 46 -/
def laws_markStepS.l0 (l0 : List SStep) : Nat → (List SStep) → Int → Int → Option ((List SStep) × Int)
  | 0, _, _, _ => none
  | k6 + 1, l1, i2, i3 => if i3 < (l0.length : Int) then ((gt l1 i3).bind fun y17 => (st l1 i3 (⟨i2, y17.f1⟩ : SStep)).bind fun l18 => (gt l18 i3).bind fun y22 => (st l18 i3 (⟨y22.f0, w64 (i2 + 1)⟩ : SStep)).bind fun l23 => laws_markStepS.l0 l0 k6 l23 (w64 (w64 (i2 + 1) + 1)) (w64 (i3 + 1))) else (some (l1, i2))
def laws_markStepS.f (k : Nat) (l0 : List SStep) (a1 : Int) : Option (Int × (List SStep)) := (laws_markStepS.l0 l0 k l0 a1 0).bind fun (l1, i2) => some (i2, l1)
set_option maxHeartbeats 600000 in
set_option maxRecDepth 100000 in
theorem laws_markStepS.calls (k : Nat) {w0 ws : World} {P0 : Nat → Prop} (A0 : Option Addr) (c0 : Nat) (n0 : Nat) (l0 : List SStep) (a1 : Int) (Z : Below w0.heap.size w0 ws) (hF : Fr w0 ws P0 [row kStep 69 (.slice A0 n0 c0) l0] ws)  (r_1 : Int) (r_2 : List SStep) (h : laws_markStepS.f k l0 a1 = some (r_1, r_2)) :
    Calls Tryd.prog 46 #[.slice A0 n0 c0, .int .i64 a1] ws (Post1 w0 ws P0 (fun (_ : Unit) => .int .i64 r_1) (fun (_ : Unit) => [row kStep 69 (.slice A0 n0 c0) r_2])) := by
  unfold laws_markStepS.f at h
  obtain rfl := (hF.row_C (i := 0) rfl).2.1
  refine enter Tryd.func46 rfl Tryd.ntmps46 rfl hF ?_
  refine c_seq ?_
  refine za0 ?_
  refine o_q rfl rfl (q_asg rfl) ?_
  refine o_end ?_
  refine za1 ?_
  refine c_seq ?_
  refine c_seq ?_
  refine za0 ?_
  refine o_q rfl rfl (q_asg rfl) ?_
  refine o_end ?_
  refine za1 ?_
  refine zaj ?_
  refine za6 h (fun o11 hl10 hR9 => ?_) rfl
  clear h
  refine c_loopL (σ := (List SStep) × Int × Int) (fun k6 ((l1, i2, i3) : (List SStep) × Int × Int) => laws_markStepS.l0 l0 k6 l1 i2 i3 = some o11) [1, 5, 6, 7, 8, 9, 10, 11, 12, 13, 14, 15, 16, 17, 18, 19, 20, 21, 22, 23, 24, 25] (fun ((l1, i2, i3) : (List SStep) × Int × Int) => [(1, .int .i64 i2), (5, .int .i64 i3)]) (fun ((l1, i2, i3) : (List SStep) × Int × Int) => [row kStep 69 (.slice A0 l0.length c0) l1]) k (l0, a1, 0) hl10 ⟨rfl, rfl, trivial⟩ (fun w h => h) ?_
  refine natC (cur3 (fun l1 i2 i3 => fun U12 hJ_ => ?_)) (fun k6 => (cur3 (fun l1 i2 i3 => fun U12 hJ_ => ?_)))
  · skip
    replace hJ_ : laws_markStepS.l0 l0 0 l1 i2 i3 = some o11 := hJ_
    rw [laws_markStepS.l0] at hJ_
    exact noneE hJ_
  · skip
    clear hl10
    have h := hJ_; clear hJ_
    replace h : laws_markStepS.l0 l0 (k6 + 1) l1 i2 i3 = some o11 := h
    rw [laws_markStepS.l0] at h
    refine c_seq ?_
    refine c_seq ?_
    refine za0 ?_
    refine o_q rfl rfl (za2 rfl) ?_
    refine o_q rfl rfl (za2 rfl) ?_
    refine o_q rfl rfl (q_len Tryd.underlying29 rfl) ?_
    refine o_q rfl rfl (q_lss rfl rfl) ?_
    refine o_end ?_
    refine za1 ?_
    refine zao _ rfl (fun hb14 => ?_) (fun hb14 => ?_)
    · skip
      replace h := br_t hb14 h
      refine zak ?_
      refine za1 ?_
      refine c_seq ?_
      refine zaj ?_
      refine c_seq ?_
      refine za0 ?_
      refine o_q rfl rfl (za2 rfl) ?_
      refine o_q rfl rfl (za2 rfl) ?_
      refine o_q rfl rfl (za2 rfl) ?_
      refine o_fact (p := Sh A0 l0.length l1.length) (fun w h => f_sh (dk := kStep) h (fun w h => h.zar (i := 0) rfl)) (fun hq15 => ?_)
      refine za6 h (fun y17 hg16 h => ?_) rfl
      refine o_q rfl rfl (q_ix Tryd.underlying29 Z69 rfl rfl hq15 hg16) ?_
      refine o_q rfl rfl (q_fe F69_0 rfl) ?_
      refine za6 h (fun l18 hs19 h => ?_) rfl
      refine o_e rfl (e_setF (i := 0) (off := 0) (vs := [.int .i64 i2]) (q' := (⟨i2, y17.f1⟩ : SStep)) rfl rfl rfl rfl rfl rfl Z3 hg16 rfl rfl hs19) (fun _ => ?_)
      refine o_end ?_
      refine za1 ?_
      refine c_seq ?_
      refine za0 ?_
      refine o_q rfl rfl (za2 rfl) ?_
      refine o_q rfl rfl (q_add64 rfl rfl) ?_
      refine o_q rfl rfl (q_asg rfl) ?_
      refine o_end ?_
      refine za1 ?_
      refine c_seq ?_
      refine za0 ?_
      refine o_q rfl rfl (za2 rfl) ?_
      refine o_q rfl rfl (za2 rfl) ?_
      refine o_q rfl rfl (za2 rfl) ?_
      refine o_fact (p := Sh A0 l0.length l18.length) (fun w h => f_sh (dk := kStep) h (fun w h => h.zar (i := 0) rfl)) (fun hq20 => ?_)
      refine za6 h (fun y22 hg21 h => ?_) rfl
      refine o_q rfl rfl (q_ix Tryd.underlying29 Z69 rfl rfl hq20 hg21) ?_
      refine o_q rfl rfl (q_fe F69_1 rfl) ?_
      refine za6 h (fun l23 hs24 h => ?_) rfl
      refine o_e rfl (e_setF (i := 0) (off := 1) (vs := [.int .i64 (w64 (i2 + 1))]) (q' := (⟨y22.f0, w64 (i2 + 1)⟩ : SStep)) rfl rfl rfl rfl rfl rfl Z3 hg21 rfl rfl hs24) (fun _ => ?_)
      refine o_end ?_
      refine za1 ?_
      refine za0 ?_
      refine o_q rfl rfl (za2 rfl) ?_
      refine o_q rfl rfl (q_add64 rfl rfl) ?_
      refine o_q rfl rfl (q_asg rfl) ?_
      refine o_end ?_
      refine x_block ?_
      refine za1 ?_
      refine za0 ?_
      refine o_q rfl rfl (za2 rfl) ?_
      refine o_q rfl rfl (q_add64 rfl rfl) ?_
      refine o_q rfl rfl (q_asg rfl) ?_
      refine o_end ?_
      refine zan k6 (l23, w64 (w64 (i2 + 1) + 1), w64 (i3 + 1)) (Nat.lt_succ_self _) h ⟨rfl, rfl, trivial⟩ (fun w h => za8 [0] (by decide) rfl w h) ?_
      repeat (first | exact zae _ _ | refine zal rfl ?_ | refine zaf rfl ?_ | refine zam rfl ?_)
    · skip
      replace h := br_f hb14 h
      refine c_exit ?_
      refine za7 ?_
      refine za7 ?_
      have e_ := Option.some.inj h; replace h := hR9; rw [← e_] at h; clear e_
      refine x_hit ?_
      refine za1 ?_
      refine c_seq ?_
      refine za0 ?_
      refine o_q rfl rfl (za2 rfl) ?_
      refine o_q rfl rfl (q_asg rfl) ?_
      refine o_end ?_
      refine za1 ?_
      refine c_ret ?_
      have e0_ := Option.some.inj h; clear h
      have d0_ := (Prod.mk.inj e0_).1; have e1_ := (Prod.mk.inj e0_).2; clear e0_; subst d0_
      subst e1_
      exact x_r1 () Tryd.results46 (zab rfl) rfl (fun w h => za8 [0] (by decide) rfl w h)

/-! ### loop.example/g01098/laws.markIntS: function 47 -/
def laws_markIntS.l0 (l0 : List Int) : Nat → (List Int) → Int → Int → Option ((List Int) × Int)
  | 0, _, _, _ => none
  | k6 + 1, l1, i2, i3 => if i3 < (l0.length : Int) then ((gt l1 i3).bind fun y17 => (st l1 i3 i2).bind fun l18 => laws_markIntS.l0 l0 k6 l18 (w64 (i2 + 1)) (w64 (i3 + 1))) else (some (l1, i2))
def laws_markIntS.f (k : Nat) (l0 : List Int) (a1 : Int) : Option (Int × (List Int)) := (laws_markIntS.l0 l0 k l0 a1 0).bind fun (l1, i2) => some (i2, l1)
set_option maxHeartbeats 600000 in
set_option maxRecDepth 100000 in
theorem laws_markIntS.calls (k : Nat) {w0 ws : World} {P0 : Nat → Prop} (A0 : Option Addr) (c0 : Nat) (n0 : Nat) (l0 : List Int) (a1 : Int) (Z : Below w0.heap.size w0 ws) (hF : Fr w0 ws P0 [row (Kd.int .i64) 3 (.slice A0 n0 c0) l0] ws)  (r_1 : Int) (r_2 : List Int) (h : laws_markIntS.f k l0 a1 = some (r_1, r_2)) :
    Calls Tryd.prog 47 #[.slice A0 n0 c0, .int .i64 a1] ws (Post1 w0 ws P0 (fun (_ : Unit) => .int .i64 r_1) (fun (_ : Unit) => [row (Kd.int .i64) 3 (.slice A0 n0 c0) r_2])) := by
  unfold laws_markIntS.f at h
  obtain rfl := (hF.row_C (i := 0) rfl).2.1
  refine enter Tryd.func47 rfl Tryd.ntmps47 rfl hF ?_
  refine c_seq ?_
  refine za0 ?_
  refine o_q rfl rfl (q_asg rfl) ?_
  refine o_end ?_
  refine za1 ?_
  refine c_seq ?_
  refine c_seq ?_
  refine za0 ?_
  refine o_q rfl rfl (q_asg rfl) ?_
  refine o_end ?_
  refine za1 ?_
  refine zaj ?_
  refine za6 h (fun o11 hl10 hR9 => ?_) rfl
  clear h
  refine c_loopL (σ := (List Int) × Int × Int) (fun k6 ((l1, i2, i3) : (List Int) × Int × Int) => laws_markIntS.l0 l0 k6 l1 i2 i3 = some o11) [1, 5, 6, 7, 8, 9, 10, 11, 12, 13, 14, 15, 16, 17] (fun ((l1, i2, i3) : (List Int) × Int × Int) => [(1, .int .i64 i2), (5, .int .i64 i3)]) (fun ((l1, i2, i3) : (List Int) × Int × Int) => [row (Kd.int .i64) 3 (.slice A0 l0.length c0) l1]) k (l0, a1, 0) hl10 ⟨rfl, rfl, trivial⟩ (fun w h => h) ?_
  refine natC (cur3 (fun l1 i2 i3 => fun U12 hJ_ => ?_)) (fun k6 => (cur3 (fun l1 i2 i3 => fun U12 hJ_ => ?_)))
  · skip
    replace hJ_ : laws_markIntS.l0 l0 0 l1 i2 i3 = some o11 := hJ_
    rw [laws_markIntS.l0] at hJ_
    exact noneE hJ_
  · skip
    clear hl10
    have h := hJ_; clear hJ_
    replace h : laws_markIntS.l0 l0 (k6 + 1) l1 i2 i3 = some o11 := h
    rw [laws_markIntS.l0] at h
    refine c_seq ?_
    refine c_seq ?_
    refine za0 ?_
    refine o_q rfl rfl (za2 rfl) ?_
    refine o_q rfl rfl (za2 rfl) ?_
    refine o_q rfl rfl (q_len Tryd.underlying23 rfl) ?_
    refine o_q rfl rfl (q_lss rfl rfl) ?_
    refine o_end ?_
    refine za1 ?_
    refine zao _ rfl (fun hb14 => ?_) (fun hb14 => ?_)
    · skip
      replace h := br_t hb14 h
      refine zak ?_
      refine za1 ?_
      refine c_seq ?_
      refine zaj ?_
      refine c_seq ?_
      refine za0 ?_
      refine o_q rfl rfl (za2 rfl) ?_
      refine o_q rfl rfl (za2 rfl) ?_
      refine o_q rfl rfl (za2 rfl) ?_
      refine o_fact (p := Sh A0 l0.length l1.length) (fun w h => f_sh (dk := (Kd.int .i64)) h (fun w h => h.zar (i := 0) rfl)) (fun hq15 => ?_)
      refine za6 h (fun y17 hg16 h => ?_) rfl
      refine o_q rfl rfl (q_ix Tryd.underlying23 Z3 rfl rfl hq15 hg16) ?_
      refine za6 h (fun l18 hs19 h => ?_) rfl
      refine o_e rfl (e_set (i := 0) rfl rfl rfl Z3 hs19) (fun _ => ?_)
      refine o_end ?_
      refine za1 ?_
      refine za0 ?_
      refine o_q rfl rfl (za2 rfl) ?_
      refine o_q rfl rfl (q_add64 rfl rfl) ?_
      refine o_q rfl rfl (q_asg rfl) ?_
      refine o_end ?_
      refine x_block ?_
      refine za1 ?_
      refine za0 ?_
      refine o_q rfl rfl (za2 rfl) ?_
      refine o_q rfl rfl (q_add64 rfl rfl) ?_
      refine o_q rfl rfl (q_asg rfl) ?_
      refine o_end ?_
      refine zan k6 (l18, w64 (i2 + 1), w64 (i3 + 1)) (Nat.lt_succ_self _) h ⟨rfl, rfl, trivial⟩ (fun w h => za8 [0] (by decide) rfl w h) ?_
      repeat (first | exact zae _ _ | refine zal rfl ?_ | refine zaf rfl ?_ | refine zam rfl ?_)
    · skip
      replace h := br_f hb14 h
      refine c_exit ?_
      refine za7 ?_
      refine za7 ?_
      have e_ := Option.some.inj h; replace h := hR9; rw [← e_] at h; clear e_
      refine x_hit ?_
      refine za1 ?_
      refine c_seq ?_
      refine za0 ?_
      refine o_q rfl rfl (za2 rfl) ?_
      refine o_q rfl rfl (q_asg rfl) ?_
      refine o_end ?_
      refine za1 ?_
      refine c_ret ?_
      have e0_ := Option.some.inj h; clear h
      have d0_ := (Prod.mk.inj e0_).1; have e1_ := (Prod.mk.inj e0_).2; clear e0_; subst d0_
      subst e1_
      exact x_r1 () Tryd.results47 (zab rfl) rfl (fun w h => za8 [0] (by decide) rfl w h)

/-! ### loop.example/g01098/laws.markPlan: function 18 -/
def laws_markPlan.f (k : Nat) (a0_0 : Int) (l0_1 : List SStep) (l0_2 : List Int) (a1 : Int) : Option (Int × (List SStep) × (List Int)) := (laws_markStepS.f k l0_1 a1).bind fun (i4, l5) => (laws_markIntS.f k l0_2 i4).bind fun (i7, l8) => some (i7, l5, l8)
set_option maxHeartbeats 600000 in
set_option maxRecDepth 100000 in
theorem laws_markPlan.calls (k : Nat) {w0 ws : World} {P0 : Nat → Prop} (a0_0 : Int) (A0_1 : Option Addr) (c0_1 : Nat) (n0_1 : Nat) (l0_1 : List SStep) (A0_2 : Option Addr) (c0_2 : Nat) (n0_2 : Nat) (l0_2 : List Int) (a1 : Int) (Z : Below w0.heap.size w0 ws) (hF : Fr w0 ws P0 [row kStep 69 (.slice A0_1 n0_1 c0_1) l0_1, row (Kd.int .i64) 3 (.slice A0_2 n0_2 c0_2) l0_2] ws)  (r_1 : Int) (r_2 : List SStep) (r_3 : List Int) (h : laws_markPlan.f k a0_0 l0_1 l0_2 a1 = some (r_1, r_2, r_3)) :
    Calls Tryd.prog 18 #[.agg #[.int .i64 a0_0, .slice A0_1 n0_1 c0_1, .slice A0_2 n0_2 c0_2], .int .i64 a1] ws (Post1 w0 ws P0 (fun (_ : Unit) => .int .i64 r_1) (fun (_ : Unit) => [row kStep 69 (.slice A0_1 n0_1 c0_1) r_2, row (Kd.int .i64) 3 (.slice A0_2 n0_2 c0_2) r_3])) := by
  unfold laws_markPlan.f at h
  obtain rfl := (hF.row_C (i := 0) rfl).2.1
  obtain rfl := (hF.row_C (i := 1) rfl).2.1
  refine enter Tryd.func18 rfl Tryd.ntmps18 rfl hF ?_
  refine c_seq ?_
  refine za0 ?_
  refine o_e rfl (e_box rfl) (fun g1 => ?_)
  refine o_q rfl rfl (q_asg rfl) ?_
  refine o_end ?_
  refine za1 ?_
  refine c_seq ?_
  refine za0 ?_
  refine o_q rfl rfl (q_f F31_1 rfl) ?_
  refine o_q rfl rfl (q_ldb Y29 rfl (fun w h => h.zai (i := 0) rfl) rfl) ?_
  refine o_q rfl rfl (za2 rfl) ?_
  refine o_pick [1, 0, 2] (by decide) rfl ?_
  refine bindE2 h (fun i4 l5 hx3 h => ?_) rfl
  refine o_e rfl (za9 1 Z Tryd.func46 N46 rfl rfl rfl (fun w P1 hF hB hS hT => laws_markStepS.calls k A0_1 c0_1 l0_1.length l0_1 a1 hB hF _ _ hx3)) (fun _ => ?_)
  refine o_q rfl rfl (q_asg rfl) ?_
  refine o_end ?_
  refine za1 ?_
  refine c_seq ?_
  refine za0 ?_
  refine o_q rfl rfl (q_f F31_2 rfl) ?_
  refine o_q rfl rfl (q_ldb Y23 rfl (fun w h => h.zai (i := 1) rfl) rfl) ?_
  refine o_q rfl rfl (za2 rfl) ?_
  refine o_pick [2, 0, 1] (by decide) rfl ?_
  refine bindE2 h (fun i7 l8 hx6 h => ?_) rfl
  refine o_e rfl (za9 1 Z Tryd.func47 N47 rfl rfl rfl (fun w P1 hF hB hS hT => laws_markIntS.calls k A0_2 c0_2 l0_2.length l0_2 i4 hB hF _ _ hx6)) (fun _ => ?_)
  refine o_q rfl rfl (q_asg rfl) ?_
  refine o_end ?_
  refine za1 ?_
  refine c_seq ?_
  refine za0 ?_
  refine o_q rfl rfl (za2 rfl) ?_
  refine o_q rfl rfl (q_asg rfl) ?_
  refine o_end ?_
  refine za1 ?_
  refine c_ret ?_
  have e0_ := Option.some.inj h; clear h
  have d0_ := (Prod.mk.inj e0_).1; have e1_ := (Prod.mk.inj e0_).2; clear e0_; subst d0_
  have d1_ := (Prod.mk.inj e1_).1; have e2_ := (Prod.mk.inj e1_).2; clear e1_; subst d1_
  subst e2_
  exact x_r1 () Tryd.results18 (zab rfl) rfl (fun w h => za8 [1, 0] (by decide) rfl w h)

/-! ### loop.example/g01098/laws.heldStepS: function 48 -/
def laws_heldStepS.l0 (l0 : List SStep) : Nat → Int → Int → Option ((Int) ⊕ (Int))
  | 0, _, _ => none
  | k5 + 1, i1, i2 => if i2 < (l0.length : Int) then ((gt l0 i2).bind fun y16 => if y16.f0 ≠ i1 then (some (.inl (-1))) else ((gt l0 i2).bind fun y19 => if y19.f1 ≠ w64 (i1 + 1) then (some (.inl (-1))) else (laws_heldStepS.l0 l0 k5 (w64 (w64 (i1 + 1) + 1)) (w64 (i2 + 1))))) else (some (.inr i1))
def laws_heldStepS.f (k : Nat) (l0 : List SStep) (a1 : Int) : Option Int := (laws_heldStepS.l0 l0 k a1 0).bind fun o_ => match o_ with | .inl r_ => some r_ | .inr i1 => some i1
set_option maxHeartbeats 600000 in
set_option maxRecDepth 100000 in
theorem laws_heldStepS.calls (k : Nat) {w0 ws : World} {P0 : Nat → Prop} (A0 : Option Addr) (c0 : Nat) (n0 : Nat) (l0 : List SStep) (a1 : Int) (Z : Below w0.heap.size w0 ws) (hF : Fr w0 ws P0 [] ws) (R0 : Stable ws P0 (fun w => Kd.C kStep w A0 n0 l0)) (hc0 : n0 ≤ c0) (r_1 : Int) (h : laws_heldStepS.f k l0 a1 = some r_1) :
    Calls Tryd.prog 48 #[.slice A0 n0 c0, .int .i64 a1] ws (Post1 w0 ws P0 (fun (_ : Unit) => .int .i64 r_1) (fun (_ : Unit) => [])) := by
  unfold laws_heldStepS.f at h
  obtain rfl := (R0 ws (KeptB.refl _ _)).1
  refine enter Tryd.func48 rfl Tryd.ntmps48 rfl hF ?_
  refine c_seq ?_
  refine za0 ?_
  refine o_q rfl rfl (q_asg rfl) ?_
  refine o_end ?_
  refine za1 ?_
  refine c_seq ?_
  refine c_seq ?_
  refine za0 ?_
  refine o_q rfl rfl (q_asg rfl) ?_
  refine o_end ?_
  refine za1 ?_
  refine zaj ?_
  refine za6 h (fun o10 hl9 hR8 => ?_) rfl
  clear h
  refine c_loopL (σ := Int × Int) (fun k5 ((i1, i2) : Int × Int) => laws_heldStepS.l0 l0 k5 i1 i2 = some o10) [1, 4, 5, 6, 7, 8, 9, 10, 11, 12, 13, 14, 15, 16, 17, 18, 19, 20, 21, 22, 23, 24, 25, 26, 27, 28, 29] (fun ((i1, i2) : Int × Int) => [(1, .int .i64 i1), (5, .int .i64 i2)]) (fun ((i1, i2) : Int × Int) => []) k (a1, 0) hl9 ⟨rfl, rfl, trivial⟩ (fun w h => h) ?_
  refine natC (cur2 (fun i1 i2 => fun U11 hJ_ => ?_)) (fun k5 => (cur2 (fun i1 i2 => fun U11 hJ_ => ?_)))
  · skip
    replace hJ_ : laws_heldStepS.l0 l0 0 i1 i2 = some o10 := hJ_
    rw [laws_heldStepS.l0] at hJ_
    exact noneE hJ_
  · skip
    clear hl9
    have h := hJ_; clear hJ_
    replace h : laws_heldStepS.l0 l0 (k5 + 1) i1 i2 = some o10 := h
    rw [laws_heldStepS.l0] at h
    refine c_seq ?_
    refine c_seq ?_
    refine za0 ?_
    refine o_q rfl rfl (za2 rfl) ?_
    refine o_q rfl rfl (za2 rfl) ?_
    refine o_q rfl rfl (q_len Tryd.underlying29 rfl) ?_
    refine o_q rfl rfl (q_lss rfl rfl) ?_
    refine o_end ?_
    refine za1 ?_
    refine zao _ rfl (fun hb13 => ?_) (fun hb13 => ?_)
    · skip
      replace h := br_t hb13 h
      refine zak ?_
      refine za1 ?_
      refine c_seq ?_
      refine zaj ?_
      refine c_seq ?_
      refine c_seq ?_
      refine za0 ?_
      refine o_q rfl rfl (za2 rfl) ?_
      refine o_q rfl rfl (za2 rfl) ?_
      refine o_fact (p := Sh A0 l0.length l0.length) (fun w h => f_sh (dk := kStep) h (fun w h => R0.now Z h)) (fun hq14 => ?_)
      refine za6 h (fun y16 hg15 h => ?_) rfl
      refine o_q rfl rfl (q_ix Tryd.underlying29 Z69 rfl rfl hq14 hg15) ?_
      refine o_q rfl rfl (q_fe F69_0 rfl) ?_
      refine o_q rfl rfl (q_lde (off := 0) Y3 rfl rfl (fun w h => R0.now Z h) hg15 (fun _ _ h => h) rfl) ?_
      refine o_q rfl rfl (za2 rfl) ?_
      refine o_q rfl rfl (q_neq rfl rfl) ?_
      refine o_end ?_
      refine za1 ?_
      refine zao _ rfl (fun hb17 => ?_) (fun hb17 => ?_)
      · skip
        replace h := br_t hb17 h
        refine c_seq ?_
        refine za0 ?_
        refine o_q rfl rfl (q_asg rfl) ?_
        refine o_end ?_
        refine za1 ?_
        refine c_ret ?_
        refine za3 ?_
        refine zad ?_
        refine za3 ?_
        refine za3 ?_
        have e_ := Option.some.inj h; replace h := hR8; rw [← e_] at h; clear e_
        refine zad ?_
        refine za3 ?_
        have e0_ := Option.some.inj h; clear h
        subst e0_
        exact x_r1 () Tryd.results48 (zab rfl) rfl (fun w h => za8 [] (by decide) rfl w h)
      · skip
        replace h := br_f hb17 h
        refine zak ?_
        refine za1 ?_
        refine c_seq ?_
        refine za0 ?_
        refine o_q rfl rfl (za2 rfl) ?_
        refine o_q rfl rfl (q_add64 rfl rfl) ?_
        refine o_q rfl rfl (q_asg rfl) ?_
        refine o_end ?_
        refine za1 ?_
        refine c_seq ?_
        refine c_seq ?_
        refine za0 ?_
        refine o_q rfl rfl (za2 rfl) ?_
        refine o_q rfl rfl (za2 rfl) ?_
        refine za6 h (fun y19 hg18 h => ?_) rfl
        refine o_q rfl rfl (q_ix Tryd.underlying29 Z69 rfl rfl hq14 hg18) ?_
        refine o_q rfl rfl (q_fe F69_1 rfl) ?_
        refine o_q rfl rfl (q_lde (off := 1) Y3 rfl rfl (fun w h => R0.now Z h) hg18 (fun _ _ h => h) rfl) ?_
        refine o_q rfl rfl (za2 rfl) ?_
        refine o_q rfl rfl (q_neq rfl rfl) ?_
        refine o_end ?_
        refine za1 ?_
        refine zao _ rfl (fun hb20 => ?_) (fun hb20 => ?_)
        · skip
          replace h := br_t hb20 h
          refine c_seq ?_
          refine za0 ?_
          refine o_q rfl rfl (q_asg rfl) ?_
          refine o_end ?_
          refine za1 ?_
          refine c_ret ?_
          refine za3 ?_
          refine zad ?_
          refine za3 ?_
          refine za3 ?_
          have e_ := Option.some.inj h; replace h := hR8; rw [← e_] at h; clear e_
          refine zad ?_
          refine za3 ?_
          have e0_ := Option.some.inj h; clear h
          subst e0_
          exact x_r1 () Tryd.results48 (zab rfl) rfl (fun w h => za8 [] (by decide) rfl w h)
        · skip
          replace h := br_f hb20 h
          refine zak ?_
          refine za1 ?_
          refine za0 ?_
          refine o_q rfl rfl (za2 rfl) ?_
          refine o_q rfl rfl (q_add64 rfl rfl) ?_
          refine o_q rfl rfl (q_asg rfl) ?_
          refine o_end ?_
          refine x_block ?_
          refine za1 ?_
          refine za0 ?_
          refine o_q rfl rfl (za2 rfl) ?_
          refine o_q rfl rfl (q_add64 rfl rfl) ?_
          refine o_q rfl rfl (q_asg rfl) ?_
          refine o_end ?_
          refine zan k5 (w64 (w64 (i1 + 1) + 1), w64 (i2 + 1)) (Nat.lt_succ_self _) h ⟨rfl, rfl, trivial⟩ (fun w h => za8 [] (by decide) rfl w h) ?_
          repeat (first | exact zae _ _ | refine zal rfl ?_ | refine zaf rfl ?_ | refine zam rfl ?_)
    · skip
      replace h := br_f hb13 h
      refine c_exit ?_
      refine za7 ?_
      refine za7 ?_
      have e_ := Option.some.inj h; replace h := hR8; rw [← e_] at h; clear e_
      refine x_hit ?_
      refine za1 ?_
      refine c_seq ?_
      refine za0 ?_
      refine o_q rfl rfl (za2 rfl) ?_
      refine o_q rfl rfl (q_asg rfl) ?_
      refine o_end ?_
      refine za1 ?_
      refine c_ret ?_
      have e0_ := Option.some.inj h; clear h
      subst e0_
      exact x_r1 () Tryd.results48 (zab rfl) rfl (fun w h => za8 [] (by decide) rfl w h)

/-! ### loop.example/g01098/laws.heldIntS: function 49 -/
def laws_heldIntS.l0 (l0 : List Int) : Nat → Int → Int → Option ((Int) ⊕ (Int))
  | 0, _, _ => none
  | k5 + 1, i1, i2 => if i2 < (l0.length : Int) then ((gt l0 i2).bind fun y16 => if y16 ≠ i1 then (some (.inl (-1))) else (laws_heldIntS.l0 l0 k5 (w64 (i1 + 1)) (w64 (i2 + 1)))) else (some (.inr i1))
def laws_heldIntS.f (k : Nat) (l0 : List Int) (a1 : Int) : Option Int := (laws_heldIntS.l0 l0 k a1 0).bind fun o_ => match o_ with | .inl r_ => some r_ | .inr i1 => some i1
set_option maxHeartbeats 600000 in
set_option maxRecDepth 100000 in
theorem laws_heldIntS.calls (k : Nat) {w0 ws : World} {P0 : Nat → Prop} (A0 : Option Addr) (c0 : Nat) (n0 : Nat) (l0 : List Int) (a1 : Int) (Z : Below w0.heap.size w0 ws) (hF : Fr w0 ws P0 [] ws) (R0 : Stable ws P0 (fun w => Kd.C (Kd.int .i64) w A0 n0 l0)) (hc0 : n0 ≤ c0) (r_1 : Int) (h : laws_heldIntS.f k l0 a1 = some r_1) :
    Calls Tryd.prog 49 #[.slice A0 n0 c0, .int .i64 a1] ws (Post1 w0 ws P0 (fun (_ : Unit) => .int .i64 r_1) (fun (_ : Unit) => [])) := by
  unfold laws_heldIntS.f at h
  obtain rfl := (R0 ws (KeptB.refl _ _)).1
  refine enter Tryd.func49 rfl Tryd.ntmps49 rfl hF ?_
  refine c_seq ?_
  refine za0 ?_
  refine o_q rfl rfl (q_asg rfl) ?_
  refine o_end ?_
  refine za1 ?_
  refine c_seq ?_
  refine c_seq ?_
  refine za0 ?_
  refine o_q rfl rfl (q_asg rfl) ?_
  refine o_end ?_
  refine za1 ?_
  refine zaj ?_
  refine za6 h (fun o10 hl9 hR8 => ?_) rfl
  clear h
  refine c_loopL (σ := Int × Int) (fun k5 ((i1, i2) : Int × Int) => laws_heldIntS.l0 l0 k5 i1 i2 = some o10) [1, 4, 5, 6, 7, 8, 9, 10, 11, 12, 13, 14, 15, 16, 17, 18, 19] (fun ((i1, i2) : Int × Int) => [(1, .int .i64 i1), (5, .int .i64 i2)]) (fun ((i1, i2) : Int × Int) => []) k (a1, 0) hl9 ⟨rfl, rfl, trivial⟩ (fun w h => h) ?_
  refine natC (cur2 (fun i1 i2 => fun U11 hJ_ => ?_)) (fun k5 => (cur2 (fun i1 i2 => fun U11 hJ_ => ?_)))
  · skip
    replace hJ_ : laws_heldIntS.l0 l0 0 i1 i2 = some o10 := hJ_
    rw [laws_heldIntS.l0] at hJ_
    exact noneE hJ_
  · skip
    clear hl9
    have h := hJ_; clear hJ_
    replace h : laws_heldIntS.l0 l0 (k5 + 1) i1 i2 = some o10 := h
    rw [laws_heldIntS.l0] at h
    refine c_seq ?_
    refine c_seq ?_
    refine za0 ?_
    refine o_q rfl rfl (za2 rfl) ?_
    refine o_q rfl rfl (za2 rfl) ?_
    refine o_q rfl rfl (q_len Tryd.underlying23 rfl) ?_
    refine o_q rfl rfl (q_lss rfl rfl) ?_
    refine o_end ?_
    refine za1 ?_
    refine zao _ rfl (fun hb13 => ?_) (fun hb13 => ?_)
    · skip
      replace h := br_t hb13 h
      refine zak ?_
      refine za1 ?_
      refine c_seq ?_
      refine zaj ?_
      refine c_seq ?_
      refine c_seq ?_
      refine za0 ?_
      refine o_q rfl rfl (za2 rfl) ?_
      refine o_q rfl rfl (za2 rfl) ?_
      refine o_fact (p := Sh A0 l0.length l0.length) (fun w h => f_sh (dk := (Kd.int .i64)) h (fun w h => R0.now Z h)) (fun hq14 => ?_)
      refine za6 h (fun y16 hg15 h => ?_) rfl
      refine o_q rfl rfl (q_ix Tryd.underlying23 Z3 rfl rfl hq14 hg15) ?_
      refine o_q rfl rfl (q_lde (off := 0) Y3 rfl rfl (fun w h => R0.now Z h) hg15 (fun _ _ h => h) rfl) ?_
      refine o_q rfl rfl (za2 rfl) ?_
      refine o_q rfl rfl (q_neq rfl rfl) ?_
      refine o_end ?_
      refine za1 ?_
      refine zao _ rfl (fun hb17 => ?_) (fun hb17 => ?_)
      · skip
        replace h := br_t hb17 h
        refine c_seq ?_
        refine za0 ?_
        refine o_q rfl rfl (q_asg rfl) ?_
        refine o_end ?_
        refine za1 ?_
        refine c_ret ?_
        refine za3 ?_
        refine zad ?_
        refine za3 ?_
        refine za3 ?_
        have e_ := Option.some.inj h; replace h := hR8; rw [← e_] at h; clear e_
        refine zad ?_
        refine za3 ?_
        have e0_ := Option.some.inj h; clear h
        subst e0_
        exact x_r1 () Tryd.results49 (zab rfl) rfl (fun w h => za8 [] (by decide) rfl w h)
      · skip
        replace h := br_f hb17 h
        refine zak ?_
        refine za1 ?_
        refine za0 ?_
        refine o_q rfl rfl (za2 rfl) ?_
        refine o_q rfl rfl (q_add64 rfl rfl) ?_
        refine o_q rfl rfl (q_asg rfl) ?_
        refine o_end ?_
        refine x_block ?_
        refine za1 ?_
        refine za0 ?_
        refine o_q rfl rfl (za2 rfl) ?_
        refine o_q rfl rfl (q_add64 rfl rfl) ?_
        refine o_q rfl rfl (q_asg rfl) ?_
        refine o_end ?_
        refine zan k5 (w64 (i1 + 1), w64 (i2 + 1)) (Nat.lt_succ_self _) h ⟨rfl, rfl, trivial⟩ (fun w h => za8 [] (by decide) rfl w h) ?_
        repeat (first | exact zae _ _ | refine zal rfl ?_ | refine zaf rfl ?_ | refine zam rfl ?_)
    · skip
      replace h := br_f hb13 h
      refine c_exit ?_
      refine za7 ?_
      refine za7 ?_
      have e_ := Option.some.inj h; replace h := hR8; rw [← e_] at h; clear e_
      refine x_hit ?_
      refine za1 ?_
      refine c_seq ?_
      refine za0 ?_
      refine o_q rfl rfl (za2 rfl) ?_
      refine o_q rfl rfl (q_asg rfl) ?_
      refine o_end ?_
      refine za1 ?_
      refine c_ret ?_
      have e0_ := Option.some.inj h; clear h
      subst e0_
      exact x_r1 () Tryd.results49 (zab rfl) rfl (fun w h => za8 [] (by decide) rfl w h)

/-! ### loop.example/g01098/laws.heldPlan: function 19 -/
def laws_heldPlan.f (k : Nat) (a0_0 : Int) (l0_1 : List SStep) (l0_2 : List Int) (a1 : Int) : Option Int := (laws_heldStepS.f k l0_1 a1).bind fun i4 => if i4 < 0 then (some (-1)) else ((laws_heldIntS.f k l0_2 i4).bind fun i7 => if i7 < 0 then (some (-1)) else (some i7))
set_option maxHeartbeats 600000 in
set_option maxRecDepth 100000 in
theorem laws_heldPlan.calls (k : Nat) {w0 ws : World} {P0 : Nat → Prop} (a0_0 : Int) (A0_1 : Option Addr) (c0_1 : Nat) (n0_1 : Nat) (l0_1 : List SStep) (A0_2 : Option Addr) (c0_2 : Nat) (n0_2 : Nat) (l0_2 : List Int) (a1 : Int) (Z : Below w0.heap.size w0 ws) (hF : Fr w0 ws P0 [] ws) (R0_1 : Stable ws P0 (fun w => Kd.C kStep w A0_1 n0_1 l0_1)) (hc0_1 : n0_1 ≤ c0_1) (R0_2 : Stable ws P0 (fun w => Kd.C (Kd.int .i64) w A0_2 n0_2 l0_2)) (hc0_2 : n0_2 ≤ c0_2) (r_1 : Int) (h : laws_heldPlan.f k a0_0 l0_1 l0_2 a1 = some r_1) :
    Calls Tryd.prog 19 #[.agg #[.int .i64 a0_0, .slice A0_1 n0_1 c0_1, .slice A0_2 n0_2 c0_2], .int .i64 a1] ws (Post1 w0 ws P0 (fun (_ : Unit) => .int .i64 r_1) (fun (_ : Unit) => [])) := by
  unfold laws_heldPlan.f at h
  obtain rfl := (R0_1 ws (KeptB.refl _ _)).1
  obtain rfl := (R0_2 ws (KeptB.refl _ _)).1
  refine enter Tryd.func19 rfl Tryd.ntmps19 rfl hF ?_
  refine c_seq ?_
  refine za0 ?_
  refine o_e rfl (e_box rfl) (fun g1 => ?_)
  refine o_q rfl rfl (q_asg rfl) ?_
  refine o_end ?_
  refine za1 ?_
  refine c_seq ?_
  refine za0 ?_
  refine o_q rfl rfl (q_f F31_1 rfl) ?_
  refine o_q rfl rfl (q_ldb Y29 rfl (fun w h => h.zai (i := 0) rfl) rfl) ?_
  refine o_q rfl rfl (za2 rfl) ?_
  refine za6 h (fun i4 hx3 h => ?_) rfl
  refine o_e rfl (za9 0 Z Tryd.func48 N48 rfl rfl rfl (fun w P1 hF hB hS hT => laws_heldStepS.calls k A0_1 c0_1 l0_1.length l0_1 a1 hB hF (hS _ R0_1) hc0_1 _ hx3)) (fun _ => ?_)
  refine o_q rfl rfl (q_asg rfl) ?_
  refine o_end ?_
  refine za1 ?_
  refine c_seq ?_
  refine c_seq ?_
  refine za0 ?_
  refine o_q rfl rfl (za2 rfl) ?_
  refine o_q rfl rfl (q_lss rfl rfl) ?_
  refine o_end ?_
  refine za1 ?_
  refine zao _ rfl (fun hb5 => ?_) (fun hb5 => ?_)
  · skip
    replace h := br_t hb5 h
    refine c_seq ?_
    refine za0 ?_
    refine o_q rfl rfl (q_asg rfl) ?_
    refine o_end ?_
    refine za1 ?_
    refine c_ret ?_
    refine za3 ?_
    have e0_ := Option.some.inj h; clear h
    subst e0_
    exact x_r1 () Tryd.results19 (zab rfl) rfl (fun w h => za8 [] (by decide) rfl w h)
  · skip
    replace h := br_f hb5 h
    refine zak ?_
    refine za1 ?_
    refine c_seq ?_
    refine za0 ?_
    refine o_q rfl rfl (q_f F31_2 rfl) ?_
    refine o_q rfl rfl (q_ldb Y23 rfl (fun w h => h.zai (i := 0) rfl) rfl) ?_
    refine o_q rfl rfl (za2 rfl) ?_
    refine za6 h (fun i7 hx6 h => ?_) rfl
    refine o_e rfl (za9 0 Z Tryd.func49 N49 rfl rfl rfl (fun w P1 hF hB hS hT => laws_heldIntS.calls k A0_2 c0_2 l0_2.length l0_2 i4 hB hF (hS _ R0_2) hc0_2 _ hx6)) (fun _ => ?_)
    refine o_q rfl rfl (q_asg rfl) ?_
    refine o_end ?_
    refine za1 ?_
    refine c_seq ?_
    refine c_seq ?_
    refine za0 ?_
    refine o_q rfl rfl (za2 rfl) ?_
    refine o_q rfl rfl (q_lss rfl rfl) ?_
    refine o_end ?_
    refine za1 ?_
    refine zao _ rfl (fun hb8 => ?_) (fun hb8 => ?_)
    · skip
      replace h := br_t hb8 h
      refine c_seq ?_
      refine za0 ?_
      refine o_q rfl rfl (q_asg rfl) ?_
      refine o_end ?_
      refine za1 ?_
      refine c_ret ?_
      refine za3 ?_
      have e0_ := Option.some.inj h; clear h
      subst e0_
      exact x_r1 () Tryd.results19 (zab rfl) rfl (fun w h => za8 [] (by decide) rfl w h)
    · skip
      replace h := br_f hb8 h
      refine zak ?_
      refine za1 ?_
      refine c_seq ?_
      refine za0 ?_
      refine o_q rfl rfl (za2 rfl) ?_
      refine o_q rfl rfl (q_asg rfl) ?_
      refine o_end ?_
      refine za1 ?_
      refine c_ret ?_
      have e0_ := Option.some.inj h; clear h
      subst e0_
      exact x_r1 () Tryd.results19 (zab rfl) rfl (fun w h => za8 [] (by decide) rfl w h)

end Go.Proofs.YtnnlfipcoahcnaaDoor.P2
