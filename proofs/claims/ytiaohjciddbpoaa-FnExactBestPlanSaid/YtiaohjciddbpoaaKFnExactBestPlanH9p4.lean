import Derived.Test.YtiaohjciddbpoaaKFnExactBestPlanH9p3
namespace Go.Proofs.Ytiaohjciddbpoaa.H9
set_option maxHeartbeats 8000000
set_option maxRecDepth 100000
open Go.RowKit Go.Proofs.Ytiaohjciddbpoaa.Frame Go.Proofs.YtiaohjciddbpoaaW.PrintLast Go.Proofs.Ytiaohjciddbpoaa.Hand
open Go.Proofs.YtiaohjciddbpoaaW.PrintWords hiding mn mx
set_option linter.unusedVariables false
def impl_BinaryPlan.r0 : Int × Int → ((List SStep) × Int) → Option ((List SStep) × Int)
  | (ix_, y_), (l21, i24) => (impl_maker_multiply.f 1 l21 [] i24 i24).bind fun (i29, l30) => if y_ = 1 then ((impl_maker_multiply.f 1 l30 [] i29 0).bind fun (i35, l36) => some (l36, i35)) else (some (l30, i29))
def impl_BinaryPlan.f (k : Nat) (a0 : Int) : Option (Int × (List SStep) × (List Int) × Bool) := (impl_isNumber.f a0).bind fun b4 => if b4 = true then ((impl_newMaker.f 1).bind fun _ => (impl_digits.f k a0 2).bind fun l13 => (ct l13 (0 : Int) (w64 ((l13.length : Int) - 1))).bind fun l16 => (bw_int.f l16).bind fun _ => (rngB l16 (impl_BinaryPlan.r0) ([], 0)).bind fun (l26, i27) => (impl_maker_plan.f 1 l26 [] ([i27] : List Int)).bind fun _ => (impl_told.f k 1 l26 ([i27] : List Int)).bind fun (i44, l45, l46, b47) => some (i44, l45, l46, b47)) else (some (0, ([] : List SStep), ([] : List Int), false))
theorem impl_BinaryPlan.calls (k : Nat) {w0 ws : World} {P0 : Nat → Prop} (a0 : Int) (Z : Below w0.heap.size w0 ws) (hF : Fr w0 ws P0 [] ws)  (r_1 : Int) (r_2 : List SStep) (r_5 : List Int) (r_8 : Bool) (h : impl_BinaryPlan.f k a0 = some (r_1, r_2, r_5, r_8)) :
    Calls Try.prog 32 #[.int .i64 a0] ws (Post1 w0 ws P0 (fun ((q_3, q_4, q_6, q_7) : (Option Addr) × Nat × (Option Addr) × Nat) => .tuple #[.agg #[.int .i64 r_1, .slice q_3 r_2.length q_4, .slice q_6 r_5.length q_7], .bool r_8]) (fun ((q_3, q_4, q_6, q_7) : (Option Addr) × Nat × (Option Addr) × Nat) => [row kStep 107 (.slice q_3 r_2.length q_4) r_2, row (Kd.int .i64) 3 (.slice q_6 r_5.length q_7) r_5])) := by
  unfold impl_BinaryPlan.f at h
  refine enterM Try.func32 rfl Try.ntmps32 rfl hF (c_seq (za0 (o_e rfl (zaf V25 rfl) (fun g1 => o_q rfl rfl (q_asg rfl) (o_end (za1 (c_seq (c_seq (za0 ?_)))))))))
  refine o_q rfl rfl (za2 rfl) (za7 h (fun b4 hx3 h => ?_) rfl)
  refine o_e rfl (za6 0 Z Try.func74 N74 rfl rfl rfl (fun w P1 hF hB hS hT => impl_isNumber.calls a0 hB hF _ hx3)) (fun _ => o_q rfl rfl (q_not rfl) (o_end (za1 (zaq _ rfl (fun hb5 => ?_) (fun hb5 => ?_)))))
  · replace hb5 := nt_t hb5
    replace h := bb_f hb5 h
    refine c_seq (za0 (o_q rfl rfl (q_build (vs := []) (cs := [.int .i64 0, .slice none 0 0, .slice none 0 0]) rfl rfl) (o_e rfl (zah (i := 0) rfl rfl rfl Z25 rfl rfl) (fun _ => o_q rfl rfl (q_asg rfl) (o_end (za1 (c_ret (zab (x_nil kStep 107 ?_)))))))))
    refine x_nil (Kd.int .i64) 3 ?_
    have e0_ := si_ h; clear h
    obtain ⟨rfl, e1_⟩ := Prod.mk.inj e0_
    obtain ⟨rfl, e2_⟩ := Prod.mk.inj e1_
    obtain ⟨rfl, e3_⟩ := Prod.mk.inj e2_
    subst e3_
    refine x_plainM (.inl rfl) ?_
    exact x_r2 (none, 0, none, 0) Try.results32 (zb5 rfl G25 Z25 (fun w h => h.za9 (i := 2) rfl) rfl) (zal rfl) rfl (fun w h => za5 [1, 0] dc_ rfl w h)
  · replace hb5 := nt_f hb5
    replace h := bb_t hb5 h
    refine zam (za1 (c_seq (za0 (za7 h (fun _ hx6 h => ?_) rfl))))
    refine o_e rfl (za6 0 Z Try.func54 N54 rfl rfl rfl (fun w P1 hF hB hS hT => impl_newMaker.calls 1 hB hF hx6)) (fun c7 => o_e rfl (zaf V60 rfl) (fun g8 => o_e rfl (zaf V3 rfl) (fun g10 => o_e rfl (zac (i := 1) rfl rfl rfl rfl Z60 rfl rfl) (fun _ => o_e rfl (zac (i := 0) rfl rfl rfl rfl Z3 rfl rfl) (fun _ => o_end (za1 (c_seq (za0 (o_q rfl rfl (za2 rfl) ?_)))))))))
    refine za7 h (fun l13 hx12 h => ?_) rfl
    refine o_e rfl (za6 0 Z Try.func55 N55 rfl rfl rfl (fun w P1 hF hB hS hT => impl_digits.calls k a0 2 hB hF _ hx12)) (cur2 (fun A14 c15 => o_q rfl rfl (q_asg rfl) (o_end (za1 (c_seq (c_seq (za0 (o_q rfl rfl (za2 rfl) (o_q rfl rfl (za2 rfl) (o_q rfl rfl (q_len Try.underlying23 rfl) ?_))))))))))
    refine o_q rfl rfl (zb1 rfl rfl) (za7 h (fun l16 hz17 h => ?_) rfl)
    refine zb4 (p := l13.length = l13.length ∧ l13.length ≤ c15) (fun w h => h.row_nc (i := 0) rfl) (fun hk18 => o_q rfl rfl (q_ctv Try.underlying23 Z3 rfl rfl ⟨_, rfl⟩ hk18.1 hk18.2 hz17) (za7 h (fun _ hx19 h => ?_) rfl))
    refine o_e rfl (za6 0 Z Try.func58 N58 rfl rfl rfl (fun w P1 hF hB hS hT => bw_int.calls (cutA A14 c15 (0 : Int).toNat 1) (c15 - (0 : Int).toNat) l16.length l16 hB hF (stab_cut (dk := (Kd.int .i64)) rfl hz17 hk18.2 (hT 0 _ rfl).row) (ct_cap hz17 hk18.1 hk18.2) hx19)) (fun c20 => o_end (za1 (zai (bindE2 h (fun l26 i27 hrg25 h => ?_) rfl))))
    intro w_ hw_
    have hw1_ : Fr w0 _ _ ([box g10 3 #[.int .i64 0], box g8 60 #[.pointer (some ⟨c7, 0, none⟩)], box c7 94 #[.int .i64 1, .slice none 0 0, .slice none 0 0], row kStep 107 (.slice none 0 0) [], row (Kd.int .i64) 3 (.slice none 0 0) [], box g1 25 #[.int .i64 0, .slice none 0 0, .slice none 0 0]] ++ [box c20 23 #[.slice (cutA A14 c15 (0 : Int).toNat 1) l16.length (c15 - (0 : Int).toNat)], row (Kd.int .i64) 3 (.slice A14 l13.length c15) l13]) w_ := za5 [2, 3, 4, 5, 6, 7, 0, 1] dc_ rfl w_ hw_
    obtain ⟨P2_, hF2_, hst_, hT_, hc2_, hback_⟩ := hw1_.here Z
    have Z2_ := hF2_.bel
    refine wpIn_any (N := ⟨40, [], none⟩) (n := 3) (wp_rangeE (σ := (List SStep) × Int) (τ := (Option Addr) × Nat) (α := BackT l16) (fun x => #[Value.int .i64 x.1.1, .int .i64 x.1.2]) (fun _ => rfl) ([], 0) (none, 0) (fun s x => stB (impl_BinaryPlan.r0) s x.1) (fun ((l21, i24) : (List SStep) × Int) ((A22, c23) : (Option Addr) × Nat) => [box g10 3 #[.int .i64 i24], box g8 60 #[.pointer (some ⟨c7, 0, none⟩)], box c7 94 #[.int .i64 1, .slice A22 l21.length c23, .slice none 0 0], row kStep 107 (.slice A22 l21.length c23) l21, row (Kd.int .i64) 3 (.slice none 0 0) [], box g1 25 #[.int .i64 0, .slice none 0 0, .slice none 0 0]]) (fun x => [(23, .int .i64 x.1.2), (22, .int .i64 x.1.1)]) (fun x => [(8, .int .i64 x.1.2), (23, .int .i64 x.1.2), (22, .int .i64 x.1.1)]) rfl (enters9 Try.func116 N116 rfl) hF2_ (bk_int c20 (cutA A14 c15 (0 : Int).toNat 1) (c15 - (0 : Int).toNat) l16 (stab_cut (dk := (Kd.int .i64)) rfl hz17 hk18.2 (hT_ 1 _ rfl).row) (Own.box (hT_ 0 _ rfl))) (fun x => act_zip2) ?_ ?_ ?_ ?_)
    · rintro ⟨l21, i24⟩ ⟨l21', i24'⟩ ⟨A22, c23⟩ ⟨A22', c23'⟩ W_ h1_ h2_
      have e_ := box_det h1_ h2_ (i := 0) (i' := 0) rfl rfl
      have d_ := congrArg (fun a : Array Value => a.getD 0 (.bool false)) e_
      injection d_ with d1_ d2_; subst d2_
      have e_ := box_det h1_ h2_ (i := 2) (i' := 2) rfl rfl
      have d_ := congrArg (fun a : Array Value => a.getD 1 (.bool false)) e_
      injection d_ with d1_ d2_ d3_
      subst d1_; subst d3_
      have d4_ : l21 = l21' := C_det (fun _ x y cs a b => by have e_ := (show cs = _ from a).symm.trans (show cs = _ from b); cases x; cases y; simpa using e_) d2_ (h1_.row_C (i := 3) rfl).1 (h2_.row_C (i := 3) rfl).1; subst d4_
      rfl
    · intro l_ s_ t_ x_ W_ P_ Z_ hst2_
      refine za0 (o_q rfl rfl (q_asg rfl) (o_end ?_))
      intro w3_ hw3_
      exact ⟨rfl, hw3_⟩
    · intro l_ pre_ x_ t_ W_ P_ Z_ hst2_ hlen_ s_ hs_ s2_ hs2_
      obtain ⟨z_, h, hz_⟩ := rng_round hrg25 pre_ x_ hlen_
      rw [← hs_] at h hz_
      obtain rfl : z_ = s2_ := hz_.symm.trans hs2_
      clear hs_ hs2_ hz_ hlen_ pre_ hrg25
      obtain ⟨⟨ix_, y_⟩, hx_⟩ := x_
      obtain ⟨A22, c23⟩ := t_
      obtain ⟨l21, i24⟩ := s_; obtain ⟨l21_, i24_⟩ := z_
      have Z := Z_
      replace h : ((impl_maker_multiply.f 1 l21 [] i24 i24).bind fun (i29, l30) => if y_ = 1 then ((impl_maker_multiply.f 1 l30 [] i29 0).bind fun (i35, l36) => some (l36, i35)) else (some (l30, i29))) = some (l21_, i24_) := h
      refine zai (c_seq (za0 (o_q rfl rfl (q_ldb Y60 rfl (fun w h => h.za9 (i := 1) rfl) rfl) (o_q rfl rfl (q_ldb Y3 rfl (fun w h => h.za9 (i := 0) rfl) rfl) (o_q rfl rfl (q_ldb Y3 rfl (fun w h => h.za9 (i := 0) rfl) rfl) (o_pick [2, 3, 0, 1, 4, 5] dc_ rfl (bindE2 h (fun i29 l30 hx28 h => ?_) rfl)))))))
      refine o_e rfl (za6 2 Z Try.func57 N57 rfl rfl rfl (fun w P1 hF hB hS hT => impl_maker_multiply.calls c7 1 A22 c23 l21.length l21 none 0 0 [] i24 i24 hB hF (hT 2 _ rfl).row (hT 2 _ rfl).cap _ _ hx28)) (cur2 (fun A31 c32 => o_e rfl (zac (i := 2) rfl rfl rfl rfl Z3 rfl rfl) (fun _ => o_end (za1 (c_seq (za0 (o_q rfl rfl (za2 rfl) (o_q rfl rfl (q_eql rfl rfl) (o_end (za1 ?_))))))))))
      refine zaq _ rfl (fun hb33 => ?_) (fun hb33 => ?_)
      · skip
        replace h := br_t hb33 h
        refine za0 (o_q rfl rfl (q_ldb Y60 rfl (fun w h => h.za9 (i := 3) rfl) rfl) (o_q rfl rfl (q_ldb Y3 rfl (fun w h => h.za9 (i := 2) rfl) rfl) (bindE2 h (fun i35 l36 hx34 h => ?_) rfl)))
        refine o_e rfl (za6 2 Z Try.func57 N57 rfl rfl rfl (fun w P1 hF hB hS hT => impl_maker_multiply.calls c7 1 A31 c32 l30.length l30 none 0 0 [] i29 0 hB hF (hT 2 _ rfl).row (hT 2 _ rfl).cap _ _ hx34)) (cur2 (fun A37 c38 => o_e rfl (zac (i := 2) rfl rfl rfl rfl Z3 rfl rfl) (fun _ => o_end (zak ?_))))
        have e0_ := si_ h; clear h
        obtain ⟨rfl, e1_⟩ := Prod.mk.inj e0_
        subst e1_
        intro w3_ hw3_
        exact ⟨(A37, c38), (fun w h => za5 [2, 3, 0, 1, 4, 5] dc_ rfl w h) w3_ hw3_⟩
      · skip
        replace h := br_f hb33 h
        refine zam (zak ?_)
        have e0_ := si_ h; clear h
        obtain ⟨rfl, e1_⟩ := Prod.mk.inj e0_
        subst e1_
        intro w3_ hw3_
        exact ⟨(A31, c32), (fun w h => za5 [2, 3, 0, 1, 4, 5] dc_ rfl w h) w3_ hw3_⟩
    · intro D_ xs_ W_ t_ s_ hs_ hD_ hS_ hFW_ hdf_
      obtain rfl : s_ = (l26, i27) := hs_.trans (rng_done hrg25 hS_)
      clear hs_ hS_
      obtain ⟨A22o, c23o⟩ := t_
      obtain ⟨P4_, hF4_, hst4_, _, hc4_, hback4_⟩ := (show Fr w0 w_ P2_ ([box g10 3 #[.int .i64 i27], box g8 60 #[.pointer (some ⟨c7, 0, none⟩)], box c7 94 #[.int .i64 1, .slice A22o l26.length c23o, .slice none 0 0], row kStep 107 (.slice A22o l26.length c23o) l26, row (Kd.int .i64) 3 (.slice none 0 0) [], box g1 25 #[.int .i64 0, .slice none 0 0, .slice none 0 0]] ++ []) W_ from hFW_).here Z2_
      have hmk_ := mark_stab hc4_ hdf_
      have hws_ : ws.heap.size ≤ D_ := Nat.le_trans (hw_.keptB Z).kept.1 hD_
      have hbk_ : ∀ (Ts : List (Thing w0.heap.size)) w, Fr w0 W_ P4_ Ts w → Fr w0 ws P0 Ts w := fun Ts w h => hback_ _ _ (hback4_ _ _ h)
      refine (show X ⟨40, [{ target := .collected D_, args := #[] }], none⟩ w0 W_ P4_ .normal _ _ _ from ?_) W_ hF4_
      have Zo_ := Z; have Z := hF4_.bel
      refine zak (za1 (c_seq (za0 (o_q rfl rfl (q_ldb Y60 rfl (fun w h => h.za9 (i := 1) rfl) rfl) (o_q rfl rfl (q_ldb Y3 rfl (fun w h => h.za9 (i := 0) rfl) rfl) (o_e rfl (e_lit (vs := [(0, .int .i64 i27)]) (cs := [.int .i64 i27]) (Kd.int .i64) ([i27] : List Int) Try.underlying23 I3 dc_ rfl dc_ rfl rfl (fun _ _ => Kd.zad _)) (cur2 (fun A39 c40 => o_pick [3, 4, 0, 1, 2, 5, 6] dc_ rfl (za7 h (fun _ hx42 h => ?_) rfl)))))))))
      refine o_e rfl (za6 3 Z Try.func60 N60 rfl rfl rfl (fun w P1 hF hB hS hT => impl_maker_plan.calls c7 1 A22o c23o l26.length l26 none 0 0 [] A39 c40 (([i27] : List Int).length) ([i27] : List Int) hB hF (hT 2 _ rfl).row (hT 2 _ rfl).cap hx42)) (fun _ => bindE4 h (fun i44 l45 l46 b47 hx43 h => ?_) rfl)
      refine o_e rfl (za6 2 Z Try.func61 N61 rfl rfl rfl (fun w P1 hF hB hS hT => impl_told.calls k 1 A22o c23o l26.length l26 A39 c40 (([i27] : List Int).length) ([i27] : List Int) hB hF _ _ _ _ hx43)) (cur4 (fun A48 c49 A50 c51 => o_q rfl rfl (q_ext rfl rfl) (o_q rfl rfl (q_ext rfl rfl) (o_e rfl (zah (i := 6) rfl rfl rfl Z25 rfl rfl) (fun _ => o_q rfl rfl (q_asg rfl) (o_end (za1 (c_ret ?_))))))))
      have e0_ := si_ h; clear h
      obtain ⟨rfl, e1_⟩ := Prod.mk.inj e0_
      obtain ⟨rfl, e2_⟩ := Prod.mk.inj e1_
      obtain ⟨rfl, e3_⟩ := Prod.mk.inj e2_
      subst e3_
      refine x_mark (D := D_) Zo_ hws_ hmk_ Z hbk_ ?_
      exact x_r2 (A48, c49, A50, c51) Try.results32 (zb5 rfl G25 Z25 (fun w h => h.za9 (i := 6) rfl) rfl) (zal rfl) rfl (fun w h => za5 [0, 1] dc_ rfl w h)

def impl_maker_times.f (a0_0 : Int) (l0_1 : List SStep) (l0_2 : List Int) (a1 : Int) (a2 : Int) : Option (Int × (List SStep)) := if a1 < 0 then (some (a2, l0_1)) else ((impl_maker_multiply.f a0_0 l0_1 l0_2 a1 a2).bind fun (i3, l4) => some (i3, l4))
theorem impl_maker_times.calls {w0 ws : World} {P0 : Nat → Prop} (g0 : Nat) (a0_0 : Int) (A0_1 : Option Addr) (c0_1 : Nat) (n0_1 : Nat) (l0_1 : List SStep) (A0_2 : Option Addr) (c0_2 : Nat) (n0_2 : Nat) (l0_2 : List Int) (a1 : Int) (a2 : Int) (Z : Below w0.heap.size w0 ws) (hF : Fr w0 ws P0 [box g0 94 #[.int .i64 a0_0, .slice A0_1 n0_1 c0_1, .slice A0_2 n0_2 c0_2], row kStep 107 (.slice A0_1 n0_1 c0_1) l0_1] ws) (R0_2 : Stable ws P0 (fun w => Kd.C (Kd.int .i64) w A0_2 n0_2 l0_2)) (hc0_2 : n0_2 ≤ c0_2) (r_1 : Int) (r_2 : List SStep) (h : impl_maker_times.f a0_0 l0_1 l0_2 a1 a2 = some (r_1, r_2)) :
    Calls Try.prog 76 #[.pointer (some ⟨g0, 0, none⟩), .int .i64 a1, .int .i64 a2] ws (Post1 w0 ws P0 (fun ((q_3, q_4) : (Option Addr) × Nat) => .int .i64 r_1) (fun ((q_3, q_4) : (Option Addr) × Nat) => [box g0 94 #[.int .i64 a0_0, .slice q_3 r_2.length q_4, .slice A0_2 n0_2 c0_2], row kStep 107 (.slice q_3 r_2.length q_4) r_2])) := by
  unfold impl_maker_times.f at h
  obtain rfl := (hF.row_C (i := 1) rfl).2.1
  obtain rfl := (R0_2 ws (KeptB.refl _ _)).1
  refine enter Try.func76 rfl Try.ntmps76 rfl hF (c_seq (za0 (o_q rfl rfl (q_asg rfl) (o_end (za1 (c_seq (c_seq (za0 (o_q rfl rfl (za2 rfl) ?_)))))))))
  refine o_q rfl rfl (q_lss rfl rfl) (o_end (za1 (zaq _ rfl (fun hb1 => ?_) (fun hb1 => ?_))))
  · skip
    replace h := br_t hb1 h
    refine c_seq (za0 (o_q rfl rfl (za2 rfl) (o_q rfl rfl (q_asg rfl) (o_end (za1 (c_ret (zab ?_)))))))
    have e0_ := si_ h; clear h
    obtain ⟨rfl, e1_⟩ := Prod.mk.inj e0_
    subst e1_
    exact x_r1 (A0_1, c0_1) Try.results76 (zal rfl) rfl (fun w h => za5 [0, 1] dc_ rfl w h)
  · skip
    replace h := br_f hb1 h
    refine zam (za1 (c_seq (za0 (o_q rfl rfl (za2 rfl) (o_q rfl rfl (za2 rfl) (o_q rfl rfl (za2 rfl) (bindE2 h (fun i3 l4 hx2 h => ?_) rfl)))))))
    refine o_e rfl (za6 2 Z Try.func57 N57 rfl rfl rfl (fun w P1 hF hB hS hT => impl_maker_multiply.calls g0 a0_0 A0_1 c0_1 l0_1.length l0_1 A0_2 c0_2 l0_2.length l0_2 a1 a2 hB hF (hS _ R0_2) hc0_2 _ _ hx2)) (cur2 (fun A5 c6 => o_q rfl rfl (q_asg rfl) (o_end (za1 (c_ret ?_)))))
    have e0_ := si_ h; clear h
    obtain ⟨rfl, e1_⟩ := Prod.mk.inj e0_
    subst e1_
    exact x_r1 (A5, c6) Try.results76 (zal rfl) rfl (fun w h => za5 [0, 1] dc_ rfl w h)

def impl_RightPlan.l0 (l9 : List Int) : (List Int) → (List SStep) → Int → Int → Int → Option ((List SStep) × Int)
  | [], l12, i15, i16, i17 => some (l12, i17)
  | y18 :: ys19, l12, i15, i16, i17 => (if y18 = 1 then ((impl_maker_times.f 1 l12 [] i17 i16).bind fun (i59, l60) => some (l60, i59)) else (some (l12, i17))).bind fun (l48, i51) => if i15 < w64 ((l9.length : Int) - 1) then ((impl_maker_multiply.f 1 l48 [] i16 i16).bind fun (i65, l66) => impl_RightPlan.l0 l9 ys19 l66 (i15 + 1) i65 i51) else (impl_RightPlan.l0 l9 ys19 l48 (i15 + 1) i16 i51)
def impl_RightPlan.f (k : Nat) (a0 : Int) : Option (Int × (List SStep) × (List Int) × Bool) := (impl_isNumber.f a0).bind fun b4 => if b4 = true then ((impl_newMaker.f 1).bind fun _ => (impl_digits.f k a0 2).bind fun l9 => (impl_RightPlan.l0 l9 l9 [] 0 0 (-1)).bind fun (l12, i17) => (impl_maker_plan.f 1 l12 [] ([i17] : List Int)).bind fun _ => (impl_told.f k 1 l12 ([i17] : List Int)).bind fun (i33, l34, l35, b36) => some (i33, l34, l35, b36)) else (some (0, ([] : List SStep), ([] : List Int), false))
theorem impl_RightPlan.calls (k : Nat) {w0 ws : World} {P0 : Nat → Prop} (a0 : Int) (Z : Below w0.heap.size w0 ws) (hF : Fr w0 ws P0 [] ws)  (r_1 : Int) (r_2 : List SStep) (r_5 : List Int) (r_8 : Bool) (h : impl_RightPlan.f k a0 = some (r_1, r_2, r_5, r_8)) :
    Calls Try.prog 33 #[.int .i64 a0] ws (Post1 w0 ws P0 (fun ((q_3, q_4, q_6, q_7) : (Option Addr) × Nat × (Option Addr) × Nat) => .tuple #[.agg #[.int .i64 r_1, .slice q_3 r_2.length q_4, .slice q_6 r_5.length q_7], .bool r_8]) (fun ((q_3, q_4, q_6, q_7) : (Option Addr) × Nat × (Option Addr) × Nat) => [row kStep 107 (.slice q_3 r_2.length q_4) r_2, row (Kd.int .i64) 3 (.slice q_6 r_5.length q_7) r_5])) := by
  unfold impl_RightPlan.f at h
  refine enter Try.func33 rfl Try.ntmps33 rfl hF (c_seq (za0 (o_e rfl (zaf V25 rfl) (fun g1 => o_q rfl rfl (q_asg rfl) (o_end (za1 (c_seq (c_seq (za0 ?_)))))))))
  refine o_q rfl rfl (za2 rfl) (za7 h (fun b4 hx3 h => ?_) rfl)
  refine o_e rfl (za6 0 Z Try.func74 N74 rfl rfl rfl (fun w P1 hF hB hS hT => impl_isNumber.calls a0 hB hF _ hx3)) (fun _ => o_q rfl rfl (q_not rfl) (o_end (za1 (zaq _ rfl (fun hb5 => ?_) (fun hb5 => ?_)))))
  · replace hb5 := nt_t hb5
    replace h := bb_f hb5 h
    refine c_seq (za0 (o_q rfl rfl (q_build (vs := []) (cs := [.int .i64 0, .slice none 0 0, .slice none 0 0]) rfl rfl) (o_e rfl (zah (i := 0) rfl rfl rfl Z25 rfl rfl) (fun _ => o_q rfl rfl (q_asg rfl) (o_end (za1 (c_ret (zab (x_nil kStep 107 ?_)))))))))
    refine x_nil (Kd.int .i64) 3 ?_
    have e0_ := si_ h; clear h
    obtain ⟨rfl, e1_⟩ := Prod.mk.inj e0_
    obtain ⟨rfl, e2_⟩ := Prod.mk.inj e1_
    obtain ⟨rfl, e3_⟩ := Prod.mk.inj e2_
    subst e3_
    exact x_r2 (none, 0, none, 0) Try.results33 (zb5 rfl G25 Z25 (fun w h => h.za9 (i := 2) rfl) rfl) (zal rfl) rfl (fun w h => za5 [1, 0] dc_ rfl w h)
  · replace hb5 := nt_f hb5
    replace h := bb_t hb5 h
    refine zam (za1 (c_seq (za0 (za7 h (fun _ hx6 h => ?_) rfl))))
    refine o_e rfl (za6 0 Z Try.func54 N54 rfl rfl rfl (fun w P1 hF hB hS hT => impl_newMaker.calls 1 hB hF hx6)) (fun c7 => o_q rfl rfl (q_asg rfl) (o_q rfl rfl (q_asg rfl) (o_q rfl rfl (q_asg rfl) (o_end (za1 (c_seq (za0 (o_q rfl rfl (za2 rfl) (za7 h (fun l9 hx8 h => ?_) rfl)))))))))
    refine o_e rfl (za6 0 Z Try.func55 N55 rfl rfl rfl (fun w P1 hF hB hS hT => impl_digits.calls k a0 2 hB hF _ hx8)) (cur2 (fun A10 c11 => o_q rfl rfl (q_asg rfl) (o_end (za1 (c_seq (c_seq (za0 (o_q rfl rfl (za2 rfl) (o_q rfl rfl (q_len Try.underlying23 rfl) (o_q rfl rfl (za2 rfl) ?_))))))))))
    refine o_end (za1 (zai (za7 h (fun o25 hl24 hR23 => ?_) rfl)))
    clear h
    refine c_fact (p := l9.length ≤ 9223372036854775807) (fun w h => (h.zar (i := 0) rfl).2.1) (fun hm22 => zaw (σ := (List Int) × (List SStep) × Int × Int × Int × (Option Addr) × Nat) (fun k20 ((ys19, l12, i15, i16, i17, A13, c14) : (List Int) × (List SStep) × Int × Int × Int × (Option Addr) × Nat) => Rg l9 i15 ys19 ∧ ys19.length = k20 ∧ impl_RightPlan.l0 l9 ys19 l12 i15 i16 i17 = some o25) [5, 6, 8, 9, 19, 20, 21, 22, 23, 24, 25, 26, 27, 28, 29, 30, 31, 32, 33, 34, 35, 36, 37, 38, 39] (fun ((ys19, l12, i15, i16, i17, A13, c14) : (List Int) × (List SStep) × Int × Int × Int × (Option Addr) × Nat) => [(5, .int .i64 i16), (6, .int .i64 i17), (19, .int .i64 i15)]) (fun ((ys19, l12, i15, i16, i17, A13, c14) : (List Int) × (List SStep) × Int × Int × Int × (Option Addr) × Nat) => [row (Kd.int .i64) 3 (.slice A10 l9.length c11) l9, box c7 94 #[.int .i64 1, .slice A13 l12.length c14, .slice none 0 0], row kStep 107 (.slice A13 l12.length c14) l12, row (Kd.int .i64) 3 (.slice none 0 0) [], box g1 25 #[.int .i64 0, .slice none 0 0, .slice none 0 0]]) l9.length (l9, [], 0, 0, (-1), none, 0) ⟨Rg.start _, rfl, hl24⟩ ⟨rfl, rfl, rfl, trivial⟩ (fun w h => h) (fun k20 => cur7 (listC (fun l12 i15 i16 i17 A13 c14 U26 hJ_ => ?_) (fun y18 ys19 l12 i15 i16 i17 A13 c14 U26 hJ_ => ?_))))
    · skip
      clear hl24
      have hr21 := hJ_.1; have hk27 := hJ_.2.1; have h := hJ_.2.2; clear hJ_
      replace h : impl_RightPlan.l0 l9 [] l12 i15 i16 i17 = some o25 := h
      rw [impl_RightPlan.l0] at h
      refine c_seq (za0 (o_q rfl rfl (q_lss rfl rfl) (o_end (za1 (c_seq (c_false (vb_ hr21.ge) (zb2 (za8 (za8 ?_)))))))))
      have e_ := si_ h; replace h := hR23; rw [← e_] at h; clear e_
      refine x_hit (za1 (c_seq (za0 (o_q rfl rfl (za2 rfl) (o_q rfl rfl (za2 rfl) (o_e rfl (e_lit (vs := [(0, .int .i64 i17)]) (cs := [.int .i64 i17]) (Kd.int .i64) ([i17] : List Int) Try.underlying23 I3 dc_ rfl dc_ rfl rfl (fun _ _ => Kd.zad _)) (cur2 (fun A28 c29 => o_pick [2, 3, 0, 1, 4, 5] dc_ rfl (za7 h (fun _ hx31 h => ?_) rfl)))))))))
      refine o_e rfl (za6 3 Z Try.func60 N60 rfl rfl rfl (fun w P1 hF hB hS hT => impl_maker_plan.calls c7 1 A13 c14 l12.length l12 none 0 0 [] A28 c29 (([i17] : List Int).length) ([i17] : List Int) hB hF (hT 1 _ rfl).row (hT 1 _ rfl).cap hx31)) (fun _ => bindE4 h (fun i33 l34 l35 b36 hx32 h => ?_) rfl)
      refine o_e rfl (za6 2 Z Try.func61 N61 rfl rfl rfl (fun w P1 hF hB hS hT => impl_told.calls k 1 A13 c14 l12.length l12 A28 c29 (([i17] : List Int).length) ([i17] : List Int) hB hF _ _ _ _ hx32)) (cur4 (fun A37 c38 A39 c40 => o_q rfl rfl (q_ext rfl rfl) (o_q rfl rfl (q_ext rfl rfl) (o_e rfl (zah (i := 5) rfl rfl rfl Z25 rfl rfl) (fun _ => o_q rfl rfl (q_asg rfl) (o_end (za1 (c_ret ?_))))))))
      have e0_ := si_ h; clear h
      obtain ⟨rfl, e1_⟩ := Prod.mk.inj e0_
      obtain ⟨rfl, e2_⟩ := Prod.mk.inj e1_
      obtain ⟨rfl, e3_⟩ := Prod.mk.inj e2_
      subst e3_
      exact x_r2 (A37, c38, A39, c40) Try.results33 (zb5 rfl G25 Z25 (fun w h => h.za9 (i := 5) rfl) rfl) (zal rfl) rfl (fun w h => za5 [0, 1] dc_ rfl w h)
    · skip
      clear hl24
      have hr21 := hJ_.1; have hk27 := hJ_.2.1; have h := hJ_.2.2; clear hJ_
      replace h : impl_RightPlan.l0 l9 (y18 :: ys19) l12 i15 i16 i17 = some o25 := h
      rw [impl_RightPlan.l0] at h
      refine c_seq (za0 (o_q rfl rfl (q_lss rfl rfl) (o_end (za1 (c_seq (zb8 (vb_ hr21.lt) (zam (za1 (c_seq ?_)))))))))
      refine zai (c_seq (za0 (o_q rfl rfl (za2 rfl) (zb4 (p := Sh A10 l9.length l9.length) (fun w h => f_sh (dk := (Kd.int .i64)) h (fun w h => h.zar (i := 0) rfl)) (fun hq41 => o_q rfl rfl (q_ix Try.underlying23 Z3 rfl rfl hq41 hr21.get) (o_q rfl rfl (q_lde (off := 0) Y3 rfl rfl (fun w h => h.zar (i := 0) rfl) hr21.get (fun _ _ h => h) rfl) (o_q rfl rfl (q_asg rfl) (o_q rfl rfl (q_asg rfl) (o_end ?_)))))))))
      refine za1 (za7 h (fun o52 hl53 hR54 => ?_) rfl)
      clear h
      refine c_cutJ (σ := (List SStep) × Int × (Option Addr) × Nat) (fun (l48, i51, A49, c50) => some (l48, i51) = some o52) [6, 24, 25, 26, 27, 28, 29] (fun (l48, i51, A49, c50) => [(6, .int .i64 i51)]) (fun (l48, i51, A49, c50) => [box g1 25 #[.int .i64 0, .slice none 0 0, .slice none 0 0], box c7 94 #[.int .i64 1, .slice A49 l48.length c50, .slice none 0 0], row kStep 107 (.slice A49 l48.length c50) l48, row (Kd.int .i64) 3 (.slice none 0 0) [], row (Kd.int .i64) 3 (.slice A10 l9.length c11) l9]) ?_ ?_
      · skip
        have h := hl53; clear hl53
        clear hR54
        refine c_seq (za0 (o_q rfl rfl (za2 rfl) (o_q rfl rfl (q_eql rfl rfl) (o_end (za1 (zaq _ rfl (fun hb57 => ?_) (fun hb57 => ?_)))))))
        · skip
          replace h := br_t hb57 h
          refine za0 (o_q rfl rfl (za2 rfl) (o_q rfl rfl (za2 rfl) (o_q rfl rfl (za2 rfl) (o_pick [1, 2, 0, 3, 4] dc_ rfl (bindE2 h (fun i59 l60 hx58 h => ?_) rfl)))))
          refine o_e rfl (za6 2 Z Try.func76 N76 rfl rfl rfl (fun w P1 hF hB hS hT => impl_maker_times.calls c7 1 A13 c14 l12.length l12 none 0 0 [] i17 i16 hB hF (hT 1 _ rfl).row (hT 1 _ rfl).cap _ _ hx58)) (cur2 (fun A61 c62 => o_q rfl rfl (q_asg rfl) (o_end (zaj (l60, i59, A61, c62) h ⟨rfl, trivial⟩ (fun w h => za5 [4, 0, 1, 3, 2] dc_ rfl w h) ?_))))
          exact of_
        · skip
          replace h := br_f hb57 h
          refine zam (zaj (l12, i17, A13, c14) h ⟨rfl, trivial⟩ (fun w h => za5 [4, 1, 2, 3, 0] dc_ rfl w h) ?_)
          exact of_
      · skip
        refine (cur4 (fun l48 i51 A49 c50 => fun U55 hJ56 => ?_))
        have e_ := si_ hJ56; have h := hR54; rw [← e_] at h; clear e_ hJ56 hR54 hl53
        refine c_seq (za0 (o_q rfl rfl (za2 rfl) (o_q rfl rfl (za2 rfl) (o_q rfl rfl (q_len Try.underlying23 rfl) (o_q rfl rfl (zb1 rfl rfl) (o_q rfl rfl (q_lss rfl rfl) (o_end (za1 (zaq _ rfl (fun hb63 => ?_) (fun hb63 => ?_))))))))))
        · skip
          replace h := br_t hb63 h
          refine za0 (o_q rfl rfl (za2 rfl) (o_q rfl rfl (za2 rfl) (o_q rfl rfl (za2 rfl) (o_pick [1, 2, 0, 3, 4] dc_ rfl (bindE2 h (fun i65 l66 hx64 h => ?_) rfl)))))
          refine o_e rfl (za6 2 Z Try.func57 N57 rfl rfl rfl (fun w P1 hF hB hS hT => impl_maker_multiply.calls c7 1 A49 c50 l48.length l48 none 0 0 [] i16 i16 hB hF (hT 1 _ rfl).row (hT 1 _ rfl).cap _ _ hx64)) (cur2 (fun A67 c68 => o_q rfl rfl (q_asg rfl) (o_end (zak (za1 (za0 (o_q rfl rfl (q_up rfl rfl (hr21.up hm22)) (o_q rfl rfl (za2 rfl) (o_end (zan ys19.length (ys19, l66, i15 + 1, i65, i51, A67, c68) (by rw [← hk27]; exact Nat.lt_succ_self _) ⟨hr21.step, rfl, h⟩ ⟨rfl, rfl, rfl, trivial⟩ (fun w h => za5 [4, 0, 1, 3, 2] dc_ rfl w h) ?_))))))))))
          exact of_
        · skip
          replace h := br_f hb63 h
          refine zam (zak (za1 (za0 (o_q rfl rfl (q_up rfl rfl (hr21.up hm22)) (o_q rfl rfl (za2 rfl) (o_end (zan ys19.length (ys19, l48, i15 + 1, i16, i51, A49, c50) (by rw [← hk27]; exact Nat.lt_succ_self _) ⟨hr21.step, rfl, h⟩ ⟨rfl, rfl, rfl, trivial⟩ (fun w h => za5 [4, 1, 2, 3, 0] dc_ rfl w h) ?_)))))))
          exact of_

def impl_windowOk.f (a0 : Int) (a1 : Int) : Option Bool := (impl_isNumber.f a0).bind fun b2 => if b2 = true then ((impl_in.f a1 1 5).bind fun b5 => some b5) else (some false)
theorem impl_windowOk.calls {w0 ws : World} {P0 : Nat → Prop} (a0 : Int) (a1 : Int) (Z : Below w0.heap.size w0 ws) (hF : Fr w0 ws P0 [] ws)  (r_1 : Bool) (h : impl_windowOk.f a0 a1 = some r_1) :
    Calls Try.prog 53 #[.int .i64 a0, .int .i64 a1] ws (Post1 w0 ws P0 (fun (_ : Unit) => .bool r_1) (fun (_ : Unit) => [])) := by
  unfold impl_windowOk.f at h
  refine enter Try.func53 rfl Try.ntmps53 rfl hF (c_seq (za0 (o_q rfl rfl (q_asg rfl) (o_end (za1 (c_seq (za0 (o_q rfl rfl (za2 rfl) (za7 h (fun b2 hx1 h => ?_) rfl)))))))))
  refine o_e rfl (za6 0 Z Try.func74 N74 rfl rfl rfl (fun w P1 hF hB hS hT => impl_isNumber.calls a0 hB hF _ hx1)) (fun _ => o_q rfl rfl (za2 rfl) (byB b2 (fun hb3 => ?_) (fun hb3 => ?_)))
  · replace h := bb_t hb3 h
    refine o_w (zae rfl rfl rfl (vb_ hb3)) rfl (za2 rfl) (za7 h (fun b5 hx4 h => ?_) rfl)
    refine o_ew (zae rfl rfl rfl (vb_ hb3)) (za6 0 Z Try.func113 N113 rfl rfl rfl (fun w P1 hF hB hS hT => impl_in.calls a1 1 5 hB hF _ hx4)) (fun _ => o_q rfl rfl (zax true (vb_ hb3) rfl) (o_q rfl rfl (q_asg rfl) (o_end (za1 (c_ret ?_)))))
    have e0_ := si_ h; clear h
    subst e0_
    exact x_r1 () Try.results53 (zal rfl) rfl (fun w h => za5 [] dc_ rfl w h)
  · replace h := bb_f hb3 h
    refine o_n (d := 8) (zaa rfl rfl rfl (vb_ hb3) rfl) (Eq.refl (some 8)) (o_n (d := 9) (zaa rfl rfl rfl (vb_ hb3) rfl) (Eq.refl (some 9)) (o_q rfl rfl (zax false (vb_ hb3) rfl) (o_q rfl rfl (q_asg rfl) (o_end (za1 (c_ret ?_))))))
    have e0_ := si_ h; clear h
    subst e0_
    exact x_r1 () Try.results53 (zal rfl) rfl (fun w h => za5 [] dc_ rfl w h)

def impl_maker_squared.l0 (a0_0 : Int) (l0_2 : List Int) : Nat → (List SStep) → Int → Int → Option ((List SStep) × Int)
  | 0, l1, i4, i5 => some (l1, i4)
  | k8 + 1, l1, i4, i5 => (impl_maker_multiply.f a0_0 l1 l0_2 i4 i4).bind fun (i18, l19) => impl_maker_squared.l0 a0_0 l0_2 k8 l19 i18 (i5 + 1)
def impl_maker_squared.f (a0_0 : Int) (l0_1 : List SStep) (l0_2 : List Int) (a1 : Int) (a2 : Int) : Option (Int × (List SStep)) := (bd a2).bind fun _ => (impl_maker_squared.l0 a0_0 l0_2 ((a2).toNat) l0_1 a1 0).bind fun (l1, i4) => some (i4, l1)
theorem impl_maker_squared.calls {w0 ws : World} {P0 : Nat → Prop} (g0 : Nat) (a0_0 : Int) (A0_1 : Option Addr) (c0_1 : Nat) (n0_1 : Nat) (l0_1 : List SStep) (A0_2 : Option Addr) (c0_2 : Nat) (n0_2 : Nat) (l0_2 : List Int) (a1 : Int) (a2 : Int) (Z : Below w0.heap.size w0 ws) (hF : Fr w0 ws P0 [box g0 94 #[.int .i64 a0_0, .slice A0_1 n0_1 c0_1, .slice A0_2 n0_2 c0_2], row kStep 107 (.slice A0_1 n0_1 c0_1) l0_1] ws) (R0_2 : Stable ws P0 (fun w => Kd.C (Kd.int .i64) w A0_2 n0_2 l0_2)) (hc0_2 : n0_2 ≤ c0_2) (r_1 : Int) (r_2 : List SStep) (h : impl_maker_squared.f a0_0 l0_1 l0_2 a1 a2 = some (r_1, r_2)) :
    Calls Try.prog 59 #[.pointer (some ⟨g0, 0, none⟩), .int .i64 a1, .int .i64 a2] ws (Post1 w0 ws P0 (fun ((q_3, q_4) : (Option Addr) × Nat) => .int .i64 r_1) (fun ((q_3, q_4) : (Option Addr) × Nat) => [box g0 94 #[.int .i64 a0_0, .slice q_3 r_2.length q_4, .slice A0_2 n0_2 c0_2], row kStep 107 (.slice q_3 r_2.length q_4) r_2])) := by
  unfold impl_maker_squared.f at h
  obtain rfl := (hF.row_C (i := 1) rfl).2.1
  obtain rfl := (R0_2 ws (KeptB.refl _ _)).1
  refine enter Try.func59 rfl Try.ntmps59 rfl hF (c_seq (za0 (o_q rfl rfl (q_asg rfl) (o_end (za1 (c_seq (c_seq (za0 (o_q rfl rfl (za2 rfl) ?_)))))))))
  refine o_q rfl rfl (za2 rfl) (o_end (za1 (zai (za7 h (fun _ hbd14 h => ?_) rfl))))
  refine za7 h (fun o13 hl12 hR11 => ?_) rfl
  clear h
  have hm10 : a2 ≤ 9223372036854775807 := bd_le hbd14
  refine zaw (σ := (List SStep) × Int × Int × (Option Addr) × Nat) (fun k8 ((l1, i4, i5, A2, c3) : (List SStep) × Int × Int × (Option Addr) × Nat) => Cn a2 i5 k8 ∧ impl_maker_squared.l0 a0_0 l0_2 k8 l1 i4 i5 = some o13) [1, 8, 9, 10, 11, 12, 13, 14] (fun ((l1, i4, i5, A2, c3) : (List SStep) × Int × Int × (Option Addr) × Nat) => [(1, .int .i64 i4), (8, .int .i64 i5)]) (fun ((l1, i4, i5, A2, c3) : (List SStep) × Int × Int × (Option Addr) × Nat) => [box g0 94 #[.int .i64 a0_0, .slice A2 l1.length c3, .slice A0_2 l0_2.length c0_2], row kStep 107 (.slice A2 l1.length c3) l1]) (a2).toNat (l0_1, a1, 0, A0_1, c0_1) ⟨Cn.start hm10, hl12⟩ ⟨rfl, rfl, trivial⟩ (fun w h => h) (natC (cur5 (fun l1 i4 i5 A2 c3 => fun U15 hJ_ => ?_)) (fun k8 => (cur5 (fun l1 i4 i5 A2 c3 => fun U15 hJ_ => ?_))))
  · skip
    clear hl12
    have hr9 := hJ_.1; have h := hJ_.2; clear hJ_
    replace h : impl_maker_squared.l0 a0_0 l0_2 0 l1 i4 i5 = some o13 := h
    rw [impl_maker_squared.l0] at h
    refine c_seq (za0 (o_q rfl rfl (q_lss rfl rfl) (o_end (za1 (c_seq (c_false (vb_ hr9.ge) (zb2 (za8 (za8 ?_)))))))))
    have e_ := si_ h; replace h := hR11; rw [← e_] at h; clear e_
    refine x_hit (za1 (c_seq (za0 (o_q rfl rfl (za2 rfl) (o_q rfl rfl (q_asg rfl) (o_end (za1 (c_ret ?_))))))))
    have e0_ := si_ h; clear h
    obtain ⟨rfl, e1_⟩ := Prod.mk.inj e0_
    subst e1_
    exact x_r1 (A2, c3) Try.results59 (zal rfl) rfl (fun w h => za5 [0, 1] dc_ rfl w h)
  · skip
    clear hl12
    have hr9 := hJ_.1; have h := hJ_.2; clear hJ_
    replace h : impl_maker_squared.l0 a0_0 l0_2 (k8 + 1) l1 i4 i5 = some o13 := h
    rw [impl_maker_squared.l0] at h
    refine c_seq (za0 (o_q rfl rfl (q_lss rfl rfl) (o_end (za1 (c_seq (zb8 (vb_ hr9.lt) (zam (za1 (c_seq ?_)))))))))
    refine zai (za0 (o_q rfl rfl (za2 rfl) (o_q rfl rfl (za2 rfl) (o_q rfl rfl (za2 rfl) (bindE2 h (fun i18 l19 hx17 h => ?_) rfl)))))
    refine o_e rfl (za6 2 Z Try.func57 N57 rfl rfl rfl (fun w P1 hF hB hS hT => impl_maker_multiply.calls g0 a0_0 A2 c3 l1.length l1 A0_2 c0_2 l0_2.length l0_2 i4 i4 hB hF (hS _ R0_2) hc0_2 _ _ hx17)) (cur2 (fun A20 c21 => o_q rfl rfl (q_asg rfl) (o_end (zak (za1 (za0 (o_q rfl rfl (q_up rfl rfl hr9.up) (o_q rfl rfl (za2 rfl) (o_end (zan k8 (l19, i18, i5 + 1, A20, c21) (Nat.lt_succ_self _) ⟨hr9.step, h⟩ ⟨rfl, rfl, trivial⟩ (fun w h => za5 [0, 1] dc_ rfl w h) ?_))))))))))
    exact of_

theorem bk_Step {w : World} {P1 : Nat → Prop} (Bs : Nat) (A : Option Addr) (cap : Nat) (zs : List SStep) (hR : Stable w P1 (fun W => Kd.C kStep W A zs.length zs)) (hB : Stable w P1 (fun W => W.heap[Bs]? = some (.cells #[.slice A zs.length cap] 22 (0, 0)))) :
    SeqStopsK Fence.wide 2 Try.prog 163 #[.pointer (some ⟨Bs, 0, none⟩)] (fun x : BackT zs => #[Value.int .i64 x.1.1, .agg #[.int .i64 x.1.2.f0, .int .i64 x.1.2.f1]]) (KpS w P1) (fun ys => ys.map Subtype.val = bwL zs) (fun _ => True) zs.length w := by
  intro l J Jx W hW hJ hJx hY h0
  have hk0 : KeptB w W P1 := ⟨⟨hW.size, fun i hi _ => hW.block i hi⟩, hW.os, hW.tape, hW.output⟩
  have hlen : zs.length ≤ 9223372036854775807 := (hR w (KeptB.refl _ _)).2.1
  refine enterG (m := 19) Try.func163 rfl Try.ntmps163 rfl (wpIn_seq (wpIn_region_list (g_q (fun c hc => by cases hc) rfl rfl (q_ldb (bt := 22) Y22 rfl (fun w' h' => by subst h'; exact hB _ hk0) rfl) (g_q (fun c hc => by cases hc) rfl rfl (q_len Try.underlying22 rfl) (g_q (fun c hc => by cases hc) rfl rfl (zb1 rfl rfl) (g_q (fun c hc => by cases hc) rfl rfl (q_asg rfl) (wpListIn_nil (wpIn_block (wpIn_loop_ghost (fun m a W' => ∃ (e : Nat → Value) (pre : List (BackT zs)), m ≤ zs.length ∧ a = act ⟨19, [], none⟩ e ∧ e 0 = .func (.yield l) #[] #[] ∧ e 1 = .pointer (some ⟨Bs, 0, none⟩) ∧ e 3 = .int .i64 ((m : Int) - 1) ∧ pre.map Subtype.val = (bwL zs).take (zs.length - m) ∧ J pre W' ∧ KeptB w W' P1) zs.length ⟨_, [], Nat.le_refl _, rfl, rfl, rfl, ?_, by simp, h0, hk0⟩ ?_)))))))))
  · show Value.int .i64 (w64 ((zs.length : Int) - 1)) = _
    rw [zas (by omega)]
  rintro m a W' ⟨e, pre, hm, rfl, he0, he1, he3, hpre, hJp, hk⟩
  have hpl : pre.length = zs.length - m := by
    have := congrArg List.length hpre
    rw [List.length_map, List.length_take, bwL_len] at this
    omega
  refine wpIn_seq (wpIn_seq (wpIn_region_list (g_q (fun c hc => by cases hc) rfl rfl (za2 he3) (g_q (fun c hc => by cases hc) rfl rfl (q_geq rfl rfl) (wpListIn_nil ?_)))))
  cases m with
  | zero =>
    refine wpIn_cond_false rfl (wpIn_exit (exth (exth (inblk (⟨rfl, _, results_none rfl _ _ _, ⟨_, rfl⟩, .inl ⟨pre, ?_, hJp⟩⟩)))))
    show pre.map Subtype.val = _
    rw [hpre, Nat.sub_zero, List.take_of_length_le (by rw [bwL_len]; exact Nat.le_refl _)]
  | succ m =>
    refine wpIn_cond_true ?_ (wpIn_skip ?_)
    · rw [act_eval]
      show Value.bool (decide ((0 : Int) ≤ ((m + 1 : Nat) : Int) - 1)) = _
      rw [decide_eq_true (by omega)]
    refine wpIn_seq (wpIn_block (wpIn_seq (wpIn_region_list ?_)))
    have e3 : e 3 = .int .i64 (m : Int) := by rw [he3]; congr 1; omega
    have hml : m < zs.length := hm
    have hC := hR W' hk
    refine g_q (fun c hc => by cases hc) rfl rfl (za2 he0) (g_q (fun c hc => by cases hc) rfl rfl (za2 e3) (g_q (fun c hc => by cases hc) rfl rfl (q_ldb (bt := 22) Y22 he1 (fun w' h' => by subst h'; exact hB _ hk) rfl) (g_q (fun c hc => by cases hc) rfl rfl (za2 e3) (g_q (fun c hc => by cases hc) rfl rfl (q_ix (xs := zs) Try.underlying22 Z107 rfl rfl (C_sh hC) (gt_at hml)) (g_q (fun c hc => by cases hc) rfl rfl (q_ldE G107 Z107 rfl rfl (fun w' h' => by subst h'; exact hC) (gt_at hml) (fun _ _ h => h) rfl) ?_)))))
    have hx : ∃ j : Nat, ((m : Int), zs[m]).1 = (j : Int) ∧ zs[j]? = some ((m : Int), zs[m]).2 := ⟨m, rfl, List.getElem?_eq_getElem hml⟩
    refine g_yield rfl rfl rfl rfl (hY pre ⟨((m : Int), zs[m]), hx⟩ W' hJp (by omega)) (fun e w' h => by rcases h with ⟨rfl, _⟩ | ⟨rfl, _⟩ <;> exact ⟨_, rfl⟩) ?_
    rintro v W3 (⟨hv, hJ3, hk3⟩ | ⟨hv, hJx3⟩)
    · obtain rfl := Ending.returned.inj hv
      refine g_q (fun c hc => by cases hc) rfl rfl (q_not rfl) (wpListIn_nil (wpIn_cond_false rfl (wpIn_skip (wpIn_region_list (g_q (fun c hc => by cases hc) rfl rfl (za2 e3) (g_q (fun c hc => by cases hc) rfl rfl (zb1 rfl rfl) (g_q (fun c hc => by cases hc) rfl rfl (q_asg rfl) (wpListIn_nil (⟨m, Nat.lt_succ_self m, _, pre ++ [⟨((m : Int), zs[m]), hx⟩], by omega, rfl, he0, he1, ?_, ?_, hJ3, hk3 hk⟩)))))))))
      · show Value.int .i64 (w64 ((m : Int) - 1)) = _
        rw [zas (by omega)]
      · rw [List.map_append, hpre]
        have ht := bwL_take zs (zs.length - (m + 1)) (by omega)
        have ei : zs.length - 1 - (zs.length - (m + 1)) = m := by omega
        rw [show zs.length - (m + 1) + 1 = zs.length - m by omega] at ht
        rw [ht]
        congr 1
        simp only [ei, List.map_cons, List.map_nil]
    · obtain rfl := Ending.returned.inj hv
      refine g_q (fun c hc => by cases hc) rfl rfl (q_not rfl) (wpListIn_nil (wpIn_cond_true rfl (wpIn_ret ?_)))
      exact ⟨rfl, _, results_none rfl _ _ _, ⟨_, rfl⟩, .inr ⟨_, trivial, hJx3⟩⟩
theorem bkc_Step.calls {w0 ws : World} {P0 : Nat → Prop} (A : Option Addr) (n c : Nat) (hF : Fr w0 ws P0 [] ws) : Calls Try.prog 149 #[.slice A n c] ws (Post1 w0 ws P0 (fun (q : Nat) => .func (.func 163) #[] #[.pointer (some ⟨q, 0, none⟩)]) (fun (q : Nat) => [box q 22 #[.slice A n c]])) := by
  refine enter Try.func149 rfl Try.ntmps149 rfl hF (c_seq (za0 (o_e rfl (e_box rfl) (fun g1 => o_q rfl rfl (q_asg rfl) (o_end (za1 (c_seq (za0 (o_q rfl rfl (q_func (f := .func 163) (a := []) (b := [.tmp 1]) rfl rfl) ?_)))))))))
  refine o_q rfl rfl (q_asg rfl) (o_end (za1 (c_ret ?_)))
  exact x_r1 g1 Try.results149 (zal rfl) rfl (fun w h => h)

/-- A round: the factors of a used step are used. -/
def impl_Plan_used.b (I : Int) (s : List Bool) (x : Int × SStep) : List Bool := if s.getD (I + x.1).toNat false = true then (s.set x.2.f0.toNat true).set x.2.f1.toNat true else s
def impl_Plan_used.l0 : (List Int) → (List Bool) → Int → Option (List Bool)
  | [], l11, i12 => some l11
  | y13 :: ys14, l11, i12 => (gt l11 y13).bind fun y46 => (st l11 y13 true).bind fun l47 => impl_Plan_used.l0 ys14 l47 (i12 + 1)
/-- As the rounds may come in any order: all steps must be right. -/
def impl_Plan_used.f (a0_0 : Int) (l0_1 : List SStep) (l0_2 : List Int) : Option (List Bool) := (impl_Plan_many.f a0_0 l0_1 l0_2).bind fun _ => (mk0 (w64 (a0_0 + (l0_1.length : Int))) false).bind fun l4 => (impl_Plan_used.l0 l0_2 l4 0).bind fun l11 =>
  if (0 ≤ a0_0 ∧ a0_0 ≤ 1000 ∧ l0_1.length ≤ 1000 ∧ l4.length = (a0_0 + (l0_1.length : Int)).toNat ∧ l11.length = (a0_0 + (l0_1.length : Int)).toNat) ∧ ∀ y ∈ l0_1, (0 ≤ y.f0 ∧ y.f0 < a0_0 + (l0_1.length : Int)) ∧ (0 ≤ y.f1 ∧ y.f1 < a0_0 + (l0_1.length : Int)) then some ((bwL l0_1).foldl (impl_Plan_used.b a0_0) l11) else none
theorem impl_Plan_used.blen (I : Int) (s : List Bool) (x : Int × SStep) : (impl_Plan_used.b I s x).length = s.length := by
  unfold impl_Plan_used.b
  split <;> simp
theorem impl_Plan_used.flen {zs : List SStep} (I : Int) (pre : List (BackT zs)) (s : List Bool) : (pre.foldl (fun s x => impl_Plan_used.b I s x.1) s).length = s.length := by
  induction pre generalizing s with
  | nil => rfl
  | cons x pre ih => rw [List.foldl_cons, ih, impl_Plan_used.blen]
theorem gt_getD {s : List Bool} {i : Int} (h0 : 0 ≤ i) (h1 : i < (s.length : Int)) : gt s i = some (s.getD i.toNat false) := by
  unfold gt
  rw [if_pos h0, List.getD_eq_getElem?_getD, List.getElem?_eq_getElem (by omega)]
  rfl
theorem st_ok {s : List Bool} {i : Int} (h0 : 0 ≤ i) (h1 : i < (s.length : Int)) : st s i true = some (s.set i.toNat true) := by
  unfold st
  rw [if_pos ⟨h0, h1⟩]
theorem impl_Plan_used.calls {w0 ws : World} {P0 : Nat → Prop} (g0 : Nat) (a0_0 : Int) (A0_1 : Option Addr) (c0_1 : Nat) (n0_1 : Nat) (l0_1 : List SStep) (A0_2 : Option Addr) (c0_2 : Nat) (n0_2 : Nat) (l0_2 : List Int) (Z : Below w0.heap.size w0 ws) (hF : Fr w0 ws P0 [] ws) (R0_1 : Stable ws P0 (fun w => Kd.C kStep w A0_1 n0_1 l0_1)) (hc0_1 : n0_1 ≤ c0_1) (R0_2 : Stable ws P0 (fun w => Kd.C (Kd.int .i64) w A0_2 n0_2 l0_2)) (hc0_2 : n0_2 ≤ c0_2) (B0 : Stable ws P0 (fun w => w.heap[g0]? = some (.cells #[.int .i64 a0_0, .slice A0_1 n0_1 c0_1, .slice A0_2 n0_2 c0_2] 25 (0, 0)))) (r_1 : List Bool) (h : impl_Plan_used.f a0_0 l0_1 l0_2 = some r_1) :
    Calls Try.prog 117 #[.pointer (some ⟨g0, 0, none⟩)] ws (Post1 w0 ws P0 (fun ((q_2, q_3) : (Option Addr) × Nat) => .slice q_2 r_1.length q_3) (fun ((q_2, q_3) : (Option Addr) × Nat) => [row Kd.bool 4 (.slice q_2 r_1.length q_3) r_1])) := by
  unfold impl_Plan_used.f at h
  obtain rfl := (R0_1 ws (KeptB.refl _ _)).1
  obtain rfl := (R0_2 ws (KeptB.refl _ _)).1
  refine enterM Try.func117 rfl Try.ntmps117 rfl hF (c_seq (za0 (o_e rfl (e_box rfl) (fun g1 => o_q rfl rfl (q_asg rfl) (o_end (za1 (c_seq (za0 (o_q rfl rfl (q_ldb Y102 rfl (fun w h => h.za9 (i := 0) rfl) rfl) ?_)))))))))
  refine za7 h (fun _ hx3 h => ?_) rfl
  refine o_e rfl (za6 0 Z Try.func115 N115 rfl rfl rfl (fun w P1 hF hB hS hT => impl_Plan_many.calls g0 a0_0 A0_1 c0_1 l0_1.length l0_1 A0_2 c0_2 l0_2.length l0_2 hB hF (hS _ R0_1) hc0_1 (hS _ R0_2) hc0_2 (hS _ B0) hx3)) (fun _ => za7 h (fun l4 hm5 h => ?_) rfl)
  refine o_e rfl (e_make Kd.bool false Try.underlying117 I4 rfl dc_ dc_ (fun _ _ => rfl) rfl rfl hm5) (cur2 (fun A6 c7 => o_e rfl (zaf V117 rfl) (fun g9 => o_e rfl (zac (i := 0) rfl rfl rfl rfl Z117 rfl rfl) (fun _ => o_end (za1 (c_seq (c_seq (za0 (o_q rfl rfl (q_ldb Y102 rfl (fun w h => h.za9 (i := 2) rfl) rfl) (o_q rfl rfl (q_nil rfl) ?_))))))))))
  refine o_q rfl rfl (q_f F25_2 rfl) (o_q rfl rfl (q_ldb Y23 rfl (fun w h => B0.now Z h) rfl) (o_q rfl rfl (q_len Try.underlying23 rfl) (o_q rfl rfl (za2 rfl) (o_end (za1 (zai (za7 h (fun o20 hl19 hR18 => ?_) rfl)))))))
  clear h
  refine c_fact (p := l0_2.length ≤ 9223372036854775807) (fun w h => (R0_2.now Z h).2.1) (fun hm17 => zaw (σ := (List Int) × (List Bool) × Int) (fun k15 ((ys14, l11, i12) : (List Int) × (List Bool) × Int) => Rg l0_2 i12 ys14 ∧ ys14.length = k15 ∧ impl_Plan_used.l0 ys14 l11 i12 = some o20) [5, 16, 17, 18, 19, 20, 21, 22, 23] (fun ((ys14, l11, i12) : (List Int) × (List Bool) × Int) => [(16, .int .i64 i12)]) (fun ((ys14, l11, i12) : (List Int) × (List Bool) × Int) => [box g9 117 #[.slice A6 l4.length c7], row Kd.bool 4 (.slice A6 l4.length c7) l11, box g1 102 #[.pointer (some ⟨g0, 0, none⟩)]]) l0_2.length (l0_2, l4, 0) ⟨Rg.start _, rfl, hl19⟩ ⟨rfl, trivial⟩ (fun w h => h) (fun k15 => cur3 (listC (fun l11 i12 U21 hJ_ => ?_) (fun y13 ys14 l11 i12 U21 hJ_ => ?_))))
  · skip
    clear hl19
    have hr16 := hJ_.1; have hk22 := hJ_.2.1; have h := hJ_.2.2; clear hJ_
    replace h : impl_Plan_used.l0 [] l11 i12 = some o20 := h
    rw [impl_Plan_used.l0] at h
    refine c_seq (za0 (o_q rfl rfl (q_lss rfl rfl) (o_end (za1 (c_seq (c_false (vb_ hr16.ge) (zb2 (za8 (za8 ?_)))))))))
    have e_ := si_ h; replace h := hR18; rw [← e_] at h; clear e_
    refine x_hit (za1 (c_seq (c_seq (za0 (o_q rfl rfl (q_ldb Y102 rfl (fun w h => h.za9 (i := 2) rfl) rfl) (o_q rfl rfl (q_nil rfl) (o_q rfl rfl (q_f F25_1 rfl) (o_q rfl rfl (q_ldb Y22 rfl (fun w h => B0.now Z h) rfl) (o_e rfl (za6 0 Z Try.func149 N149 rfl rfl rfl (fun w P1 hF hB hS hT => bkc_Step.calls A0_1 l0_1.length c0_1 hF)) (fun Bs => ?_))))))))))
    refine o_end (za1 (zai ?_))
    split at h
    rotate_left
    · cases h
    next hok =>
    obtain ⟨⟨o1, o2, o3, o4, o5⟩, o6⟩ := hok
    have e0_ := si_ h; clear h
    -- the range
    intro w hw
    have hw1 : Fr w0 ws P0 ([box g9 117 #[.slice A6 l4.length c7], row Kd.bool 4 (.slice A6 l4.length c7) l11, box g1 102 #[.pointer (some ⟨g0, 0, none⟩)]] ++ [box Bs 22 #[.slice A0_1 l0_1.length c0_1]]) w := za5 [1, 2, 3, 0] dc_ rfl w hw
    obtain ⟨P2, hF2, hst, hbx, hc2, hback⟩ := hw1.here Z
    have hZ2 : Below w0.heap.size w0 w := hF2.bel
    have hBs := Own.box (hbx 0 _ rfl)
    refine wpIn_any (N := ⟨49, [], none⟩) (n := 3) ?_
    refine wp_range (σ := List Bool) (α := BackT l0_1) (fun x => #[Value.int .i64 x.1.1, .agg #[.int .i64 x.1.2.f0, .int .i64 x.1.2.f1]]) (fun _ => rfl) l11 (fun s x => impl_Plan_used.b a0_0 s x.1)
      (fun s => [box g9 117 #[.slice A6 l4.length c7], row Kd.bool 4 (.slice A6 l4.length c7) s, box g1 102 #[.pointer (some ⟨g0, 0, none⟩)]])
      (fun s x q => [box q 107 #[.int .i64 x.1.2.f0, .int .i64 x.1.2.f1], box g9 117 #[.slice A6 l4.length c7], row Kd.bool 4 (.slice A6 l4.length c7) s, box g1 102 #[.pointer (some ⟨g0, 0, none⟩)]])
      (fun x => [(30, .agg #[.int .i64 x.1.2.f0, .int .i64 x.1.2.f1]), (29, .int .i64 x.1.1)]) (fun x q => [(7, .pointer (some ⟨q, 0, none⟩)), (6, .int .i64 x.1.1), (30, .agg #[.int .i64 x.1.2.f0, .int .i64 x.1.2.f1]), (29, .int .i64 x.1.1)])
      rfl (enters9 Try.func163 N163 rfl) hF2 (bk_Step Bs A0_1 c0_1 l0_1 (hst _ R0_1) hBs) ?_ ?_ (fun s x q W P3 W' h => za5 [1, 2, 3] dc_ rfl _ h) ?_ ?_ ?_
    · intro x
      exact act_zip2
    · intro s s' W h1 h2
      have e1 := h1.row_C (i := 1) rfl
      have e2 := h2.row_C (i := 1) rfl
      exact bool_det (by omega) e1.1 e2.1
    · -- the loop's variables
      intro l s x W P3 Z3 hst3
      refine c_seq (za0 (o_q rfl rfl (q_asg rfl) (o_end (za1 (za0 (o_e rfl (zaf V107 rfl) (fun g26 => o_e rfl (zah (i := 0) rfl rfl rfl Z107 rfl rfl) (fun _ => o_end ?_))))))))
      intro w' hw'
      exact ⟨g26, rfl, hw'⟩
    · -- a round
      intro l pre x g26 W P3 Z3 hst3 hlen
      have B0' := hst3 _ (hst _ B0)
      obtain ⟨j, hj1, hj2⟩ := x.2
      have hjl := (List.getElem?_eq_some_iff.1 hj2).1
      have hfl := impl_Plan_used.flen a0_0 pre l11
      obtain ⟨⟨q0, q1⟩, ⟨q2, q3⟩⟩ := o6 x.1.2 (List.mem_of_getElem? hj2)
      generalize pre.foldl (fun s x => impl_Plan_used.b a0_0 s x.1) l11 = s at hfl ⊢
      have hsl : (s.length : Int) = a0_0 + (l0_1.length : Int) := by omega
      have hww : w64 (a0_0 + x.1.1) = a0_0 + x.1.1 := zas (by omega)
      have hg29 : gt s (w64 (a0_0 + x.1.1)) = some (s.getD (a0_0 + x.1.1).toNat false) := by rw [hww]; exact gt_getD (by omega) (by omega)
      refine zai (c_seq (a_start (ds := []) MO rfl (zau 0 rfl rfl rfl kr_ (fun _ _ _ h => h) (fun w h => h) (q_ldb Y117 rfl (fun w h => h.za9 (i := 1) rfl) rfl) (zau 1 rfl rfl rfl kr_ (fun _ _ _ h => h) (fun w h => h) (q_ldb Y102 rfl (fun w h => h.za9 (i := 3) rfl) rfl) (za4 2 rfl rfl rfl kr_ (fun _ _ _ h => h) (q_nil rfl) (za4 3 rfl rfl rfl kr_ (fun _ _ _ h => h) (q_f F25_0 rfl) (zau 4 rfl rfl rfl kr_ (fun _ _ _ h => h) (fun w h => h) (q_ldb Y3 rfl (fun w h => B0'.now Z3 h) rfl) (za4 5 rfl rfl rfl kr_ (fun _ _ _ h => h) (za2 rfl) (za4 6 rfl rfl rfl kr_ (fun _ _ _ h => h) (zb0 rfl rfl) ?_)))))))))
      refine a_fact (p := Sh A6 l4.length s.length) (fun w h => f_sh (dk := Kd.bool) h (fun w h => h.zar (i := 2) rfl)) (fun hq28 => za4 7 rfl rfl rfl kr_ (fun _ _ _ h => h) (q_ix Try.underlying117 Z4 rfl rfl hq28 hg29) (zau 8 rfl rfl rfl kr_ (fun _ _ _ h => h) (fun w h => h) (q_lde (off := 0) Y4 rfl rfl (fun w h => h.zar (i := 2) rfl) hg29 (fun _ _ h => h) rfl) (zao kr_ (za1 (zaq _ rfl (fun hb31 => ?_) (fun hb31 => ?_))))))
      · skip
        have hg32 := gt_getD q0 (show x.1.2.f0 < (s.length : Int) by omega)
        have hs35 := st_ok q0 (show x.1.2.f0 < (s.length : Int) by omega)
        have hg37 := gt_getD (s := s.set x.1.2.f0.toNat true) q2 (by rw [List.length_set]; omega)
        have hs40 := st_ok (s := s.set x.1.2.f0.toNat true) q2 (by rw [List.length_set]; omega)
        refine a_startS (ds := []) [some 0, some 1, none, some 3] MO rfl (zau 0 rfl rfl rfl kr_ (fun _ _ _ h => h) (fun w h => za3 [some 0, some 1, none, some 3] dc_ w h rfl) (q_ldb Y117 rfl (fun w h => h.za9 (i := 1) rfl) rfl) (za4 1 rfl rfl rfl kr_ (fun _ _ _ h => h) (q_f F107_0 rfl) (zau 2 rfl rfl rfl kr_ (fun _ _ _ h => h) (fun w h => za3 [some 0, some 1, none, some 3] dc_ w h rfl) (q_ldb Y3 rfl (fun w h => h.za9 (i := 0) rfl) rfl) (zau 3 rfl rfl rfl kr_ (fun _ _ _ h => h) (fun w h => za3 [some 0, some 1, none, some 3] dc_ w h rfl) (q_ldb Y117 rfl (fun w h => h.za9 (i := 1) rfl) rfl) (za4 4 rfl rfl rfl kr_ (fun _ _ _ h => h) (q_f F107_1 rfl) (zau 5 rfl rfl rfl kr_ (fun _ _ _ h => h) (fun w h => za3 [some 0, some 1, none, some 3] dc_ w h rfl) (q_ldb Y3 rfl (fun w h => h.za9 (i := 0) rfl) rfl) (za4 6 rfl rfl rfl kr_ (fun _ _ _ h => h) (q_ix Try.underlying117 Z4 rfl rfl hq28 hg32) (a_one 7 rfl rfl kr_ rfl (e_set (i := 2) rfl rfl rfl Z4 hs35) (fun s w h => za3 [some 0, some 1, none, some 3] dc_ w h rfl) (fun _ => a_fact (p := Sh A6 l4.length (s.set x.1.2.f0.toNat true).length) (fun w h => f_sh (dk := Kd.bool) h (fun w h => h.zar (i := 2) rfl)) (fun hq36 => ?_))))))))))
        refine za4 8 rfl rfl rfl kr_ (fun _ _ _ h => h) (q_ix Try.underlying117 Z4 rfl rfl hq36 hg37) (a_one 9 rfl rfl kr_ rfl (e_set (i := 2) rfl rfl rfl Z4 hs40) (fun s w h => za3 [some 0, some 1, none, some 3] dc_ w h rfl) (fun _ => zao kr_ (zak ?_)))
        intro w' hw'
        have ht := za5 [1, 2, 3] dc_ rfl _ hw'
        have eb : impl_Plan_used.b a0_0 s x.1 = (s.set x.1.2.f0.toNat true).set x.1.2.f1.toNat true := if_pos hb31
        show Fr w0 W P3 _ w'
        rw [eb]
        exact ht
      · skip
        refine zam (zak ?_)
        intro w' hw'
        have ht := za5 [1, 2, 3] dc_ rfl _ hw'
        have eb : impl_Plan_used.b a0_0 s x.1 = s := if_neg (by rw [hb31]; simp)
        show Fr w0 W P3 _ w'
        rw [eb]
        exact ht
    · -- behind the range
      intro D xs W hD hS hFW hdf
      have hmap : xs.foldl (fun s x => impl_Plan_used.b a0_0 s x.1) l11 = r_1 := by
        rw [← e0_, ← hS, List.foldl_map]
      rw [hmap] at hFW
      obtain ⟨P4, hF4, hst4, _, hc4, hback4⟩ := ((show Fr w0 w P2 ([box g9 117 #[.slice A6 l4.length c7], row Kd.bool 4 (.slice A6 l4.length c7) r_1, box g1 102 #[.pointer (some ⟨g0, 0, none⟩)]] ++ []) W from hFW)).here hZ2
      have hmk : Stable W P4 (fun w => w.heap[D]? = some (.deferred (some []))) := fun W' hk => by
        show W'.heap[D]? = _
        rw [hk.kept.2 D (Array.getElem?_eq_some_iff.1 hdf).1 (fun hp => by
          obtain ⟨cs, q, hcc⟩ := hc4 D hp
          rw [hdf] at hcc
          cases hcc)]
        exact hdf
      have hrl : l4.length = r_1.length := by
        rw [← hmap, impl_Plan_used.flen]
        omega
      have hws : ws.heap.size ≤ D := Nat.le_trans (hw.keptB Z).kept.1 hD
      refine (show X ⟨49, [{ target := .collected D, args := #[] }], none⟩ w0 W P4 .normal _ _ _ from ?_) W hF4
      refine zak (za1 (c_seq (za0 (o_q rfl rfl (q_ldb Y117 rfl (fun w h => h.za9 (i := 0) rfl) rfl) (o_q rfl rfl (q_asg rfl) (o_end (za1 (c_ret (x_mark (D := D) Z hws hmk hF4.bel (fun Ts w' h => hback _ _ (hback4 _ _ h)) ?_)))))))))
      exact x_r1 (A6, c7) Try.results117 (zal (v := .slice A6 l4.length c7) rfl) (by (try rw [hrl]); first | done | rfl) (f_pickE (L1 := [box g9 117 #[.slice A6 l4.length c7], row Kd.bool 4 (.slice A6 l4.length c7) r_1, box g1 102 #[.pointer (some ⟨g0, 0, none⟩)]]) rfl [1] dc_ rfl (by (try rw [hrl]); first | done | rfl))
  · skip
    clear hl19
    have hr16 := hJ_.1; have hk22 := hJ_.2.1; have h := hJ_.2.2; clear hJ_
    replace h : impl_Plan_used.l0 (y13 :: ys14) l11 i12 = some o20 := h
    rw [impl_Plan_used.l0] at h
    refine c_seq (za0 (o_q rfl rfl (q_lss rfl rfl) (o_end (za1 (c_seq (zb8 (vb_ hr16.lt) (zam (za1 (c_seq ?_)))))))))
    refine zai (c_seq (za0 (zb4 (p := Sh A0_2 l0_2.length l0_2.length) (fun w h => f_sh (dk := (Kd.int .i64)) h (fun w h => R0_2.now Z h)) (fun hq43 => o_q rfl rfl (q_ix Try.underlying23 Z3 rfl rfl hq43 hr16.get) (o_q rfl rfl (q_lde (off := 0) Y3 rfl rfl (fun w h => R0_2.now Z h) hr16.get (fun _ _ h => h) rfl) (o_q rfl rfl (q_asg rfl) (o_end (za1 (za0 ?_)))))))))
    refine o_q rfl rfl (q_ldb Y117 rfl (fun w h => h.za9 (i := 0) rfl) rfl) (o_q rfl rfl (za2 rfl) (zb4 (p := Sh A6 l4.length l11.length) (fun w h => f_sh (dk := Kd.bool) h (fun w h => h.zar (i := 1) rfl)) (fun hq44 => za7 h (fun y46 hg45 h => ?_) rfl)))
    refine o_q rfl rfl (q_ix Try.underlying117 Z4 rfl rfl hq44 hg45) (za7 h (fun l47 hs48 h => ?_) rfl)
    refine o_e rfl (e_set (i := 1) rfl rfl rfl Z4 hs48) (fun _ => o_end (zak (za1 (za0 (o_q rfl rfl (q_up rfl rfl (hr16.up hm17)) (o_q rfl rfl (za2 rfl) (o_end (zan ys14.length (ys14, l47, i12 + 1) (by rw [← hk22]; exact Nat.lt_succ_self _) ⟨hr16.step, rfl, h⟩ ⟨rfl, trivial⟩ (fun w h => za5 [0, 1, 2] dc_ rfl w h) ?_))))))))
    exact of_

def impl_firsts.l0 : Nat → (List Int) → Int → Option (List Int)
  | 0, l4, i7 => some l4
  | k10 + 1, l4, i7 => (ap l4 ([i7] : List Int)).bind fun l22 => impl_firsts.l0 k10 l22 (i7 + 1)
def impl_firsts.f (a0 : Int) : Option (List Int) := (bd a0).bind fun _ => (impl_firsts.l0 ((a0).toNat) ([] : List Int) 0).bind fun l4 => some l4
theorem impl_firsts.calls {w0 ws : World} {P0 : Nat → Prop} (a0 : Int) (Z : Below w0.heap.size w0 ws) (hF : Fr w0 ws P0 [] ws)  (r_1 : List Int) (h : impl_firsts.f a0 = some r_1) :
    Calls Try.prog 106 #[.int .i64 a0] ws (Post1 w0 ws P0 (fun ((q_2, q_3) : (Option Addr) × Nat) => .slice q_2 r_1.length q_3) (fun ((q_2, q_3) : (Option Addr) × Nat) => [row (Kd.int .i64) 3 (.slice q_2 r_1.length q_3) r_1])) := by
  unfold impl_firsts.f at h
  refine enter Try.func106 rfl Try.ntmps106 rfl hF (c_seq (za0 (o_q rfl rfl (q_asg rfl) (o_end (za1 (c_seq (za0 (o_e rfl (e_lit0 (Kd.int .i64) Try.underlying23 I3) (cur2 (fun A1 c2 => o_q rfl rfl (q_asg rfl) ?_))))))))))
  refine o_end (za1 (c_seq (c_seq (za0 (o_q rfl rfl (za2 rfl) (o_q rfl rfl (za2 rfl) (o_end (za1 (zai ?_)))))))))
  refine za7 h (fun _ hbd16 h => ?_) rfl
  refine za7 h (fun o15 hl14 hR13 => ?_) rfl
  clear h
  have hm12 : a0 ≤ 9223372036854775807 := bd_le hbd16
  refine zaw (σ := (List Int) × Int × (Option Addr) × Nat) (fun k10 ((l4, i7, A5, c6) : (List Int) × Int × (Option Addr) × Nat) => Cn a0 i7 k10 ∧ impl_firsts.l0 k10 l4 i7 = some o15) [3, 4, 7, 8, 9, 10, 11, 12, 13, 14] (fun ((l4, i7, A5, c6) : (List Int) × Int × (Option Addr) × Nat) => [(3, .slice A5 l4.length c6), (7, .int .i64 i7)]) (fun ((l4, i7, A5, c6) : (List Int) × Int × (Option Addr) × Nat) => [row (Kd.int .i64) 3 (.slice A5 l4.length c6) l4]) (a0).toNat (([] : List Int), 0, A1, c2) ⟨Cn.start hm12, hl14⟩ ⟨rfl, rfl, trivial⟩ (fun w h => h) (natC (cur4 (fun l4 i7 A5 c6 => fun U17 hJ_ => ?_)) (fun k10 => (cur4 (fun l4 i7 A5 c6 => fun U17 hJ_ => ?_))))
  · skip
    clear hl14
    have hr11 := hJ_.1; have h := hJ_.2; clear hJ_
    replace h : impl_firsts.l0 0 l4 i7 = some o15 := h
    rw [impl_firsts.l0] at h
    refine c_seq (za0 (o_q rfl rfl (q_lss rfl rfl) (o_end (za1 (c_seq (c_false (vb_ hr11.ge) (zb2 (za8 (za8 ?_)))))))))
    have e_ := si_ h; replace h := hR13; rw [← e_] at h; clear e_
    refine x_hit (za1 (c_seq (za0 (o_q rfl rfl (za2 rfl) (o_q rfl rfl (q_asg rfl) (o_end (za1 (c_ret ?_))))))))
    have e0_ := si_ h; clear h
    subst e0_
    exact x_r1 (A5, c6) Try.results106 (zal rfl) rfl (fun w h => za5 [0] dc_ rfl w h)
  · skip
    clear hl14
    have hr11 := hJ_.1; have h := hJ_.2; clear hJ_
    replace h : impl_firsts.l0 (k10 + 1) l4 i7 = some o15 := h
    rw [impl_firsts.l0] at h
    refine c_seq (za0 (o_q rfl rfl (q_lss rfl rfl) (o_end (za1 (c_seq (zb8 (vb_ hr11.lt) (zam (za1 (c_seq ?_)))))))))
    refine zai (c_seq (za0 (o_q rfl rfl (za2 rfl) (o_q rfl rfl (q_asg rfl) (o_end (za1 (za0 (o_q rfl rfl (za2 rfl) (o_q rfl rfl (za2 rfl) ?_)))))))))
    refine o_e rfl (e_lit (vs := [(0, .int .i64 i7)]) (cs := [.int .i64 i7]) (Kd.int .i64) ([i7] : List Int) Try.underlying23 I3 dc_ rfl dc_ rfl rfl (fun _ _ => Kd.zad _)) (cur2 (fun A19 c20 => za7 h (fun l22 ha23 h => ?_) rfl))
    refine o_e rfl (e_app (i := 1) (j := 0) Try.underlying23 I3 rfl dc_ dc_ rfl rfl rfl rfl rfl ha23) (cur2 (fun A24 c25 => o_q rfl rfl (q_asg rfl) (o_end (zak (za1 (za0 (o_q rfl rfl (q_up rfl rfl hr11.up) (o_q rfl rfl (za2 rfl) (o_end (zan k10 (l22, i7 + 1, A24, c25) (Nat.lt_succ_self _) ⟨hr11.step, h⟩ ⟨rfl, rfl, trivial⟩ (fun w h => za5 [1] dc_ rfl w h) ?_))))))))))
    exact of_

def impl_renamed.l0 (l1 : List Int) : (List Int) → (List Int) → Int → Option (List Int)
  | [], l5, i8 => some l5
  | y9 :: ys10, l5, i8 => (gt l1 y9).bind fun y22 => (ap l5 ([y22] : List Int)).bind fun l26 => impl_renamed.l0 l1 ys10 l26 (i8 + 1)
def impl_renamed.f (l0 : List Int) (l1 : List Int) : Option (List Int) := (impl_renamed.l0 l1 l0 ([] : List Int) 0).bind fun l5 => some l5
theorem impl_renamed.calls {w0 ws : World} {P0 : Nat → Prop} (A0 : Option Addr) (c0 : Nat) (n0 : Nat) (l0 : List Int) (A1 : Option Addr) (c1 : Nat) (n1 : Nat) (l1 : List Int) (Z : Below w0.heap.size w0 ws) (hF : Fr w0 ws P0 [] ws) (R0 : Stable ws P0 (fun w => Kd.C (Kd.int .i64) w A0 n0 l0)) (hc0 : n0 ≤ c0) (R1 : Stable ws P0 (fun w => Kd.C (Kd.int .i64) w A1 n1 l1)) (hc1 : n1 ≤ c1) (r_1 : List Int) (h : impl_renamed.f l0 l1 = some r_1) :
    Calls Try.prog 118 #[.slice A0 n0 c0, .slice A1 n1 c1] ws (Post1 w0 ws P0 (fun ((q_2, q_3) : (Option Addr) × Nat) => .slice q_2 r_1.length q_3) (fun ((q_2, q_3) : (Option Addr) × Nat) => [row (Kd.int .i64) 3 (.slice q_2 r_1.length q_3) r_1])) := by
  unfold impl_renamed.f at h
  obtain rfl := (R0 ws (KeptB.refl _ _)).1
  obtain rfl := (R1 ws (KeptB.refl _ _)).1
  refine enter Try.func118 rfl Try.ntmps118 rfl hF (c_seq (za0 (o_q rfl rfl (q_asg rfl) (o_end (za1 (c_seq (za0 (o_e rfl (e_lit0 (Kd.int .i64) Try.underlying23 I3) (cur2 (fun A2 c3 => o_q rfl rfl (q_asg rfl) ?_))))))))))
  refine o_end (za1 (c_seq (c_seq (za0 (o_q rfl rfl (za2 rfl) (o_q rfl rfl (q_len Try.underlying23 rfl) (o_q rfl rfl (za2 rfl) (o_end (za1 ?_)))))))))
  refine zai (za7 h (fun o16 hl15 hR14 => ?_) rfl)
  clear h
  refine c_fact (p := l0.length ≤ 9223372036854775807) (fun w h => (R0.now Z h).2.1) (fun hm13 => zaw (σ := (List Int) × (List Int) × Int × (Option Addr) × Nat) (fun k11 ((ys10, l5, i8, A6, c7) : (List Int) × (List Int) × Int × (Option Addr) × Nat) => Rg l0 i8 ys10 ∧ ys10.length = k11 ∧ impl_renamed.l0 l1 ys10 l5 i8 = some o16) [5, 7, 11, 12, 13, 14, 15, 16, 17, 18, 19, 20, 21, 22] (fun ((ys10, l5, i8, A6, c7) : (List Int) × (List Int) × Int × (Option Addr) × Nat) => [(5, .slice A6 l5.length c7), (11, .int .i64 i8)]) (fun ((ys10, l5, i8, A6, c7) : (List Int) × (List Int) × Int × (Option Addr) × Nat) => [row (Kd.int .i64) 3 (.slice A6 l5.length c7) l5]) l0.length (l0, ([] : List Int), 0, A2, c3) ⟨Rg.start _, rfl, hl15⟩ ⟨rfl, rfl, trivial⟩ (fun w h => h) (fun k11 => cur5 (listC (fun l5 i8 A6 c7 U17 hJ_ => ?_) (fun y9 ys10 l5 i8 A6 c7 U17 hJ_ => ?_))))
  · skip
    clear hl15
    have hr12 := hJ_.1; have hk18 := hJ_.2.1; have h := hJ_.2.2; clear hJ_
    replace h : impl_renamed.l0 l1 [] l5 i8 = some o16 := h
    rw [impl_renamed.l0] at h
    refine c_seq (za0 (o_q rfl rfl (q_lss rfl rfl) (o_end (za1 (c_seq (c_false (vb_ hr12.ge) (zb2 (za8 (za8 ?_)))))))))
    have e_ := si_ h; replace h := hR14; rw [← e_] at h; clear e_
    refine x_hit (za1 (c_seq (za0 (o_q rfl rfl (za2 rfl) (o_q rfl rfl (q_asg rfl) (o_end (za1 (c_ret ?_))))))))
    have e0_ := si_ h; clear h
    subst e0_
    exact x_r1 (A6, c7) Try.results118 (zal rfl) rfl (fun w h => za5 [0] dc_ rfl w h)
  · skip
    clear hl15
    have hr12 := hJ_.1; have hk18 := hJ_.2.1; have h := hJ_.2.2; clear hJ_
    replace h : impl_renamed.l0 l1 (y9 :: ys10) l5 i8 = some o16 := h
    rw [impl_renamed.l0] at h
    refine c_seq (za0 (o_q rfl rfl (q_lss rfl rfl) (o_end (za1 (c_seq (zb8 (vb_ hr12.lt) (zam (za1 (c_seq ?_)))))))))
    refine zai (c_seq (za0 (zb4 (p := Sh A0 l0.length l0.length) (fun w h => f_sh (dk := (Kd.int .i64)) h (fun w h => R0.now Z h)) (fun hq19 => o_q rfl rfl (q_ix Try.underlying23 Z3 rfl rfl hq19 hr12.get) (o_q rfl rfl (q_lde (off := 0) Y3 rfl rfl (fun w h => R0.now Z h) hr12.get (fun _ _ h => h) rfl) (o_q rfl rfl (q_asg rfl) (o_end (za1 (za0 ?_)))))))))
    refine o_q rfl rfl (za2 rfl) (o_q rfl rfl (za2 rfl) (o_q rfl rfl (za2 rfl) (zb4 (p := Sh A1 l1.length l1.length) (fun w h => f_sh (dk := (Kd.int .i64)) h (fun w h => R1.now Z h)) (fun hq20 => za7 h (fun y22 hg21 h => ?_) rfl))))
    refine o_q rfl rfl (q_ix Try.underlying23 Z3 rfl rfl hq20 hg21) (o_q rfl rfl (q_lde (off := 0) Y3 rfl rfl (fun w h => R1.now Z h) hg21 (fun _ _ h => h) rfl) (o_e rfl (e_lit (vs := [(0, .int .i64 y22)]) (cs := [.int .i64 y22]) (Kd.int .i64) ([y22] : List Int) Try.underlying23 I3 dc_ rfl dc_ rfl rfl (fun _ _ => Kd.zad _)) (cur2 (fun A23 c24 => za7 h (fun l26 ha27 h => ?_) rfl))))
    refine o_e rfl (e_app (i := 1) (j := 0) Try.underlying23 I3 rfl dc_ dc_ rfl rfl rfl rfl rfl ha27) (cur2 (fun A28 c29 => o_q rfl rfl (q_asg rfl) (o_end (zak (za1 (za0 (o_q rfl rfl (q_up rfl rfl (hr12.up hm13)) (o_q rfl rfl (za2 rfl) (o_end (zan ys10.length (ys10, l26, i8 + 1, A28, c29) (by rw [← hk18]; exact Nat.lt_succ_self _) ⟨hr12.step, rfl, h⟩ ⟨rfl, rfl, trivial⟩ (fun w h => za5 [1] dc_ rfl w h) ?_))))))))))
    exact of_

def impl_Plan_trimmed.l0 (a0_0 : Int) (l1024 : List Bool) : (List SStep) → (List Int) → (List SStep) → Int → Option ((List Int) × (List SStep))
  | [], l2058, l2061, i2064 => some (l2058, l2061)
  | y2065 :: ys2066, l2058, l2061, i2064 => (impl_Plan_many.f a0_0 l2061 []).bind fun _ => (ap l2058 ([w64 (a0_0 + (l2061.length : Int))] : List Int)).bind fun l2086 => (gt l1024 (w64 (a0_0 + i2064))).bind fun y2092 => if y2092 = true then ((gt l2086 y2065.f0).bind fun y2397 => (gt l2086 y2065.f1).bind fun y2696 => (impl_step.f y2397 y2696).bind fun _ => (ap l2061 ([(⟨mn y2397 y2696, mx y2397 y2696⟩ : SStep)] : List SStep)).bind fun l2935 => impl_Plan_trimmed.l0 a0_0 l1024 ys2066 l2086 l2935 (i2064 + 1)) else (impl_Plan_trimmed.l0 a0_0 l1024 ys2066 l2086 l2061 (i2064 + 1))
def impl_Plan_trimmed.f (a0_0 : Int) (l0_1 : List SStep) (l0_2 : List Int) : Option ((List SStep) × (List Int)) := ((impl_Plan_used.f a0_0 l0_1 l0_2).bind fun l1098 => (impl_firsts.f a0_0).bind fun l1698 => some (l1098, l1698)).bind fun (l1024, l1028) => (impl_Plan_trimmed.l0 a0_0 l1024 l0_1 l1028 ([] : List SStep) 0).bind fun (l2058, l2061) => (impl_renamed.f l0_2 l2058).bind fun l2076 => some (l2061, l2076)
theorem impl_Plan_trimmed.calls {w0 ws : World} {P0 : Nat → Prop} (g0 : Nat) (a0_0 : Int) (A0_1 : Option Addr) (c0_1 : Nat) (n0_1 : Nat) (l0_1 : List SStep) (A0_2 : Option Addr) (c0_2 : Nat) (n0_2 : Nat) (l0_2 : List Int) (Z : Below w0.heap.size w0 ws) (hF : Fr w0 ws P0 [] ws) (R0_1 : Stable ws P0 (fun w => Kd.C kStep w A0_1 n0_1 l0_1)) (hc0_1 : n0_1 ≤ c0_1) (R0_2 : Stable ws P0 (fun w => Kd.C (Kd.int .i64) w A0_2 n0_2 l0_2)) (hc0_2 : n0_2 ≤ c0_2) (B0 : Stable ws P0 (fun w => w.heap[g0]? = some (.cells #[.int .i64 a0_0, .slice A0_1 n0_1 c0_1, .slice A0_2 n0_2 c0_2] 25 (0, 0)))) (r_1 : List SStep) (r_4 : List Int) (h : impl_Plan_trimmed.f a0_0 l0_1 l0_2 = some (r_1, r_4)) :
    Calls Try.prog 62 #[.pointer (some ⟨g0, 0, none⟩)] ws (Post1 w0 ws P0 (fun ((q_2, q_3, q_5, q_6) : (Option Addr) × Nat × (Option Addr) × Nat) => .agg #[.int .i64 a0_0, .slice q_2 r_1.length q_3, .slice q_5 r_4.length q_6]) (fun ((q_2, q_3, q_5, q_6) : (Option Addr) × Nat × (Option Addr) × Nat) => [row kStep 107 (.slice q_2 r_1.length q_3) r_1, row (Kd.int .i64) 3 (.slice q_5 r_4.length q_6) r_4])) := by
  unfold impl_Plan_trimmed.f at h
  obtain rfl := (R0_1 ws (KeptB.refl _ _)).1
  obtain rfl := (R0_2 ws (KeptB.refl _ _)).1
  refine enter Try.func62 rfl Try.ntmps62 rfl hF (c_seq (za0 (o_e rfl (zaf V25 rfl) (fun g1 => o_end (za1 (za7 h (fun o1031 hl1032 hR1033 => ?_) rfl))))))
  clear h
  refine c_cutJ (σ := (List Bool) × (List Int) × (Option Addr) × Nat × Nat × (Option Addr) × Nat) (fun (l1024, l1028, A1025, c1026, g1027, A1029, c1030) => some (l1024, l1028) = some o1031) [3, 4, 5, 8, 9, 10, 11, 12, 13, 14, 15, 16, 17, 18, 19] (fun (l1024, l1028, A1025, c1026, g1027, A1029, c1030) => [(3, .slice A1025 l1024.length c1026), (4, .pointer (some ⟨g1027, 0, none⟩)), (5, .slice A1029 l1028.length c1030)]) (fun (l1024, l1028, A1025, c1026, g1027, A1029, c1030) => [box g1 25 #[.int .i64 0, .slice none 0 0, .slice none 0 0], row Kd.bool 4 (.slice A1025 l1024.length c1026) l1024, box g1027 25 #[.int .i64 a0_0, .slice none 0 0, .slice none 0 0], row (Kd.int .i64) 3 (.slice A1029 l1028.length c1030) l1028]) ?_ ?_
  · skip
    have h := hl1032; clear hl1032
    clear hR1033
    refine za7 h (fun l1098 hx1097 h => ?_) rfl
    refine za7 h (fun l1698 hx1697 h => ?_) rfl
    refine a_start (ds := []) MO rfl (za4 0 rfl rfl rfl kr_ (fun _ _ _ h => h) (za2 rfl) (za4 2 rfl rfl rfl kr_ (fun _ _ _ h => h) (za2 rfl) (za4 3 rfl rfl rfl kr_ (fun _ _ _ h => h) (q_nil rfl) (za4 4 rfl rfl rfl kr_ (fun _ _ _ h => h) (q_f F25_0 rfl) (zau 5 rfl rfl rfl kr_ (fun _ _ _ h => h) (fun w h => h) (q_ldb Y3 rfl (fun w h => B0.now Z h) rfl) (za4 6 rfl rfl rfl kr_ (fun _ _ _ h => h) (q_build (vs := [(0, .int .i64 a0_0)]) (cs := [.int .i64 a0_0, .slice none 0 0, .slice none 0 0]) rfl rfl) (za4 7 rfl rfl rfl kr_ (fun _ _ _ h => h) (za2 rfl) (za4 8 rfl rfl rfl kr_ (fun _ _ _ h => h) (q_nil rfl) (za4 9 rfl rfl rfl kr_ (fun _ _ _ h => h) (q_f F25_0 rfl) ?_)))))))))
    refine zau 10 rfl rfl rfl kr_ (fun _ _ _ h => h) (fun w h => h) (q_ldb Y3 rfl (fun w h => B0.now Z h) rfl) (a_two 1 12 rfl rfl rfl rfl kr_ rfl rfl (za6 0 Z Try.func117 N117 rfl rfl rfl (fun w P1 hF hB hS hT => impl_Plan_used.calls g0 a0_0 A0_1 c0_1 l0_1.length l0_1 A0_2 c0_2 l0_2.length l0_2 hB hF (hS _ R0_1) hc0_1 (hS _ R0_2) hc0_2 (hS _ B0) _ hx1097)) (fun s w h => za3 [some 1] dc_ w h rfl) (zaf V25 rfl) (fun s w h => za3 [some 1] dc_ w h rfl) (cur2 (fun A1099 c1100 => ?_)) (fun g1757 => ?_))
    · skip
      refine a_two 11 12 rfl rfl rfl rfl kr_ rfl rfl (za6 0 Z Try.func106 N106 rfl rfl rfl (fun w P1 hF hB hS hT => impl_firsts.calls a0_0 hB hF _ hx1697)) (fun s w h => za3 [some 2] dc_ w h rfl) (zaf V25 rfl) (fun s w h => za3 [some 2] dc_ w h rfl) (cur2 (fun A1699 c1700 => ?_)) (fun g1757 => ?_)
      · skip
        refine a_one 12 rfl rfl kr_ rfl (zaf V25 rfl) (fun s w h => za3 [some 3] dc_ w h rfl) (fun g1757 => za4 13 rfl rfl rfl kr_ (fun _ _ _ h => h) (q_asg rfl) (a_one 14 rfl rfl kr_ rfl (zah (i := 0) rfl rfl rfl Z25 rfl rfl) (fun s w h => za3 [some 3] dc_ w h rfl) (fun _ => za4 15 rfl rfl rfl kr_ (fun _ _ _ h => h) (q_asg rfl) (zao kr_ (zaj (l1098, l1698, A1099, c1100, g1757, A1699, c1700) h ⟨rfl, rfl, rfl, trivial⟩ (fun w h => za5 [3, 2, 0, 1] dc_ rfl w h) ?_)))))
        exact of_
      · skip
        refine a_one 11 rfl rfl kr_ rfl (za6 0 Z Try.func106 N106 rfl rfl rfl (fun w P1 hF hB hS hT => impl_firsts.calls a0_0 hB hF _ hx1697)) (fun s w h => za3 [some 3] dc_ w h rfl) (cur2 (fun A1699 c1700 => za4 13 rfl rfl rfl kr_ (fun _ _ _ h => h) (q_asg rfl) (a_one 14 rfl rfl kr_ rfl (zah (i := 1) rfl rfl rfl Z25 rfl rfl) (fun s w h => za3 [some 3] dc_ w h rfl) (fun _ => za4 15 rfl rfl rfl kr_ (fun _ _ _ h => h) (q_asg rfl) (zao kr_ (zaj (l1098, l1698, A1099, c1100, g1757, A1699, c1700) h ⟨rfl, rfl, rfl, trivial⟩ (fun w h => za5 [3, 2, 1, 0] dc_ rfl w h) ?_))))))
        exact of_
    · skip
      refine a_one 1 rfl rfl kr_ rfl (za6 0 Z Try.func117 N117 rfl rfl rfl (fun w P1 hF hB hS hT => impl_Plan_used.calls g0 a0_0 A0_1 c0_1 l0_1.length l0_1 A0_2 c0_2 l0_2.length l0_2 hB hF (hS _ R0_1) hc0_1 (hS _ R0_2) hc0_2 (hS _ B0) _ hx1097)) (fun s w h => za3 [some 2] dc_ w h rfl) (cur2 (fun A1099 c1100 => a_one 11 rfl rfl kr_ rfl (za6 0 Z Try.func106 N106 rfl rfl rfl (fun w P1 hF hB hS hT => impl_firsts.calls a0_0 hB hF _ hx1697)) (fun s w h => za3 [some 3] dc_ w h rfl) (cur2 (fun A1699 c1700 => za4 13 rfl rfl rfl kr_ (fun _ _ _ h => h) (q_asg rfl) (a_one 14 rfl rfl kr_ rfl (zah (i := 2) rfl rfl rfl Z25 rfl rfl) (fun s w h => za3 [some 3] dc_ w h rfl) (fun _ => za4 15 rfl rfl rfl kr_ (fun _ _ _ h => h) (q_asg rfl) (zao kr_ (zaj (l1098, l1698, A1099, c1100, g1757, A1699, c1700) h ⟨rfl, rfl, rfl, trivial⟩ (fun w h => za5 [3, 1, 2, 0] dc_ rfl w h) ?_))))))))
      exact of_
  · skip
    refine (cur7 (fun l1024 l1028 A1025 c1026 g1027 A1029 c1030 => fun U1034 hJ1035 => ?_))
    have e_ := si_ hJ1035; have h := hR1033; rw [← e_] at h; clear e_ hJ1035 hR1033 hl1032
    refine c_seq (c_seq (za0 (o_q rfl rfl (za2 rfl) (o_q rfl rfl (q_nil rfl) (o_q rfl rfl (q_f F25_1 rfl) (o_q rfl rfl (q_ldb Y22 rfl (fun w h => B0.now Z h) rfl) (o_q rfl rfl (q_len Try.underlying22 rfl) (o_q rfl rfl (za2 rfl) (o_end ?_)))))))))
    refine za1 (zai (c_nil kStep 107 (za7 h (fun o2072 hl2071 hR2070 => ?_) rfl)))
    clear h
    refine c_fact (p := l0_1.length ≤ 9223372036854775807) (fun w h => (R0_1.now Z h).2.1) (fun hm2069 => zaw (σ := (List SStep) × (List Int) × (List SStep) × Int × (Option Addr) × Nat × (Option Addr) × Nat) (fun k2067 ((ys2066, l2058, l2061, i2064, A2059, c2060, A2062, c2063) : (List SStep) × (List Int) × (List SStep) × Int × (Option Addr) × Nat × (Option Addr) × Nat) => Rg l0_1 i2064 ys2066 ∧ ys2066.length = k2067 ∧ impl_Plan_trimmed.l0 a0_0 l1024 ys2066 l2058 l2061 i2064 = some o2072) [5, 6, 7, 25, 26, 27, 28, 29, 30, 31, 32, 33, 34, 35, 36, 37, 38, 39, 40, 41, 42, 43, 44, 45, 46, 47, 48, 49, 50, 51, 52, 53, 54, 55, 56, 57, 58, 59] (fun ((ys2066, l2058, l2061, i2064, A2059, c2060, A2062, c2063) : (List SStep) × (List Int) × (List SStep) × Int × (Option Addr) × Nat × (Option Addr) × Nat) => [(5, .slice A2059 l2058.length c2060), (25, .int .i64 i2064)]) (fun ((ys2066, l2058, l2061, i2064, A2059, c2060, A2062, c2063) : (List SStep) × (List Int) × (List SStep) × Int × (Option Addr) × Nat × (Option Addr) × Nat) => [row kStep 107 (.slice A2062 l2061.length c2063) l2061, box g1 25 #[.int .i64 0, .slice none 0 0, .slice none 0 0], row Kd.bool 4 (.slice A1025 l1024.length c1026) l1024, box g1027 25 #[.int .i64 a0_0, .slice A2062 l2061.length c2063, .slice none 0 0], row (Kd.int .i64) 3 (.slice A2059 l2058.length c2060) l2058]) l0_1.length (l0_1, l1028, ([] : List SStep), 0, A1029, c1030, none, 0) ⟨Rg.start _, rfl, hl2071⟩ ⟨rfl, rfl, trivial⟩ (fun w h => h) (fun k2067 => cur8 (listC (fun l2058 l2061 i2064 A2059 c2060 A2062 c2063 U2073 hJ_ => ?_) (fun y2065 ys2066 l2058 l2061 i2064 A2059 c2060 A2062 c2063 U2073 hJ_ => ?_))))
    · skip
      clear hl2071
      have hr2068 := hJ_.1; have hk2074 := hJ_.2.1; have h := hJ_.2.2; clear hJ_
      replace h : impl_Plan_trimmed.l0 a0_0 l1024 [] l2058 l2061 i2064 = some o2072 := h
      rw [impl_Plan_trimmed.l0] at h
      refine c_seq (za0 (o_q rfl rfl (q_lss rfl rfl) (o_end (za1 (c_seq (c_false (vb_ hr2068.ge) (zb2 (za8 (za8 ?_)))))))))
      have e_ := si_ h; replace h := hR2070; rw [← e_] at h; clear e_
      refine x_hit (za1 (c_seq (za0 (o_q rfl rfl (za2 rfl) (o_q rfl rfl (q_nil rfl) (o_q rfl rfl (q_f F25_2 rfl) (o_q rfl rfl (q_ldb Y23 rfl (fun w h => B0.now Z h) rfl) (o_q rfl rfl (za2 rfl) (za7 h (fun l2076 hx2075 h => ?_) rfl)))))))))
      refine o_e rfl (za6 0 Z Try.func118 N118 rfl rfl rfl (fun w P1 hF hB hS hT => impl_renamed.calls A0_2 c0_2 l0_2.length l0_2 A2059 c2060 l2058.length l2058 hB hF (hS _ R0_2) hc0_2 (hT 4 _ rfl).row (hT 4 _ rfl).cap _ hx2075)) (cur2 (fun A2077 c2078 => o_q rfl rfl (q_f F25_2 rfl) (o_e rfl (zac (i := 4) rfl rfl rfl rfl Z23 rfl rfl) (fun _ => o_end (za1 (c_seq (za0 (o_q rfl rfl (q_ldB G25 Z25 rfl (fun w h => h.za9 (i := 4) rfl) rfl) (o_e rfl (zah (i := 2) rfl rfl rfl Z25 rfl rfl) (fun _ => o_end ?_))))))))))
      refine za1 (c_ret ?_)
      have e0_ := si_ h; clear h
      obtain ⟨rfl, e1_⟩ := Prod.mk.inj e0_
      subst e1_
      exact x_r1 (A2062, c2063, A2077, c2078) Try.results62 (zb5 rfl G25 Z25 (fun w h => h.za9 (i := 2) rfl) rfl) rfl (fun w h => za5 [1, 0] dc_ rfl w h)
    · skip
      clear hl2071
      have hr2068 := hJ_.1; have hk2074 := hJ_.2.1; have h := hJ_.2.2; clear hJ_
      replace h : impl_Plan_trimmed.l0 a0_0 l1024 (y2065 :: ys2066) l2058 l2061 i2064 = some o2072 := h
      rw [impl_Plan_trimmed.l0] at h
      refine c_seq (za0 (o_q rfl rfl (q_lss rfl rfl) (o_end (za1 (c_seq (zb8 (vb_ hr2068.lt) (zam (za1 (c_seq ?_)))))))))
      refine zai (c_seq (za0 (o_q rfl rfl (za2 rfl) (zb4 (p := Sh A0_1 l0_1.length l0_1.length) (fun w h => f_sh (dk := kStep) h (fun w h => R0_1.now Z h)) (fun hq2079 => o_q rfl rfl (q_ix Try.underlying22 Z107 rfl rfl hq2079 hr2068.get) (o_q rfl rfl (q_ldE G107 Z107 rfl rfl (fun w h => R0_1.now Z h) hr2068.get (fun _ _ h => h) rfl) (o_e rfl (zaf V107 rfl) (fun g2080 => o_q rfl rfl (q_asg rfl) (o_e rfl (zah (i := 0) rfl rfl rfl Z107 rfl rfl) (fun _ => ?_))))))))))
      refine o_end (za1 (c_seq (za0 (o_q rfl rfl (za2 rfl) (za7 h (fun _ hx2082 h => ?_) rfl)))))
      refine o_e rfl (za6 0 Z Try.func115 N115 rfl rfl rfl (fun w P1 hF hB hS hT => impl_Plan_many.calls g1027 a0_0 A2062 c2063 l2061.length l2061 none 0 0 [] hB hF (hT 1 _ rfl).row (hT 1 _ rfl).cap (stab_nil _) (Nat.le_refl 0) (hT 4 _ rfl).box hx2082)) (fun _ => o_e rfl (e_lit (vs := [(0, .int .i64 (w64 (a0_0 + (l2061.length : Int))))]) (cs := [.int .i64 (w64 (a0_0 + (l2061.length : Int)))]) (Kd.int .i64) ([w64 (a0_0 + (l2061.length : Int))] : List Int) Try.underlying23 I3 dc_ rfl dc_ rfl rfl (fun _ _ => Kd.zad _)) (cur2 (fun A2083 c2084 => za7 h (fun l2086 ha2087 h => ?_) rfl)))
      refine o_e rfl (e_app (i := 6) (j := 0) Try.underlying23 I3 rfl dc_ dc_ rfl rfl rfl rfl rfl ha2087) (cur2 (fun A2088 c2089 => o_q rfl rfl (q_asg rfl) (o_end (za1 (c_seq (za0 (o_q rfl rfl (za2 rfl) (o_q rfl rfl (za2 rfl) (o_q rfl rfl (q_nil rfl) (o_q rfl rfl (q_f F25_0 rfl) ?_))))))))))
      refine o_q rfl rfl (q_ldb Y3 rfl (fun w h => B0.now Z h) rfl) (o_q rfl rfl (za2 rfl) (o_q rfl rfl (zb0 rfl rfl) (zb4 (p := Sh A1025 l1024.length l1024.length) (fun w h => f_sh (dk := Kd.bool) h (fun w h => h.zar (i := 4) rfl)) (fun hq2090 => za7 h (fun y2092 hg2091 h => ?_) rfl))))
      refine o_q rfl rfl (q_ix Try.underlying117 Z4 rfl rfl hq2090 hg2091) (o_q rfl rfl (q_lde (off := 0) Y4 rfl rfl (fun w h => h.zar (i := 4) rfl) hg2091 (fun _ _ h => h) rfl) (o_end (za1 (zaq _ rfl (fun hb2093 => ?_) (fun hb2093 => ?_)))))
      · skip
        replace h := bb_t hb2093 h
        refine za7 h (fun y2397 hg2396 h => ?_) rfl
        refine za7 h (fun y2696 hg2695 h => ?_) rfl
        refine za7 h (fun _ hx2815 h => ?_) rfl
        refine za7 h (fun l2935 ha2936 h => ?_) rfl
        refine a_startS (ds := []) [none, some 1, none, some 3, some 4, none, some 6] MO rfl (za4 0 rfl rfl rfl kr_ (fun _ _ _ h => h) (q_f F25_1 rfl) (za4 2 rfl rfl rfl kr_ (fun _ _ _ h => h) (za2 rfl) (za4 3 rfl rfl rfl kr_ (fun _ _ _ h => h) (q_f F107_0 rfl) (zau 4 rfl rfl rfl kr_ (fun _ _ _ h => h) (fun w h => za3 [none, some 1, none, some 3, some 4, none, some 6] dc_ w h rfl) (q_ldb Y3 rfl (fun w h => h.za9 (i := 1) rfl) rfl) (a_fact (p := Sh A2088 l2086.length l2086.length) (fun w h => f_sh (dk := (Kd.int .i64)) h (fun w h => h.zar (i := 6) rfl)) (fun hq2395 => za4 5 rfl rfl rfl kr_ (fun _ _ _ h => h) (q_ix Try.underlying23 Z3 rfl rfl hq2395 hg2396) (zau 6 rfl rfl rfl kr_ (fun _ _ _ h => h) (fun w h => za3 [none, some 1, none, some 3, some 4, none, some 6] dc_ w h rfl) (q_lde (off := 0) Y3 rfl rfl (fun w h => h.zar (i := 6) rfl) hg2396 (fun _ _ h => h) rfl) (za4 7 rfl rfl rfl kr_ (fun _ _ _ h => h) (za2 rfl) (za4 8 rfl rfl rfl kr_ (fun _ _ _ h => h) (q_f F107_1 rfl) ?_)))))))))
        refine zau 9 rfl rfl rfl kr_ (fun _ _ _ h => h) (fun w h => za3 [none, some 1, none, some 3, some 4, none, some 6] dc_ w h rfl) (q_ldb Y3 rfl (fun w h => h.za9 (i := 1) rfl) rfl) (za4 10 rfl rfl rfl kr_ (fun _ _ _ h => h) (q_ix Try.underlying23 Z3 rfl rfl hq2395 hg2695) (zau 11 rfl rfl rfl kr_ (fun _ _ _ h => h) (fun w h => za3 [none, some 1, none, some 3, some 4, none, some 6] dc_ w h rfl) (q_lde (off := 0) Y3 rfl rfl (fun w h => h.zar (i := 6) rfl) hg2695 (fun _ _ h => h) rfl) (a_two 1 12 rfl rfl rfl rfl kr_ rfl rfl (ev_q rfl (q_ldb Y22 rfl (fun w h => h.za9 (i := 5) rfl) rfl)) (fun s w h => za3 [none, some 1, none, some 3, some 4, none, some 6] dc_ w h rfl) (za6 0 Z Try.func114 N114 rfl rfl rfl (fun w P1 hF hB hS hT => impl_step.calls y2397 y2696 hB hF hx2815)) (fun s w h => za3 [none, some 1, none, some 3, some 4, none, some 6] dc_ w h rfl) (fun _ => ?_) (fun _ => ?_))))
        · skip
          refine a_one 12 rfl rfl kr_ rfl (za6 0 Z Try.func114 N114 rfl rfl rfl (fun w P1 hF hB hS hT => impl_step.calls y2397 y2696 hB hF hx2815)) (fun s w h => za3 [none, some 1, none, some 3, some 4, none, some 6] dc_ w h rfl) (fun _ => a_one 13 rfl rfl kr_ rfl (e_lit (vs := [(0, .agg #[.int .i64 (mn y2397 y2696), .int .i64 (mx y2397 y2696)])]) (cs := [.int .i64 (mn y2397 y2696), .int .i64 (mx y2397 y2696)]) kStep ([(⟨mn y2397 y2696, mx y2397 y2696⟩ : SStep)] : List SStep) Try.underlying22 I107 dc_ rfl dc_ rfl rfl (fun _ _ => reps_flat _)) (fun s w h => za3 [none, some 2, none, some 4, some 5, none, some 7] dc_ w h rfl) (cur2 (fun A2875 c2876 => a_one 14 rfl rfl kr_ rfl (e_app (i := 3) (j := 0) Try.underlying22 I107 rfl dc_ dc_ rfl rfl rfl rfl rfl ha2936) (fun s w h => za3 [none, some 2, none, some 4, some 5, none, some 7] dc_ w h rfl) (cur2 (fun A2937 c2938 => za4 15 rfl rfl rfl kr_ (fun _ _ _ h => h) (q_f F25_1 rfl) (a_one 16 rfl rfl kr_ rfl (zac (i := 6) rfl rfl rfl rfl Z22 rfl rfl) (fun s w h => za3 [none, some 2, none, some 4, some 5, none, some 7] dc_ w h rfl) (fun _ => zao kr_ (zak (za1 (za0 (o_q rfl rfl (q_up rfl rfl (hr2068.up hm2069)) ?_)))))))))))
          refine o_q rfl rfl (za2 rfl) (o_end (zan ys2066.length (ys2066, l2086, l2935, i2064 + 1, A2088, c2089, A2937, c2938) (by rw [← hk2074]; exact Nat.lt_succ_self _) ⟨hr2068.step, rfl, h⟩ ⟨rfl, rfl, trivial⟩ (fun w h => za5 [3, 4, 5, 6, 7] dc_ rfl w h) ?_))
          exact of_
        · skip
          refine a_two 1 13 rfl rfl rfl rfl kr_ rfl rfl (ev_q rfl (q_ldb Y22 rfl (fun w h => h.za9 (i := 5) rfl) rfl)) (fun s w h => za3 [none, some 1, none, some 3, some 4, none, some 6] dc_ w h rfl) (e_lit (vs := [(0, .agg #[.int .i64 (mn y2397 y2696), .int .i64 (mx y2397 y2696)])]) (cs := [.int .i64 (mn y2397 y2696), .int .i64 (mx y2397 y2696)]) kStep ([(⟨mn y2397 y2696, mx y2397 y2696⟩ : SStep)] : List SStep) Try.underlying22 I107 dc_ rfl dc_ rfl rfl (fun _ _ => reps_flat _)) (fun s w h => za3 [none, some 2, none, some 4, some 5, none, some 7] dc_ w h rfl) (fun _ => ?_) (cur2 (fun A2875 c2876 => ?_))
          · skip
            refine a_one 13 rfl rfl kr_ rfl (e_lit (vs := [(0, .agg #[.int .i64 (mn y2397 y2696), .int .i64 (mx y2397 y2696)])]) (cs := [.int .i64 (mn y2397 y2696), .int .i64 (mx y2397 y2696)]) kStep ([(⟨mn y2397 y2696, mx y2397 y2696⟩ : SStep)] : List SStep) Try.underlying22 I107 dc_ rfl dc_ rfl rfl (fun _ _ => reps_flat _)) (fun s w h => za3 [none, some 2, none, some 4, some 5, none, some 7] dc_ w h rfl) (cur2 (fun A2875 c2876 => a_one 14 rfl rfl kr_ rfl (e_app (i := 3) (j := 0) Try.underlying22 I107 rfl dc_ dc_ rfl rfl rfl rfl rfl ha2936) (fun s w h => za3 [none, some 2, none, some 4, some 5, none, some 7] dc_ w h rfl) (cur2 (fun A2937 c2938 => za4 15 rfl rfl rfl kr_ (fun _ _ _ h => h) (q_f F25_1 rfl) (a_one 16 rfl rfl kr_ rfl (zac (i := 6) rfl rfl rfl rfl Z22 rfl rfl) (fun s w h => za3 [none, some 2, none, some 4, some 5, none, some 7] dc_ w h rfl) (fun _ => zao kr_ (zak (za1 (za0 (o_q rfl rfl (q_up rfl rfl (hr2068.up hm2069)) (o_q rfl rfl (za2 rfl) ?_)))))))))))
            refine o_end (zan ys2066.length (ys2066, l2086, l2935, i2064 + 1, A2088, c2089, A2937, c2938) (by rw [← hk2074]; exact Nat.lt_succ_self _) ⟨hr2068.step, rfl, h⟩ ⟨rfl, rfl, trivial⟩ (fun w h => za5 [3, 4, 5, 6, 7] dc_ rfl w h) ?_)
            exact of_
          · skip
            refine a_one 1 rfl rfl kr_ rfl (ev_q rfl (q_ldb Y22 rfl (fun w h => h.za9 (i := 6) rfl) rfl)) (fun s w h => za3 [none, some 2, none, some 4, some 5, none, some 7] dc_ w h rfl) (fun _ => a_one 14 rfl rfl kr_ rfl (e_app (i := 3) (j := 0) Try.underlying22 I107 rfl dc_ dc_ rfl rfl rfl rfl rfl ha2936) (fun s w h => za3 [none, some 2, none, some 4, some 5, none, some 7] dc_ w h rfl) (cur2 (fun A2937 c2938 => za4 15 rfl rfl rfl kr_ (fun _ _ _ h => h) (q_f F25_1 rfl) (a_one 16 rfl rfl kr_ rfl (zac (i := 6) rfl rfl rfl rfl Z22 rfl rfl) (fun s w h => za3 [none, some 2, none, some 4, some 5, none, some 7] dc_ w h rfl) (fun _ => zao kr_ (zak (za1 (za0 (o_q rfl rfl (q_up rfl rfl (hr2068.up hm2069)) (o_q rfl rfl (za2 rfl) ?_))))))))))
            refine o_end (zan ys2066.length (ys2066, l2086, l2935, i2064 + 1, A2088, c2089, A2937, c2938) (by rw [← hk2074]; exact Nat.lt_succ_self _) ⟨hr2068.step, rfl, h⟩ ⟨rfl, rfl, trivial⟩ (fun w h => za5 [3, 4, 5, 6, 7] dc_ rfl w h) ?_)
            exact of_
      · skip
        replace h := bb_f hb2093 h
        refine zam (zak (za1 (za0 (o_q rfl rfl (q_up rfl rfl (hr2068.up hm2069)) (o_q rfl rfl (za2 rfl) (o_end (zan ys2066.length (ys2066, l2086, l2061, i2064 + 1, A2088, c2089, A2062, c2063) (by rw [← hk2074]; exact Nat.lt_succ_self _) ⟨hr2068.step, rfl, h⟩ ⟨rfl, rfl, trivial⟩ (fun w h => za5 [2, 3, 4, 5, 6] dc_ rfl w h) ?_)))))))
        exact of_

def impl_WindowPlan.r1 (a1 : Int) (l1466 : List Int) : Int × Int → ((List SStep) × Int) → Option ((List SStep) × Int)
  | (ix_, y_), (l2276, i2279) => (impl_maker_squared.f 1 l2276 [] i2279 a1).bind fun (i2284, l2285) => if 0 < y_ then ((gt l1466 y_).bind fun y2291 => (impl_maker_multiply.f 1 l2285 [] i2284 y2291).bind fun (i2293, l2294) => some (l2294, i2293)) else (some (l2285, i2284))
def impl_WindowPlan.l0 (k : Nat) (l731 : List Int) : Nat → (List SStep) → (List Int) → Option ((List SStep) × (List Int))
  | 0, _, _ => none
  | k1471 + 1, l1463, l1466 => (slices_Max_int_int.f k l731).bind fun i1480 => if (l1466.length : Int) ≤ i1480 then ((gt l1466 (w64 ((l1466.length : Int) - 1))).bind fun y1845 => (impl_maker_multiply.f 1 l1463 [] y1845 0).bind fun (i1964, l1965) => (ap l1466 ([i1964] : List Int)).bind fun l2083 => impl_WindowPlan.l0 k l731 k1471 l1965 l2083) else (some (l1463, l1466))
def impl_WindowPlan.f (k : Nat) (a0 : Int) (a1 : Int) : Option (Int × (List SStep) × (List Int) × Bool) := (impl_windowOk.f a0 a1).bind fun b6 => if b6 = true then (((impl_newMaker.f 1).bind fun _ => (nn a1).bind fun _ => (impl_digits.f k a0 (IntKind.i64.wrap (1 * 2 ^ min (a1 : Int).toNat IntKind.i64.bits))).bind fun l984 => some l984).bind fun l731 => (impl_WindowPlan.l0 k l731 k [] ([(-1), 0] : List Int)).bind fun (l1463, l1466) => (gt l731 (w64 ((l731.length : Int) - 1))).bind fun y2265 => (gt l1466 y2265).bind fun y2268 => (ct l731 (0 : Int) (w64 ((l731.length : Int) - 1))).bind fun l2271 => (bw_int.f l2271).bind fun _ => (rngB l2271 (impl_WindowPlan.r1 a1 l1466) (l1463, y2268)).bind fun (l2281, i2282) => (impl_maker_plan.f 1 l2281 [] ([i2282] : List Int)).bind fun _ => (impl_Plan_trimmed.f 1 l2281 ([i2282] : List Int)).bind fun (l2304, l2305) => (impl_told.f k 1 l2304 l2305).bind fun (i2311, l2312, l2313, b2314) => some (i2311, l2312, l2313, b2314)) else (some (0, ([] : List SStep), ([] : List Int), false))
theorem impl_WindowPlan.calls (k : Nat) {w0 ws : World} {P0 : Nat → Prop} (a0 : Int) (a1 : Int) (Z : Below w0.heap.size w0 ws) (hF : Fr w0 ws P0 [] ws)  (r_1 : Int) (r_2 : List SStep) (r_5 : List Int) (r_8 : Bool) (h : impl_WindowPlan.f k a0 a1 = some (r_1, r_2, r_5, r_8)) :
    Calls Try.prog 11 #[.int .i64 a0, .int .i64 a1] ws (Post1 w0 ws P0 (fun ((q_3, q_4, q_6, q_7) : (Option Addr) × Nat × (Option Addr) × Nat) => .tuple #[.agg #[.int .i64 r_1, .slice q_3 r_2.length q_4, .slice q_6 r_5.length q_7], .bool r_8]) (fun ((q_3, q_4, q_6, q_7) : (Option Addr) × Nat × (Option Addr) × Nat) => [row kStep 107 (.slice q_3 r_2.length q_4) r_2, row (Kd.int .i64) 3 (.slice q_6 r_5.length q_7) r_5])) := by
  unfold impl_WindowPlan.f at h
  refine enterM Try.func11 rfl Try.ntmps11 rfl hF (c_seq (za0 (o_e rfl (e_box rfl) (fun g1 => o_e rfl (zaf V25 rfl) (fun g3 => o_q rfl rfl (q_asg rfl) (o_end (za1 (c_seq (c_seq ?_)))))))))
  refine za0 (o_q rfl rfl (za2 rfl) (o_q rfl rfl (q_ldb Y3 rfl (fun w h => h.za9 (i := 1) rfl) rfl) (za7 h (fun b6 hx5 h => ?_) rfl)))
  refine o_e rfl (za6 0 Z Try.func53 N53 rfl rfl rfl (fun w P1 hF hB hS hT => impl_windowOk.calls a0 a1 hB hF _ hx5)) (fun _ => o_q rfl rfl (q_not rfl) (o_end (za1 (zaq _ rfl (fun hb7 => ?_) (fun hb7 => ?_)))))
  · replace hb7 := nt_t hb7
    replace h := bb_f hb7 h
    refine c_seq (za0 (o_q rfl rfl (q_build (vs := []) (cs := [.int .i64 0, .slice none 0 0, .slice none 0 0]) rfl rfl) (o_e rfl (zah (i := 0) rfl rfl rfl Z25 rfl rfl) (fun _ => o_q rfl rfl (q_asg rfl) (o_end (za1 (c_ret (zab (x_nil kStep 107 ?_)))))))))
    refine x_nil (Kd.int .i64) 3 ?_
    have e0_ := si_ h; clear h
    obtain ⟨rfl, e1_⟩ := Prod.mk.inj e0_
    obtain ⟨rfl, e2_⟩ := Prod.mk.inj e1_
    obtain ⟨rfl, e3_⟩ := Prod.mk.inj e2_
    subst e3_
    refine x_plainM (.inl rfl) ?_
    exact x_r2 (none, 0, none, 0) Try.results11 (zb5 rfl G25 Z25 (fun w h => h.za9 (i := 2) rfl) rfl) (zal rfl) rfl (fun w h => za5 [1, 0] dc_ rfl w h)
  · replace hb7 := nt_f hb7
    replace h := bb_t hb7 h
    refine zam (za1 (za7 h (fun o737 hl738 hR739 => ?_) rfl))
    clear h
    refine c_cutJ (σ := (List Int) × Nat × Nat × (Option Addr) × Nat × Nat × (Option Addr) × Nat) (fun (l731, g729, g730, A732, c733, g734, A735, c736) => some l731 = some o737) [6, 7, 8, 18, 19, 20, 21, 22, 23] (fun (l731, g729, g730, A732, c733, g734, A735, c736) => [(6, .pointer (some ⟨g729, 0, none⟩)), (7, .slice A732 l731.length c733), (8, .pointer (some ⟨g734, 0, none⟩))]) (fun (l731, g729, g730, A732, c733, g734, A735, c736) => [box g1 3 #[.int .i64 a1], box g3 25 #[.int .i64 0, .slice none 0 0, .slice none 0 0], box g729 60 #[.pointer (some ⟨g730, 0, none⟩)], box g730 94 #[.int .i64 1, .slice none 0 0, .slice none 0 0], row kStep 107 (.slice none 0 0) [], row (Kd.int .i64) 3 (.slice none 0 0) [], row (Kd.int .i64) 3 (.slice A732 l731.length c733) l731, box g734 23 #[.slice A735 (([(-1), 0] : List Int).length) c736], row (Kd.int .i64) 3 (.slice A735 (([(-1), 0] : List Int).length) c736) ([(-1), 0] : List Int)]) ?_ ?_
    · skip
      have h := hl738; clear hl738
      clear hR739
      refine za7 h (fun _ hx743 h => ?_) rfl
      refine za7 h (fun _ hz923 h => ?_) rfl
      refine za7 h (fun l984 hx983 h => ?_) rfl
      refine a_start (ds := []) MO rfl (za4 1 rfl rfl rfl kr_ (fun _ _ _ h => h) (za2 rfl) (zau 2 rfl rfl rfl kr_ (fun _ _ _ h => h) (fun w h => h) (q_ldb Y3 rfl (fun w h => h.za9 (i := 1) rfl) rfl) (za4 3 rfl rfl rfl kr_ (fun _ _ _ h => h) (q_shl rfl rfl (nn_le hz923)) (a_four 0 5 6 7 rfl rfl rfl rfl rfl rfl rfl rfl kr_ rfl rfl rfl rfl (za6 0 Z Try.func54 N54 rfl rfl rfl (fun w P1 hF hB hS hT => impl_newMaker.calls 1 hB hF hx743)) (fun s w h => za3 [some 3, some 4] dc_ w h rfl) (e_lit (vs := [(0, .int .i64 (-1)), (1, .int .i64 0)]) (cs := [.int .i64 (-1), .int .i64 0]) (Kd.int .i64) ([(-1), 0] : List Int) Try.underlying23 I3 dc_ rfl dc_ rfl rfl (fun _ _ => Kd.zad _)) (fun s w h => za3 [some 1, some 2] dc_ w h rfl) (zaf V60 rfl) (fun s w h => za3 [some 1, some 2] dc_ w h rfl) (zaf V23 rfl) (fun s w h => za3 [some 1, some 2] dc_ w h rfl) (fun c744 => ?_) (cur2 (fun A1043 c1044 => ?_)) (fun g1103 => ?_) (fun g1163 => ?_)))))
      · skip
        refine a_four 4 5 6 7 rfl rfl rfl rfl rfl rfl rfl rfl kr_ rfl rfl rfl rfl (za6 0 Z Try.func55 N55 rfl rfl rfl (fun w P1 hF hB hS hT => impl_digits.calls k a0 (IntKind.i64.wrap (1 * 2 ^ min (a1 : Int).toNat IntKind.i64.bits)) hB hF _ hx983)) (fun s w h => za3 [some 4, some 5] dc_ w h rfl) (e_lit (vs := [(0, .int .i64 (-1)), (1, .int .i64 0)]) (cs := [.int .i64 (-1), .int .i64 0]) (Kd.int .i64) ([(-1), 0] : List Int) Try.underlying23 I3 dc_ rfl dc_ rfl rfl (fun _ _ => Kd.zad _)) (fun s w h => za3 [some 4, some 5] dc_ w h rfl) (zaf V60 rfl) (fun s w h => za3 [some 4, some 5] dc_ w h rfl) (zaf V23 rfl) (fun s w h => za3 [some 4, some 5] dc_ w h rfl) (cur2 (fun A985 c986 => ?_)) (cur2 (fun A1043 c1044 => ?_)) (fun g1103 => ?_) (fun g1163 => ?_)
        · skip
          refine a_three 5 6 7 rfl rfl rfl rfl rfl rfl kr_ rfl rfl rfl (e_lit (vs := [(0, .int .i64 (-1)), (1, .int .i64 0)]) (cs := [.int .i64 (-1), .int .i64 0]) (Kd.int .i64) ([(-1), 0] : List Int) Try.underlying23 I3 dc_ rfl dc_ rfl rfl (fun _ _ => Kd.zad _)) (fun s w h => za3 [some 5, some 6] dc_ w h rfl) (zaf V60 rfl) (fun s w h => za3 [some 5, some 6] dc_ w h rfl) (zaf V23 rfl) (fun s w h => za3 [some 5, some 6] dc_ w h rfl) (cur2 (fun A1043 c1044 => ?_)) (fun g1103 => ?_) (fun g1163 => ?_)
          · skip
            refine a_two 6 7 rfl rfl rfl rfl kr_ rfl rfl (zaf V60 rfl) (fun s w h => za3 [some 6, some 7] dc_ w h rfl) (zaf V23 rfl) (fun s w h => za3 [some 6, some 7] dc_ w h rfl) (fun g1103 => ?_) (fun g1163 => ?_)
            · skip
              refine a_one 7 rfl rfl kr_ rfl (zaf V23 rfl) (fun s w h => za3 [some 7, some 8] dc_ w h rfl) (fun g1163 => a_one 8 rfl rfl kr_ rfl (zac (i := 1) rfl rfl rfl rfl Z60 rfl rfl) (fun s w h => za3 [some 7, some 8] dc_ w h rfl) (fun _ => za4 9 rfl rfl rfl kr_ (fun _ _ _ h => h) (q_asg rfl) (a_one 10 rfl rfl kr_ rfl (zac (i := 0) rfl rfl rfl rfl Z23 rfl rfl) (fun s w h => za3 [some 7, some 8] dc_ w h rfl) (fun _ => zao kr_ (zaj (l984, g1103, c744, A985, c986, g1163, A1043, c1044) h ⟨rfl, rfl, rfl, trivial⟩ (fun w h => za5 [8, 7, 1, 4, 5, 6, 3, 0, 2] dc_ rfl w h) ?_)))))
              exact of_
            · skip
              refine a_one 6 rfl rfl kr_ rfl (zaf V60 rfl) (fun s w h => za3 [some 7, some 8] dc_ w h rfl) (fun g1103 => a_one 8 rfl rfl kr_ rfl (zac (i := 0) rfl rfl rfl rfl Z60 rfl rfl) (fun s w h => za3 [some 7, some 8] dc_ w h rfl) (fun _ => za4 9 rfl rfl rfl kr_ (fun _ _ _ h => h) (q_asg rfl) (a_one 10 rfl rfl kr_ rfl (zac (i := 1) rfl rfl rfl rfl Z23 rfl rfl) (fun s w h => za3 [some 7, some 8] dc_ w h rfl) (fun _ => zao kr_ (zaj (l984, g1103, c744, A985, c986, g1163, A1043, c1044) h ⟨rfl, rfl, rfl, trivial⟩ (fun w h => za5 [8, 7, 0, 4, 5, 6, 3, 1, 2] dc_ rfl w h) ?_)))))
              exact of_
          · skip
            refine a_two 5 7 rfl rfl rfl rfl kr_ rfl rfl (e_lit (vs := [(0, .int .i64 (-1)), (1, .int .i64 0)]) (cs := [.int .i64 (-1), .int .i64 0]) (Kd.int .i64) ([(-1), 0] : List Int) Try.underlying23 I3 dc_ rfl dc_ rfl rfl (fun _ _ => Kd.zad _)) (fun s w h => za3 [some 6, some 7] dc_ w h rfl) (zaf V23 rfl) (fun s w h => za3 [some 6, some 7] dc_ w h rfl) (cur2 (fun A1043 c1044 => ?_)) (fun g1163 => ?_)
            · skip
              refine a_one 7 rfl rfl kr_ rfl (zaf V23 rfl) (fun s w h => za3 [some 7, some 8] dc_ w h rfl) (fun g1163 => a_one 8 rfl rfl kr_ rfl (zac (i := 2) rfl rfl rfl rfl Z60 rfl rfl) (fun s w h => za3 [some 7, some 8] dc_ w h rfl) (fun _ => za4 9 rfl rfl rfl kr_ (fun _ _ _ h => h) (q_asg rfl) (a_one 10 rfl rfl kr_ rfl (zac (i := 0) rfl rfl rfl rfl Z23 rfl rfl) (fun s w h => za3 [some 7, some 8] dc_ w h rfl) (fun _ => zao kr_ (zaj (l984, g1103, c744, A985, c986, g1163, A1043, c1044) h ⟨rfl, rfl, rfl, trivial⟩ (fun w h => za5 [8, 7, 2, 4, 5, 6, 3, 0, 1] dc_ rfl w h) ?_)))))
              exact of_
            · skip
              refine a_two 5 8 rfl rfl rfl rfl kr_ rfl rfl (e_lit (vs := [(0, .int .i64 (-1)), (1, .int .i64 0)]) (cs := [.int .i64 (-1), .int .i64 0]) (Kd.int .i64) ([(-1), 0] : List Int) Try.underlying23 I3 dc_ rfl dc_ rfl rfl (fun _ _ => Kd.zad _)) (fun s w h => za3 [some 7, some 8] dc_ w h rfl) (zac (i := 1) rfl rfl rfl rfl Z60 rfl rfl) (fun s w h => za3 [some 6, some 7] dc_ w h rfl) (cur2 (fun A1043 c1044 => ?_)) (fun _ => ?_)
              · skip
                refine a_one 8 rfl rfl kr_ rfl (zac (i := 2) rfl rfl rfl rfl Z60 rfl rfl) (fun s w h => za3 [some 7, some 8] dc_ w h rfl) (fun _ => za4 9 rfl rfl rfl kr_ (fun _ _ _ h => h) (q_asg rfl) (a_one 10 rfl rfl kr_ rfl (zac (i := 1) rfl rfl rfl rfl Z23 rfl rfl) (fun s w h => za3 [some 7, some 8] dc_ w h rfl) (fun _ => zao kr_ (zaj (l984, g1103, c744, A985, c986, g1163, A1043, c1044) h ⟨rfl, rfl, rfl, trivial⟩ (fun w h => za5 [8, 7, 2, 4, 5, 6, 3, 1, 0] dc_ rfl w h) ?_))))
                exact of_
              · skip
                refine za4 9 rfl rfl rfl kr_ (fun _ _ _ h => h) (q_asg rfl) (a_one 5 rfl rfl kr_ rfl (e_lit (vs := [(0, .int .i64 (-1)), (1, .int .i64 0)]) (cs := [.int .i64 (-1), .int .i64 0]) (Kd.int .i64) ([(-1), 0] : List Int) Try.underlying23 I3 dc_ rfl dc_ rfl rfl (fun _ _ => Kd.zad _)) (fun s w h => za3 [some 7, some 8] dc_ w h rfl) (cur2 (fun A1043 c1044 => a_one 10 rfl rfl kr_ rfl (zac (i := 1) rfl rfl rfl rfl Z23 rfl rfl) (fun s w h => za3 [some 7, some 8] dc_ w h rfl) (fun _ => zao kr_ (zaj (l984, g1103, c744, A985, c986, g1163, A1043, c1044) h ⟨rfl, rfl, rfl, trivial⟩ (fun w h => za5 [8, 7, 2, 4, 5, 6, 3, 1, 0] dc_ rfl w h) ?_)))))
                exact of_
          · skip
            refine a_two 5 6 rfl rfl rfl rfl kr_ rfl rfl (e_lit (vs := [(0, .int .i64 (-1)), (1, .int .i64 0)]) (cs := [.int .i64 (-1), .int .i64 0]) (Kd.int .i64) ([(-1), 0] : List Int) Try.underlying23 I3 dc_ rfl dc_ rfl rfl (fun _ _ => Kd.zad _)) (fun s w h => za3 [some 6, some 7] dc_ w h rfl) (zaf V60 rfl) (fun s w h => za3 [some 6, some 7] dc_ w h rfl) (cur2 (fun A1043 c1044 => ?_)) (fun g1103 => ?_)
            · skip
              refine a_one 6 rfl rfl kr_ rfl (zaf V60 rfl) (fun s w h => za3 [some 7, some 8] dc_ w h rfl) (fun g1103 => a_one 8 rfl rfl kr_ rfl (zac (i := 0) rfl rfl rfl rfl Z60 rfl rfl) (fun s w h => za3 [some 7, some 8] dc_ w h rfl) (fun _ => za4 9 rfl rfl rfl kr_ (fun _ _ _ h => h) (q_asg rfl) (a_one 10 rfl rfl kr_ rfl (zac (i := 2) rfl rfl rfl rfl Z23 rfl rfl) (fun s w h => za3 [some 7, some 8] dc_ w h rfl) (fun _ => zao kr_ (zaj (l984, g1103, c744, A985, c986, g1163, A1043, c1044) h ⟨rfl, rfl, rfl, trivial⟩ (fun w h => za5 [8, 7, 0, 4, 5, 6, 3, 2, 1] dc_ rfl w h) ?_)))))
              exact of_
            · skip
              refine a_two 5 8 rfl rfl rfl rfl kr_ rfl rfl (e_lit (vs := [(0, .int .i64 (-1)), (1, .int .i64 0)]) (cs := [.int .i64 (-1), .int .i64 0]) (Kd.int .i64) ([(-1), 0] : List Int) Try.underlying23 I3 dc_ rfl dc_ rfl rfl (fun _ _ => Kd.zad _)) (fun s w h => za3 [some 7, some 8] dc_ w h rfl) (zac (i := 0) rfl rfl rfl rfl Z60 rfl rfl) (fun s w h => za3 [some 6, some 7] dc_ w h rfl) (cur2 (fun A1043 c1044 => ?_)) (fun _ => ?_)
              · skip
                refine a_one 8 rfl rfl kr_ rfl (zac (i := 1) rfl rfl rfl rfl Z60 rfl rfl) (fun s w h => za3 [some 7, some 8] dc_ w h rfl) (fun _ => za4 9 rfl rfl rfl kr_ (fun _ _ _ h => h) (q_asg rfl) (a_one 10 rfl rfl kr_ rfl (zac (i := 2) rfl rfl rfl rfl Z23 rfl rfl) (fun s w h => za3 [some 7, some 8] dc_ w h rfl) (fun _ => zao kr_ (zaj (l984, g1103, c744, A985, c986, g1163, A1043, c1044) h ⟨rfl, rfl, rfl, trivial⟩ (fun w h => za5 [8, 7, 1, 4, 5, 6, 3, 2, 0] dc_ rfl w h) ?_))))
                exact of_
              · skip
                refine za4 9 rfl rfl rfl kr_ (fun _ _ _ h => h) (q_asg rfl) (a_one 5 rfl rfl kr_ rfl (e_lit (vs := [(0, .int .i64 (-1)), (1, .int .i64 0)]) (cs := [.int .i64 (-1), .int .i64 0]) (Kd.int .i64) ([(-1), 0] : List Int) Try.underlying23 I3 dc_ rfl dc_ rfl rfl (fun _ _ => Kd.zad _)) (fun s w h => za3 [some 7, some 8] dc_ w h rfl) (cur2 (fun A1043 c1044 => a_one 10 rfl rfl kr_ rfl (zac (i := 2) rfl rfl rfl rfl Z23 rfl rfl) (fun s w h => za3 [some 7, some 8] dc_ w h rfl) (fun _ => zao kr_ (zaj (l984, g1103, c744, A985, c986, g1163, A1043, c1044) h ⟨rfl, rfl, rfl, trivial⟩ (fun w h => za5 [8, 7, 1, 4, 5, 6, 3, 2, 0] dc_ rfl w h) ?_)))))
                exact of_
        · skip
          refine a_three 4 6 7 rfl rfl rfl rfl rfl rfl kr_ rfl rfl rfl (za6 0 Z Try.func55 N55 rfl rfl rfl (fun w P1 hF hB hS hT => impl_digits.calls k a0 (IntKind.i64.wrap (1 * 2 ^ min (a1 : Int).toNat IntKind.i64.bits)) hB hF _ hx983)) (fun s w h => za3 [some 5, some 6] dc_ w h rfl) (zaf V60 rfl) (fun s w h => za3 [some 5, some 6] dc_ w h rfl) (zaf V23 rfl) (fun s w h => za3 [some 5, some 6] dc_ w h rfl) (cur2 (fun A985 c986 => ?_)) (fun g1103 => ?_) (fun g1163 => ?_)
          · skip
            refine a_two 6 7 rfl rfl rfl rfl kr_ rfl rfl (zaf V60 rfl) (fun s w h => za3 [some 6, some 7] dc_ w h rfl) (zaf V23 rfl) (fun s w h => za3 [some 6, some 7] dc_ w h rfl) (fun g1103 => ?_) (fun g1163 => ?_)
            · skip
              refine a_one 7 rfl rfl kr_ rfl (zaf V23 rfl) (fun s w h => za3 [some 7, some 8] dc_ w h rfl) (fun g1163 => a_one 8 rfl rfl kr_ rfl (zac (i := 1) rfl rfl rfl rfl Z60 rfl rfl) (fun s w h => za3 [some 7, some 8] dc_ w h rfl) (fun _ => za4 9 rfl rfl rfl kr_ (fun _ _ _ h => h) (q_asg rfl) (a_one 10 rfl rfl kr_ rfl (zac (i := 0) rfl rfl rfl rfl Z23 rfl rfl) (fun s w h => za3 [some 7, some 8] dc_ w h rfl) (fun _ => zao kr_ (zaj (l984, g1103, c744, A985, c986, g1163, A1043, c1044) h ⟨rfl, rfl, rfl, trivial⟩ (fun w h => za5 [8, 7, 1, 4, 5, 6, 2, 0, 3] dc_ rfl w h) ?_)))))
              exact of_
            · skip
              refine a_one 6 rfl rfl kr_ rfl (zaf V60 rfl) (fun s w h => za3 [some 7, some 8] dc_ w h rfl) (fun g1103 => a_one 8 rfl rfl kr_ rfl (zac (i := 0) rfl rfl rfl rfl Z60 rfl rfl) (fun s w h => za3 [some 7, some 8] dc_ w h rfl) (fun _ => za4 9 rfl rfl rfl kr_ (fun _ _ _ h => h) (q_asg rfl) (a_one 10 rfl rfl kr_ rfl (zac (i := 1) rfl rfl rfl rfl Z23 rfl rfl) (fun s w h => za3 [some 7, some 8] dc_ w h rfl) (fun _ => zao kr_ (zaj (l984, g1103, c744, A985, c986, g1163, A1043, c1044) h ⟨rfl, rfl, rfl, trivial⟩ (fun w h => za5 [8, 7, 0, 4, 5, 6, 2, 1, 3] dc_ rfl w h) ?_)))))
              exact of_
          · skip
            refine a_two 4 7 rfl rfl rfl rfl kr_ rfl rfl (za6 0 Z Try.func55 N55 rfl rfl rfl (fun w P1 hF hB hS hT => impl_digits.calls k a0 (IntKind.i64.wrap (1 * 2 ^ min (a1 : Int).toNat IntKind.i64.bits)) hB hF _ hx983)) (fun s w h => za3 [some 6, some 7] dc_ w h rfl) (zaf V23 rfl) (fun s w h => za3 [some 6, some 7] dc_ w h rfl) (cur2 (fun A985 c986 => ?_)) (fun g1163 => ?_)
            · skip
              refine a_one 7 rfl rfl kr_ rfl (zaf V23 rfl) (fun s w h => za3 [some 7, some 8] dc_ w h rfl) (fun g1163 => a_one 8 rfl rfl kr_ rfl (zac (i := 2) rfl rfl rfl rfl Z60 rfl rfl) (fun s w h => za3 [some 7, some 8] dc_ w h rfl) (fun _ => za4 9 rfl rfl rfl kr_ (fun _ _ _ h => h) (q_asg rfl) (a_one 10 rfl rfl kr_ rfl (zac (i := 0) rfl rfl rfl rfl Z23 rfl rfl) (fun s w h => za3 [some 7, some 8] dc_ w h rfl) (fun _ => zao kr_ (zaj (l984, g1103, c744, A985, c986, g1163, A1043, c1044) h ⟨rfl, rfl, rfl, trivial⟩ (fun w h => za5 [8, 7, 2, 4, 5, 6, 1, 0, 3] dc_ rfl w h) ?_)))))
              exact of_
            · skip
              refine a_one 4 rfl rfl kr_ rfl (za6 0 Z Try.func55 N55 rfl rfl rfl (fun w P1 hF hB hS hT => impl_digits.calls k a0 (IntKind.i64.wrap (1 * 2 ^ min (a1 : Int).toNat IntKind.i64.bits)) hB hF _ hx983)) (fun s w h => za3 [some 7, some 8] dc_ w h rfl) (cur2 (fun A985 c986 => a_one 8 rfl rfl kr_ rfl (zac (i := 2) rfl rfl rfl rfl Z60 rfl rfl) (fun s w h => za3 [some 7, some 8] dc_ w h rfl) (fun _ => za4 9 rfl rfl rfl kr_ (fun _ _ _ h => h) (q_asg rfl) (a_one 10 rfl rfl kr_ rfl (zac (i := 1) rfl rfl rfl rfl Z23 rfl rfl) (fun s w h => za3 [some 7, some 8] dc_ w h rfl) (fun _ => zao kr_ (zaj (l984, g1103, c744, A985, c986, g1163, A1043, c1044) h ⟨rfl, rfl, rfl, trivial⟩ (fun w h => za5 [8, 7, 2, 4, 5, 6, 0, 1, 3] dc_ rfl w h) ?_))))))
              exact of_
          · skip
            refine a_two 4 6 rfl rfl rfl rfl kr_ rfl rfl (za6 0 Z Try.func55 N55 rfl rfl rfl (fun w P1 hF hB hS hT => impl_digits.calls k a0 (IntKind.i64.wrap (1 * 2 ^ min (a1 : Int).toNat IntKind.i64.bits)) hB hF _ hx983)) (fun s w h => za3 [some 6, some 7] dc_ w h rfl) (zaf V60 rfl) (fun s w h => za3 [some 6, some 7] dc_ w h rfl) (cur2 (fun A985 c986 => ?_)) (fun g1103 => ?_)
            · skip
              refine a_one 6 rfl rfl kr_ rfl (zaf V60 rfl) (fun s w h => za3 [some 7, some 8] dc_ w h rfl) (fun g1103 => a_one 8 rfl rfl kr_ rfl (zac (i := 0) rfl rfl rfl rfl Z60 rfl rfl) (fun s w h => za3 [some 7, some 8] dc_ w h rfl) (fun _ => za4 9 rfl rfl rfl kr_ (fun _ _ _ h => h) (q_asg rfl) (a_one 10 rfl rfl kr_ rfl (zac (i := 2) rfl rfl rfl rfl Z23 rfl rfl) (fun s w h => za3 [some 7, some 8] dc_ w h rfl) (fun _ => zao kr_ (zaj (l984, g1103, c744, A985, c986, g1163, A1043, c1044) h ⟨rfl, rfl, rfl, trivial⟩ (fun w h => za5 [8, 7, 0, 4, 5, 6, 1, 2, 3] dc_ rfl w h) ?_)))))
              exact of_
            · skip
              refine a_one 4 rfl rfl kr_ rfl (za6 0 Z Try.func55 N55 rfl rfl rfl (fun w P1 hF hB hS hT => impl_digits.calls k a0 (IntKind.i64.wrap (1 * 2 ^ min (a1 : Int).toNat IntKind.i64.bits)) hB hF _ hx983)) (fun s w h => za3 [some 7, some 8] dc_ w h rfl) (cur2 (fun A985 c986 => a_one 8 rfl rfl kr_ rfl (zac (i := 1) rfl rfl rfl rfl Z60 rfl rfl) (fun s w h => za3 [some 7, some 8] dc_ w h rfl) (fun _ => za4 9 rfl rfl rfl kr_ (fun _ _ _ h => h) (q_asg rfl) (a_one 10 rfl rfl kr_ rfl (zac (i := 2) rfl rfl rfl rfl Z23 rfl rfl) (fun s w h => za3 [some 7, some 8] dc_ w h rfl) (fun _ => zao kr_ (zaj (l984, g1103, c744, A985, c986, g1163, A1043, c1044) h ⟨rfl, rfl, rfl, trivial⟩ (fun w h => za5 [8, 7, 1, 4, 5, 6, 0, 2, 3] dc_ rfl w h) ?_))))))
              exact of_
        · skip
          refine a_three 4 5 7 rfl rfl rfl rfl rfl rfl kr_ rfl rfl rfl (za6 0 Z Try.func55 N55 rfl rfl rfl (fun w P1 hF hB hS hT => impl_digits.calls k a0 (IntKind.i64.wrap (1 * 2 ^ min (a1 : Int).toNat IntKind.i64.bits)) hB hF _ hx983)) (fun s w h => za3 [some 5, some 6] dc_ w h rfl) (e_lit (vs := [(0, .int .i64 (-1)), (1, .int .i64 0)]) (cs := [.int .i64 (-1), .int .i64 0]) (Kd.int .i64) ([(-1), 0] : List Int) Try.underlying23 I3 dc_ rfl dc_ rfl rfl (fun _ _ => Kd.zad _)) (fun s w h => za3 [some 5, some 6] dc_ w h rfl) (zaf V23 rfl) (fun s w h => za3 [some 5, some 6] dc_ w h rfl) (cur2 (fun A985 c986 => ?_)) (cur2 (fun A1043 c1044 => ?_)) (fun g1163 => ?_)
          · skip
            refine a_two 5 7 rfl rfl rfl rfl kr_ rfl rfl (e_lit (vs := [(0, .int .i64 (-1)), (1, .int .i64 0)]) (cs := [.int .i64 (-1), .int .i64 0]) (Kd.int .i64) ([(-1), 0] : List Int) Try.underlying23 I3 dc_ rfl dc_ rfl rfl (fun _ _ => Kd.zad _)) (fun s w h => za3 [some 6, some 7] dc_ w h rfl) (zaf V23 rfl) (fun s w h => za3 [some 6, some 7] dc_ w h rfl) (cur2 (fun A1043 c1044 => ?_)) (fun g1163 => ?_)
            · skip
              refine a_one 7 rfl rfl kr_ rfl (zaf V23 rfl) (fun s w h => za3 [some 7, some 8] dc_ w h rfl) (fun g1163 => a_one 8 rfl rfl kr_ rfl (zac (i := 3) rfl rfl rfl rfl Z60 rfl rfl) (fun s w h => za3 [some 7, some 8] dc_ w h rfl) (fun _ => za4 9 rfl rfl rfl kr_ (fun _ _ _ h => h) (q_asg rfl) (a_one 10 rfl rfl kr_ rfl (zac (i := 0) rfl rfl rfl rfl Z23 rfl rfl) (fun s w h => za3 [some 7, some 8] dc_ w h rfl) (fun _ => zao kr_ (zaj (l984, g1103, c744, A985, c986, g1163, A1043, c1044) h ⟨rfl, rfl, rfl, trivial⟩ (fun w h => za5 [8, 7, 3, 4, 5, 6, 2, 0, 1] dc_ rfl w h) ?_)))))
              exact of_
            · skip
              refine a_two 5 8 rfl rfl rfl rfl kr_ rfl rfl (e_lit (vs := [(0, .int .i64 (-1)), (1, .int .i64 0)]) (cs := [.int .i64 (-1), .int .i64 0]) (Kd.int .i64) ([(-1), 0] : List Int) Try.underlying23 I3 dc_ rfl dc_ rfl rfl (fun _ _ => Kd.zad _)) (fun s w h => za3 [some 7, some 8] dc_ w h rfl) (zac (i := 2) rfl rfl rfl rfl Z60 rfl rfl) (fun s w h => za3 [some 6, some 7] dc_ w h rfl) (cur2 (fun A1043 c1044 => ?_)) (fun _ => ?_)
              · skip
                refine a_one 8 rfl rfl kr_ rfl (zac (i := 3) rfl rfl rfl rfl Z60 rfl rfl) (fun s w h => za3 [some 7, some 8] dc_ w h rfl) (fun _ => za4 9 rfl rfl rfl kr_ (fun _ _ _ h => h) (q_asg rfl) (a_one 10 rfl rfl kr_ rfl (zac (i := 1) rfl rfl rfl rfl Z23 rfl rfl) (fun s w h => za3 [some 7, some 8] dc_ w h rfl) (fun _ => zao kr_ (zaj (l984, g1103, c744, A985, c986, g1163, A1043, c1044) h ⟨rfl, rfl, rfl, trivial⟩ (fun w h => za5 [8, 7, 3, 4, 5, 6, 2, 1, 0] dc_ rfl w h) ?_))))
                exact of_
              · skip
                refine za4 9 rfl rfl rfl kr_ (fun _ _ _ h => h) (q_asg rfl) (a_one 5 rfl rfl kr_ rfl (e_lit (vs := [(0, .int .i64 (-1)), (1, .int .i64 0)]) (cs := [.int .i64 (-1), .int .i64 0]) (Kd.int .i64) ([(-1), 0] : List Int) Try.underlying23 I3 dc_ rfl dc_ rfl rfl (fun _ _ => Kd.zad _)) (fun s w h => za3 [some 7, some 8] dc_ w h rfl) (cur2 (fun A1043 c1044 => a_one 10 rfl rfl kr_ rfl (zac (i := 1) rfl rfl rfl rfl Z23 rfl rfl) (fun s w h => za3 [some 7, some 8] dc_ w h rfl) (fun _ => zao kr_ (zaj (l984, g1103, c744, A985, c986, g1163, A1043, c1044) h ⟨rfl, rfl, rfl, trivial⟩ (fun w h => za5 [8, 7, 3, 4, 5, 6, 2, 1, 0] dc_ rfl w h) ?_)))))
                exact of_
          · skip
            refine a_two 4 7 rfl rfl rfl rfl kr_ rfl rfl (za6 0 Z Try.func55 N55 rfl rfl rfl (fun w P1 hF hB hS hT => impl_digits.calls k a0 (IntKind.i64.wrap (1 * 2 ^ min (a1 : Int).toNat IntKind.i64.bits)) hB hF _ hx983)) (fun s w h => za3 [some 6, some 7] dc_ w h rfl) (zaf V23 rfl) (fun s w h => za3 [some 6, some 7] dc_ w h rfl) (cur2 (fun A985 c986 => ?_)) (fun g1163 => ?_)
            · skip
              refine a_one 7 rfl rfl kr_ rfl (zaf V23 rfl) (fun s w h => za3 [some 7, some 8] dc_ w h rfl) (fun g1163 => a_one 8 rfl rfl kr_ rfl (zac (i := 3) rfl rfl rfl rfl Z60 rfl rfl) (fun s w h => za3 [some 7, some 8] dc_ w h rfl) (fun _ => za4 9 rfl rfl rfl kr_ (fun _ _ _ h => h) (q_asg rfl) (a_one 10 rfl rfl kr_ rfl (zac (i := 0) rfl rfl rfl rfl Z23 rfl rfl) (fun s w h => za3 [some 7, some 8] dc_ w h rfl) (fun _ => zao kr_ (zaj (l984, g1103, c744, A985, c986, g1163, A1043, c1044) h ⟨rfl, rfl, rfl, trivial⟩ (fun w h => za5 [8, 7, 3, 4, 5, 6, 1, 0, 2] dc_ rfl w h) ?_)))))
              exact of_
            · skip
              refine a_one 4 rfl rfl kr_ rfl (za6 0 Z Try.func55 N55 rfl rfl rfl (fun w P1 hF hB hS hT => impl_digits.calls k a0 (IntKind.i64.wrap (1 * 2 ^ min (a1 : Int).toNat IntKind.i64.bits)) hB hF _ hx983)) (fun s w h => za3 [some 7, some 8] dc_ w h rfl) (cur2 (fun A985 c986 => a_one 8 rfl rfl kr_ rfl (zac (i := 3) rfl rfl rfl rfl Z60 rfl rfl) (fun s w h => za3 [some 7, some 8] dc_ w h rfl) (fun _ => za4 9 rfl rfl rfl kr_ (fun _ _ _ h => h) (q_asg rfl) (a_one 10 rfl rfl kr_ rfl (zac (i := 1) rfl rfl rfl rfl Z23 rfl rfl) (fun s w h => za3 [some 7, some 8] dc_ w h rfl) (fun _ => zao kr_ (zaj (l984, g1103, c744, A985, c986, g1163, A1043, c1044) h ⟨rfl, rfl, rfl, trivial⟩ (fun w h => za5 [8, 7, 3, 4, 5, 6, 0, 1, 2] dc_ rfl w h) ?_))))))
              exact of_
          · skip
            refine a_two 4 5 rfl rfl rfl rfl kr_ rfl rfl (za6 0 Z Try.func55 N55 rfl rfl rfl (fun w P1 hF hB hS hT => impl_digits.calls k a0 (IntKind.i64.wrap (1 * 2 ^ min (a1 : Int).toNat IntKind.i64.bits)) hB hF _ hx983)) (fun s w h => za3 [some 6, some 7] dc_ w h rfl) (e_lit (vs := [(0, .int .i64 (-1)), (1, .int .i64 0)]) (cs := [.int .i64 (-1), .int .i64 0]) (Kd.int .i64) ([(-1), 0] : List Int) Try.underlying23 I3 dc_ rfl dc_ rfl rfl (fun _ _ => Kd.zad _)) (fun s w h => za3 [some 6, some 7] dc_ w h rfl) (cur2 (fun A985 c986 => ?_)) (cur2 (fun A1043 c1044 => ?_))
            · skip
              refine a_two 5 8 rfl rfl rfl rfl kr_ rfl rfl (e_lit (vs := [(0, .int .i64 (-1)), (1, .int .i64 0)]) (cs := [.int .i64 (-1), .int .i64 0]) (Kd.int .i64) ([(-1), 0] : List Int) Try.underlying23 I3 dc_ rfl dc_ rfl rfl (fun _ _ => Kd.zad _)) (fun s w h => za3 [some 7, some 8] dc_ w h rfl) (zac (i := 2) rfl rfl rfl rfl Z60 rfl rfl) (fun s w h => za3 [some 6, some 7] dc_ w h rfl) (cur2 (fun A1043 c1044 => ?_)) (fun _ => ?_)
              · skip
                refine a_one 8 rfl rfl kr_ rfl (zac (i := 3) rfl rfl rfl rfl Z60 rfl rfl) (fun s w h => za3 [some 7, some 8] dc_ w h rfl) (fun _ => za4 9 rfl rfl rfl kr_ (fun _ _ _ h => h) (q_asg rfl) (a_one 10 rfl rfl kr_ rfl (zac (i := 2) rfl rfl rfl rfl Z23 rfl rfl) (fun s w h => za3 [some 7, some 8] dc_ w h rfl) (fun _ => zao kr_ (zaj (l984, g1103, c744, A985, c986, g1163, A1043, c1044) h ⟨rfl, rfl, rfl, trivial⟩ (fun w h => za5 [8, 7, 3, 4, 5, 6, 1, 2, 0] dc_ rfl w h) ?_))))
                exact of_
              · skip
                refine za4 9 rfl rfl rfl kr_ (fun _ _ _ h => h) (q_asg rfl) (a_one 5 rfl rfl kr_ rfl (e_lit (vs := [(0, .int .i64 (-1)), (1, .int .i64 0)]) (cs := [.int .i64 (-1), .int .i64 0]) (Kd.int .i64) ([(-1), 0] : List Int) Try.underlying23 I3 dc_ rfl dc_ rfl rfl (fun _ _ => Kd.zad _)) (fun s w h => za3 [some 7, some 8] dc_ w h rfl) (cur2 (fun A1043 c1044 => a_one 10 rfl rfl kr_ rfl (zac (i := 2) rfl rfl rfl rfl Z23 rfl rfl) (fun s w h => za3 [some 7, some 8] dc_ w h rfl) (fun _ => zao kr_ (zaj (l984, g1103, c744, A985, c986, g1163, A1043, c1044) h ⟨rfl, rfl, rfl, trivial⟩ (fun w h => za5 [8, 7, 3, 4, 5, 6, 1, 2, 0] dc_ rfl w h) ?_)))))
                exact of_
            · skip
              refine a_one 4 rfl rfl kr_ rfl (za6 0 Z Try.func55 N55 rfl rfl rfl (fun w P1 hF hB hS hT => impl_digits.calls k a0 (IntKind.i64.wrap (1 * 2 ^ min (a1 : Int).toNat IntKind.i64.bits)) hB hF _ hx983)) (fun s w h => za3 [some 7, some 8] dc_ w h rfl) (cur2 (fun A985 c986 => a_one 8 rfl rfl kr_ rfl (zac (i := 3) rfl rfl rfl rfl Z60 rfl rfl) (fun s w h => za3 [some 7, some 8] dc_ w h rfl) (fun _ => za4 9 rfl rfl rfl kr_ (fun _ _ _ h => h) (q_asg rfl) (a_one 10 rfl rfl kr_ rfl (zac (i := 2) rfl rfl rfl rfl Z23 rfl rfl) (fun s w h => za3 [some 7, some 8] dc_ w h rfl) (fun _ => zao kr_ (zaj (l984, g1103, c744, A985, c986, g1163, A1043, c1044) h ⟨rfl, rfl, rfl, trivial⟩ (fun w h => za5 [8, 7, 3, 4, 5, 6, 0, 2, 1] dc_ rfl w h) ?_))))))
              exact of_
        · skip
          refine a_three 4 5 6 rfl rfl rfl rfl rfl rfl kr_ rfl rfl rfl (za6 0 Z Try.func55 N55 rfl rfl rfl (fun w P1 hF hB hS hT => impl_digits.calls k a0 (IntKind.i64.wrap (1 * 2 ^ min (a1 : Int).toNat IntKind.i64.bits)) hB hF _ hx983)) (fun s w h => za3 [some 5, some 6] dc_ w h rfl) (e_lit (vs := [(0, .int .i64 (-1)), (1, .int .i64 0)]) (cs := [.int .i64 (-1), .int .i64 0]) (Kd.int .i64) ([(-1), 0] : List Int) Try.underlying23 I3 dc_ rfl dc_ rfl rfl (fun _ _ => Kd.zad _)) (fun s w h => za3 [some 5, some 6] dc_ w h rfl) (zaf V60 rfl) (fun s w h => za3 [some 5, some 6] dc_ w h rfl) (cur2 (fun A985 c986 => ?_)) (cur2 (fun A1043 c1044 => ?_)) (fun g1103 => ?_)
          · skip
            refine a_two 5 6 rfl rfl rfl rfl kr_ rfl rfl (e_lit (vs := [(0, .int .i64 (-1)), (1, .int .i64 0)]) (cs := [.int .i64 (-1), .int .i64 0]) (Kd.int .i64) ([(-1), 0] : List Int) Try.underlying23 I3 dc_ rfl dc_ rfl rfl (fun _ _ => Kd.zad _)) (fun s w h => za3 [some 6, some 7] dc_ w h rfl) (zaf V60 rfl) (fun s w h => za3 [some 6, some 7] dc_ w h rfl) (cur2 (fun A1043 c1044 => ?_)) (fun g1103 => ?_)
            · skip
              refine a_one 6 rfl rfl kr_ rfl (zaf V60 rfl) (fun s w h => za3 [some 7, some 8] dc_ w h rfl) (fun g1103 => a_one 8 rfl rfl kr_ rfl (zac (i := 0) rfl rfl rfl rfl Z60 rfl rfl) (fun s w h => za3 [some 7, some 8] dc_ w h rfl) (fun _ => za4 9 rfl rfl rfl kr_ (fun _ _ _ h => h) (q_asg rfl) (a_one 10 rfl rfl kr_ rfl (zac (i := 3) rfl rfl rfl rfl Z23 rfl rfl) (fun s w h => za3 [some 7, some 8] dc_ w h rfl) (fun _ => zao kr_ (zaj (l984, g1103, c744, A985, c986, g1163, A1043, c1044) h ⟨rfl, rfl, rfl, trivial⟩ (fun w h => za5 [8, 7, 0, 4, 5, 6, 2, 3, 1] dc_ rfl w h) ?_)))))
              exact of_
            · skip
              refine a_two 5 8 rfl rfl rfl rfl kr_ rfl rfl (e_lit (vs := [(0, .int .i64 (-1)), (1, .int .i64 0)]) (cs := [.int .i64 (-1), .int .i64 0]) (Kd.int .i64) ([(-1), 0] : List Int) Try.underlying23 I3 dc_ rfl dc_ rfl rfl (fun _ _ => Kd.zad _)) (fun s w h => za3 [some 7, some 8] dc_ w h rfl) (zac (i := 0) rfl rfl rfl rfl Z60 rfl rfl) (fun s w h => za3 [some 6, some 7] dc_ w h rfl) (cur2 (fun A1043 c1044 => ?_)) (fun _ => ?_)
              · skip
                refine a_one 8 rfl rfl kr_ rfl (zac (i := 1) rfl rfl rfl rfl Z60 rfl rfl) (fun s w h => za3 [some 7, some 8] dc_ w h rfl) (fun _ => za4 9 rfl rfl rfl kr_ (fun _ _ _ h => h) (q_asg rfl) (a_one 10 rfl rfl kr_ rfl (zac (i := 3) rfl rfl rfl rfl Z23 rfl rfl) (fun s w h => za3 [some 7, some 8] dc_ w h rfl) (fun _ => zao kr_ (zaj (l984, g1103, c744, A985, c986, g1163, A1043, c1044) h ⟨rfl, rfl, rfl, trivial⟩ (fun w h => za5 [8, 7, 1, 4, 5, 6, 2, 3, 0] dc_ rfl w h) ?_))))
                exact of_
              · skip
                refine za4 9 rfl rfl rfl kr_ (fun _ _ _ h => h) (q_asg rfl) (a_one 5 rfl rfl kr_ rfl (e_lit (vs := [(0, .int .i64 (-1)), (1, .int .i64 0)]) (cs := [.int .i64 (-1), .int .i64 0]) (Kd.int .i64) ([(-1), 0] : List Int) Try.underlying23 I3 dc_ rfl dc_ rfl rfl (fun _ _ => Kd.zad _)) (fun s w h => za3 [some 7, some 8] dc_ w h rfl) (cur2 (fun A1043 c1044 => a_one 10 rfl rfl kr_ rfl (zac (i := 3) rfl rfl rfl rfl Z23 rfl rfl) (fun s w h => za3 [some 7, some 8] dc_ w h rfl) (fun _ => zao kr_ (zaj (l984, g1103, c744, A985, c986, g1163, A1043, c1044) h ⟨rfl, rfl, rfl, trivial⟩ (fun w h => za5 [8, 7, 1, 4, 5, 6, 2, 3, 0] dc_ rfl w h) ?_)))))
                exact of_
          · skip
            refine a_two 4 6 rfl rfl rfl rfl kr_ rfl rfl (za6 0 Z Try.func55 N55 rfl rfl rfl (fun w P1 hF hB hS hT => impl_digits.calls k a0 (IntKind.i64.wrap (1 * 2 ^ min (a1 : Int).toNat IntKind.i64.bits)) hB hF _ hx983)) (fun s w h => za3 [some 6, some 7] dc_ w h rfl) (zaf V60 rfl) (fun s w h => za3 [some 6, some 7] dc_ w h rfl) (cur2 (fun A985 c986 => ?_)) (fun g1103 => ?_)
            · skip
              refine a_one 6 rfl rfl kr_ rfl (zaf V60 rfl) (fun s w h => za3 [some 7, some 8] dc_ w h rfl) (fun g1103 => a_one 8 rfl rfl kr_ rfl (zac (i := 0) rfl rfl rfl rfl Z60 rfl rfl) (fun s w h => za3 [some 7, some 8] dc_ w h rfl) (fun _ => za4 9 rfl rfl rfl kr_ (fun _ _ _ h => h) (q_asg rfl) (a_one 10 rfl rfl kr_ rfl (zac (i := 3) rfl rfl rfl rfl Z23 rfl rfl) (fun s w h => za3 [some 7, some 8] dc_ w h rfl) (fun _ => zao kr_ (zaj (l984, g1103, c744, A985, c986, g1163, A1043, c1044) h ⟨rfl, rfl, rfl, trivial⟩ (fun w h => za5 [8, 7, 0, 4, 5, 6, 1, 3, 2] dc_ rfl w h) ?_)))))
              exact of_
            · skip
              refine a_one 4 rfl rfl kr_ rfl (za6 0 Z Try.func55 N55 rfl rfl rfl (fun w P1 hF hB hS hT => impl_digits.calls k a0 (IntKind.i64.wrap (1 * 2 ^ min (a1 : Int).toNat IntKind.i64.bits)) hB hF _ hx983)) (fun s w h => za3 [some 7, some 8] dc_ w h rfl) (cur2 (fun A985 c986 => a_one 8 rfl rfl kr_ rfl (zac (i := 1) rfl rfl rfl rfl Z60 rfl rfl) (fun s w h => za3 [some 7, some 8] dc_ w h rfl) (fun _ => za4 9 rfl rfl rfl kr_ (fun _ _ _ h => h) (q_asg rfl) (a_one 10 rfl rfl kr_ rfl (zac (i := 3) rfl rfl rfl rfl Z23 rfl rfl) (fun s w h => za3 [some 7, some 8] dc_ w h rfl) (fun _ => zao kr_ (zaj (l984, g1103, c744, A985, c986, g1163, A1043, c1044) h ⟨rfl, rfl, rfl, trivial⟩ (fun w h => za5 [8, 7, 1, 4, 5, 6, 0, 3, 2] dc_ rfl w h) ?_))))))
              exact of_
          · skip
            refine a_two 4 5 rfl rfl rfl rfl kr_ rfl rfl (za6 0 Z Try.func55 N55 rfl rfl rfl (fun w P1 hF hB hS hT => impl_digits.calls k a0 (IntKind.i64.wrap (1 * 2 ^ min (a1 : Int).toNat IntKind.i64.bits)) hB hF _ hx983)) (fun s w h => za3 [some 6, some 7] dc_ w h rfl) (e_lit (vs := [(0, .int .i64 (-1)), (1, .int .i64 0)]) (cs := [.int .i64 (-1), .int .i64 0]) (Kd.int .i64) ([(-1), 0] : List Int) Try.underlying23 I3 dc_ rfl dc_ rfl rfl (fun _ _ => Kd.zad _)) (fun s w h => za3 [some 6, some 7] dc_ w h rfl) (cur2 (fun A985 c986 => ?_)) (cur2 (fun A1043 c1044 => ?_))
            · skip
              refine a_two 5 8 rfl rfl rfl rfl kr_ rfl rfl (e_lit (vs := [(0, .int .i64 (-1)), (1, .int .i64 0)]) (cs := [.int .i64 (-1), .int .i64 0]) (Kd.int .i64) ([(-1), 0] : List Int) Try.underlying23 I3 dc_ rfl dc_ rfl rfl (fun _ _ => Kd.zad _)) (fun s w h => za3 [some 7, some 8] dc_ w h rfl) (zac (i := 1) rfl rfl rfl rfl Z60 rfl rfl) (fun s w h => za3 [some 6, some 7] dc_ w h rfl) (cur2 (fun A1043 c1044 => ?_)) (fun _ => ?_)
              · skip
                refine a_one 8 rfl rfl kr_ rfl (zac (i := 2) rfl rfl rfl rfl Z60 rfl rfl) (fun s w h => za3 [some 7, some 8] dc_ w h rfl) (fun _ => za4 9 rfl rfl rfl kr_ (fun _ _ _ h => h) (q_asg rfl) (a_one 10 rfl rfl kr_ rfl (zac (i := 3) rfl rfl rfl rfl Z23 rfl rfl) (fun s w h => za3 [some 7, some 8] dc_ w h rfl) (fun _ => zao kr_ (zaj (l984, g1103, c744, A985, c986, g1163, A1043, c1044) h ⟨rfl, rfl, rfl, trivial⟩ (fun w h => za5 [8, 7, 2, 4, 5, 6, 1, 3, 0] dc_ rfl w h) ?_))))
                exact of_
              · skip
                refine za4 9 rfl rfl rfl kr_ (fun _ _ _ h => h) (q_asg rfl) (a_one 5 rfl rfl kr_ rfl (e_lit (vs := [(0, .int .i64 (-1)), (1, .int .i64 0)]) (cs := [.int .i64 (-1), .int .i64 0]) (Kd.int .i64) ([(-1), 0] : List Int) Try.underlying23 I3 dc_ rfl dc_ rfl rfl (fun _ _ => Kd.zad _)) (fun s w h => za3 [some 7, some 8] dc_ w h rfl) (cur2 (fun A1043 c1044 => a_one 10 rfl rfl kr_ rfl (zac (i := 3) rfl rfl rfl rfl Z23 rfl rfl) (fun s w h => za3 [some 7, some 8] dc_ w h rfl) (fun _ => zao kr_ (zaj (l984, g1103, c744, A985, c986, g1163, A1043, c1044) h ⟨rfl, rfl, rfl, trivial⟩ (fun w h => za5 [8, 7, 2, 4, 5, 6, 1, 3, 0] dc_ rfl w h) ?_)))))
                exact of_
            · skip
              refine a_one 4 rfl rfl kr_ rfl (za6 0 Z Try.func55 N55 rfl rfl rfl (fun w P1 hF hB hS hT => impl_digits.calls k a0 (IntKind.i64.wrap (1 * 2 ^ min (a1 : Int).toNat IntKind.i64.bits)) hB hF _ hx983)) (fun s w h => za3 [some 7, some 8] dc_ w h rfl) (cur2 (fun A985 c986 => a_one 8 rfl rfl kr_ rfl (zac (i := 2) rfl rfl rfl rfl Z60 rfl rfl) (fun s w h => za3 [some 7, some 8] dc_ w h rfl) (fun _ => za4 9 rfl rfl rfl kr_ (fun _ _ _ h => h) (q_asg rfl) (a_one 10 rfl rfl kr_ rfl (zac (i := 3) rfl rfl rfl rfl Z23 rfl rfl) (fun s w h => za3 [some 7, some 8] dc_ w h rfl) (fun _ => zao kr_ (zaj (l984, g1103, c744, A985, c986, g1163, A1043, c1044) h ⟨rfl, rfl, rfl, trivial⟩ (fun w h => za5 [8, 7, 2, 4, 5, 6, 0, 3, 1] dc_ rfl w h) ?_))))))
              exact of_
      · skip
        refine a_three 0 6 7 rfl rfl rfl rfl rfl rfl kr_ rfl rfl rfl (za6 0 Z Try.func54 N54 rfl rfl rfl (fun w P1 hF hB hS hT => impl_newMaker.calls 1 hB hF hx743)) (fun s w h => za3 [some 4, some 5] dc_ w h rfl) (zaf V60 rfl) (fun s w h => za3 [some 2, some 3] dc_ w h rfl) (zaf V23 rfl) (fun s w h => za3 [some 2, some 3] dc_ w h rfl) (fun c744 => ?_) (fun g1103 => ?_) (fun g1163 => ?_)
        · skip
          refine a_three 4 6 7 rfl rfl rfl rfl rfl rfl kr_ rfl rfl rfl (za6 0 Z Try.func55 N55 rfl rfl rfl (fun w P1 hF hB hS hT => impl_digits.calls k a0 (IntKind.i64.wrap (1 * 2 ^ min (a1 : Int).toNat IntKind.i64.bits)) hB hF _ hx983)) (fun s w h => za3 [some 5, some 6] dc_ w h rfl) (zaf V60 rfl) (fun s w h => za3 [some 5, some 6] dc_ w h rfl) (zaf V23 rfl) (fun s w h => za3 [some 5, some 6] dc_ w h rfl) (cur2 (fun A985 c986 => ?_)) (fun g1103 => ?_) (fun g1163 => ?_)
          · skip
            refine a_two 6 7 rfl rfl rfl rfl kr_ rfl rfl (zaf V60 rfl) (fun s w h => za3 [some 6, some 7] dc_ w h rfl) (zaf V23 rfl) (fun s w h => za3 [some 6, some 7] dc_ w h rfl) (fun g1103 => ?_) (fun g1163 => ?_)
            · skip
              refine a_one 7 rfl rfl kr_ rfl (zaf V23 rfl) (fun s w h => za3 [some 7, some 8] dc_ w h rfl) (fun g1163 => a_one 8 rfl rfl kr_ rfl (zac (i := 1) rfl rfl rfl rfl Z60 rfl rfl) (fun s w h => za3 [some 7, some 8] dc_ w h rfl) (fun _ => za4 9 rfl rfl rfl kr_ (fun _ _ _ h => h) (q_asg rfl) (a_one 10 rfl rfl kr_ rfl (zac (i := 0) rfl rfl rfl rfl Z23 rfl rfl) (fun s w h => za3 [some 7, some 8] dc_ w h rfl) (fun _ => zao kr_ (zaj (l984, g1103, c744, A985, c986, g1163, A1043, c1044) h ⟨rfl, rfl, rfl, trivial⟩ (fun w h => za5 [8, 7, 1, 3, 4, 5, 2, 0, 6] dc_ rfl w h) ?_)))))
              exact of_
            · skip
              refine a_one 6 rfl rfl kr_ rfl (zaf V60 rfl) (fun s w h => za3 [some 7, some 8] dc_ w h rfl) (fun g1103 => a_one 8 rfl rfl kr_ rfl (zac (i := 0) rfl rfl rfl rfl Z60 rfl rfl) (fun s w h => za3 [some 7, some 8] dc_ w h rfl) (fun _ => za4 9 rfl rfl rfl kr_ (fun _ _ _ h => h) (q_asg rfl) (a_one 10 rfl rfl kr_ rfl (zac (i := 1) rfl rfl rfl rfl Z23 rfl rfl) (fun s w h => za3 [some 7, some 8] dc_ w h rfl) (fun _ => zao kr_ (zaj (l984, g1103, c744, A985, c986, g1163, A1043, c1044) h ⟨rfl, rfl, rfl, trivial⟩ (fun w h => za5 [8, 7, 0, 3, 4, 5, 2, 1, 6] dc_ rfl w h) ?_)))))
              exact of_
          · skip
            refine a_two 4 7 rfl rfl rfl rfl kr_ rfl rfl (za6 0 Z Try.func55 N55 rfl rfl rfl (fun w P1 hF hB hS hT => impl_digits.calls k a0 (IntKind.i64.wrap (1 * 2 ^ min (a1 : Int).toNat IntKind.i64.bits)) hB hF _ hx983)) (fun s w h => za3 [some 6, some 7] dc_ w h rfl) (zaf V23 rfl) (fun s w h => za3 [some 6, some 7] dc_ w h rfl) (cur2 (fun A985 c986 => ?_)) (fun g1163 => ?_)
            · skip
              refine a_one 7 rfl rfl kr_ rfl (zaf V23 rfl) (fun s w h => za3 [some 7, some 8] dc_ w h rfl) (fun g1163 => a_one 8 rfl rfl kr_ rfl (zac (i := 2) rfl rfl rfl rfl Z60 rfl rfl) (fun s w h => za3 [some 7, some 8] dc_ w h rfl) (fun _ => za4 9 rfl rfl rfl kr_ (fun _ _ _ h => h) (q_asg rfl) (a_one 10 rfl rfl kr_ rfl (zac (i := 0) rfl rfl rfl rfl Z23 rfl rfl) (fun s w h => za3 [some 7, some 8] dc_ w h rfl) (fun _ => zao kr_ (zaj (l984, g1103, c744, A985, c986, g1163, A1043, c1044) h ⟨rfl, rfl, rfl, trivial⟩ (fun w h => za5 [8, 7, 2, 3, 4, 5, 1, 0, 6] dc_ rfl w h) ?_)))))
              exact of_
            · skip
              refine a_one 4 rfl rfl kr_ rfl (za6 0 Z Try.func55 N55 rfl rfl rfl (fun w P1 hF hB hS hT => impl_digits.calls k a0 (IntKind.i64.wrap (1 * 2 ^ min (a1 : Int).toNat IntKind.i64.bits)) hB hF _ hx983)) (fun s w h => za3 [some 7, some 8] dc_ w h rfl) (cur2 (fun A985 c986 => a_one 8 rfl rfl kr_ rfl (zac (i := 2) rfl rfl rfl rfl Z60 rfl rfl) (fun s w h => za3 [some 7, some 8] dc_ w h rfl) (fun _ => za4 9 rfl rfl rfl kr_ (fun _ _ _ h => h) (q_asg rfl) (a_one 10 rfl rfl kr_ rfl (zac (i := 1) rfl rfl rfl rfl Z23 rfl rfl) (fun s w h => za3 [some 7, some 8] dc_ w h rfl) (fun _ => zao kr_ (zaj (l984, g1103, c744, A985, c986, g1163, A1043, c1044) h ⟨rfl, rfl, rfl, trivial⟩ (fun w h => za5 [8, 7, 2, 3, 4, 5, 0, 1, 6] dc_ rfl w h) ?_))))))
              exact of_
          · skip
            refine a_two 4 6 rfl rfl rfl rfl kr_ rfl rfl (za6 0 Z Try.func55 N55 rfl rfl rfl (fun w P1 hF hB hS hT => impl_digits.calls k a0 (IntKind.i64.wrap (1 * 2 ^ min (a1 : Int).toNat IntKind.i64.bits)) hB hF _ hx983)) (fun s w h => za3 [some 6, some 7] dc_ w h rfl) (zaf V60 rfl) (fun s w h => za3 [some 6, some 7] dc_ w h rfl) (cur2 (fun A985 c986 => ?_)) (fun g1103 => ?_)
            · skip
              refine a_one 6 rfl rfl kr_ rfl (zaf V60 rfl) (fun s w h => za3 [some 7, some 8] dc_ w h rfl) (fun g1103 => a_one 8 rfl rfl kr_ rfl (zac (i := 0) rfl rfl rfl rfl Z60 rfl rfl) (fun s w h => za3 [some 7, some 8] dc_ w h rfl) (fun _ => za4 9 rfl rfl rfl kr_ (fun _ _ _ h => h) (q_asg rfl) (a_one 10 rfl rfl kr_ rfl (zac (i := 2) rfl rfl rfl rfl Z23 rfl rfl) (fun s w h => za3 [some 7, some 8] dc_ w h rfl) (fun _ => zao kr_ (zaj (l984, g1103, c744, A985, c986, g1163, A1043, c1044) h ⟨rfl, rfl, rfl, trivial⟩ (fun w h => za5 [8, 7, 0, 3, 4, 5, 1, 2, 6] dc_ rfl w h) ?_)))))
              exact of_
            · skip
              refine a_one 4 rfl rfl kr_ rfl (za6 0 Z Try.func55 N55 rfl rfl rfl (fun w P1 hF hB hS hT => impl_digits.calls k a0 (IntKind.i64.wrap (1 * 2 ^ min (a1 : Int).toNat IntKind.i64.bits)) hB hF _ hx983)) (fun s w h => za3 [some 7, some 8] dc_ w h rfl) (cur2 (fun A985 c986 => a_one 8 rfl rfl kr_ rfl (zac (i := 1) rfl rfl rfl rfl Z60 rfl rfl) (fun s w h => za3 [some 7, some 8] dc_ w h rfl) (fun _ => za4 9 rfl rfl rfl kr_ (fun _ _ _ h => h) (q_asg rfl) (a_one 10 rfl rfl kr_ rfl (zac (i := 2) rfl rfl rfl rfl Z23 rfl rfl) (fun s w h => za3 [some 7, some 8] dc_ w h rfl) (fun _ => zao kr_ (zaj (l984, g1103, c744, A985, c986, g1163, A1043, c1044) h ⟨rfl, rfl, rfl, trivial⟩ (fun w h => za5 [8, 7, 1, 3, 4, 5, 0, 2, 6] dc_ rfl w h) ?_))))))
              exact of_
        · skip
          refine a_two 0 7 rfl rfl rfl rfl kr_ rfl rfl (za6 0 Z Try.func54 N54 rfl rfl rfl (fun w P1 hF hB hS hT => impl_newMaker.calls 1 hB hF hx743)) (fun s w h => za3 [some 5, some 6] dc_ w h rfl) (zaf V23 rfl) (fun s w h => za3 [some 3, some 4] dc_ w h rfl) (fun c744 => ?_) (fun g1163 => ?_)
          · skip
            refine a_two 4 7 rfl rfl rfl rfl kr_ rfl rfl (za6 0 Z Try.func55 N55 rfl rfl rfl (fun w P1 hF hB hS hT => impl_digits.calls k a0 (IntKind.i64.wrap (1 * 2 ^ min (a1 : Int).toNat IntKind.i64.bits)) hB hF _ hx983)) (fun s w h => za3 [some 6, some 7] dc_ w h rfl) (zaf V23 rfl) (fun s w h => za3 [some 6, some 7] dc_ w h rfl) (cur2 (fun A985 c986 => ?_)) (fun g1163 => ?_)
            · skip
              refine a_one 7 rfl rfl kr_ rfl (zaf V23 rfl) (fun s w h => za3 [some 7, some 8] dc_ w h rfl) (fun g1163 => a_one 8 rfl rfl kr_ rfl (zac (i := 5) rfl rfl rfl rfl Z60 rfl rfl) (fun s w h => za3 [some 7, some 8] dc_ w h rfl) (fun _ => za4 9 rfl rfl rfl kr_ (fun _ _ _ h => h) (q_asg rfl) (a_one 10 rfl rfl kr_ rfl (zac (i := 0) rfl rfl rfl rfl Z23 rfl rfl) (fun s w h => za3 [some 7, some 8] dc_ w h rfl) (fun _ => zao kr_ (zaj (l984, g1103, c744, A985, c986, g1163, A1043, c1044) h ⟨rfl, rfl, rfl, trivial⟩ (fun w h => za5 [8, 7, 5, 2, 3, 4, 1, 0, 6] dc_ rfl w h) ?_)))))
              exact of_
            · skip
              refine a_one 4 rfl rfl kr_ rfl (za6 0 Z Try.func55 N55 rfl rfl rfl (fun w P1 hF hB hS hT => impl_digits.calls k a0 (IntKind.i64.wrap (1 * 2 ^ min (a1 : Int).toNat IntKind.i64.bits)) hB hF _ hx983)) (fun s w h => za3 [some 7, some 8] dc_ w h rfl) (cur2 (fun A985 c986 => a_one 8 rfl rfl kr_ rfl (zac (i := 5) rfl rfl rfl rfl Z60 rfl rfl) (fun s w h => za3 [some 7, some 8] dc_ w h rfl) (fun _ => za4 9 rfl rfl rfl kr_ (fun _ _ _ h => h) (q_asg rfl) (a_one 10 rfl rfl kr_ rfl (zac (i := 1) rfl rfl rfl rfl Z23 rfl rfl) (fun s w h => za3 [some 7, some 8] dc_ w h rfl) (fun _ => zao kr_ (zaj (l984, g1103, c744, A985, c986, g1163, A1043, c1044) h ⟨rfl, rfl, rfl, trivial⟩ (fun w h => za5 [8, 7, 5, 2, 3, 4, 0, 1, 6] dc_ rfl w h) ?_))))))
              exact of_
          · skip
            refine a_one 0 rfl rfl kr_ rfl (za6 0 Z Try.func54 N54 rfl rfl rfl (fun w P1 hF hB hS hT => impl_newMaker.calls 1 hB hF hx743)) (fun s w h => za3 [some 6, some 7] dc_ w h rfl) (fun c744 => a_one 4 rfl rfl kr_ rfl (za6 0 Z Try.func55 N55 rfl rfl rfl (fun w P1 hF hB hS hT => impl_digits.calls k a0 (IntKind.i64.wrap (1 * 2 ^ min (a1 : Int).toNat IntKind.i64.bits)) hB hF _ hx983)) (fun s w h => za3 [some 7, some 8] dc_ w h rfl) (cur2 (fun A985 c986 => a_one 8 rfl rfl kr_ rfl (zac (i := 5) rfl rfl rfl rfl Z60 rfl rfl) (fun s w h => za3 [some 7, some 8] dc_ w h rfl) (fun _ => za4 9 rfl rfl rfl kr_ (fun _ _ _ h => h) (q_asg rfl) (a_one 10 rfl rfl kr_ rfl (zac (i := 4) rfl rfl rfl rfl Z23 rfl rfl) (fun s w h => za3 [some 7, some 8] dc_ w h rfl) (fun _ => zao kr_ (zaj (l984, g1103, c744, A985, c986, g1163, A1043, c1044) h ⟨rfl, rfl, rfl, trivial⟩ (fun w h => za5 [8, 7, 5, 1, 2, 3, 0, 4, 6] dc_ rfl w h) ?_)))))))
            exact of_
        · skip
          refine a_two 0 6 rfl rfl rfl rfl kr_ rfl rfl (za6 0 Z Try.func54 N54 rfl rfl rfl (fun w P1 hF hB hS hT => impl_newMaker.calls 1 hB hF hx743)) (fun s w h => za3 [some 5, some 6] dc_ w h rfl) (zaf V60 rfl) (fun s w h => za3 [some 3, some 4] dc_ w h rfl) (fun c744 => ?_) (fun g1103 => ?_)
          · skip
            refine a_two 4 6 rfl rfl rfl rfl kr_ rfl rfl (za6 0 Z Try.func55 N55 rfl rfl rfl (fun w P1 hF hB hS hT => impl_digits.calls k a0 (IntKind.i64.wrap (1 * 2 ^ min (a1 : Int).toNat IntKind.i64.bits)) hB hF _ hx983)) (fun s w h => za3 [some 6, some 7] dc_ w h rfl) (zaf V60 rfl) (fun s w h => za3 [some 6, some 7] dc_ w h rfl) (cur2 (fun A985 c986 => ?_)) (fun g1103 => ?_)
            · skip
              refine a_one 6 rfl rfl kr_ rfl (zaf V60 rfl) (fun s w h => za3 [some 7, some 8] dc_ w h rfl) (fun g1103 => a_one 8 rfl rfl kr_ rfl (zac (i := 0) rfl rfl rfl rfl Z60 rfl rfl) (fun s w h => za3 [some 7, some 8] dc_ w h rfl) (fun _ => za4 9 rfl rfl rfl kr_ (fun _ _ _ h => h) (q_asg rfl) (a_one 10 rfl rfl kr_ rfl (zac (i := 5) rfl rfl rfl rfl Z23 rfl rfl) (fun s w h => za3 [some 7, some 8] dc_ w h rfl) (fun _ => zao kr_ (zaj (l984, g1103, c744, A985, c986, g1163, A1043, c1044) h ⟨rfl, rfl, rfl, trivial⟩ (fun w h => za5 [8, 7, 0, 2, 3, 4, 1, 5, 6] dc_ rfl w h) ?_)))))
              exact of_
            · skip
              refine a_one 4 rfl rfl kr_ rfl (za6 0 Z Try.func55 N55 rfl rfl rfl (fun w P1 hF hB hS hT => impl_digits.calls k a0 (IntKind.i64.wrap (1 * 2 ^ min (a1 : Int).toNat IntKind.i64.bits)) hB hF _ hx983)) (fun s w h => za3 [some 7, some 8] dc_ w h rfl) (cur2 (fun A985 c986 => a_one 8 rfl rfl kr_ rfl (zac (i := 1) rfl rfl rfl rfl Z60 rfl rfl) (fun s w h => za3 [some 7, some 8] dc_ w h rfl) (fun _ => za4 9 rfl rfl rfl kr_ (fun _ _ _ h => h) (q_asg rfl) (a_one 10 rfl rfl kr_ rfl (zac (i := 5) rfl rfl rfl rfl Z23 rfl rfl) (fun s w h => za3 [some 7, some 8] dc_ w h rfl) (fun _ => zao kr_ (zaj (l984, g1103, c744, A985, c986, g1163, A1043, c1044) h ⟨rfl, rfl, rfl, trivial⟩ (fun w h => za5 [8, 7, 1, 2, 3, 4, 0, 5, 6] dc_ rfl w h) ?_))))))
              exact of_
          · skip
            refine a_one 0 rfl rfl kr_ rfl (za6 0 Z Try.func54 N54 rfl rfl rfl (fun w P1 hF hB hS hT => impl_newMaker.calls 1 hB hF hx743)) (fun s w h => za3 [some 6, some 7] dc_ w h rfl) (fun c744 => a_one 4 rfl rfl kr_ rfl (za6 0 Z Try.func55 N55 rfl rfl rfl (fun w P1 hF hB hS hT => impl_digits.calls k a0 (IntKind.i64.wrap (1 * 2 ^ min (a1 : Int).toNat IntKind.i64.bits)) hB hF _ hx983)) (fun s w h => za3 [some 7, some 8] dc_ w h rfl) (cur2 (fun A985 c986 => a_one 8 rfl rfl kr_ rfl (zac (i := 4) rfl rfl rfl rfl Z60 rfl rfl) (fun s w h => za3 [some 7, some 8] dc_ w h rfl) (fun _ => za4 9 rfl rfl rfl kr_ (fun _ _ _ h => h) (q_asg rfl) (a_one 10 rfl rfl kr_ rfl (zac (i := 5) rfl rfl rfl rfl Z23 rfl rfl) (fun s w h => za3 [some 7, some 8] dc_ w h rfl) (fun _ => zao kr_ (zaj (l984, g1103, c744, A985, c986, g1163, A1043, c1044) h ⟨rfl, rfl, rfl, trivial⟩ (fun w h => za5 [8, 7, 4, 1, 2, 3, 0, 5, 6] dc_ rfl w h) ?_)))))))
            exact of_
      · skip
        refine a_three 0 5 7 rfl rfl rfl rfl rfl rfl kr_ rfl rfl rfl (za6 0 Z Try.func54 N54 rfl rfl rfl (fun w P1 hF hB hS hT => impl_newMaker.calls 1 hB hF hx743)) (fun s w h => za3 [some 4, some 5] dc_ w h rfl) (e_lit (vs := [(0, .int .i64 (-1)), (1, .int .i64 0)]) (cs := [.int .i64 (-1), .int .i64 0]) (Kd.int .i64) ([(-1), 0] : List Int) Try.underlying23 I3 dc_ rfl dc_ rfl rfl (fun _ _ => Kd.zad _)) (fun s w h => za3 [some 2, some 3] dc_ w h rfl) (zaf V23 rfl) (fun s w h => za3 [some 2, some 3] dc_ w h rfl) (fun c744 => ?_) (cur2 (fun A1043 c1044 => ?_)) (fun g1163 => ?_)
        · skip
          refine a_three 4 5 7 rfl rfl rfl rfl rfl rfl kr_ rfl rfl rfl (za6 0 Z Try.func55 N55 rfl rfl rfl (fun w P1 hF hB hS hT => impl_digits.calls k a0 (IntKind.i64.wrap (1 * 2 ^ min (a1 : Int).toNat IntKind.i64.bits)) hB hF _ hx983)) (fun s w h => za3 [some 5, some 6] dc_ w h rfl) (e_lit (vs := [(0, .int .i64 (-1)), (1, .int .i64 0)]) (cs := [.int .i64 (-1), .int .i64 0]) (Kd.int .i64) ([(-1), 0] : List Int) Try.underlying23 I3 dc_ rfl dc_ rfl rfl (fun _ _ => Kd.zad _)) (fun s w h => za3 [some 5, some 6] dc_ w h rfl) (zaf V23 rfl) (fun s w h => za3 [some 5, some 6] dc_ w h rfl) (cur2 (fun A985 c986 => ?_)) (cur2 (fun A1043 c1044 => ?_)) (fun g1163 => ?_)
          · skip
            refine a_two 5 7 rfl rfl rfl rfl kr_ rfl rfl (e_lit (vs := [(0, .int .i64 (-1)), (1, .int .i64 0)]) (cs := [.int .i64 (-1), .int .i64 0]) (Kd.int .i64) ([(-1), 0] : List Int) Try.underlying23 I3 dc_ rfl dc_ rfl rfl (fun _ _ => Kd.zad _)) (fun s w h => za3 [some 6, some 7] dc_ w h rfl) (zaf V23 rfl) (fun s w h => za3 [some 6, some 7] dc_ w h rfl) (cur2 (fun A1043 c1044 => ?_)) (fun g1163 => ?_)
            · skip
              refine a_one 7 rfl rfl kr_ rfl (zaf V23 rfl) (fun s w h => za3 [some 7, some 8] dc_ w h rfl) (fun g1163 => a_one 8 rfl rfl kr_ rfl (zac (i := 6) rfl rfl rfl rfl Z60 rfl rfl) (fun s w h => za3 [some 7, some 8] dc_ w h rfl) (fun _ => za4 9 rfl rfl rfl kr_ (fun _ _ _ h => h) (q_asg rfl) (a_one 10 rfl rfl kr_ rfl (zac (i := 0) rfl rfl rfl rfl Z23 rfl rfl) (fun s w h => za3 [some 7, some 8] dc_ w h rfl) (fun _ => zao kr_ (zaj (l984, g1103, c744, A985, c986, g1163, A1043, c1044) h ⟨rfl, rfl, rfl, trivial⟩ (fun w h => za5 [8, 7, 6, 3, 4, 5, 2, 0, 1] dc_ rfl w h) ?_)))))
              exact of_
            · skip
              refine a_two 5 8 rfl rfl rfl rfl kr_ rfl rfl (e_lit (vs := [(0, .int .i64 (-1)), (1, .int .i64 0)]) (cs := [.int .i64 (-1), .int .i64 0]) (Kd.int .i64) ([(-1), 0] : List Int) Try.underlying23 I3 dc_ rfl dc_ rfl rfl (fun _ _ => Kd.zad _)) (fun s w h => za3 [some 7, some 8] dc_ w h rfl) (zac (i := 5) rfl rfl rfl rfl Z60 rfl rfl) (fun s w h => za3 [some 6, some 7] dc_ w h rfl) (cur2 (fun A1043 c1044 => ?_)) (fun _ => ?_)
              · skip
                refine a_one 8 rfl rfl kr_ rfl (zac (i := 6) rfl rfl rfl rfl Z60 rfl rfl) (fun s w h => za3 [some 7, some 8] dc_ w h rfl) (fun _ => za4 9 rfl rfl rfl kr_ (fun _ _ _ h => h) (q_asg rfl) (a_one 10 rfl rfl kr_ rfl (zac (i := 1) rfl rfl rfl rfl Z23 rfl rfl) (fun s w h => za3 [some 7, some 8] dc_ w h rfl) (fun _ => zao kr_ (zaj (l984, g1103, c744, A985, c986, g1163, A1043, c1044) h ⟨rfl, rfl, rfl, trivial⟩ (fun w h => za5 [8, 7, 6, 3, 4, 5, 2, 1, 0] dc_ rfl w h) ?_))))
                exact of_
              · skip
                refine za4 9 rfl rfl rfl kr_ (fun _ _ _ h => h) (q_asg rfl) (a_one 5 rfl rfl kr_ rfl (e_lit (vs := [(0, .int .i64 (-1)), (1, .int .i64 0)]) (cs := [.int .i64 (-1), .int .i64 0]) (Kd.int .i64) ([(-1), 0] : List Int) Try.underlying23 I3 dc_ rfl dc_ rfl rfl (fun _ _ => Kd.zad _)) (fun s w h => za3 [some 7, some 8] dc_ w h rfl) (cur2 (fun A1043 c1044 => a_one 10 rfl rfl kr_ rfl (zac (i := 1) rfl rfl rfl rfl Z23 rfl rfl) (fun s w h => za3 [some 7, some 8] dc_ w h rfl) (fun _ => zao kr_ (zaj (l984, g1103, c744, A985, c986, g1163, A1043, c1044) h ⟨rfl, rfl, rfl, trivial⟩ (fun w h => za5 [8, 7, 6, 3, 4, 5, 2, 1, 0] dc_ rfl w h) ?_)))))
                exact of_
          · skip
            refine a_two 4 7 rfl rfl rfl rfl kr_ rfl rfl (za6 0 Z Try.func55 N55 rfl rfl rfl (fun w P1 hF hB hS hT => impl_digits.calls k a0 (IntKind.i64.wrap (1 * 2 ^ min (a1 : Int).toNat IntKind.i64.bits)) hB hF _ hx983)) (fun s w h => za3 [some 6, some 7] dc_ w h rfl) (zaf V23 rfl) (fun s w h => za3 [some 6, some 7] dc_ w h rfl) (cur2 (fun A985 c986 => ?_)) (fun g1163 => ?_)
            · skip
              refine a_one 7 rfl rfl kr_ rfl (zaf V23 rfl) (fun s w h => za3 [some 7, some 8] dc_ w h rfl) (fun g1163 => a_one 8 rfl rfl kr_ rfl (zac (i := 6) rfl rfl rfl rfl Z60 rfl rfl) (fun s w h => za3 [some 7, some 8] dc_ w h rfl) (fun _ => za4 9 rfl rfl rfl kr_ (fun _ _ _ h => h) (q_asg rfl) (a_one 10 rfl rfl kr_ rfl (zac (i := 0) rfl rfl rfl rfl Z23 rfl rfl) (fun s w h => za3 [some 7, some 8] dc_ w h rfl) (fun _ => zao kr_ (zaj (l984, g1103, c744, A985, c986, g1163, A1043, c1044) h ⟨rfl, rfl, rfl, trivial⟩ (fun w h => za5 [8, 7, 6, 3, 4, 5, 1, 0, 2] dc_ rfl w h) ?_)))))
              exact of_
            · skip
              refine a_one 4 rfl rfl kr_ rfl (za6 0 Z Try.func55 N55 rfl rfl rfl (fun w P1 hF hB hS hT => impl_digits.calls k a0 (IntKind.i64.wrap (1 * 2 ^ min (a1 : Int).toNat IntKind.i64.bits)) hB hF _ hx983)) (fun s w h => za3 [some 7, some 8] dc_ w h rfl) (cur2 (fun A985 c986 => a_one 8 rfl rfl kr_ rfl (zac (i := 6) rfl rfl rfl rfl Z60 rfl rfl) (fun s w h => za3 [some 7, some 8] dc_ w h rfl) (fun _ => za4 9 rfl rfl rfl kr_ (fun _ _ _ h => h) (q_asg rfl) (a_one 10 rfl rfl kr_ rfl (zac (i := 1) rfl rfl rfl rfl Z23 rfl rfl) (fun s w h => za3 [some 7, some 8] dc_ w h rfl) (fun _ => zao kr_ (zaj (l984, g1103, c744, A985, c986, g1163, A1043, c1044) h ⟨rfl, rfl, rfl, trivial⟩ (fun w h => za5 [8, 7, 6, 3, 4, 5, 0, 1, 2] dc_ rfl w h) ?_))))))
              exact of_
          · skip
            refine a_two 4 5 rfl rfl rfl rfl kr_ rfl rfl (za6 0 Z Try.func55 N55 rfl rfl rfl (fun w P1 hF hB hS hT => impl_digits.calls k a0 (IntKind.i64.wrap (1 * 2 ^ min (a1 : Int).toNat IntKind.i64.bits)) hB hF _ hx983)) (fun s w h => za3 [some 6, some 7] dc_ w h rfl) (e_lit (vs := [(0, .int .i64 (-1)), (1, .int .i64 0)]) (cs := [.int .i64 (-1), .int .i64 0]) (Kd.int .i64) ([(-1), 0] : List Int) Try.underlying23 I3 dc_ rfl dc_ rfl rfl (fun _ _ => Kd.zad _)) (fun s w h => za3 [some 6, some 7] dc_ w h rfl) (cur2 (fun A985 c986 => ?_)) (cur2 (fun A1043 c1044 => ?_))
            · skip
              refine a_two 5 8 rfl rfl rfl rfl kr_ rfl rfl (e_lit (vs := [(0, .int .i64 (-1)), (1, .int .i64 0)]) (cs := [.int .i64 (-1), .int .i64 0]) (Kd.int .i64) ([(-1), 0] : List Int) Try.underlying23 I3 dc_ rfl dc_ rfl rfl (fun _ _ => Kd.zad _)) (fun s w h => za3 [some 7, some 8] dc_ w h rfl) (zac (i := 5) rfl rfl rfl rfl Z60 rfl rfl) (fun s w h => za3 [some 6, some 7] dc_ w h rfl) (cur2 (fun A1043 c1044 => ?_)) (fun _ => ?_)
              · skip
                refine a_one 8 rfl rfl kr_ rfl (zac (i := 6) rfl rfl rfl rfl Z60 rfl rfl) (fun s w h => za3 [some 7, some 8] dc_ w h rfl) (fun _ => za4 9 rfl rfl rfl kr_ (fun _ _ _ h => h) (q_asg rfl) (a_one 10 rfl rfl kr_ rfl (zac (i := 2) rfl rfl rfl rfl Z23 rfl rfl) (fun s w h => za3 [some 7, some 8] dc_ w h rfl) (fun _ => zao kr_ (zaj (l984, g1103, c744, A985, c986, g1163, A1043, c1044) h ⟨rfl, rfl, rfl, trivial⟩ (fun w h => za5 [8, 7, 6, 3, 4, 5, 1, 2, 0] dc_ rfl w h) ?_))))
                exact of_
              · skip
                refine za4 9 rfl rfl rfl kr_ (fun _ _ _ h => h) (q_asg rfl) (a_one 5 rfl rfl kr_ rfl (e_lit (vs := [(0, .int .i64 (-1)), (1, .int .i64 0)]) (cs := [.int .i64 (-1), .int .i64 0]) (Kd.int .i64) ([(-1), 0] : List Int) Try.underlying23 I3 dc_ rfl dc_ rfl rfl (fun _ _ => Kd.zad _)) (fun s w h => za3 [some 7, some 8] dc_ w h rfl) (cur2 (fun A1043 c1044 => a_one 10 rfl rfl kr_ rfl (zac (i := 2) rfl rfl rfl rfl Z23 rfl rfl) (fun s w h => za3 [some 7, some 8] dc_ w h rfl) (fun _ => zao kr_ (zaj (l984, g1103, c744, A985, c986, g1163, A1043, c1044) h ⟨rfl, rfl, rfl, trivial⟩ (fun w h => za5 [8, 7, 6, 3, 4, 5, 1, 2, 0] dc_ rfl w h) ?_)))))
                exact of_
            · skip
              refine a_one 4 rfl rfl kr_ rfl (za6 0 Z Try.func55 N55 rfl rfl rfl (fun w P1 hF hB hS hT => impl_digits.calls k a0 (IntKind.i64.wrap (1 * 2 ^ min (a1 : Int).toNat IntKind.i64.bits)) hB hF _ hx983)) (fun s w h => za3 [some 7, some 8] dc_ w h rfl) (cur2 (fun A985 c986 => a_one 8 rfl rfl kr_ rfl (zac (i := 6) rfl rfl rfl rfl Z60 rfl rfl) (fun s w h => za3 [some 7, some 8] dc_ w h rfl) (fun _ => za4 9 rfl rfl rfl kr_ (fun _ _ _ h => h) (q_asg rfl) (a_one 10 rfl rfl kr_ rfl (zac (i := 2) rfl rfl rfl rfl Z23 rfl rfl) (fun s w h => za3 [some 7, some 8] dc_ w h rfl) (fun _ => zao kr_ (zaj (l984, g1103, c744, A985, c986, g1163, A1043, c1044) h ⟨rfl, rfl, rfl, trivial⟩ (fun w h => za5 [8, 7, 6, 3, 4, 5, 0, 2, 1] dc_ rfl w h) ?_))))))
              exact of_
        · skip
          refine a_two 0 7 rfl rfl rfl rfl kr_ rfl rfl (za6 0 Z Try.func54 N54 rfl rfl rfl (fun w P1 hF hB hS hT => impl_newMaker.calls 1 hB hF hx743)) (fun s w h => za3 [some 5, some 6] dc_ w h rfl) (zaf V23 rfl) (fun s w h => za3 [some 3, some 4] dc_ w h rfl) (fun c744 => ?_) (fun g1163 => ?_)
          · skip
            refine a_two 4 7 rfl rfl rfl rfl kr_ rfl rfl (za6 0 Z Try.func55 N55 rfl rfl rfl (fun w P1 hF hB hS hT => impl_digits.calls k a0 (IntKind.i64.wrap (1 * 2 ^ min (a1 : Int).toNat IntKind.i64.bits)) hB hF _ hx983)) (fun s w h => za3 [some 6, some 7] dc_ w h rfl) (zaf V23 rfl) (fun s w h => za3 [some 6, some 7] dc_ w h rfl) (cur2 (fun A985 c986 => ?_)) (fun g1163 => ?_)
            · skip
              refine a_one 7 rfl rfl kr_ rfl (zaf V23 rfl) (fun s w h => za3 [some 7, some 8] dc_ w h rfl) (fun g1163 => a_one 8 rfl rfl kr_ rfl (zac (i := 6) rfl rfl rfl rfl Z60 rfl rfl) (fun s w h => za3 [some 7, some 8] dc_ w h rfl) (fun _ => za4 9 rfl rfl rfl kr_ (fun _ _ _ h => h) (q_asg rfl) (a_one 10 rfl rfl kr_ rfl (zac (i := 0) rfl rfl rfl rfl Z23 rfl rfl) (fun s w h => za3 [some 7, some 8] dc_ w h rfl) (fun _ => zao kr_ (zaj (l984, g1103, c744, A985, c986, g1163, A1043, c1044) h ⟨rfl, rfl, rfl, trivial⟩ (fun w h => za5 [8, 7, 6, 2, 3, 4, 1, 0, 5] dc_ rfl w h) ?_)))))
              exact of_
            · skip
              refine a_one 4 rfl rfl kr_ rfl (za6 0 Z Try.func55 N55 rfl rfl rfl (fun w P1 hF hB hS hT => impl_digits.calls k a0 (IntKind.i64.wrap (1 * 2 ^ min (a1 : Int).toNat IntKind.i64.bits)) hB hF _ hx983)) (fun s w h => za3 [some 7, some 8] dc_ w h rfl) (cur2 (fun A985 c986 => a_one 8 rfl rfl kr_ rfl (zac (i := 6) rfl rfl rfl rfl Z60 rfl rfl) (fun s w h => za3 [some 7, some 8] dc_ w h rfl) (fun _ => za4 9 rfl rfl rfl kr_ (fun _ _ _ h => h) (q_asg rfl) (a_one 10 rfl rfl kr_ rfl (zac (i := 1) rfl rfl rfl rfl Z23 rfl rfl) (fun s w h => za3 [some 7, some 8] dc_ w h rfl) (fun _ => zao kr_ (zaj (l984, g1103, c744, A985, c986, g1163, A1043, c1044) h ⟨rfl, rfl, rfl, trivial⟩ (fun w h => za5 [8, 7, 6, 2, 3, 4, 0, 1, 5] dc_ rfl w h) ?_))))))
              exact of_
          · skip
            refine a_one 0 rfl rfl kr_ rfl (za6 0 Z Try.func54 N54 rfl rfl rfl (fun w P1 hF hB hS hT => impl_newMaker.calls 1 hB hF hx743)) (fun s w h => za3 [some 6, some 7] dc_ w h rfl) (fun c744 => a_one 4 rfl rfl kr_ rfl (za6 0 Z Try.func55 N55 rfl rfl rfl (fun w P1 hF hB hS hT => impl_digits.calls k a0 (IntKind.i64.wrap (1 * 2 ^ min (a1 : Int).toNat IntKind.i64.bits)) hB hF _ hx983)) (fun s w h => za3 [some 7, some 8] dc_ w h rfl) (cur2 (fun A985 c986 => a_one 8 rfl rfl kr_ rfl (zac (i := 6) rfl rfl rfl rfl Z60 rfl rfl) (fun s w h => za3 [some 7, some 8] dc_ w h rfl) (fun _ => za4 9 rfl rfl rfl kr_ (fun _ _ _ h => h) (q_asg rfl) (a_one 10 rfl rfl kr_ rfl (zac (i := 4) rfl rfl rfl rfl Z23 rfl rfl) (fun s w h => za3 [some 7, some 8] dc_ w h rfl) (fun _ => zao kr_ (zaj (l984, g1103, c744, A985, c986, g1163, A1043, c1044) h ⟨rfl, rfl, rfl, trivial⟩ (fun w h => za5 [8, 7, 6, 1, 2, 3, 0, 4, 5] dc_ rfl w h) ?_)))))))
            exact of_
        · skip
          refine a_two 0 5 rfl rfl rfl rfl kr_ rfl rfl (za6 0 Z Try.func54 N54 rfl rfl rfl (fun w P1 hF hB hS hT => impl_newMaker.calls 1 hB hF hx743)) (fun s w h => za3 [some 5, some 6] dc_ w h rfl) (e_lit (vs := [(0, .int .i64 (-1)), (1, .int .i64 0)]) (cs := [.int .i64 (-1), .int .i64 0]) (Kd.int .i64) ([(-1), 0] : List Int) Try.underlying23 I3 dc_ rfl dc_ rfl rfl (fun _ _ => Kd.zad _)) (fun s w h => za3 [some 3, some 4] dc_ w h rfl) (fun c744 => ?_) (cur2 (fun A1043 c1044 => ?_))
          · skip
            refine a_two 4 5 rfl rfl rfl rfl kr_ rfl rfl (za6 0 Z Try.func55 N55 rfl rfl rfl (fun w P1 hF hB hS hT => impl_digits.calls k a0 (IntKind.i64.wrap (1 * 2 ^ min (a1 : Int).toNat IntKind.i64.bits)) hB hF _ hx983)) (fun s w h => za3 [some 6, some 7] dc_ w h rfl) (e_lit (vs := [(0, .int .i64 (-1)), (1, .int .i64 0)]) (cs := [.int .i64 (-1), .int .i64 0]) (Kd.int .i64) ([(-1), 0] : List Int) Try.underlying23 I3 dc_ rfl dc_ rfl rfl (fun _ _ => Kd.zad _)) (fun s w h => za3 [some 6, some 7] dc_ w h rfl) (cur2 (fun A985 c986 => ?_)) (cur2 (fun A1043 c1044 => ?_))
            · skip
              refine a_two 5 8 rfl rfl rfl rfl kr_ rfl rfl (e_lit (vs := [(0, .int .i64 (-1)), (1, .int .i64 0)]) (cs := [.int .i64 (-1), .int .i64 0]) (Kd.int .i64) ([(-1), 0] : List Int) Try.underlying23 I3 dc_ rfl dc_ rfl rfl (fun _ _ => Kd.zad _)) (fun s w h => za3 [some 7, some 8] dc_ w h rfl) (zac (i := 5) rfl rfl rfl rfl Z60 rfl rfl) (fun s w h => za3 [some 6, some 7] dc_ w h rfl) (cur2 (fun A1043 c1044 => ?_)) (fun _ => ?_)
              · skip
                refine a_one 8 rfl rfl kr_ rfl (zac (i := 6) rfl rfl rfl rfl Z60 rfl rfl) (fun s w h => za3 [some 7, some 8] dc_ w h rfl) (fun _ => za4 9 rfl rfl rfl kr_ (fun _ _ _ h => h) (q_asg rfl) (a_one 10 rfl rfl kr_ rfl (zac (i := 5) rfl rfl rfl rfl Z23 rfl rfl) (fun s w h => za3 [some 7, some 8] dc_ w h rfl) (fun _ => zao kr_ (zaj (l984, g1103, c744, A985, c986, g1163, A1043, c1044) h ⟨rfl, rfl, rfl, trivial⟩ (fun w h => za5 [8, 7, 6, 2, 3, 4, 1, 5, 0] dc_ rfl w h) ?_))))
                exact of_
              · skip
                refine za4 9 rfl rfl rfl kr_ (fun _ _ _ h => h) (q_asg rfl) (a_one 5 rfl rfl kr_ rfl (e_lit (vs := [(0, .int .i64 (-1)), (1, .int .i64 0)]) (cs := [.int .i64 (-1), .int .i64 0]) (Kd.int .i64) ([(-1), 0] : List Int) Try.underlying23 I3 dc_ rfl dc_ rfl rfl (fun _ _ => Kd.zad _)) (fun s w h => za3 [some 7, some 8] dc_ w h rfl) (cur2 (fun A1043 c1044 => a_one 10 rfl rfl kr_ rfl (zac (i := 5) rfl rfl rfl rfl Z23 rfl rfl) (fun s w h => za3 [some 7, some 8] dc_ w h rfl) (fun _ => zao kr_ (zaj (l984, g1103, c744, A985, c986, g1163, A1043, c1044) h ⟨rfl, rfl, rfl, trivial⟩ (fun w h => za5 [8, 7, 6, 2, 3, 4, 1, 5, 0] dc_ rfl w h) ?_)))))
                exact of_
            · skip
              refine a_one 4 rfl rfl kr_ rfl (za6 0 Z Try.func55 N55 rfl rfl rfl (fun w P1 hF hB hS hT => impl_digits.calls k a0 (IntKind.i64.wrap (1 * 2 ^ min (a1 : Int).toNat IntKind.i64.bits)) hB hF _ hx983)) (fun s w h => za3 [some 7, some 8] dc_ w h rfl) (cur2 (fun A985 c986 => a_one 8 rfl rfl kr_ rfl (zac (i := 6) rfl rfl rfl rfl Z60 rfl rfl) (fun s w h => za3 [some 7, some 8] dc_ w h rfl) (fun _ => za4 9 rfl rfl rfl kr_ (fun _ _ _ h => h) (q_asg rfl) (a_one 10 rfl rfl kr_ rfl (zac (i := 5) rfl rfl rfl rfl Z23 rfl rfl) (fun s w h => za3 [some 7, some 8] dc_ w h rfl) (fun _ => zao kr_ (zaj (l984, g1103, c744, A985, c986, g1163, A1043, c1044) h ⟨rfl, rfl, rfl, trivial⟩ (fun w h => za5 [8, 7, 6, 2, 3, 4, 0, 5, 1] dc_ rfl w h) ?_))))))
              exact of_
          · skip
            refine a_one 0 rfl rfl kr_ rfl (za6 0 Z Try.func54 N54 rfl rfl rfl (fun w P1 hF hB hS hT => impl_newMaker.calls 1 hB hF hx743)) (fun s w h => za3 [some 6, some 7] dc_ w h rfl) (fun c744 => a_one 4 rfl rfl kr_ rfl (za6 0 Z Try.func55 N55 rfl rfl rfl (fun w P1 hF hB hS hT => impl_digits.calls k a0 (IntKind.i64.wrap (1 * 2 ^ min (a1 : Int).toNat IntKind.i64.bits)) hB hF _ hx983)) (fun s w h => za3 [some 7, some 8] dc_ w h rfl) (cur2 (fun A985 c986 => a_one 8 rfl rfl kr_ rfl (zac (i := 6) rfl rfl rfl rfl Z60 rfl rfl) (fun s w h => za3 [some 7, some 8] dc_ w h rfl) (fun _ => za4 9 rfl rfl rfl kr_ (fun _ _ _ h => h) (q_asg rfl) (a_one 10 rfl rfl kr_ rfl (zac (i := 5) rfl rfl rfl rfl Z23 rfl rfl) (fun s w h => za3 [some 7, some 8] dc_ w h rfl) (fun _ => zao kr_ (zaj (l984, g1103, c744, A985, c986, g1163, A1043, c1044) h ⟨rfl, rfl, rfl, trivial⟩ (fun w h => za5 [8, 7, 6, 1, 2, 3, 0, 5, 4] dc_ rfl w h) ?_)))))))
            exact of_
      · skip
        refine a_three 0 5 6 rfl rfl rfl rfl rfl rfl kr_ rfl rfl rfl (za6 0 Z Try.func54 N54 rfl rfl rfl (fun w P1 hF hB hS hT => impl_newMaker.calls 1 hB hF hx743)) (fun s w h => za3 [some 4, some 5] dc_ w h rfl) (e_lit (vs := [(0, .int .i64 (-1)), (1, .int .i64 0)]) (cs := [.int .i64 (-1), .int .i64 0]) (Kd.int .i64) ([(-1), 0] : List Int) Try.underlying23 I3 dc_ rfl dc_ rfl rfl (fun _ _ => Kd.zad _)) (fun s w h => za3 [some 2, some 3] dc_ w h rfl) (zaf V60 rfl) (fun s w h => za3 [some 2, some 3] dc_ w h rfl) (fun c744 => ?_) (cur2 (fun A1043 c1044 => ?_)) (fun g1103 => ?_)
        · skip
          refine a_three 4 5 6 rfl rfl rfl rfl rfl rfl kr_ rfl rfl rfl (za6 0 Z Try.func55 N55 rfl rfl rfl (fun w P1 hF hB hS hT => impl_digits.calls k a0 (IntKind.i64.wrap (1 * 2 ^ min (a1 : Int).toNat IntKind.i64.bits)) hB hF _ hx983)) (fun s w h => za3 [some 5, some 6] dc_ w h rfl) (e_lit (vs := [(0, .int .i64 (-1)), (1, .int .i64 0)]) (cs := [.int .i64 (-1), .int .i64 0]) (Kd.int .i64) ([(-1), 0] : List Int) Try.underlying23 I3 dc_ rfl dc_ rfl rfl (fun _ _ => Kd.zad _)) (fun s w h => za3 [some 5, some 6] dc_ w h rfl) (zaf V60 rfl) (fun s w h => za3 [some 5, some 6] dc_ w h rfl) (cur2 (fun A985 c986 => ?_)) (cur2 (fun A1043 c1044 => ?_)) (fun g1103 => ?_)
          · skip
            refine a_two 5 6 rfl rfl rfl rfl kr_ rfl rfl (e_lit (vs := [(0, .int .i64 (-1)), (1, .int .i64 0)]) (cs := [.int .i64 (-1), .int .i64 0]) (Kd.int .i64) ([(-1), 0] : List Int) Try.underlying23 I3 dc_ rfl dc_ rfl rfl (fun _ _ => Kd.zad _)) (fun s w h => za3 [some 6, some 7] dc_ w h rfl) (zaf V60 rfl) (fun s w h => za3 [some 6, some 7] dc_ w h rfl) (cur2 (fun A1043 c1044 => ?_)) (fun g1103 => ?_)
            · skip
              refine a_one 6 rfl rfl kr_ rfl (zaf V60 rfl) (fun s w h => za3 [some 7, some 8] dc_ w h rfl) (fun g1103 => a_one 8 rfl rfl kr_ rfl (zac (i := 0) rfl rfl rfl rfl Z60 rfl rfl) (fun s w h => za3 [some 7, some 8] dc_ w h rfl) (fun _ => za4 9 rfl rfl rfl kr_ (fun _ _ _ h => h) (q_asg rfl) (a_one 10 rfl rfl kr_ rfl (zac (i := 6) rfl rfl rfl rfl Z23 rfl rfl) (fun s w h => za3 [some 7, some 8] dc_ w h rfl) (fun _ => zao kr_ (zaj (l984, g1103, c744, A985, c986, g1163, A1043, c1044) h ⟨rfl, rfl, rfl, trivial⟩ (fun w h => za5 [8, 7, 0, 3, 4, 5, 2, 6, 1] dc_ rfl w h) ?_)))))
              exact of_
            · skip
              refine a_two 5 8 rfl rfl rfl rfl kr_ rfl rfl (e_lit (vs := [(0, .int .i64 (-1)), (1, .int .i64 0)]) (cs := [.int .i64 (-1), .int .i64 0]) (Kd.int .i64) ([(-1), 0] : List Int) Try.underlying23 I3 dc_ rfl dc_ rfl rfl (fun _ _ => Kd.zad _)) (fun s w h => za3 [some 7, some 8] dc_ w h rfl) (zac (i := 0) rfl rfl rfl rfl Z60 rfl rfl) (fun s w h => za3 [some 6, some 7] dc_ w h rfl) (cur2 (fun A1043 c1044 => ?_)) (fun _ => ?_)
              · skip
                refine a_one 8 rfl rfl kr_ rfl (zac (i := 1) rfl rfl rfl rfl Z60 rfl rfl) (fun s w h => za3 [some 7, some 8] dc_ w h rfl) (fun _ => za4 9 rfl rfl rfl kr_ (fun _ _ _ h => h) (q_asg rfl) (a_one 10 rfl rfl kr_ rfl (zac (i := 6) rfl rfl rfl rfl Z23 rfl rfl) (fun s w h => za3 [some 7, some 8] dc_ w h rfl) (fun _ => zao kr_ (zaj (l984, g1103, c744, A985, c986, g1163, A1043, c1044) h ⟨rfl, rfl, rfl, trivial⟩ (fun w h => za5 [8, 7, 1, 3, 4, 5, 2, 6, 0] dc_ rfl w h) ?_))))
                exact of_
              · skip
                refine za4 9 rfl rfl rfl kr_ (fun _ _ _ h => h) (q_asg rfl) (a_one 5 rfl rfl kr_ rfl (e_lit (vs := [(0, .int .i64 (-1)), (1, .int .i64 0)]) (cs := [.int .i64 (-1), .int .i64 0]) (Kd.int .i64) ([(-1), 0] : List Int) Try.underlying23 I3 dc_ rfl dc_ rfl rfl (fun _ _ => Kd.zad _)) (fun s w h => za3 [some 7, some 8] dc_ w h rfl) (cur2 (fun A1043 c1044 => a_one 10 rfl rfl kr_ rfl (zac (i := 6) rfl rfl rfl rfl Z23 rfl rfl) (fun s w h => za3 [some 7, some 8] dc_ w h rfl) (fun _ => zao kr_ (zaj (l984, g1103, c744, A985, c986, g1163, A1043, c1044) h ⟨rfl, rfl, rfl, trivial⟩ (fun w h => za5 [8, 7, 1, 3, 4, 5, 2, 6, 0] dc_ rfl w h) ?_)))))
                exact of_
          · skip
            refine a_two 4 6 rfl rfl rfl rfl kr_ rfl rfl (za6 0 Z Try.func55 N55 rfl rfl rfl (fun w P1 hF hB hS hT => impl_digits.calls k a0 (IntKind.i64.wrap (1 * 2 ^ min (a1 : Int).toNat IntKind.i64.bits)) hB hF _ hx983)) (fun s w h => za3 [some 6, some 7] dc_ w h rfl) (zaf V60 rfl) (fun s w h => za3 [some 6, some 7] dc_ w h rfl) (cur2 (fun A985 c986 => ?_)) (fun g1103 => ?_)
            · skip
              refine a_one 6 rfl rfl kr_ rfl (zaf V60 rfl) (fun s w h => za3 [some 7, some 8] dc_ w h rfl) (fun g1103 => a_one 8 rfl rfl kr_ rfl (zac (i := 0) rfl rfl rfl rfl Z60 rfl rfl) (fun s w h => za3 [some 7, some 8] dc_ w h rfl) (fun _ => za4 9 rfl rfl rfl kr_ (fun _ _ _ h => h) (q_asg rfl) (a_one 10 rfl rfl kr_ rfl (zac (i := 6) rfl rfl rfl rfl Z23 rfl rfl) (fun s w h => za3 [some 7, some 8] dc_ w h rfl) (fun _ => zao kr_ (zaj (l984, g1103, c744, A985, c986, g1163, A1043, c1044) h ⟨rfl, rfl, rfl, trivial⟩ (fun w h => za5 [8, 7, 0, 3, 4, 5, 1, 6, 2] dc_ rfl w h) ?_)))))
              exact of_
            · skip
              refine a_one 4 rfl rfl kr_ rfl (za6 0 Z Try.func55 N55 rfl rfl rfl (fun w P1 hF hB hS hT => impl_digits.calls k a0 (IntKind.i64.wrap (1 * 2 ^ min (a1 : Int).toNat IntKind.i64.bits)) hB hF _ hx983)) (fun s w h => za3 [some 7, some 8] dc_ w h rfl) (cur2 (fun A985 c986 => a_one 8 rfl rfl kr_ rfl (zac (i := 1) rfl rfl rfl rfl Z60 rfl rfl) (fun s w h => za3 [some 7, some 8] dc_ w h rfl) (fun _ => za4 9 rfl rfl rfl kr_ (fun _ _ _ h => h) (q_asg rfl) (a_one 10 rfl rfl kr_ rfl (zac (i := 6) rfl rfl rfl rfl Z23 rfl rfl) (fun s w h => za3 [some 7, some 8] dc_ w h rfl) (fun _ => zao kr_ (zaj (l984, g1103, c744, A985, c986, g1163, A1043, c1044) h ⟨rfl, rfl, rfl, trivial⟩ (fun w h => za5 [8, 7, 1, 3, 4, 5, 0, 6, 2] dc_ rfl w h) ?_))))))
              exact of_
          · skip
            refine a_two 4 5 rfl rfl rfl rfl kr_ rfl rfl (za6 0 Z Try.func55 N55 rfl rfl rfl (fun w P1 hF hB hS hT => impl_digits.calls k a0 (IntKind.i64.wrap (1 * 2 ^ min (a1 : Int).toNat IntKind.i64.bits)) hB hF _ hx983)) (fun s w h => za3 [some 6, some 7] dc_ w h rfl) (e_lit (vs := [(0, .int .i64 (-1)), (1, .int .i64 0)]) (cs := [.int .i64 (-1), .int .i64 0]) (Kd.int .i64) ([(-1), 0] : List Int) Try.underlying23 I3 dc_ rfl dc_ rfl rfl (fun _ _ => Kd.zad _)) (fun s w h => za3 [some 6, some 7] dc_ w h rfl) (cur2 (fun A985 c986 => ?_)) (cur2 (fun A1043 c1044 => ?_))
            · skip
              refine a_two 5 8 rfl rfl rfl rfl kr_ rfl rfl (e_lit (vs := [(0, .int .i64 (-1)), (1, .int .i64 0)]) (cs := [.int .i64 (-1), .int .i64 0]) (Kd.int .i64) ([(-1), 0] : List Int) Try.underlying23 I3 dc_ rfl dc_ rfl rfl (fun _ _ => Kd.zad _)) (fun s w h => za3 [some 7, some 8] dc_ w h rfl) (zac (i := 1) rfl rfl rfl rfl Z60 rfl rfl) (fun s w h => za3 [some 6, some 7] dc_ w h rfl) (cur2 (fun A1043 c1044 => ?_)) (fun _ => ?_)
              · skip
                refine a_one 8 rfl rfl kr_ rfl (zac (i := 2) rfl rfl rfl rfl Z60 rfl rfl) (fun s w h => za3 [some 7, some 8] dc_ w h rfl) (fun _ => za4 9 rfl rfl rfl kr_ (fun _ _ _ h => h) (q_asg rfl) (a_one 10 rfl rfl kr_ rfl (zac (i := 6) rfl rfl rfl rfl Z23 rfl rfl) (fun s w h => za3 [some 7, some 8] dc_ w h rfl) (fun _ => zao kr_ (zaj (l984, g1103, c744, A985, c986, g1163, A1043, c1044) h ⟨rfl, rfl, rfl, trivial⟩ (fun w h => za5 [8, 7, 2, 3, 4, 5, 1, 6, 0] dc_ rfl w h) ?_))))
                exact of_
              · skip
                refine za4 9 rfl rfl rfl kr_ (fun _ _ _ h => h) (q_asg rfl) (a_one 5 rfl rfl kr_ rfl (e_lit (vs := [(0, .int .i64 (-1)), (1, .int .i64 0)]) (cs := [.int .i64 (-1), .int .i64 0]) (Kd.int .i64) ([(-1), 0] : List Int) Try.underlying23 I3 dc_ rfl dc_ rfl rfl (fun _ _ => Kd.zad _)) (fun s w h => za3 [some 7, some 8] dc_ w h rfl) (cur2 (fun A1043 c1044 => a_one 10 rfl rfl kr_ rfl (zac (i := 6) rfl rfl rfl rfl Z23 rfl rfl) (fun s w h => za3 [some 7, some 8] dc_ w h rfl) (fun _ => zao kr_ (zaj (l984, g1103, c744, A985, c986, g1163, A1043, c1044) h ⟨rfl, rfl, rfl, trivial⟩ (fun w h => za5 [8, 7, 2, 3, 4, 5, 1, 6, 0] dc_ rfl w h) ?_)))))
                exact of_
            · skip
              refine a_one 4 rfl rfl kr_ rfl (za6 0 Z Try.func55 N55 rfl rfl rfl (fun w P1 hF hB hS hT => impl_digits.calls k a0 (IntKind.i64.wrap (1 * 2 ^ min (a1 : Int).toNat IntKind.i64.bits)) hB hF _ hx983)) (fun s w h => za3 [some 7, some 8] dc_ w h rfl) (cur2 (fun A985 c986 => a_one 8 rfl rfl kr_ rfl (zac (i := 2) rfl rfl rfl rfl Z60 rfl rfl) (fun s w h => za3 [some 7, some 8] dc_ w h rfl) (fun _ => za4 9 rfl rfl rfl kr_ (fun _ _ _ h => h) (q_asg rfl) (a_one 10 rfl rfl kr_ rfl (zac (i := 6) rfl rfl rfl rfl Z23 rfl rfl) (fun s w h => za3 [some 7, some 8] dc_ w h rfl) (fun _ => zao kr_ (zaj (l984, g1103, c744, A985, c986, g1163, A1043, c1044) h ⟨rfl, rfl, rfl, trivial⟩ (fun w h => za5 [8, 7, 2, 3, 4, 5, 0, 6, 1] dc_ rfl w h) ?_))))))
              exact of_
        · skip
          refine a_two 0 6 rfl rfl rfl rfl kr_ rfl rfl (za6 0 Z Try.func54 N54 rfl rfl rfl (fun w P1 hF hB hS hT => impl_newMaker.calls 1 hB hF hx743)) (fun s w h => za3 [some 5, some 6] dc_ w h rfl) (zaf V60 rfl) (fun s w h => za3 [some 3, some 4] dc_ w h rfl) (fun c744 => ?_) (fun g1103 => ?_)
          · skip
            refine a_two 4 6 rfl rfl rfl rfl kr_ rfl rfl (za6 0 Z Try.func55 N55 rfl rfl rfl (fun w P1 hF hB hS hT => impl_digits.calls k a0 (IntKind.i64.wrap (1 * 2 ^ min (a1 : Int).toNat IntKind.i64.bits)) hB hF _ hx983)) (fun s w h => za3 [some 6, some 7] dc_ w h rfl) (zaf V60 rfl) (fun s w h => za3 [some 6, some 7] dc_ w h rfl) (cur2 (fun A985 c986 => ?_)) (fun g1103 => ?_)
            · skip
              refine a_one 6 rfl rfl kr_ rfl (zaf V60 rfl) (fun s w h => za3 [some 7, some 8] dc_ w h rfl) (fun g1103 => a_one 8 rfl rfl kr_ rfl (zac (i := 0) rfl rfl rfl rfl Z60 rfl rfl) (fun s w h => za3 [some 7, some 8] dc_ w h rfl) (fun _ => za4 9 rfl rfl rfl kr_ (fun _ _ _ h => h) (q_asg rfl) (a_one 10 rfl rfl kr_ rfl (zac (i := 6) rfl rfl rfl rfl Z23 rfl rfl) (fun s w h => za3 [some 7, some 8] dc_ w h rfl) (fun _ => zao kr_ (zaj (l984, g1103, c744, A985, c986, g1163, A1043, c1044) h ⟨rfl, rfl, rfl, trivial⟩ (fun w h => za5 [8, 7, 0, 2, 3, 4, 1, 6, 5] dc_ rfl w h) ?_)))))
              exact of_
            · skip
              refine a_one 4 rfl rfl kr_ rfl (za6 0 Z Try.func55 N55 rfl rfl rfl (fun w P1 hF hB hS hT => impl_digits.calls k a0 (IntKind.i64.wrap (1 * 2 ^ min (a1 : Int).toNat IntKind.i64.bits)) hB hF _ hx983)) (fun s w h => za3 [some 7, some 8] dc_ w h rfl) (cur2 (fun A985 c986 => a_one 8 rfl rfl kr_ rfl (zac (i := 1) rfl rfl rfl rfl Z60 rfl rfl) (fun s w h => za3 [some 7, some 8] dc_ w h rfl) (fun _ => za4 9 rfl rfl rfl kr_ (fun _ _ _ h => h) (q_asg rfl) (a_one 10 rfl rfl kr_ rfl (zac (i := 6) rfl rfl rfl rfl Z23 rfl rfl) (fun s w h => za3 [some 7, some 8] dc_ w h rfl) (fun _ => zao kr_ (zaj (l984, g1103, c744, A985, c986, g1163, A1043, c1044) h ⟨rfl, rfl, rfl, trivial⟩ (fun w h => za5 [8, 7, 1, 2, 3, 4, 0, 6, 5] dc_ rfl w h) ?_))))))
              exact of_
          · skip
            refine a_one 0 rfl rfl kr_ rfl (za6 0 Z Try.func54 N54 rfl rfl rfl (fun w P1 hF hB hS hT => impl_newMaker.calls 1 hB hF hx743)) (fun s w h => za3 [some 6, some 7] dc_ w h rfl) (fun c744 => a_one 4 rfl rfl kr_ rfl (za6 0 Z Try.func55 N55 rfl rfl rfl (fun w P1 hF hB hS hT => impl_digits.calls k a0 (IntKind.i64.wrap (1 * 2 ^ min (a1 : Int).toNat IntKind.i64.bits)) hB hF _ hx983)) (fun s w h => za3 [some 7, some 8] dc_ w h rfl) (cur2 (fun A985 c986 => a_one 8 rfl rfl kr_ rfl (zac (i := 4) rfl rfl rfl rfl Z60 rfl rfl) (fun s w h => za3 [some 7, some 8] dc_ w h rfl) (fun _ => za4 9 rfl rfl rfl kr_ (fun _ _ _ h => h) (q_asg rfl) (a_one 10 rfl rfl kr_ rfl (zac (i := 6) rfl rfl rfl rfl Z23 rfl rfl) (fun s w h => za3 [some 7, some 8] dc_ w h rfl) (fun _ => zao kr_ (zaj (l984, g1103, c744, A985, c986, g1163, A1043, c1044) h ⟨rfl, rfl, rfl, trivial⟩ (fun w h => za5 [8, 7, 4, 1, 2, 3, 0, 6, 5] dc_ rfl w h) ?_)))))))
            exact of_
        · skip
          refine a_two 0 5 rfl rfl rfl rfl kr_ rfl rfl (za6 0 Z Try.func54 N54 rfl rfl rfl (fun w P1 hF hB hS hT => impl_newMaker.calls 1 hB hF hx743)) (fun s w h => za3 [some 5, some 6] dc_ w h rfl) (e_lit (vs := [(0, .int .i64 (-1)), (1, .int .i64 0)]) (cs := [.int .i64 (-1), .int .i64 0]) (Kd.int .i64) ([(-1), 0] : List Int) Try.underlying23 I3 dc_ rfl dc_ rfl rfl (fun _ _ => Kd.zad _)) (fun s w h => za3 [some 3, some 4] dc_ w h rfl) (fun c744 => ?_) (cur2 (fun A1043 c1044 => ?_))
          · skip
            refine a_two 4 5 rfl rfl rfl rfl kr_ rfl rfl (za6 0 Z Try.func55 N55 rfl rfl rfl (fun w P1 hF hB hS hT => impl_digits.calls k a0 (IntKind.i64.wrap (1 * 2 ^ min (a1 : Int).toNat IntKind.i64.bits)) hB hF _ hx983)) (fun s w h => za3 [some 6, some 7] dc_ w h rfl) (e_lit (vs := [(0, .int .i64 (-1)), (1, .int .i64 0)]) (cs := [.int .i64 (-1), .int .i64 0]) (Kd.int .i64) ([(-1), 0] : List Int) Try.underlying23 I3 dc_ rfl dc_ rfl rfl (fun _ _ => Kd.zad _)) (fun s w h => za3 [some 6, some 7] dc_ w h rfl) (cur2 (fun A985 c986 => ?_)) (cur2 (fun A1043 c1044 => ?_))
            · skip
              refine a_two 5 8 rfl rfl rfl rfl kr_ rfl rfl (e_lit (vs := [(0, .int .i64 (-1)), (1, .int .i64 0)]) (cs := [.int .i64 (-1), .int .i64 0]) (Kd.int .i64) ([(-1), 0] : List Int) Try.underlying23 I3 dc_ rfl dc_ rfl rfl (fun _ _ => Kd.zad _)) (fun s w h => za3 [some 7, some 8] dc_ w h rfl) (zac (i := 4) rfl rfl rfl rfl Z60 rfl rfl) (fun s w h => za3 [some 6, some 7] dc_ w h rfl) (cur2 (fun A1043 c1044 => ?_)) (fun _ => ?_)
              · skip
                refine a_one 8 rfl rfl kr_ rfl (zac (i := 5) rfl rfl rfl rfl Z60 rfl rfl) (fun s w h => za3 [some 7, some 8] dc_ w h rfl) (fun _ => za4 9 rfl rfl rfl kr_ (fun _ _ _ h => h) (q_asg rfl) (a_one 10 rfl rfl kr_ rfl (zac (i := 6) rfl rfl rfl rfl Z23 rfl rfl) (fun s w h => za3 [some 7, some 8] dc_ w h rfl) (fun _ => zao kr_ (zaj (l984, g1103, c744, A985, c986, g1163, A1043, c1044) h ⟨rfl, rfl, rfl, trivial⟩ (fun w h => za5 [8, 7, 5, 2, 3, 4, 1, 6, 0] dc_ rfl w h) ?_))))
                exact of_
              · skip
                refine za4 9 rfl rfl rfl kr_ (fun _ _ _ h => h) (q_asg rfl) (a_one 5 rfl rfl kr_ rfl (e_lit (vs := [(0, .int .i64 (-1)), (1, .int .i64 0)]) (cs := [.int .i64 (-1), .int .i64 0]) (Kd.int .i64) ([(-1), 0] : List Int) Try.underlying23 I3 dc_ rfl dc_ rfl rfl (fun _ _ => Kd.zad _)) (fun s w h => za3 [some 7, some 8] dc_ w h rfl) (cur2 (fun A1043 c1044 => a_one 10 rfl rfl kr_ rfl (zac (i := 6) rfl rfl rfl rfl Z23 rfl rfl) (fun s w h => za3 [some 7, some 8] dc_ w h rfl) (fun _ => zao kr_ (zaj (l984, g1103, c744, A985, c986, g1163, A1043, c1044) h ⟨rfl, rfl, rfl, trivial⟩ (fun w h => za5 [8, 7, 5, 2, 3, 4, 1, 6, 0] dc_ rfl w h) ?_)))))
                exact of_
            · skip
              refine a_one 4 rfl rfl kr_ rfl (za6 0 Z Try.func55 N55 rfl rfl rfl (fun w P1 hF hB hS hT => impl_digits.calls k a0 (IntKind.i64.wrap (1 * 2 ^ min (a1 : Int).toNat IntKind.i64.bits)) hB hF _ hx983)) (fun s w h => za3 [some 7, some 8] dc_ w h rfl) (cur2 (fun A985 c986 => a_one 8 rfl rfl kr_ rfl (zac (i := 5) rfl rfl rfl rfl Z60 rfl rfl) (fun s w h => za3 [some 7, some 8] dc_ w h rfl) (fun _ => za4 9 rfl rfl rfl kr_ (fun _ _ _ h => h) (q_asg rfl) (a_one 10 rfl rfl kr_ rfl (zac (i := 6) rfl rfl rfl rfl Z23 rfl rfl) (fun s w h => za3 [some 7, some 8] dc_ w h rfl) (fun _ => zao kr_ (zaj (l984, g1103, c744, A985, c986, g1163, A1043, c1044) h ⟨rfl, rfl, rfl, trivial⟩ (fun w h => za5 [8, 7, 5, 2, 3, 4, 0, 6, 1] dc_ rfl w h) ?_))))))
              exact of_
          · skip
            refine a_one 0 rfl rfl kr_ rfl (za6 0 Z Try.func54 N54 rfl rfl rfl (fun w P1 hF hB hS hT => impl_newMaker.calls 1 hB hF hx743)) (fun s w h => za3 [some 6, some 7] dc_ w h rfl) (fun c744 => a_one 4 rfl rfl kr_ rfl (za6 0 Z Try.func55 N55 rfl rfl rfl (fun w P1 hF hB hS hT => impl_digits.calls k a0 (IntKind.i64.wrap (1 * 2 ^ min (a1 : Int).toNat IntKind.i64.bits)) hB hF _ hx983)) (fun s w h => za3 [some 7, some 8] dc_ w h rfl) (cur2 (fun A985 c986 => a_one 8 rfl rfl kr_ rfl (zac (i := 5) rfl rfl rfl rfl Z60 rfl rfl) (fun s w h => za3 [some 7, some 8] dc_ w h rfl) (fun _ => za4 9 rfl rfl rfl kr_ (fun _ _ _ h => h) (q_asg rfl) (a_one 10 rfl rfl kr_ rfl (zac (i := 6) rfl rfl rfl rfl Z23 rfl rfl) (fun s w h => za3 [some 7, some 8] dc_ w h rfl) (fun _ => zao kr_ (zaj (l984, g1103, c744, A985, c986, g1163, A1043, c1044) h ⟨rfl, rfl, rfl, trivial⟩ (fun w h => za5 [8, 7, 5, 1, 2, 3, 0, 6, 4] dc_ rfl w h) ?_)))))))
            exact of_
    · skip
      refine (cur8 (fun l731 g729 g730 A732 c733 g734 A735 c736 => fun U740 hJ741 => ?_))
      have e_ := si_ hJ741; have h := hR739; rw [← e_] at h; clear e_ hJ741 hR739 hl738
      refine c_seq (zai (za7 h (fun o1476 hl1475 hR1474 => ?_) rfl))
      clear h
      refine zaw (σ := (List SStep) × (List Int) × (Option Addr) × Nat × (Option Addr) × Nat) (fun k1471 ((l1463, l1466, A1464, c1465, A1467, c1468) : (List SStep) × (List Int) × (Option Addr) × Nat × (Option Addr) × Nat) => impl_WindowPlan.l0 k l731 k1471 l1463 l1466 = some o1476) [24, 25, 26, 27, 28, 29, 30, 31, 32, 33, 34, 35, 36, 37, 38, 39] (fun ((l1463, l1466, A1464, c1465, A1467, c1468) : (List SStep) × (List Int) × (Option Addr) × Nat × (Option Addr) × Nat) => []) (fun ((l1463, l1466, A1464, c1465, A1467, c1468) : (List SStep) × (List Int) × (Option Addr) × Nat × (Option Addr) × Nat) => [box g1 3 #[.int .i64 a1], box g3 25 #[.int .i64 0, .slice none 0 0, .slice none 0 0], box g729 60 #[.pointer (some ⟨g730, 0, none⟩)], box g730 94 #[.int .i64 1, .slice A1464 l1463.length c1465, .slice none 0 0], row kStep 107 (.slice A1464 l1463.length c1465) l1463, row (Kd.int .i64) 3 (.slice none 0 0) [], row (Kd.int .i64) 3 (.slice A732 l731.length c733) l731, box g734 23 #[.slice A1467 l1466.length c1468], row (Kd.int .i64) 3 (.slice A1467 l1466.length c1468) l1466]) k ([], ([(-1), 0] : List Int), none, 0, A735, c736) hl1475 trivial (fun w h => h) (natC (cur6 (fun l1463 l1466 A1464 c1465 A1467 c1468 => fun U1477 hJ_ => ?_)) (fun k1471 => (cur6 (fun l1463 l1466 A1464 c1465 A1467 c1468 => fun U1477 hJ_ => ?_))))
      · skip
        replace hJ_ : impl_WindowPlan.l0 k l731 0 l1463 l1466 = some o1476 := hJ_
        rw [impl_WindowPlan.l0] at hJ_
        exact noneE hJ_
      · skip
        clear hl1475
        have h := hJ_; clear hJ_
        replace h : impl_WindowPlan.l0 k l731 (k1471 + 1) l1463 l1466 = some o1476 := h
        rw [impl_WindowPlan.l0] at h
        refine c_seq (c_seq (a_start (ds := []) MO rfl (zau 0 rfl rfl rfl kr_ (fun _ _ _ h => h) (fun w h => h) (q_ldb Y23 rfl (fun w h => h.za9 (i := 7) rfl) rfl) (za4 1 rfl rfl rfl kr_ (fun _ _ _ h => h) (q_len Try.underlying23 rfl) (za4 2 rfl rfl rfl kr_ (fun _ _ _ h => h) (za2 rfl) (za7 h (fun i1480 hx1479 h => ?_) rfl))))))
        refine a_one 3 rfl rfl kr_ rfl (za6 0 Z Try.func56 N56 rfl rfl rfl (fun w P1 hF hB hS hT => slices_Max_int_int.calls k A732 c733 l731.length l731 hB hF (hT 6 _ rfl).row (hT 6 _ rfl).cap _ hx1479)) (fun s w h => h) (fun _ => za4 4 rfl rfl rfl kr_ (fun _ _ _ h => h) (q_leq rfl rfl) (zao kr_ (za1 (zaq _ rfl (fun hb1481 => ?_) (fun hb1481 => ?_)))))
        · skip
          replace h := br_t hb1481 h
          refine zam (za1 (zai (za7 h (fun y1845 hg1844 h => ?_) rfl)))
          refine bindE2 h (fun i1964 l1965 hx1963 h => ?_) rfl
          refine za7 h (fun l2083 ha2084 h => ?_) rfl
          refine a_startS (ds := []) [some 0, some 1, some 2, none, none, some 5, some 6, none, none] MO rfl (zau 1 rfl rfl rfl kr_ (fun _ _ _ h => h) (fun w h => za3 [some 0, some 1, some 2, none, none, some 5, some 6, none, none] dc_ w h rfl) (q_ldb Y60 rfl (fun w h => h.za9 (i := 2) rfl) rfl) (a_three 0 2 3 rfl rfl rfl rfl rfl rfl kr_ rfl rfl rfl (ev_q rfl (q_ldb Y23 rfl (fun w h => h.za9 (i := 7) rfl) rfl)) (fun s w h => za3 [some 0, some 1, some 2, none, none, some 5, some 6, none, none] dc_ w h rfl) (ev_q rfl (q_ldb Y23 rfl (fun w h => h.za9 (i := 7) rfl) rfl)) (fun s w h => za3 [some 0, some 1, some 2, none, none, some 5, some 6, none, none] dc_ w h rfl) (ev_q rfl (q_ldb Y23 rfl (fun w h => h.za9 (i := 7) rfl) rfl)) (fun s w h => za3 [some 0, some 1, some 2, none, none, some 5, some 6, none, none] dc_ w h rfl) (fun _ => ?_) (fun _ => ?_) (fun _ => ?_)))
          · skip
            refine a_two 2 3 rfl rfl rfl rfl kr_ rfl rfl (ev_q rfl (q_ldb Y23 rfl (fun w h => h.za9 (i := 7) rfl) rfl)) (fun s w h => za3 [some 0, some 1, some 2, none, none, some 5, some 6, none, none] dc_ w h rfl) (ev_q rfl (q_ldb Y23 rfl (fun w h => h.za9 (i := 7) rfl) rfl)) (fun s w h => za3 [some 0, some 1, some 2, none, none, some 5, some 6, none, none] dc_ w h rfl) (fun _ => ?_) (fun _ => ?_)
            · skip
              refine a_one 3 rfl rfl kr_ rfl (ev_q rfl (q_ldb Y23 rfl (fun w h => h.za9 (i := 7) rfl) rfl)) (fun s w h => za3 [some 0, some 1, some 2, none, none, some 5, some 6, none, none] dc_ w h rfl) (fun _ => za4 4 rfl rfl rfl kr_ (fun _ _ _ h => h) (q_len Try.underlying23 rfl) (za4 5 rfl rfl rfl kr_ (fun _ _ _ h => h) (zb1 rfl rfl) (a_fact (p := Sh A1467 l1466.length l1466.length) (fun w h => f_sh (dk := (Kd.int .i64)) h (fun w h => h.zar (i := 8) rfl)) (fun hq1843 => za4 6 rfl rfl rfl kr_ (fun _ _ _ h => h) (q_ix Try.underlying23 Z3 rfl rfl hq1843 hg1844) (a_one 7 rfl rfl kr_ rfl (ev_q rfl (q_lde (off := 0) Y3 rfl rfl (fun w h => h.zar (i := 8) rfl) hg1844 (fun _ _ h => h) rfl)) (fun s w h => za3 [some 0, some 1, some 2, none, none, some 5, some 6, none, none] dc_ w h rfl) (fun _ => a_pick [3, 4, 0, 1, 2, 5, 6, 7, 8] dc_ rfl (a_one 8 rfl rfl kr_ rfl (za6 2 Z Try.func57 N57 rfl rfl rfl (fun w P1 hF hB hS hT => impl_maker_multiply.calls g730 1 A1464 c1465 l1463.length l1463 none 0 0 [] y1845 0 hB hF (hT 3 _ rfl).row (hT 3 _ rfl).cap _ _ hx1963)) (fun s w h => za3 [some 2, some 3, some 4, none, none, some 5, some 6, none, none] dc_ w h rfl) (cur2 (fun A1966 c1967 => a_one 9 rfl rfl kr_ rfl (e_lit (vs := [(0, .int .i64 i1964)]) (cs := [.int .i64 i1964]) (Kd.int .i64) ([i1964] : List Int) Try.underlying23 I3 dc_ rfl dc_ rfl rfl (fun _ _ => Kd.zad _)) (fun s w h => za3 [some 3, some 4, some 5, none, none, some 6, some 7, none, none] dc_ w h rfl) (cur2 (fun A2023 c2024 => a_one 10 rfl rfl kr_ rfl (e_app (i := 9) (j := 0) Try.underlying23 I3 rfl dc_ dc_ rfl rfl rfl rfl rfl ha2084) (fun s w h => za3 [some 3, some 4, some 5, none, none, some 6, some 7, none, none] dc_ w h rfl) (cur2 (fun A2085 c2086 => ?_)))))))))))))
              refine a_one 11 rfl rfl kr_ rfl (zac (i := 8) rfl rfl rfl rfl Z23 rfl rfl) (fun s w h => za3 [some 3, some 4, some 5, none, none, some 6, some 7, none, none] dc_ w h rfl) (fun _ => zao kr_ (zak (zan k1471 (l1965, l2083, A1966, c1967, A2085, c2086) (Nat.lt_succ_self _) h trivial (fun w h => za5 [3, 4, 5, 1, 2, 6, 7, 8, 9] dc_ rfl w h) ?_)))
              exact of_
            · skip
              refine za4 4 rfl rfl rfl kr_ (fun _ _ _ h => h) (q_len Try.underlying23 rfl) (za4 5 rfl rfl rfl kr_ (fun _ _ _ h => h) (zb1 rfl rfl) (a_one 2 rfl rfl kr_ rfl (ev_q rfl (q_ldb Y23 rfl (fun w h => h.za9 (i := 7) rfl) rfl)) (fun s w h => za3 [some 0, some 1, some 2, none, none, some 5, some 6, none, none] dc_ w h rfl) (fun _ => a_fact (p := Sh A1467 l1466.length l1466.length) (fun w h => f_sh (dk := (Kd.int .i64)) h (fun w h => h.zar (i := 8) rfl)) (fun hq1843 => za4 6 rfl rfl rfl kr_ (fun _ _ _ h => h) (q_ix Try.underlying23 Z3 rfl rfl hq1843 hg1844) (a_one 7 rfl rfl kr_ rfl (ev_q rfl (q_lde (off := 0) Y3 rfl rfl (fun w h => h.zar (i := 8) rfl) hg1844 (fun _ _ h => h) rfl)) (fun s w h => za3 [some 0, some 1, some 2, none, none, some 5, some 6, none, none] dc_ w h rfl) (fun _ => a_pick [3, 4, 0, 1, 2, 5, 6, 7, 8] dc_ rfl (a_one 8 rfl rfl kr_ rfl (za6 2 Z Try.func57 N57 rfl rfl rfl (fun w P1 hF hB hS hT => impl_maker_multiply.calls g730 1 A1464 c1465 l1463.length l1463 none 0 0 [] y1845 0 hB hF (hT 3 _ rfl).row (hT 3 _ rfl).cap _ _ hx1963)) (fun s w h => za3 [some 2, some 3, some 4, none, none, some 5, some 6, none, none] dc_ w h rfl) (cur2 (fun A1966 c1967 => a_one 9 rfl rfl kr_ rfl (e_lit (vs := [(0, .int .i64 i1964)]) (cs := [.int .i64 i1964]) (Kd.int .i64) ([i1964] : List Int) Try.underlying23 I3 dc_ rfl dc_ rfl rfl (fun _ _ => Kd.zad _)) (fun s w h => za3 [some 3, some 4, some 5, none, none, some 6, some 7, none, none] dc_ w h rfl) (cur2 (fun A2023 c2024 => a_one 10 rfl rfl kr_ rfl (e_app (i := 9) (j := 0) Try.underlying23 I3 rfl dc_ dc_ rfl rfl rfl rfl rfl ha2084) (fun s w h => za3 [some 3, some 4, some 5, none, none, some 6, some 7, none, none] dc_ w h rfl) (cur2 (fun A2085 c2086 => ?_)))))))))))))
              refine a_one 11 rfl rfl kr_ rfl (zac (i := 8) rfl rfl rfl rfl Z23 rfl rfl) (fun s w h => za3 [some 3, some 4, some 5, none, none, some 6, some 7, none, none] dc_ w h rfl) (fun _ => zao kr_ (zak (zan k1471 (l1965, l2083, A1966, c1967, A2085, c2086) (Nat.lt_succ_self _) h trivial (fun w h => za5 [3, 4, 5, 1, 2, 6, 7, 8, 9] dc_ rfl w h) ?_)))
              exact of_
          · skip
            refine a_two 0 3 rfl rfl rfl rfl kr_ rfl rfl (ev_q rfl (q_ldb Y23 rfl (fun w h => h.za9 (i := 7) rfl) rfl)) (fun s w h => za3 [some 0, some 1, some 2, none, none, some 5, some 6, none, none] dc_ w h rfl) (ev_q rfl (q_ldb Y23 rfl (fun w h => h.za9 (i := 7) rfl) rfl)) (fun s w h => za3 [some 0, some 1, some 2, none, none, some 5, some 6, none, none] dc_ w h rfl) (fun _ => ?_) (fun _ => ?_)
            · skip
              refine a_one 3 rfl rfl kr_ rfl (ev_q rfl (q_ldb Y23 rfl (fun w h => h.za9 (i := 7) rfl) rfl)) (fun s w h => za3 [some 0, some 1, some 2, none, none, some 5, some 6, none, none] dc_ w h rfl) (fun _ => za4 4 rfl rfl rfl kr_ (fun _ _ _ h => h) (q_len Try.underlying23 rfl) (za4 5 rfl rfl rfl kr_ (fun _ _ _ h => h) (zb1 rfl rfl) (a_fact (p := Sh A1467 l1466.length l1466.length) (fun w h => f_sh (dk := (Kd.int .i64)) h (fun w h => h.zar (i := 8) rfl)) (fun hq1843 => za4 6 rfl rfl rfl kr_ (fun _ _ _ h => h) (q_ix Try.underlying23 Z3 rfl rfl hq1843 hg1844) (a_one 7 rfl rfl kr_ rfl (ev_q rfl (q_lde (off := 0) Y3 rfl rfl (fun w h => h.zar (i := 8) rfl) hg1844 (fun _ _ h => h) rfl)) (fun s w h => za3 [some 0, some 1, some 2, none, none, some 5, some 6, none, none] dc_ w h rfl) (fun _ => a_pick [3, 4, 0, 1, 2, 5, 6, 7, 8] dc_ rfl (a_one 8 rfl rfl kr_ rfl (za6 2 Z Try.func57 N57 rfl rfl rfl (fun w P1 hF hB hS hT => impl_maker_multiply.calls g730 1 A1464 c1465 l1463.length l1463 none 0 0 [] y1845 0 hB hF (hT 3 _ rfl).row (hT 3 _ rfl).cap _ _ hx1963)) (fun s w h => za3 [some 2, some 3, some 4, none, none, some 5, some 6, none, none] dc_ w h rfl) (cur2 (fun A1966 c1967 => a_one 9 rfl rfl kr_ rfl (e_lit (vs := [(0, .int .i64 i1964)]) (cs := [.int .i64 i1964]) (Kd.int .i64) ([i1964] : List Int) Try.underlying23 I3 dc_ rfl dc_ rfl rfl (fun _ _ => Kd.zad _)) (fun s w h => za3 [some 3, some 4, some 5, none, none, some 6, some 7, none, none] dc_ w h rfl) (cur2 (fun A2023 c2024 => a_one 10 rfl rfl kr_ rfl (e_app (i := 9) (j := 0) Try.underlying23 I3 rfl dc_ dc_ rfl rfl rfl rfl rfl ha2084) (fun s w h => za3 [some 3, some 4, some 5, none, none, some 6, some 7, none, none] dc_ w h rfl) (cur2 (fun A2085 c2086 => ?_)))))))))))))
              refine a_one 11 rfl rfl kr_ rfl (zac (i := 8) rfl rfl rfl rfl Z23 rfl rfl) (fun s w h => za3 [some 3, some 4, some 5, none, none, some 6, some 7, none, none] dc_ w h rfl) (fun _ => zao kr_ (zak (zan k1471 (l1965, l2083, A1966, c1967, A2085, c2086) (Nat.lt_succ_self _) h trivial (fun w h => za5 [3, 4, 5, 1, 2, 6, 7, 8, 9] dc_ rfl w h) ?_)))
              exact of_
            · skip
              refine za4 4 rfl rfl rfl kr_ (fun _ _ _ h => h) (q_len Try.underlying23 rfl) (za4 5 rfl rfl rfl kr_ (fun _ _ _ h => h) (zb1 rfl rfl) (a_fact (p := Sh A1467 l1466.length l1466.length) (fun w h => f_sh (dk := (Kd.int .i64)) h (fun w h => h.zar (i := 8) rfl)) (fun hq1843 => za4 6 rfl rfl rfl kr_ (fun _ _ _ h => h) (q_ix Try.underlying23 Z3 rfl rfl hq1843 hg1844) (a_two 0 7 rfl rfl rfl rfl kr_ rfl rfl (ev_q rfl (q_ldb Y23 rfl (fun w h => h.za9 (i := 7) rfl) rfl)) (fun s w h => za3 [some 0, some 1, some 2, none, none, some 5, some 6, none, none] dc_ w h rfl) (ev_q rfl (q_lde (off := 0) Y3 rfl rfl (fun w h => h.zar (i := 8) rfl) hg1844 (fun _ _ h => h) rfl)) (fun s w h => za3 [some 0, some 1, some 2, none, none, some 5, some 6, none, none] dc_ w h rfl) (fun _ => ?_) (fun _ => ?_)))))
              · skip
                refine a_one 7 rfl rfl kr_ rfl (ev_q rfl (q_lde (off := 0) Y3 rfl rfl (fun w h => h.zar (i := 8) rfl) hg1844 (fun _ _ h => h) rfl)) (fun s w h => za3 [some 0, some 1, some 2, none, none, some 5, some 6, none, none] dc_ w h rfl) (fun _ => a_pick [3, 4, 0, 1, 2, 5, 6, 7, 8] dc_ rfl (a_one 8 rfl rfl kr_ rfl (za6 2 Z Try.func57 N57 rfl rfl rfl (fun w P1 hF hB hS hT => impl_maker_multiply.calls g730 1 A1464 c1465 l1463.length l1463 none 0 0 [] y1845 0 hB hF (hT 3 _ rfl).row (hT 3 _ rfl).cap _ _ hx1963)) (fun s w h => za3 [some 2, some 3, some 4, none, none, some 5, some 6, none, none] dc_ w h rfl) (cur2 (fun A1966 c1967 => a_one 9 rfl rfl kr_ rfl (e_lit (vs := [(0, .int .i64 i1964)]) (cs := [.int .i64 i1964]) (Kd.int .i64) ([i1964] : List Int) Try.underlying23 I3 dc_ rfl dc_ rfl rfl (fun _ _ => Kd.zad _)) (fun s w h => za3 [some 3, some 4, some 5, none, none, some 6, some 7, none, none] dc_ w h rfl) (cur2 (fun A2023 c2024 => a_one 10 rfl rfl kr_ rfl (e_app (i := 9) (j := 0) Try.underlying23 I3 rfl dc_ dc_ rfl rfl rfl rfl rfl ha2084) (fun s w h => za3 [some 3, some 4, some 5, none, none, some 6, some 7, none, none] dc_ w h rfl) (cur2 (fun A2085 c2086 => a_one 11 rfl rfl kr_ rfl (zac (i := 8) rfl rfl rfl rfl Z23 rfl rfl) (fun s w h => za3 [some 3, some 4, some 5, none, none, some 6, some 7, none, none] dc_ w h rfl) (fun _ => zao kr_ (zak (zan k1471 (l1965, l2083, A1966, c1967, A2085, c2086) (Nat.lt_succ_self _) h trivial (fun w h => za5 [3, 4, 5, 1, 2, 6, 7, 8, 9] dc_ rfl w h) ?_)))))))))))
                exact of_
              · skip
                refine a_two 0 8 rfl rfl rfl rfl kr_ rfl rfl (ev_q rfl (q_ldb Y23 rfl (fun w h => h.za9 (i := 7) rfl) rfl)) (fun s w h => za3 [some 0, some 1, some 2, none, none, some 5, some 6, none, none] dc_ w h rfl) (ev_pick [3, 4, 0, 1, 2, 5, 6, 7, 8] dc_ rfl (za6 2 Z Try.func57 N57 rfl rfl rfl (fun w P1 hF hB hS hT => impl_maker_multiply.calls g730 1 A1464 c1465 l1463.length l1463 none 0 0 [] y1845 0 hB hF (hT 3 _ rfl).row (hT 3 _ rfl).cap _ _ hx1963))) (fun s w h => za3 [some 2, some 3, some 4, none, none, some 5, some 6, none, none] dc_ w h rfl) (fun _ => ?_) (cur2 (fun A1966 c1967 => ?_))
                · skip
                  refine a_pick [3, 4, 0, 1, 2, 5, 6, 7, 8] dc_ rfl (a_one 8 rfl rfl kr_ rfl (za6 2 Z Try.func57 N57 rfl rfl rfl (fun w P1 hF hB hS hT => impl_maker_multiply.calls g730 1 A1464 c1465 l1463.length l1463 none 0 0 [] y1845 0 hB hF (hT 3 _ rfl).row (hT 3 _ rfl).cap _ _ hx1963)) (fun s w h => za3 [some 2, some 3, some 4, none, none, some 5, some 6, none, none] dc_ w h rfl) (cur2 (fun A1966 c1967 => a_one 9 rfl rfl kr_ rfl (e_lit (vs := [(0, .int .i64 i1964)]) (cs := [.int .i64 i1964]) (Kd.int .i64) ([i1964] : List Int) Try.underlying23 I3 dc_ rfl dc_ rfl rfl (fun _ _ => Kd.zad _)) (fun s w h => za3 [some 3, some 4, some 5, none, none, some 6, some 7, none, none] dc_ w h rfl) (cur2 (fun A2023 c2024 => a_one 10 rfl rfl kr_ rfl (e_app (i := 9) (j := 0) Try.underlying23 I3 rfl dc_ dc_ rfl rfl rfl rfl rfl ha2084) (fun s w h => za3 [some 3, some 4, some 5, none, none, some 6, some 7, none, none] dc_ w h rfl) (cur2 (fun A2085 c2086 => a_one 11 rfl rfl kr_ rfl (zac (i := 8) rfl rfl rfl rfl Z23 rfl rfl) (fun s w h => za3 [some 3, some 4, some 5, none, none, some 6, some 7, none, none] dc_ w h rfl) (fun _ => zao kr_ (zak (zan k1471 (l1965, l2083, A1966, c1967, A2085, c2086) (Nat.lt_succ_self _) h trivial (fun w h => za5 [3, 4, 5, 1, 2, 6, 7, 8, 9] dc_ rfl w h) ?_))))))))))
                  exact of_
                · skip
                  refine a_two 0 9 rfl rfl rfl rfl kr_ rfl rfl (ev_q rfl (q_ldb Y23 rfl (fun w h => h.za9 (i := 7) rfl) rfl)) (fun s w h => za3 [some 2, some 3, some 4, none, none, some 5, some 6, none, none] dc_ w h rfl) (e_lit (vs := [(0, .int .i64 i1964)]) (cs := [.int .i64 i1964]) (Kd.int .i64) ([i1964] : List Int) Try.underlying23 I3 dc_ rfl dc_ rfl rfl (fun _ _ => Kd.zad _)) (fun s w h => za3 [some 3, some 4, some 5, none, none, some 6, some 7, none, none] dc_ w h rfl) (fun _ => ?_) (cur2 (fun A2023 c2024 => ?_))
                  · skip
                    refine a_one 9 rfl rfl kr_ rfl (e_lit (vs := [(0, .int .i64 i1964)]) (cs := [.int .i64 i1964]) (Kd.int .i64) ([i1964] : List Int) Try.underlying23 I3 dc_ rfl dc_ rfl rfl (fun _ _ => Kd.zad _)) (fun s w h => za3 [some 3, some 4, some 5, none, none, some 6, some 7, none, none] dc_ w h rfl) (cur2 (fun A2023 c2024 => a_one 10 rfl rfl kr_ rfl (e_app (i := 9) (j := 0) Try.underlying23 I3 rfl dc_ dc_ rfl rfl rfl rfl rfl ha2084) (fun s w h => za3 [some 3, some 4, some 5, none, none, some 6, some 7, none, none] dc_ w h rfl) (cur2 (fun A2085 c2086 => a_one 11 rfl rfl kr_ rfl (zac (i := 8) rfl rfl rfl rfl Z23 rfl rfl) (fun s w h => za3 [some 3, some 4, some 5, none, none, some 6, some 7, none, none] dc_ w h rfl) (fun _ => zao kr_ (zak (zan k1471 (l1965, l2083, A1966, c1967, A2085, c2086) (Nat.lt_succ_self _) h trivial (fun w h => za5 [3, 4, 5, 1, 2, 6, 7, 8, 9] dc_ rfl w h) ?_)))))))
                    exact of_
                  · skip
                    refine a_one 0 rfl rfl kr_ rfl (ev_q rfl (q_ldb Y23 rfl (fun w h => h.za9 (i := 8) rfl) rfl)) (fun s w h => za3 [some 3, some 4, some 5, none, none, some 6, some 7, none, none] dc_ w h rfl) (fun _ => a_one 10 rfl rfl kr_ rfl (e_app (i := 9) (j := 0) Try.underlying23 I3 rfl dc_ dc_ rfl rfl rfl rfl rfl ha2084) (fun s w h => za3 [some 3, some 4, some 5, none, none, some 6, some 7, none, none] dc_ w h rfl) (cur2 (fun A2085 c2086 => a_one 11 rfl rfl kr_ rfl (zac (i := 8) rfl rfl rfl rfl Z23 rfl rfl) (fun s w h => za3 [some 3, some 4, some 5, none, none, some 6, some 7, none, none] dc_ w h rfl) (fun _ => zao kr_ (zak (zan k1471 (l1965, l2083, A1966, c1967, A2085, c2086) (Nat.lt_succ_self _) h trivial (fun w h => za5 [3, 4, 5, 1, 2, 6, 7, 8, 9] dc_ rfl w h) ?_))))))
                    exact of_
          · skip
            refine za4 4 rfl rfl rfl kr_ (fun _ _ _ h => h) (q_len Try.underlying23 rfl) (za4 5 rfl rfl rfl kr_ (fun _ _ _ h => h) (zb1 rfl rfl) (a_two 0 2 rfl rfl rfl rfl kr_ rfl rfl (ev_q rfl (q_ldb Y23 rfl (fun w h => h.za9 (i := 7) rfl) rfl)) (fun s w h => za3 [some 0, some 1, some 2, none, none, some 5, some 6, none, none] dc_ w h rfl) (ev_q rfl (q_ldb Y23 rfl (fun w h => h.za9 (i := 7) rfl) rfl)) (fun s w h => za3 [some 0, some 1, some 2, none, none, some 5, some 6, none, none] dc_ w h rfl) (fun _ => ?_) (fun _ => ?_)))
            · skip
              refine a_one 2 rfl rfl kr_ rfl (ev_q rfl (q_ldb Y23 rfl (fun w h => h.za9 (i := 7) rfl) rfl)) (fun s w h => za3 [some 0, some 1, some 2, none, none, some 5, some 6, none, none] dc_ w h rfl) (fun _ => a_fact (p := Sh A1467 l1466.length l1466.length) (fun w h => f_sh (dk := (Kd.int .i64)) h (fun w h => h.zar (i := 8) rfl)) (fun hq1843 => za4 6 rfl rfl rfl kr_ (fun _ _ _ h => h) (q_ix Try.underlying23 Z3 rfl rfl hq1843 hg1844) (a_one 7 rfl rfl kr_ rfl (ev_q rfl (q_lde (off := 0) Y3 rfl rfl (fun w h => h.zar (i := 8) rfl) hg1844 (fun _ _ h => h) rfl)) (fun s w h => za3 [some 0, some 1, some 2, none, none, some 5, some 6, none, none] dc_ w h rfl) (fun _ => a_pick [3, 4, 0, 1, 2, 5, 6, 7, 8] dc_ rfl (a_one 8 rfl rfl kr_ rfl (za6 2 Z Try.func57 N57 rfl rfl rfl (fun w P1 hF hB hS hT => impl_maker_multiply.calls g730 1 A1464 c1465 l1463.length l1463 none 0 0 [] y1845 0 hB hF (hT 3 _ rfl).row (hT 3 _ rfl).cap _ _ hx1963)) (fun s w h => za3 [some 2, some 3, some 4, none, none, some 5, some 6, none, none] dc_ w h rfl) (cur2 (fun A1966 c1967 => a_one 9 rfl rfl kr_ rfl (e_lit (vs := [(0, .int .i64 i1964)]) (cs := [.int .i64 i1964]) (Kd.int .i64) ([i1964] : List Int) Try.underlying23 I3 dc_ rfl dc_ rfl rfl (fun _ _ => Kd.zad _)) (fun s w h => za3 [some 3, some 4, some 5, none, none, some 6, some 7, none, none] dc_ w h rfl) (cur2 (fun A2023 c2024 => a_one 10 rfl rfl kr_ rfl (e_app (i := 9) (j := 0) Try.underlying23 I3 rfl dc_ dc_ rfl rfl rfl rfl rfl ha2084) (fun s w h => za3 [some 3, some 4, some 5, none, none, some 6, some 7, none, none] dc_ w h rfl) (cur2 (fun A2085 c2086 => a_one 11 rfl rfl kr_ rfl (zac (i := 8) rfl rfl rfl rfl Z23 rfl rfl) (fun s w h => za3 [some 3, some 4, some 5, none, none, some 6, some 7, none, none] dc_ w h rfl) (fun _ => zao kr_ ?_))))))))))))
              refine zak (zan k1471 (l1965, l2083, A1966, c1967, A2085, c2086) (Nat.lt_succ_self _) h trivial (fun w h => za5 [3, 4, 5, 1, 2, 6, 7, 8, 9] dc_ rfl w h) ?_)
              exact of_
            · skip
              refine a_fact (p := Sh A1467 l1466.length l1466.length) (fun w h => f_sh (dk := (Kd.int .i64)) h (fun w h => h.zar (i := 8) rfl)) (fun hq1843 => za4 6 rfl rfl rfl kr_ (fun _ _ _ h => h) (q_ix Try.underlying23 Z3 rfl rfl hq1843 hg1844) (a_two 0 7 rfl rfl rfl rfl kr_ rfl rfl (ev_q rfl (q_ldb Y23 rfl (fun w h => h.za9 (i := 7) rfl) rfl)) (fun s w h => za3 [some 0, some 1, some 2, none, none, some 5, some 6, none, none] dc_ w h rfl) (ev_q rfl (q_lde (off := 0) Y3 rfl rfl (fun w h => h.zar (i := 8) rfl) hg1844 (fun _ _ h => h) rfl)) (fun s w h => za3 [some 0, some 1, some 2, none, none, some 5, some 6, none, none] dc_ w h rfl) (fun _ => ?_) (fun _ => ?_)))
              · skip
                refine a_one 7 rfl rfl kr_ rfl (ev_q rfl (q_lde (off := 0) Y3 rfl rfl (fun w h => h.zar (i := 8) rfl) hg1844 (fun _ _ h => h) rfl)) (fun s w h => za3 [some 0, some 1, some 2, none, none, some 5, some 6, none, none] dc_ w h rfl) (fun _ => a_pick [3, 4, 0, 1, 2, 5, 6, 7, 8] dc_ rfl (a_one 8 rfl rfl kr_ rfl (za6 2 Z Try.func57 N57 rfl rfl rfl (fun w P1 hF hB hS hT => impl_maker_multiply.calls g730 1 A1464 c1465 l1463.length l1463 none 0 0 [] y1845 0 hB hF (hT 3 _ rfl).row (hT 3 _ rfl).cap _ _ hx1963)) (fun s w h => za3 [some 2, some 3, some 4, none, none, some 5, some 6, none, none] dc_ w h rfl) (cur2 (fun A1966 c1967 => a_one 9 rfl rfl kr_ rfl (e_lit (vs := [(0, .int .i64 i1964)]) (cs := [.int .i64 i1964]) (Kd.int .i64) ([i1964] : List Int) Try.underlying23 I3 dc_ rfl dc_ rfl rfl (fun _ _ => Kd.zad _)) (fun s w h => za3 [some 3, some 4, some 5, none, none, some 6, some 7, none, none] dc_ w h rfl) (cur2 (fun A2023 c2024 => a_one 10 rfl rfl kr_ rfl (e_app (i := 9) (j := 0) Try.underlying23 I3 rfl dc_ dc_ rfl rfl rfl rfl rfl ha2084) (fun s w h => za3 [some 3, some 4, some 5, none, none, some 6, some 7, none, none] dc_ w h rfl) (cur2 (fun A2085 c2086 => a_one 11 rfl rfl kr_ rfl (zac (i := 8) rfl rfl rfl rfl Z23 rfl rfl) (fun s w h => za3 [some 3, some 4, some 5, none, none, some 6, some 7, none, none] dc_ w h rfl) (fun _ => zao kr_ (zak (zan k1471 (l1965, l2083, A1966, c1967, A2085, c2086) (Nat.lt_succ_self _) h trivial (fun w h => za5 [3, 4, 5, 1, 2, 6, 7, 8, 9] dc_ rfl w h) ?_)))))))))))
                exact of_
              · skip
                refine a_two 0 8 rfl rfl rfl rfl kr_ rfl rfl (ev_q rfl (q_ldb Y23 rfl (fun w h => h.za9 (i := 7) rfl) rfl)) (fun s w h => za3 [some 0, some 1, some 2, none, none, some 5, some 6, none, none] dc_ w h rfl) (ev_pick [3, 4, 0, 1, 2, 5, 6, 7, 8] dc_ rfl (za6 2 Z Try.func57 N57 rfl rfl rfl (fun w P1 hF hB hS hT => impl_maker_multiply.calls g730 1 A1464 c1465 l1463.length l1463 none 0 0 [] y1845 0 hB hF (hT 3 _ rfl).row (hT 3 _ rfl).cap _ _ hx1963))) (fun s w h => za3 [some 2, some 3, some 4, none, none, some 5, some 6, none, none] dc_ w h rfl) (fun _ => ?_) (cur2 (fun A1966 c1967 => ?_))
                · skip
                  refine a_pick [3, 4, 0, 1, 2, 5, 6, 7, 8] dc_ rfl (a_one 8 rfl rfl kr_ rfl (za6 2 Z Try.func57 N57 rfl rfl rfl (fun w P1 hF hB hS hT => impl_maker_multiply.calls g730 1 A1464 c1465 l1463.length l1463 none 0 0 [] y1845 0 hB hF (hT 3 _ rfl).row (hT 3 _ rfl).cap _ _ hx1963)) (fun s w h => za3 [some 2, some 3, some 4, none, none, some 5, some 6, none, none] dc_ w h rfl) (cur2 (fun A1966 c1967 => a_one 9 rfl rfl kr_ rfl (e_lit (vs := [(0, .int .i64 i1964)]) (cs := [.int .i64 i1964]) (Kd.int .i64) ([i1964] : List Int) Try.underlying23 I3 dc_ rfl dc_ rfl rfl (fun _ _ => Kd.zad _)) (fun s w h => za3 [some 3, some 4, some 5, none, none, some 6, some 7, none, none] dc_ w h rfl) (cur2 (fun A2023 c2024 => a_one 10 rfl rfl kr_ rfl (e_app (i := 9) (j := 0) Try.underlying23 I3 rfl dc_ dc_ rfl rfl rfl rfl rfl ha2084) (fun s w h => za3 [some 3, some 4, some 5, none, none, some 6, some 7, none, none] dc_ w h rfl) (cur2 (fun A2085 c2086 => a_one 11 rfl rfl kr_ rfl (zac (i := 8) rfl rfl rfl rfl Z23 rfl rfl) (fun s w h => za3 [some 3, some 4, some 5, none, none, some 6, some 7, none, none] dc_ w h rfl) (fun _ => zao kr_ (zak (zan k1471 (l1965, l2083, A1966, c1967, A2085, c2086) (Nat.lt_succ_self _) h trivial (fun w h => za5 [3, 4, 5, 1, 2, 6, 7, 8, 9] dc_ rfl w h) ?_))))))))))
                  exact of_
                · skip
                  refine a_two 0 9 rfl rfl rfl rfl kr_ rfl rfl (ev_q rfl (q_ldb Y23 rfl (fun w h => h.za9 (i := 7) rfl) rfl)) (fun s w h => za3 [some 2, some 3, some 4, none, none, some 5, some 6, none, none] dc_ w h rfl) (e_lit (vs := [(0, .int .i64 i1964)]) (cs := [.int .i64 i1964]) (Kd.int .i64) ([i1964] : List Int) Try.underlying23 I3 dc_ rfl dc_ rfl rfl (fun _ _ => Kd.zad _)) (fun s w h => za3 [some 3, some 4, some 5, none, none, some 6, some 7, none, none] dc_ w h rfl) (fun _ => ?_) (cur2 (fun A2023 c2024 => ?_))
                  · skip
                    refine a_one 9 rfl rfl kr_ rfl (e_lit (vs := [(0, .int .i64 i1964)]) (cs := [.int .i64 i1964]) (Kd.int .i64) ([i1964] : List Int) Try.underlying23 I3 dc_ rfl dc_ rfl rfl (fun _ _ => Kd.zad _)) (fun s w h => za3 [some 3, some 4, some 5, none, none, some 6, some 7, none, none] dc_ w h rfl) (cur2 (fun A2023 c2024 => a_one 10 rfl rfl kr_ rfl (e_app (i := 9) (j := 0) Try.underlying23 I3 rfl dc_ dc_ rfl rfl rfl rfl rfl ha2084) (fun s w h => za3 [some 3, some 4, some 5, none, none, some 6, some 7, none, none] dc_ w h rfl) (cur2 (fun A2085 c2086 => a_one 11 rfl rfl kr_ rfl (zac (i := 8) rfl rfl rfl rfl Z23 rfl rfl) (fun s w h => za3 [some 3, some 4, some 5, none, none, some 6, some 7, none, none] dc_ w h rfl) (fun _ => zao kr_ (zak (zan k1471 (l1965, l2083, A1966, c1967, A2085, c2086) (Nat.lt_succ_self _) h trivial (fun w h => za5 [3, 4, 5, 1, 2, 6, 7, 8, 9] dc_ rfl w h) ?_)))))))
                    exact of_
                  · skip
                    refine a_one 0 rfl rfl kr_ rfl (ev_q rfl (q_ldb Y23 rfl (fun w h => h.za9 (i := 8) rfl) rfl)) (fun s w h => za3 [some 3, some 4, some 5, none, none, some 6, some 7, none, none] dc_ w h rfl) (fun _ => a_one 10 rfl rfl kr_ rfl (e_app (i := 9) (j := 0) Try.underlying23 I3 rfl dc_ dc_ rfl rfl rfl rfl rfl ha2084) (fun s w h => za3 [some 3, some 4, some 5, none, none, some 6, some 7, none, none] dc_ w h rfl) (cur2 (fun A2085 c2086 => a_one 11 rfl rfl kr_ rfl (zac (i := 8) rfl rfl rfl rfl Z23 rfl rfl) (fun s w h => za3 [some 3, some 4, some 5, none, none, some 6, some 7, none, none] dc_ w h rfl) (fun _ => zao kr_ (zak (zan k1471 (l1965, l2083, A1966, c1967, A2085, c2086) (Nat.lt_succ_self _) h trivial (fun w h => za5 [3, 4, 5, 1, 2, 6, 7, 8, 9] dc_ rfl w h) ?_))))))
                    exact of_
        · skip
          replace h := br_f hb1481 h
          refine zb2 (za8 (za8 ?_))
          have e_ := si_ h; replace h := hR1474; rw [← e_] at h; clear e_
          refine x_hit (za1 (c_seq (a_start (ds := []) MO rfl (zau 0 rfl rfl rfl kr_ (fun _ _ _ h => h) (fun w h => h) (q_ldb Y23 rfl (fun w h => h.za9 (i := 7) rfl) rfl) (za4 1 rfl rfl rfl kr_ (fun _ _ _ h => h) (za2 rfl) (za4 2 rfl rfl rfl kr_ (fun _ _ _ h => h) (za2 rfl) (za4 3 rfl rfl rfl kr_ (fun _ _ _ h => h) (q_len Try.underlying23 rfl) (za4 4 rfl rfl rfl kr_ (fun _ _ _ h => h) (zb1 rfl rfl) (a_fact (p := Sh A732 l731.length l731.length) (fun w h => f_sh (dk := (Kd.int .i64)) h (fun w h => h.zar (i := 6) rfl)) (fun hq2263 => ?_))))))))))
          refine za7 h (fun y2265 hg2264 h => ?_) rfl
          refine za4 5 rfl rfl rfl kr_ (fun _ _ _ h => h) (q_ix Try.underlying23 Z3 rfl rfl hq2263 hg2264) (zau 6 rfl rfl rfl kr_ (fun _ _ _ h => h) (fun w h => h) (q_lde (off := 0) Y3 rfl rfl (fun w h => h.zar (i := 6) rfl) hg2264 (fun _ _ h => h) rfl) (a_fact (p := Sh A1467 l1466.length l1466.length) (fun w h => f_sh (dk := (Kd.int .i64)) h (fun w h => h.zar (i := 8) rfl)) (fun hq2266 => za7 h (fun y2268 hg2267 h => ?_) rfl)))
          refine za4 7 rfl rfl rfl kr_ (fun _ _ _ h => h) (q_ix Try.underlying23 Z3 rfl rfl hq2266 hg2267) (zau 8 rfl rfl rfl kr_ (fun _ _ _ h => h) (fun w h => h) (q_lde (off := 0) Y3 rfl rfl (fun w h => h.zar (i := 8) rfl) hg2267 (fun _ _ h => h) rfl) (a_one 9 rfl rfl kr_ rfl (zaf V3 rfl) (fun s w h => za3 [some 1, some 2, some 3, some 4, some 5, some 6, some 7, some 8, some 9] dc_ w h rfl) (fun g2269 => a_one 10 rfl rfl kr_ rfl (zac (i := 0) rfl rfl rfl rfl Z3 rfl rfl) (fun s w h => za3 [some 1, some 2, some 3, some 4, some 5, some 6, some 7, some 8, some 9] dc_ w h rfl) (fun _ => zao kr_ (za1 (c_seq (c_seq (za0 (o_q rfl rfl (za2 rfl) ?_)))))))))
          refine o_q rfl rfl (za2 rfl) (o_q rfl rfl (q_len Try.underlying23 rfl) (o_q rfl rfl (zb1 rfl rfl) (za7 h (fun l2271 hz2272 h => ?_) rfl)))
          refine zb4 (p := l731.length = l731.length ∧ l731.length ≤ c733) (fun w h => h.row_nc (i := 7) rfl) (fun hk2273 => o_q rfl rfl (q_ctv Try.underlying23 Z3 rfl rfl ⟨_, rfl⟩ hk2273.1 hk2273.2 hz2272) (za7 h (fun _ hx2274 h => ?_) rfl))
          refine o_e rfl (za6 0 Z Try.func58 N58 rfl rfl rfl (fun w P1 hF hB hS hT => bw_int.calls (cutA A732 c733 (0 : Int).toNat 1) (c733 - (0 : Int).toNat) l2271.length l2271 hB hF (stab_cut (dk := (Kd.int .i64)) rfl hz2272 hk2273.2 (hT 7 _ rfl).row) (ct_cap hz2272 hk2273.1 hk2273.2) hx2274)) (fun c2275 => o_end (za1 (zai (bindE2 h (fun l2281 i2282 hrg2280 h => ?_) rfl))))
          intro w_ hw_
          have hw1_ : Fr w0 _ _ ([box g2269 3 #[.int .i64 y2268], box g1 3 #[.int .i64 a1], box g3 25 #[.int .i64 0, .slice none 0 0, .slice none 0 0], box g729 60 #[.pointer (some ⟨g730, 0, none⟩)], box g730 94 #[.int .i64 1, .slice A1464 l1463.length c1465, .slice none 0 0], row kStep 107 (.slice A1464 l1463.length c1465) l1463, row (Kd.int .i64) 3 (.slice none 0 0) [], box g734 23 #[.slice A1467 l1466.length c1468], row (Kd.int .i64) 3 (.slice A1467 l1466.length c1468) l1466] ++ [box c2275 23 #[.slice (cutA A732 c733 (0 : Int).toNat 1) l2271.length (c733 - (0 : Int).toNat)], row (Kd.int .i64) 3 (.slice A732 l731.length c733) l731]) w_ := za5 [1, 2, 3, 4, 5, 6, 7, 9, 10, 0, 8] dc_ rfl w_ hw_
          obtain ⟨P2_, hF2_, hst_, hT_, hc2_, hback_⟩ := hw1_.here Z
          have Z2_ := hF2_.bel
          refine wpIn_any (N := ⟨78, [], none⟩) (n := 3) (wp_rangeE (σ := (List SStep) × Int) (τ := (Option Addr) × Nat) (α := BackT l2271) (fun x => #[Value.int .i64 x.1.1, .int .i64 x.1.2]) (fun _ => rfl) (l1463, y2268) (A1464, c1465) (fun s x => stB (impl_WindowPlan.r1 a1 l1466) s x.1) (fun ((l2276, i2279) : (List SStep) × Int) ((A2277, c2278) : (Option Addr) × Nat) => [box g2269 3 #[.int .i64 i2279], box g1 3 #[.int .i64 a1], box g3 25 #[.int .i64 0, .slice none 0 0, .slice none 0 0], box g729 60 #[.pointer (some ⟨g730, 0, none⟩)], box g730 94 #[.int .i64 1, .slice A2277 l2276.length c2278, .slice none 0 0], row kStep 107 (.slice A2277 l2276.length c2278) l2276, row (Kd.int .i64) 3 (.slice none 0 0) [], box g734 23 #[.slice A1467 l1466.length c1468], row (Kd.int .i64) 3 (.slice A1467 l1466.length c1468) l1466]) (fun x => [(56, .int .i64 x.1.2), (55, .int .i64 x.1.1)]) (fun x => [(11, .int .i64 x.1.2), (56, .int .i64 x.1.2), (55, .int .i64 x.1.1)]) rfl (enters9 Try.func116 N116 rfl) hF2_ (bk_int c2275 (cutA A732 c733 (0 : Int).toNat 1) (c733 - (0 : Int).toNat) l2271 (stab_cut (dk := (Kd.int .i64)) rfl hz2272 hk2273.2 (hT_ 1 _ rfl).row) (Own.box (hT_ 0 _ rfl))) (fun x => act_zip2) ?_ ?_ ?_ ?_)
          · rintro ⟨l2276, i2279⟩ ⟨l2276', i2279'⟩ ⟨A2277, c2278⟩ ⟨A2277', c2278'⟩ W_ h1_ h2_
            have e_ := box_det h1_ h2_ (i := 0) (i' := 0) rfl rfl
            have d_ := congrArg (fun a : Array Value => a.getD 0 (.bool false)) e_
            injection d_ with d1_ d2_; subst d2_
            have e_ := box_det h1_ h2_ (i := 4) (i' := 4) rfl rfl
            have d_ := congrArg (fun a : Array Value => a.getD 1 (.bool false)) e_
            injection d_ with d1_ d2_ d3_
            subst d1_; subst d3_
            have d4_ : l2276 = l2276' := C_det (fun _ x y cs a b => by have e_ := (show cs = _ from a).symm.trans (show cs = _ from b); cases x; cases y; simpa using e_) d2_ (h1_.row_C (i := 5) rfl).1 (h2_.row_C (i := 5) rfl).1; subst d4_
            rfl
          · intro l_ s_ t_ x_ W_ P_ Z_ hst2_
            refine za0 (o_q rfl rfl (q_asg rfl) (o_end ?_))
            intro w3_ hw3_
            exact ⟨rfl, hw3_⟩
          · intro l_ pre_ x_ t_ W_ P_ Z_ hst2_ hlen_ s_ hs_ s2_ hs2_
            obtain ⟨z_, h, hz_⟩ := rng_round hrg2280 pre_ x_ hlen_
            rw [← hs_] at h hz_
            obtain rfl : z_ = s2_ := hz_.symm.trans hs2_
            clear hs_ hs2_ hz_ hlen_ pre_ hrg2280
            obtain ⟨⟨ix_, y_⟩, hx_⟩ := x_
            obtain ⟨A2277, c2278⟩ := t_
            obtain ⟨l2276, i2279⟩ := s_; obtain ⟨l2276_, i2279_⟩ := z_
            have Z := Z_
            replace h : ((impl_maker_squared.f 1 l2276 [] i2279 a1).bind fun (i2284, l2285) => if 0 < y_ then ((gt l1466 y_).bind fun y2291 => (impl_maker_multiply.f 1 l2285 [] i2284 y2291).bind fun (i2293, l2294) => some (l2294, i2293)) else (some (l2285, i2284))) = some (l2276_, i2279_) := h
            refine zai (c_seq (za0 (o_q rfl rfl (q_ldb Y60 rfl (fun w h => h.za9 (i := 3) rfl) rfl) (o_q rfl rfl (q_ldb Y3 rfl (fun w h => h.za9 (i := 0) rfl) rfl) (o_q rfl rfl (q_ldb Y3 rfl (fun w h => h.za9 (i := 1) rfl) rfl) (o_pick [4, 5, 0, 1, 2, 3, 6, 7, 8] dc_ rfl (bindE2 h (fun i2284 l2285 hx2283 h => ?_) rfl)))))))
            refine o_e rfl (za6 2 Z Try.func59 N59 rfl rfl rfl (fun w P1 hF hB hS hT => impl_maker_squared.calls g730 1 A2277 c2278 l2276.length l2276 none 0 0 [] i2279 a1 hB hF (hT 4 _ rfl).row (hT 4 _ rfl).cap _ _ hx2283)) (cur2 (fun A2286 c2287 => o_e rfl (zac (i := 2) rfl rfl rfl rfl Z3 rfl rfl) (fun _ => o_end (za1 (c_seq (za0 (o_q rfl rfl (za2 rfl) (o_q rfl rfl (q_gtr rfl rfl) (o_end (za1 ?_))))))))))
            refine zaq _ rfl (fun hb2288 => ?_) (fun hb2288 => ?_)
            · skip
              replace h := br_t hb2288 h
              refine a_startS (ds := []) [none, none, none, some 3, some 4, some 5, some 6, some 7, some 8] MO rfl (zau 0 rfl rfl rfl kr_ (fun _ _ _ h => h) (fun w h => za3 [none, none, none, some 3, some 4, some 5, some 6, some 7, some 8] dc_ w h rfl) (q_ldb Y60 rfl (fun w h => h.za9 (i := 5) rfl) rfl) (zau 2 rfl rfl rfl kr_ (fun _ _ _ h => h) (fun w h => za3 [none, none, none, some 3, some 4, some 5, some 6, some 7, some 8] dc_ w h rfl) (q_ldb Y23 rfl (fun w h => h.za9 (i := 7) rfl) rfl) (za4 3 rfl rfl rfl kr_ (fun _ _ _ h => h) (za2 rfl) (a_fact (p := Sh A1467 l1466.length l1466.length) (fun w h => f_sh (dk := (Kd.int .i64)) h (fun w h => h.zar (i := 8) rfl)) (fun hq2289 => za7 h (fun y2291 hg2290 h => ?_) rfl)))))
              refine za4 4 rfl rfl rfl kr_ (fun _ _ _ h => h) (q_ix Try.underlying23 Z3 rfl rfl hq2289 hg2290) (zau 5 rfl rfl rfl kr_ (fun _ _ _ h => h) (fun w h => za3 [none, none, none, some 3, some 4, some 5, some 6, some 7, some 8] dc_ w h rfl) (q_lde (off := 0) Y3 rfl rfl (fun w h => h.zar (i := 8) rfl) hg2290 (fun _ _ h => h) rfl) (a_one 1 rfl rfl kr_ rfl (ev_q rfl (q_ldb Y3 rfl (fun w h => h.za9 (i := 2) rfl) rfl)) (fun s w h => za3 [none, none, none, some 3, some 4, some 5, some 6, some 7, some 8] dc_ w h rfl) (fun _ => bindE2 h (fun i2293 l2294 hx2292 h => ?_) rfl)))
              refine a_one 6 rfl rfl kr_ rfl (za6 2 Z Try.func57 N57 rfl rfl rfl (fun w P1 hF hB hS hT => impl_maker_multiply.calls g730 1 A2286 c2287 l2285.length l2285 none 0 0 [] i2284 y2291 hB hF (hT 4 _ rfl).row (hT 4 _ rfl).cap _ _ hx2292)) (fun s w h => za3 [none, none, none, some 3, some 4, some 5, some 6, some 7, some 8] dc_ w h rfl) (cur2 (fun A2295 c2296 => a_one 7 rfl rfl kr_ rfl (zac (i := 2) rfl rfl rfl rfl Z3 rfl rfl) (fun s w h => za3 [none, none, none, some 3, some 4, some 5, some 6, some 7, some 8] dc_ w h rfl) (fun _ => zao kr_ (zak ?_))))
              have e0_ := si_ h; clear h
              obtain ⟨rfl, e1_⟩ := Prod.mk.inj e0_
              subst e1_
              intro w3_ hw3_
              exact ⟨(A2295, c2296), (fun w h => za5 [2, 3, 4, 5, 0, 1, 6, 7, 8] dc_ rfl w h) w3_ hw3_⟩
            · skip
              replace h := br_f hb2288 h
              refine zam (zak ?_)
              have e0_ := si_ h; clear h
              obtain ⟨rfl, e1_⟩ := Prod.mk.inj e0_
              subst e1_
              intro w3_ hw3_
              exact ⟨(A2286, c2287), (fun w h => za5 [2, 3, 4, 5, 0, 1, 6, 7, 8] dc_ rfl w h) w3_ hw3_⟩
          · intro D_ xs_ W_ t_ s_ hs_ hD_ hS_ hFW_ hdf_
            obtain rfl : s_ = (l2281, i2282) := hs_.trans (rng_done hrg2280 hS_)
            clear hs_ hS_
            obtain ⟨A2277o, c2278o⟩ := t_
            obtain ⟨P4_, hF4_, hst4_, _, hc4_, hback4_⟩ := (show Fr w0 w_ P2_ ([box g2269 3 #[.int .i64 i2282], box g1 3 #[.int .i64 a1], box g3 25 #[.int .i64 0, .slice none 0 0, .slice none 0 0], box g729 60 #[.pointer (some ⟨g730, 0, none⟩)], box g730 94 #[.int .i64 1, .slice A2277o l2281.length c2278o, .slice none 0 0], row kStep 107 (.slice A2277o l2281.length c2278o) l2281, row (Kd.int .i64) 3 (.slice none 0 0) [], box g734 23 #[.slice A1467 l1466.length c1468], row (Kd.int .i64) 3 (.slice A1467 l1466.length c1468) l1466] ++ []) W_ from hFW_).here Z2_
            have hmk_ := mark_stab hc4_ hdf_
            have hws_ : ws.heap.size ≤ D_ := Nat.le_trans (hw_.keptB Z).kept.1 hD_
            have hbk_ : ∀ (Ts : List (Thing w0.heap.size)) w, Fr w0 W_ P4_ Ts w → Fr w0 ws P0 Ts w := fun Ts w h => hback_ _ _ (hback4_ _ _ h)
            refine (show X ⟨78, [{ target := .collected D_, args := #[] }], none⟩ w0 W_ P4_ .normal _ _ _ from ?_) W_ hF4_
            have Zo_ := Z; have Z := hF4_.bel
            refine zak (za1 (c_seq (za0 (o_q rfl rfl (q_ldb Y60 rfl (fun w h => h.za9 (i := 3) rfl) rfl) (o_q rfl rfl (q_ldb Y3 rfl (fun w h => h.za9 (i := 0) rfl) rfl) (o_e rfl (e_lit (vs := [(0, .int .i64 i2282)]) (cs := [.int .i64 i2282]) (Kd.int .i64) ([i2282] : List Int) Try.underlying23 I3 dc_ rfl dc_ rfl rfl (fun _ _ => Kd.zad _)) (cur2 (fun A2297 c2298 => o_pick [5, 6, 0, 1, 2, 3, 4, 7, 8, 9] dc_ rfl (za7 h (fun _ hx2300 h => ?_) rfl)))))))))
            refine o_e rfl (za6 3 Z Try.func60 N60 rfl rfl rfl (fun w P1 hF hB hS hT => impl_maker_plan.calls g730 1 A2277o c2278o l2281.length l2281 none 0 0 [] A2297 c2298 (([i2282] : List Int).length) ([i2282] : List Int) hB hF (hT 4 _ rfl).row (hT 4 _ rfl).cap hx2300)) (fun _ => o_e rfl (zaf V25 rfl) (fun g2301 => o_e rfl (zah (i := 0) rfl rfl rfl Z25 rfl rfl) (fun _ => o_end (za1 (c_seq (za0 (bindE2 h (fun l2304 l2305 hx2303 h => ?_) rfl)))))))
            refine o_e rfl (za6 0 Z Try.func62 N62 rfl rfl rfl (fun w P1 hF hB hS hT => impl_Plan_trimmed.calls g2301 1 A2277o c2278o l2281.length l2281 A2297 c2298 (([i2282] : List Int).length) ([i2282] : List Int) hB hF (hT 1 _ rfl).row (hT 1 _ rfl).cap (hT 2 _ rfl).row (hT 2 _ rfl).cap (hT 0 _ rfl).box _ _ hx2303)) (cur4 (fun A2306 c2307 A2308 c2309 => bindE4 h (fun i2311 l2312 l2313 b2314 hx2310 h => ?_) rfl))
            refine o_e rfl (za6 2 Z Try.func61 N61 rfl rfl rfl (fun w P1 hF hB hS hT => impl_told.calls k 1 A2306 c2307 l2304.length l2304 A2308 c2309 l2305.length l2305 hB hF _ _ _ _ hx2310)) (cur4 (fun A2315 c2316 A2317 c2318 => o_q rfl rfl (q_ext rfl rfl) (o_q rfl rfl (q_ext rfl rfl) (o_e rfl (zah (i := 8) rfl rfl rfl Z25 rfl rfl) (fun _ => o_q rfl rfl (q_asg rfl) (o_end (za1 (c_ret ?_))))))))
            have e0_ := si_ h; clear h
            obtain ⟨rfl, e1_⟩ := Prod.mk.inj e0_
            obtain ⟨rfl, e2_⟩ := Prod.mk.inj e1_
            obtain ⟨rfl, e3_⟩ := Prod.mk.inj e2_
            subst e3_
            refine x_mark (D := D_) Zo_ hws_ hmk_ Z hbk_ ?_
            exact x_r2 (A2315, c2316, A2317, c2318) Try.results11 (zb5 rfl G25 Z25 (fun w h => h.za9 (i := 8) rfl) rfl) (zal rfl) rfl (fun w h => za5 [0, 1] dc_ rfl w h)

end Go.Proofs.Ytiaohjciddbpoaa.H9
