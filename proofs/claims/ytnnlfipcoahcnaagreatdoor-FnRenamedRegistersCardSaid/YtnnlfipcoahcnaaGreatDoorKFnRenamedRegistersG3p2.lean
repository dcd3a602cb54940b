import Derived.Test.YtnnlfipcoahcnaaGreatDoorKFnRenamedRegistersG3p1
namespace Go.Proofs.YtnnlfipcoahcnaaGreatDoor.G3
set_option maxHeartbeats 8000000
set_option maxRecDepth 100000
open Go.RowKit Go.Proofs.YtnnlfipcoahcnaaGreatDoor.Frame Go.Proofs.YtnnlfipcoahcnaaGreatDoorW.PrintLast Go.Proofs.YtnnlfipcoahcnaaGreatDoor.Hand
open Go.Proofs.YtnnlfipcoahcnaaGreatDoorW.PrintWords hiding mn mx
set_option linter.unusedVariables false
def spec_l1In.f (a0 : Int) (a1 : Int) (a2 : Int) : Option Bool := if a1 ≤ a0 then (some (decide (a0 ≤ a2))) else (some false)
theorem spec_l1In.calls {w0 ws : World} {P0 : Nat → Prop} (a0 : Int) (a1 : Int) (a2 : Int) (Z : Below w0.heap.size w0 ws) (hF : Fr w0 ws P0 [] ws)  (r_1 : Bool) (h : spec_l1In.f a0 a1 a2 = some r_1) :
  Calls Tryz.prog 84 #[.int .i64 a0, .int .i64 a1, .int .i64 a2] ws (Post1 w0 ws P0 (fun (_ : Unit) => .bool r_1) (fun (_ : Unit) => [])) := by
 unfold spec_l1In.f at h
 refine enter Tryz.func84 rfl Tryz.ntmps84 rfl hF (c_seq (za0 (o_q rfl rfl (q_asg rfl) (o_end (za1 (c_seq (za0 (o_q rfl rfl (za3 rfl) (o_q rfl rfl (za3 rfl) ?_)))))))))
 refine o_q rfl rfl (q_geq rfl rfl) (o_q rfl rfl (za3 rfl) (byB (decide (a1 ≤ a0)) (fun hb1 => ?_) (fun hb1 => ?_)))
 ·replace h := br_t hb1 h
  refine o_w (za4 rfl rfl rfl (vb_ hb1)) rfl (za3 rfl) (o_w (za4 rfl rfl rfl (vb_ hb1)) rfl (za3 rfl) (o_w (za4 rfl rfl rfl (vb_ hb1)) rfl (q_leq rfl rfl) (o_q rfl rfl (zai true (vb_ hb1) rfl) (o_q rfl rfl (q_asg rfl) (o_end (za1 (c_ret ?_)))))))
  have e0_ := si_ h; clear h
  subst e0_
  exact x_r1 () Tryz.results84 (zad rfl) rfl (fun w h => za8 [] dc_ rfl w h)
 ·replace h := br_f hb1 h
  refine o_n (d := 11) (za2 rfl rfl rfl (vb_ hb1) rfl) (Eq.refl (some 11)) (o_n (d := 12) (za2 rfl rfl rfl (vb_ hb1) rfl) (Eq.refl (some 12)) (o_n (d := 13) (za2 rfl rfl rfl (vb_ hb1) rfl) (Eq.refl (some 13)) (o_q rfl rfl (zai false (vb_ hb1) rfl) (o_q rfl rfl (q_asg rfl) (o_end (za1 (c_ret ?_)))))))
  have e0_ := si_ h; clear h
  subst e0_
  exact x_r1 () Tryz.results84 (zad rfl) rfl (fun w h => za8 [] dc_ rfl w h)

def spec_plSum.l0 (l1 : List Int) : (List Int) → (List Int) → Int → Option (List Int)
 | [], l3, i6 => some l3
 | y7 :: ys8, l3, i6 => (gt l1 i6).bind fun y20 => (spec_l1Least.f (w64 (y7 + y20)) 1000001).bind fun i22 => (ap l3 ([i22] : List Int)).bind fun l26 => spec_plSum.l0 l1 ys8 l26 (i6 + 1)
def spec_plSum.f (l0 : List Int) (l1 : List Int) : Option (List Int) := (spec_plSum.l0 l1 l0 ([] : List Int) 0).bind fun l3 => some l3
theorem spec_plSum.calls {w0 ws : World} {P0 : Nat → Prop} (A0 : Option Addr) (c0 : Nat) (n0 : Nat) (l0 : List Int) (A1 : Option Addr) (c1 : Nat) (n1 : Nat) (l1 : List Int) (Z : Below w0.heap.size w0 ws) (hF : Fr w0 ws P0 [] ws) (R0 : Stable ws P0 (fun w => Kd.C (Kd.int .i64) w A0 n0 l0)) (hc0 : n0 ≤ c0) (R1 : Stable ws P0 (fun w => Kd.C (Kd.int .i64) w A1 n1 l1)) (hc1 : n1 ≤ c1) (r_1 : List Int) (h : spec_plSum.f l0 l1 = some r_1) :
  Calls Tryz.prog 115 #[.slice A0 n0 c0, .slice A1 n1 c1] ws (Post1 w0 ws P0 (fun ((q_2, q_3) : (Option Addr) × Nat) => .slice q_2 r_1.length q_3) (fun ((q_2, q_3) : (Option Addr) × Nat) => [row (Kd.int .i64) 3 (.slice q_2 r_1.length q_3) r_1])) := by
 unfold spec_plSum.f at h
 obtain rfl := (R0 ws (KeptB.refl _ _)).1
 obtain rfl := (R1 ws (KeptB.refl _ _)).1
 refine enter Tryz.func115 rfl Tryz.ntmps115 rfl hF (c_seq (za0 (o_q rfl rfl (q_asg rfl) (o_end (za1 (c_seq (za0 (o_q rfl rfl (q_asg rfl) (o_end ?_)))))))))
 refine za1 (c_seq (c_seq (za0 (o_q rfl rfl (za3 rfl) (o_q rfl rfl (q_len Tryz.underlying25 rfl) (o_q rfl rfl (za3 rfl) (o_end (za1 (zah ?_)))))))))
 refine c_nil (Kd.int .i64) 3 (za6 h (fun o14 hl13 hR12 => ?_) rfl)
 clear h
 refine c_fact (p := l0.length ≤ 9223372036854775807) (fun w h => (R0.now Z h).2.1) (fun hm11 => zax (σ := (List Int) × (List Int) × Int × (Option Addr) × Nat) (fun k9 ((ys8, l3, i6, A4, c5) : (List Int) × (List Int) × Int × (Option Addr) × Nat) => Rg l0 i6 ys8 ∧ ys8.length = k9 ∧ spec_plSum.l0 l1 ys8 l3 i6 = some o14) [5, 6, 9, 10, 11, 12, 13, 14, 15, 16, 17, 18, 19, 20, 21, 22, 23, 24, 25] (fun ((ys8, l3, i6, A4, c5) : (List Int) × (List Int) × Int × (Option Addr) × Nat) => [(5, .slice A4 l3.length c5), (9, .int .i64 i6)]) (fun ((ys8, l3, i6, A4, c5) : (List Int) × (List Int) × Int × (Option Addr) × Nat) => [row (Kd.int .i64) 3 (.slice A4 l3.length c5) l3]) l0.length (l0, ([] : List Int), 0, none, 0) ⟨Rg.start _, rfl, hl13⟩ ⟨rfl, rfl, trivial⟩ (fun w h => h) (fun k9 => cur5 (listC (fun l3 i6 A4 c5 U15 hJ_ => ?_) (fun y7 ys8 l3 i6 A4 c5 U15 hJ_ => ?_))))
 ·skip
  clear hl13
  have hr10 := hJ_.1; have hk16 := hJ_.2.1; have h := hJ_.2.2; clear hJ_
  replace h : spec_plSum.l0 l1 [] l3 i6 = some o14 := h
  rw [spec_plSum.l0] at h
  refine c_seq (za0 (o_q rfl rfl (q_lss rfl rfl) (o_end (za1 (c_seq (zb1 (vb_ hr10.ge) (zb2 (zab (zab ?_)))))))))
  have e_ := si_ h; replace h := hR12; rw [← e_] at h; clear e_
  refine x_hit (za1 (c_seq (za0 (o_q rfl rfl (za3 rfl) (o_q rfl rfl (q_asg rfl) (o_end (za1 (c_ret ?_))))))))
  have e0_ := si_ h; clear h
  subst e0_
  exact x_r1 (A4, c5) Tryz.results115 (zad rfl) rfl (fun w h => za8 [0] dc_ rfl w h)
 ·skip
  clear hl13
  have hr10 := hJ_.1; have hk16 := hJ_.2.1; have h := hJ_.2.2; clear hJ_
  replace h : spec_plSum.l0 l1 (y7 :: ys8) l3 i6 = some o14 := h
  rw [spec_plSum.l0] at h
  refine c_seq (za0 (o_q rfl rfl (q_lss rfl rfl) (o_end (za1 (c_seq (zay (vb_ hr10.lt) (zal (za1 (c_seq ?_)))))))))
  refine zah (c_seq (za0 (o_q rfl rfl (za3 rfl) (o_q rfl rfl (q_asg rfl) (o_end (za1 (a_startS (ds := []) [none] MO rfl (zaa 0 rfl rfl rfl kr_ (fun _ _ _ h => h) (za3 rfl) (zaa 1 rfl rfl rfl kr_ (fun _ _ _ h => h) (za3 rfl) ?_)))))))))
  refine zaa 2 rfl rfl rfl kr_ (fun _ _ _ h => h) (za3 rfl) (a_fact (p := Sh A0 l0.length l0.length) (fun w h => f_sh (dk := (Kd.int .i64)) h (fun w h => R0.now Z h)) (fun hq17 => zaa 3 rfl rfl rfl kr_ (fun _ _ _ h => h) (q_ix Tryz.underlying25 Z3 rfl rfl hq17 hr10.get) (zau 4 rfl rfl rfl kr_ (fun _ _ _ h => h) (fun w h => za5 [none] dc_ w h rfl) (q_lde (off := 0) Y3 rfl rfl (fun w h => R0.now Z h) hr10.get (fun _ _ h => h) rfl) (zaa 5 rfl rfl rfl kr_ (fun _ _ _ h => h) (za3 rfl) (zaa 6 rfl rfl rfl kr_ (fun _ _ _ h => h) (za3 rfl) (a_fact (p := Sh A1 l1.length l1.length) (fun w h => f_sh (dk := (Kd.int .i64)) h (fun w h => R1.now Z h)) (fun hq18 => za6 h (fun y20 hg19 h => ?_) rfl)))))))
  refine zaa 7 rfl rfl rfl kr_ (fun _ _ _ h => h) (q_ix Tryz.underlying25 Z3 rfl rfl hq18 hg19) (zau 8 rfl rfl rfl kr_ (fun _ _ _ h => h) (fun w h => za5 [none] dc_ w h rfl) (q_lde (off := 0) Y3 rfl rfl (fun w h => R1.now Z h) hg19 (fun _ _ h => h) rfl) (zaa 9 rfl rfl rfl kr_ (fun _ _ _ h => h) (zb5 rfl rfl) (za6 h (fun i22 hx21 h => ?_) rfl)))
  refine a_one 10 rfl rfl kr_ rfl (za7 0 Z Tryz.func68 N68 rfl rfl rfl (fun w P1 hF hB hS hT => spec_l1Least.calls (w64 (y7 + y20)) 1000001 hB hF _ hx21)) (fun s w h => za5 [none] dc_ w h rfl) (fun _ => a_one 11 rfl rfl kr_ rfl (e_lit (vs := [(0, .int .i64 i22)]) (cs := [.int .i64 i22]) (Kd.int .i64) ([i22] : List Int) Tryz.underlying25 I3 dc_ rfl dc_ rfl rfl (fun _ _ => Kd.zaf _)) (fun s w h => za5 [none] dc_ w h rfl) (cur2 (fun A23 c24 => za6 h (fun l26 ha27 h => ?_) rfl)))
  refine a_one 12 rfl rfl kr_ rfl (e_app (i := 1) (j := 0) Tryz.underlying25 I3 rfl dc_ dc_ rfl rfl rfl rfl rfl ha27) (fun s w h => za5 [none] dc_ w h rfl) (cur2 (fun A28 c29 => zaa 13 rfl rfl rfl kr_ (fun _ _ _ h => h) (q_asg rfl) (zar kr_ (zak (za1 (za0 (o_q rfl rfl (q_up rfl rfl (hr10.up hm11)) (o_q rfl rfl (za3 rfl) (o_end (zaj ys8.length (ys8, l26, i6 + 1, A28, c29) (by rw [← hk16]; exact Nat.lt_succ_self _) ⟨hr10.step, rfl, h⟩ ⟨rfl, rfl, trivial⟩ (fun w h => za8 [1] dc_ rfl w h) ?_))))))))))
  exact of_

def spec_plExponents.l1 : (List SStep) → (List (List Int)) → Int → Option (List (List Int))
 | [], l39, i43 => some l39
 | y44 :: ys45, l39, i43 => (gt l39 y44.f0).bind fun y300 => (gt l39 y44.f1).bind fun y599 => (spec_plSum.f y300 y599).bind fun l719 => (ap l39 ([l719] : List (List Int))).bind fun l838 => spec_plExponents.l1 ys45 l838 (i43 + 1)
def spec_plExponents.l0 (a0_0 : Int) : Nat → (List (List Int)) → Int → Option (List (List Int))
 | 0, _, _ => none
 | k11 + 1, l4, i8 => if i8 < a0_0 then ((mk0 a0_0 (0 : Int)).bind fun l20 => (gt l20 i8).bind fun y27 => (st l20 i8 1).bind fun l28 => (ap l4 ([l28] : List (List Int))).bind fun l34 => spec_plExponents.l0 a0_0 k11 l34 (w64 (i8 + 1))) else (some l4)
def spec_plExponents.f (k : Nat) (a0_0 : Int) (l0_1 : List SStep) (l0_2 : List Int) : Option (List (List Int)) := (spec_plExponents.l0 a0_0 k ([] : List (List Int)) 0).bind fun l4 => (spec_plExponents.l1 l0_1 l4 0).bind fun l39 => some l39
theorem spec_plExponents.calls (k : Nat) {w0 ws : World} {P0 : Nat → Prop} (a0_0 : Int) (A0_1 : Option Addr) (c0_1 : Nat) (n0_1 : Nat) (l0_1 : List SStep) (A0_2 : Option Addr) (c0_2 : Nat) (n0_2 : Nat) (l0_2 : List Int) (Z : Below w0.heap.size w0 ws) (hF : Fr w0 ws P0 [] ws) (R0_1 : Stable ws P0 (fun w => Kd.C kStep w A0_1 n0_1 l0_1)) (hc0_1 : n0_1 ≤ c0_1) (R0_2 : Stable ws P0 (fun w => Kd.C (Kd.int .i64) w A0_2 n0_2 l0_2)) (hc0_2 : n0_2 ≤ c0_2) (r_1 : List (List Int)) (h : spec_plExponents.f k a0_0 l0_1 l0_2 = some r_1) :
  Calls Tryz.prog 85 #[.agg #[.int .i64 a0_0, .slice A0_1 n0_1 c0_1, .slice A0_2 n0_2 c0_2]] ws (Post1 w0 ws P0 (fun ((q_2, q_3, q_4) : (Option Addr) × Nat × Hd) => .slice q_2 r_1.length q_3) (fun ((q_2, q_3, q_4) : (Option Addr) × Nat × Hd) => [row (gk 3 (Kd.int .i64)) 25 (.slice q_2 r_1.length q_3) (zp q_4 r_1)])) := by
 unfold spec_plExponents.f at h
 obtain rfl := (R0_1 ws (KeptB.refl _ _)).1
 obtain rfl := (R0_2 ws (KeptB.refl _ _)).1
 refine enter Tryz.func85 rfl Tryz.ntmps85 rfl hF (c_seq (za0 (o_e rfl (e_box rfl) (fun g1 => o_q rfl rfl (q_asg rfl) (o_end (za1 (c_seq (za0 (o_q rfl rfl (q_asg rfl) ?_)))))))))
 refine o_end (za1 (c_seq (c_seq (za0 (o_q rfl rfl (q_asg rfl) (o_end (za1 (zah (c_nil (gk 3 (Kd.int .i64)) 25 ?_)))))))))
 refine za6 h (fun o16 hl15 hR14 => ?_) rfl
 clear h
 refine zax (σ := (List (List Int)) × Int × (Option Addr) × Nat × Hd) (fun k11 ((l4, i8, A5, c6, H7) : (List (List Int)) × Int × (Option Addr) × Nat × Hd) => spec_plExponents.l0 a0_0 k11 l4 i8 = some o16) [3, 4, 5, 8, 9, 10, 11, 12, 13, 14, 15, 16, 17, 18, 19, 20, 21, 22, 23] (fun ((l4, i8, A5, c6, H7) : (List (List Int)) × Int × (Option Addr) × Nat × Hd) => [(3, .slice A5 l4.length c6), (4, .int .i64 i8)]) (fun ((l4, i8, A5, c6, H7) : (List (List Int)) × Int × (Option Addr) × Nat × Hd) => [row (gk 3 (Kd.int .i64)) 25 (.slice A5 l4.length c6) (zp H7 l4), box g1 27 #[.int .i64 a0_0, .slice A0_1 l0_1.length c0_1, .slice A0_2 l0_2.length c0_2]]) k (([] : List (List Int)), 0, none, 0, ([] : Hd)) hl15 ⟨rfl, rfl, trivial⟩ (fun w h => h) (natC (cur5 (fun l4 i8 A5 c6 H7 => fun U17 hJ_ => ?_)) (fun k11 => (cur5 (fun l4 i8 A5 c6 H7 => fun U17 hJ_ => ?_))))
 ·skip
  replace hJ_ : spec_plExponents.l0 a0_0 0 l4 i8 = some o16 := hJ_
  rw [spec_plExponents.l0] at hJ_
  exact noneE hJ_
 ·skip
  clear hl15
  have h := hJ_; clear hJ_
  replace h : spec_plExponents.l0 a0_0 (k11 + 1) l4 i8 = some o16 := h
  rw [spec_plExponents.l0] at h
  refine c_seq (c_seq (za0 (o_q rfl rfl (za3 rfl) (o_q rfl rfl (q_f F27_0 rfl) (o_q rfl rfl (q_ldb Y3 rfl (fun w h => h.zac (i := 1) rfl) rfl) (o_q rfl rfl (q_lss rfl rfl) (o_end (za1 (zas _ rfl (fun hb19 => ?_) (fun hb19 => ?_))))))))))
  ·skip
   replace h := br_t hb19 h
   refine zal (za1 (c_seq (zah (c_seq (za0 (o_q rfl rfl (q_f F27_0 rfl) (o_q rfl rfl (q_ldb Y3 rfl (fun w h => h.zac (i := 1) rfl) rfl) (za6 h (fun l20 hm21 h => ?_) rfl))))))))
   refine o_e rfl (e_make (Kd.int .i64) (0 : Int) Tryz.underlying25 I3 rfl dc_ dc_ (fun _ _ => rfl) rfl rfl hm21) (cur2 (fun A22 c23 => o_q rfl rfl (q_asg rfl) (o_end (za1 (c_seq (za0 (o_q rfl rfl (za3 rfl) (o_q rfl rfl (za3 rfl) (zb0 (p := Sh A22 l20.length l20.length) (fun w h => f_sh (dk := (Kd.int .i64)) h (fun w h => h.zat (i := 0) rfl)) (fun hq25 => za6 h (fun y27 hg26 h => ?_) rfl))))))))))
   refine o_q rfl rfl (q_ix Tryz.underlying25 Z3 rfl rfl hq25 hg26) (za6 h (fun l28 hs29 h => ?_) rfl)
   refine o_e rfl (e_set (i := 0) rfl rfl rfl Z3 hs29) (fun _ => o_end (za1 (za0 (o_q rfl rfl (za3 rfl) (o_q rfl rfl (za3 rfl) (o_e rfl (e_litG (j := 0) (ue := 3) (dk := (Kd.int .i64)) (ys := l28) Tryz.underlying60 I25 rfl rfl rfl) (cur3 (fun A30 c31 H33 => za6 h (fun l34 ha35 h => ?_) rfl))))))))
   refine o_e rfl (e_appG (i := 2) (j := 0) Tryz.underlying60 I25 rfl dc_ rfl rfl rfl rfl rfl ha35) (cur3 (fun A36 c37 H38 => o_q rfl rfl (q_asg rfl) (o_end (zak (za1 (za0 (o_q rfl rfl (za3 rfl) (o_q rfl rfl (zb5 rfl rfl) (o_q rfl rfl (q_asg rfl) (o_end ?_))))))))))
   refine zaj k11 (l34, w64 (i8 + 1), A36, c37, H38) (Nat.lt_succ_self _) h ⟨rfl, rfl, trivial⟩ (fun w h => za8 [2, 3] dc_ rfl w h) ?_
   exact of_
  ·skip
   replace h := br_f hb19 h
   refine zb2 (zab (zab ?_))
   have e_ := si_ h; replace h := hR14; rw [← e_] at h; clear e_
   refine x_hit (za1 (c_seq (c_seq (za0 (o_q rfl rfl (q_f F27_1 rfl) (o_q rfl rfl (q_ldb Y24 rfl (fun w h => h.zac (i := 1) rfl) rfl) (o_q rfl rfl (q_len Tryz.underlying24 rfl) (o_q rfl rfl (za3 rfl) (o_end ?_)))))))))
   refine za1 (zah (za6 h (fun o51 hl50 hR49 => ?_) rfl))
   clear h
   refine c_fact (p := l0_1.length ≤ 9223372036854775807) (fun w h => (R0_1.now Z h).2.1) (fun hm48 => zax (σ := (List SStep) × (List (List Int)) × Int × (Option Addr) × Nat × Hd) (fun k46 ((ys45, l39, i43, A40, c41, H42) : (List SStep) × (List (List Int)) × Int × (Option Addr) × Nat × Hd) => Rg l0_1 i43 ys45 ∧ ys45.length = k46 ∧ spec_plExponents.l1 ys45 l39 i43 = some o51) [3, 7, 27, 28, 29, 30, 31, 32, 33, 34, 35, 36, 37, 38, 39, 40, 41, 42, 43, 44, 45] (fun ((ys45, l39, i43, A40, c41, H42) : (List SStep) × (List (List Int)) × Int × (Option Addr) × Nat × Hd) => [(3, .slice A40 l39.length c41), (27, .int .i64 i43)]) (fun ((ys45, l39, i43, A40, c41, H42) : (List SStep) × (List (List Int)) × Int × (Option Addr) × Nat × Hd) => [row (gk 3 (Kd.int .i64)) 25 (.slice A40 l39.length c41) (zp H42 l39), box g1 27 #[.int .i64 a0_0, .slice A0_1 l0_1.length c0_1, .slice A0_2 l0_2.length c0_2]]) l0_1.length (l0_1, l4, 0, A5, c6, H7) ⟨Rg.start _, rfl, hl50⟩ ⟨rfl, rfl, trivial⟩ (fun w h => h) (fun k46 => cur6 (listC (fun l39 i43 A40 c41 H42 U52 hJ_ => ?_) (fun y44 ys45 l39 i43 A40 c41 H42 U52 hJ_ => ?_))))
   ·skip
    clear hl50
    have hr47 := hJ_.1; have hk53 := hJ_.2.1; have h := hJ_.2.2; clear hJ_
    replace h : spec_plExponents.l1 [] l39 i43 = some o51 := h
    rw [spec_plExponents.l1] at h
    refine c_seq (za0 (o_q rfl rfl (q_lss rfl rfl) (o_end (za1 (c_seq (zb1 (vb_ hr47.ge) (zb2 (zab (zab ?_)))))))))
    have e_ := si_ h; replace h := hR49; rw [← e_] at h; clear e_
    refine x_hit (za1 (c_seq (za0 (o_q rfl rfl (za3 rfl) (o_q rfl rfl (q_asg rfl) (o_end (za1 (c_ret ?_))))))))
    have e0_ := si_ h; clear h
    subst e0_
    exact x_r1 (A40, c41, H42) Tryz.results85 (zad rfl) rfl (fun w h => za8 [0] dc_ rfl w h)
   ·skip
    clear hl50
    have hr47 := hJ_.1; have hk53 := hJ_.2.1; have h := hJ_.2.2; clear hJ_
    replace h : spec_plExponents.l1 (y44 :: ys45) l39 i43 = some o51 := h
    rw [spec_plExponents.l1] at h
    refine c_seq (za0 (o_q rfl rfl (q_lss rfl rfl) (o_end (za1 (c_seq (zay (vb_ hr47.lt) (zal (za1 (c_seq ?_)))))))))
    refine zah (c_seq (za0 (zb0 (p := Sh A0_1 l0_1.length l0_1.length) (fun w h => f_sh (dk := kStep) h (fun w h => R0_1.now Z h)) (fun hq54 => o_q rfl rfl (q_ix Tryz.underlying24 Z72 rfl rfl hq54 hr47.get) (o_q rfl rfl (q_ldE G72 Z72 rfl rfl (fun w h => R0_1.now Z h) hr47.get (fun _ _ h => h) rfl) (o_e rfl (zao V72 rfl) (fun g55 => o_e rfl (zae (i := 0) rfl rfl rfl Z72 rfl rfl) (fun _ => o_end (za1 ?_)))))))))
    refine za6 h (fun y300 hg299 h => ?_) rfl
    refine za6 h (fun y599 hg598 h => ?_) rfl
    refine za6 h (fun l719 hx718 h => ?_) rfl
    refine za6 h (fun l838 ha839 h => ?_) rfl
    refine a_startS (ds := []) [some 0, none, some 2] MO rfl (zaa 0 rfl rfl rfl kr_ (fun _ _ _ h => h) (za3 rfl) (zaa 1 rfl rfl rfl kr_ (fun _ _ _ h => h) (za3 rfl) (zaa 2 rfl rfl rfl kr_ (fun _ _ _ h => h) (q_f F72_0 rfl) (zau 3 rfl rfl rfl kr_ (fun _ _ _ h => h) (fun w h => za5 [some 0, none, some 2] dc_ w h rfl) (q_ldb Y3 rfl (fun w h => h.zac (i := 0) rfl) rfl) (a_fact (p := Sh A40 l39.length (zp H42 l39).length) (fun w h => f_sh (dk := (gk 3 (Kd.int .i64))) h (fun w h => h.zat (i := 1) rfl)) (fun hq298 => zaa 4 rfl rfl rfl kr_ (fun _ _ _ h => h) (q_ix Tryz.underlying60 Z25 rfl rfl hq298 (gt_zp hg299)) (zaa 6 rfl rfl rfl kr_ (fun _ _ _ h => h) (za3 rfl) (zaa 7 rfl rfl rfl kr_ (fun _ _ _ h => h) (q_f F72_1 rfl) (zau 8 rfl rfl rfl kr_ (fun _ _ _ h => h) (fun w h => za5 [some 0, none, some 2] dc_ w h rfl) (q_ldb Y3 rfl (fun w h => h.zac (i := 0) rfl) rfl) ?_)))))))))
    refine zaa 9 rfl rfl rfl kr_ (fun _ _ _ h => h) (q_ix Tryz.underlying60 Z25 rfl rfl hq298 (gt_zp hg598)) (a_fact (p := y300.length ≤ hC H42 y44.f0) (fun w h => (K_in (h.zat (i := 1) rfl) hg299).1) (fun hc358 => a_fact (p := y599.length ≤ hC H42 y44.f1) (fun w h => (K_in (h.zat (i := 1) rfl) hg598).1) (fun hc658 => a_two 5 10 rfl rfl rfl rfl kr_ rfl rfl (ev_q rfl (q_lde (off := 0) Y25 rfl rfl (fun w h => h.zat (i := 1) rfl) (gt_zp hg299) (fun _ _ h => h.1) rfl)) (fun s w h => za5 [some 0, none, some 2] dc_ w h rfl) (ev_q rfl (q_lde (off := 0) Y25 rfl rfl (fun w h => h.zat (i := 1) rfl) (gt_zp hg598) (fun _ _ h => h.1) rfl)) (fun s w h => za5 [some 0, none, some 2] dc_ w h rfl) (fun _ => ?_) (fun _ => ?_))))
    ·skip
     refine a_fact (p := y599.length ≤ hC H42 y44.f1) (fun w h => (K_in (h.zat (i := 1) rfl) hg598).1) (fun hc658 => a_one 10 rfl rfl kr_ rfl (ev_q rfl (q_lde (off := 0) Y25 rfl rfl (fun w h => h.zat (i := 1) rfl) (gt_zp hg598) (fun _ _ h => h.1) rfl)) (fun s w h => za5 [some 0, none, some 2] dc_ w h rfl) (fun _ => a_one 11 rfl rfl kr_ rfl (za7 0 Z Tryz.func115 N115 rfl rfl rfl (fun w P1 hF hB hS hT => spec_plSum.calls (hA H42 y44.f0) (hC H42 y44.f0) y300.length y300 (hA H42 y44.f1) (hC H42 y44.f1) y599.length y599 hB hF (stab_in (hT 1 _ rfl).row hg299) hc358 (stab_in (hT 1 _ rfl).row hg598) hc658 _ hx718)) (fun s w h => za5 [some 1, none, some 3] dc_ w h rfl) (cur2 (fun A720 c721 => a_one 12 rfl rfl kr_ rfl (e_litG (j := 0) (ue := 3) (dk := (Kd.int .i64)) (ys := l719) Tryz.underlying60 I25 rfl rfl rfl) (fun s w h => za5 [some 2, none, some 4] dc_ w h rfl) (cur3 (fun A778 c779 H781 => a_one 13 rfl rfl kr_ rfl (e_appG (i := 3) (j := 0) Tryz.underlying60 I25 rfl dc_ rfl rfl rfl rfl rfl ha839) (fun s w h => za5 [some 2, none, some 4] dc_ w h rfl) (cur3 (fun A840 c841 H842 => zaa 14 rfl rfl rfl kr_ (fun _ _ _ h => h) (q_asg rfl) (zar kr_ (zak (za1 (za0 ?_))))))))))))
     refine o_q rfl rfl (q_up rfl rfl (hr47.up hm48)) (o_q rfl rfl (za3 rfl) (o_end (zaj ys45.length (ys45, l838, i43 + 1, A840, c841, H842) (by rw [← hk53]; exact Nat.lt_succ_self _) ⟨hr47.step, rfl, h⟩ ⟨rfl, rfl, trivial⟩ (fun w h => za8 [3, 4] dc_ rfl w h) ?_)))
     exact of_
    ·skip
     refine a_fact (p := y300.length ≤ hC H42 y44.f0) (fun w h => (K_in (h.zat (i := 1) rfl) hg299).1) (fun hc358 => a_one 5 rfl rfl kr_ rfl (ev_q rfl (q_lde (off := 0) Y25 rfl rfl (fun w h => h.zat (i := 1) rfl) (gt_zp hg299) (fun _ _ h => h.1) rfl)) (fun s w h => za5 [some 0, none, some 2] dc_ w h rfl) (fun _ => a_one 11 rfl rfl kr_ rfl (za7 0 Z Tryz.func115 N115 rfl rfl rfl (fun w P1 hF hB hS hT => spec_plSum.calls (hA H42 y44.f0) (hC H42 y44.f0) y300.length y300 (hA H42 y44.f1) (hC H42 y44.f1) y599.length y599 hB hF (stab_in (hT 1 _ rfl).row hg299) hc358 (stab_in (hT 1 _ rfl).row hg598) hc658 _ hx718)) (fun s w h => za5 [some 1, none, some 3] dc_ w h rfl) (cur2 (fun A720 c721 => a_one 12 rfl rfl kr_ rfl (e_litG (j := 0) (ue := 3) (dk := (Kd.int .i64)) (ys := l719) Tryz.underlying60 I25 rfl rfl rfl) (fun s w h => za5 [some 2, none, some 4] dc_ w h rfl) (cur3 (fun A778 c779 H781 => a_one 13 rfl rfl kr_ rfl (e_appG (i := 3) (j := 0) Tryz.underlying60 I25 rfl dc_ rfl rfl rfl rfl rfl ha839) (fun s w h => za5 [some 2, none, some 4] dc_ w h rfl) (cur3 (fun A840 c841 H842 => zaa 14 rfl rfl rfl kr_ (fun _ _ _ h => h) (q_asg rfl) (zar kr_ (zak (za1 (za0 ?_))))))))))))
     refine o_q rfl rfl (q_up rfl rfl (hr47.up hm48)) (o_q rfl rfl (za3 rfl) (o_end (zaj ys45.length (ys45, l838, i43 + 1, A840, c841, H842) (by rw [← hk53]; exact Nat.lt_succ_self _) ⟨hr47.step, rfl, h⟩ ⟨rfl, rfl, trivial⟩ (fun w h => za8 [3, 4] dc_ rfl w h) ?_)))
     exact of_

def spec_l1All.l0 (a1 : Int) (a2 : Int) : (List Int) → Int → Option ((Bool) ⊕ (Unit))
 | [], i1 => some (.inr ())
 | y2 :: ys3, i1 => (spec_l1In.f y2 a1 a2).bind fun b14 => if b14 = true then (spec_l1All.l0 a1 a2 ys3 (i1 + 1)) else (some (.inl false))
def spec_l1All.f (l0 : List Int) (a1 : Int) (a2 : Int) : Option Bool := (spec_l1All.l0 a1 a2 l0 0).bind fun o_ => match o_ with | .inl r_ => some r_ | .inr _ => some true
theorem spec_l1All.calls {w0 ws : World} {P0 : Nat → Prop} (A0 : Option Addr) (c0 : Nat) (n0 : Nat) (l0 : List Int) (a1 : Int) (a2 : Int) (Z : Below w0.heap.size w0 ws) (hF : Fr w0 ws P0 [] ws) (R0 : Stable ws P0 (fun w => Kd.C (Kd.int .i64) w A0 n0 l0)) (hc0 : n0 ≤ c0) (r_1 : Bool) (h : spec_l1All.f l0 a1 a2 = some r_1) :
  Calls Tryz.prog 71 #[.slice A0 n0 c0, .int .i64 a1, .int .i64 a2] ws (Post1 w0 ws P0 (fun (_ : Unit) => .bool r_1) (fun (_ : Unit) => [])) := by
 unfold spec_l1All.f at h
 obtain rfl := (R0 ws (KeptB.refl _ _)).1
 refine enter Tryz.func71 rfl Tryz.ntmps71 rfl hF (c_seq (za0 (o_q rfl rfl (q_asg rfl) (o_end (za1 (c_seq (c_seq (za0 (o_q rfl rfl (za3 rfl) ?_)))))))))
 refine o_q rfl rfl (q_len Tryz.underlying25 rfl) (o_q rfl rfl (za3 rfl) (o_end (za1 (zah (za6 h (fun o9 hl8 hR7 => ?_) rfl)))))
 clear h
 refine c_fact (p := l0.length ≤ 9223372036854775807) (fun w h => (R0.now Z h).2.1) (fun hm6 => zax (σ := (List Int) × Int) (fun k4 ((ys3, i1) : (List Int) × Int) => Rg l0 i1 ys3 ∧ ys3.length = k4 ∧ spec_l1All.l0 a1 a2 ys3 i1 = some o9) [6, 8, 11, 12, 13, 14, 15, 16, 17, 18, 19, 20] (fun ((ys3, i1) : (List Int) × Int) => [(11, .int .i64 i1)]) (fun ((ys3, i1) : (List Int) × Int) => []) l0.length (l0, 0) ⟨Rg.start _, rfl, hl8⟩ ⟨rfl, trivial⟩ (fun w h => h) (fun k4 => cur2 (listC (fun i1 U10 hJ_ => ?_) (fun y2 ys3 i1 U10 hJ_ => ?_))))
 ·skip
  clear hl8
  have hr5 := hJ_.1; have hk11 := hJ_.2.1; have h := hJ_.2.2; clear hJ_
  replace h : spec_l1All.l0 a1 a2 [] i1 = some o9 := h
  rw [spec_l1All.l0] at h
  refine c_seq (za0 (o_q rfl rfl (q_lss rfl rfl) (o_end (za1 (c_seq (zb1 (vb_ hr5.ge) (zb2 (zab (zab ?_)))))))))
  have e_ := si_ h; replace h := hR7; rw [← e_] at h; clear e_
  refine x_hit (za1 (c_seq (za0 (o_q rfl rfl (q_asg rfl) (o_end (za1 (c_ret ?_)))))))
  have e0_ := si_ h; clear h
  subst e0_
  exact x_r1 () Tryz.results71 (zad rfl) rfl (fun w h => za8 [] dc_ rfl w h)
 ·skip
  clear hl8
  have hr5 := hJ_.1; have hk11 := hJ_.2.1; have h := hJ_.2.2; clear hJ_
  replace h : spec_l1All.l0 a1 a2 (y2 :: ys3) i1 = some o9 := h
  rw [spec_l1All.l0] at h
  refine c_seq (za0 (o_q rfl rfl (q_lss rfl rfl) (o_end (za1 (c_seq (zay (vb_ hr5.lt) (zal (za1 (c_seq ?_)))))))))
  refine zah (c_seq (za0 (zb0 (p := Sh A0 l0.length l0.length) (fun w h => f_sh (dk := (Kd.int .i64)) h (fun w h => R0.now Z h)) (fun hq12 => o_q rfl rfl (q_ix Tryz.underlying25 Z3 rfl rfl hq12 hr5.get) (o_q rfl rfl (q_lde (off := 0) Y3 rfl rfl (fun w h => R0.now Z h) hr5.get (fun _ _ h => h) rfl) (o_q rfl rfl (q_asg rfl) (o_end (za1 (c_seq ?_)))))))))
  refine za0 (o_q rfl rfl (za3 rfl) (o_q rfl rfl (za3 rfl) (o_q rfl rfl (za3 rfl) (za6 h (fun b14 hx13 h => ?_) rfl))))
  refine o_e rfl (za7 0 Z Tryz.func84 N84 rfl rfl rfl (fun w P1 hF hB hS hT => spec_l1In.calls y2 a1 a2 hB hF _ hx13)) (fun _ => o_q rfl rfl (q_not rfl) (o_end (za1 (zas _ rfl (fun hb15 => ?_) (fun hb15 => ?_)))))
  ·replace hb15 := nt_t hb15
   replace h := bb_f hb15 h
   refine c_seq (za0 (o_q rfl rfl (q_asg rfl) (o_end (za1 (c_ret (zan (za9 (za9 ?_))))))))
   have e_ := si_ h; replace h := hR7; rw [← e_] at h; clear e_
   refine zan (za9 ?_)
   have e0_ := si_ h; clear h
   subst e0_
   exact x_r1 () Tryz.results71 (zad rfl) rfl (fun w h => za8 [] dc_ rfl w h)
  ·replace hb15 := nt_f hb15
   replace h := bb_t hb15 h
   refine zal (zak (za1 (za0 (o_q rfl rfl (q_up rfl rfl (hr5.up hm6)) (o_q rfl rfl (za3 rfl) (o_end (zaj ys3.length (ys3, i1 + 1) (by rw [← hk11]; exact Nat.lt_succ_self _) ⟨hr5.step, rfl, h⟩ ⟨rfl, trivial⟩ (fun w h => za8 [] dc_ rfl w h) ?_)))))))
   exact of_

def spec_plGood.l1 : (List (List Int)) → Int → Option ((Bool) ⊕ (Unit))
 | [], i24 => some (.inr ())
 | y25 :: ys26, i24 => (spec_l1All.f y25 0 1000000).bind fun b40 => if b40 = true then (spec_plGood.l1 ys26 (i24 + 1)) else (some (.inl false))
def spec_plGood.l0 (a0_0 : Int) : (List SStep) → Int → Option ((Bool) ⊕ (Unit))
 | [], i8 => some (.inr ())
 | y9 :: ys10, i8 => (spec_l1In.f y9.f0 0 y9.f1).bind fun b46 => if b46 = true then (if w64 (a0_0 + i8) ≤ y9.f1 then (some (.inl false)) else (spec_plGood.l0 a0_0 ys10 (i8 + 1))) else (some (.inl false))
def spec_plGood.f (k : Nat) (a0_0 : Int) (l0_1 : List SStep) (l0_2 : List Int) : Option Bool := (spec_l1In.f a0_0 1 6).bind fun b4 => if b4 = true then (if 40 < (l0_1.length : Int) then (some false) else (if 6 < (l0_2.length : Int) then (some false) else ((spec_plGood.l0 a0_0 l0_1 0).bind fun o_ => match o_ with | .inl r_ => some r_ | .inr _ => (spec_plExponents.f k a0_0 l0_1 l0_2).bind fun l20 => (spec_plGood.l1 l20 0).bind fun o_ => match o_ with | .inl r_ => some r_ | .inr _ => (spec_l1All.f l0_2 0 (w64 (w64 (a0_0 + (l0_1.length : Int)) - 1))).bind fun b36 => some b36))) else (some false)
theorem spec_plGood.calls (k : Nat) {w0 ws : World} {P0 : Nat → Prop} (a0_0 : Int) (A0_1 : Option Addr) (c0_1 : Nat) (n0_1 : Nat) (l0_1 : List SStep) (A0_2 : Option Addr) (c0_2 : Nat) (n0_2 : Nat) (l0_2 : List Int) (Z : Below w0.heap.size w0 ws) (hF : Fr w0 ws P0 [] ws) (R0_1 : Stable ws P0 (fun w => Kd.C kStep w A0_1 n0_1 l0_1)) (hc0_1 : n0_1 ≤ c0_1) (R0_2 : Stable ws P0 (fun w => Kd.C (Kd.int .i64) w A0_2 n0_2 l0_2)) (hc0_2 : n0_2 ≤ c0_2) (r_1 : Bool) (h : spec_plGood.f k a0_0 l0_1 l0_2 = some r_1) :
  Calls Tryz.prog 33 #[.agg #[.int .i64 a0_0, .slice A0_1 n0_1 c0_1, .slice A0_2 n0_2 c0_2]] ws (Post1 w0 ws P0 (fun (_ : Unit) => .bool r_1) (fun (_ : Unit) => [])) := by
 unfold spec_plGood.f at h
 obtain rfl := (R0_1 ws (KeptB.refl _ _)).1
 obtain rfl := (R0_2 ws (KeptB.refl _ _)).1
 refine enter Tryz.func33 rfl Tryz.ntmps33 rfl hF (c_seq (za0 (o_e rfl (e_box rfl) (fun g1 => o_q rfl rfl (q_asg rfl) (o_end (za1 (c_seq (c_seq (za0 ?_)))))))))
 refine o_q rfl rfl (q_f F27_0 rfl) (o_q rfl rfl (q_ldb Y3 rfl (fun w h => h.zac (i := 0) rfl) rfl) (za6 h (fun b4 hx3 h => ?_) rfl))
 refine o_e rfl (za7 0 Z Tryz.func84 N84 rfl rfl rfl (fun w P1 hF hB hS hT => spec_l1In.calls a0_0 1 6 hB hF _ hx3)) (fun _ => o_q rfl rfl (q_not rfl) (o_q rfl rfl (za3 rfl) (byB b4 (fun hb5 => ?_) (fun hb5 => ?_))))
 ·replace h := bb_t hb5 h
  refine o_w (za4 rfl rfl rfl (congrArg (fun b => Value.bool (!(b))) hb5)) rfl (q_f F27_1 rfl) (o_w (za4 rfl rfl rfl (congrArg (fun b => Value.bool (!(b))) hb5)) rfl (q_ldb Y24 rfl (fun w h => h.zac (i := 0) rfl) rfl) (o_w (za4 rfl rfl rfl (congrArg (fun b => Value.bool (!(b))) hb5)) rfl (q_len Tryz.underlying24 rfl) (o_w (za4 rfl rfl rfl (congrArg (fun b => Value.bool (!(b))) hb5)) rfl (q_gtr rfl rfl) (o_q rfl rfl (zai false (congrArg (fun b => Value.bool (!(b))) hb5) rfl) (o_q rfl rfl (za3 rfl) (byB (decide (40 < (l0_1.length : Int))) (fun hb6 => ?_) (fun hb6 => ?_)))))))
  ·replace h := br_t hb6 h
   refine o_n (d := 18) (za2 rfl rfl rfl (vb_ hb6) rfl) (Eq.refl (some 18)) (o_n (d := 19) (za2 rfl rfl rfl (vb_ hb6) rfl) (Eq.refl (some 19)) (o_n (d := 20) (za2 rfl rfl rfl (vb_ hb6) rfl) (Eq.refl (some 20)) (o_n (d := 21) (za2 rfl rfl rfl (vb_ hb6) rfl) (Eq.refl (some 21)) (o_q rfl rfl (zai true (vb_ hb6) rfl) (o_end (za1 (zay rfl (c_seq (za0 ?_)))))))))
   refine o_q rfl rfl (q_asg rfl) (o_end (za1 (c_ret (za9 ?_))))
   have e0_ := si_ h; clear h
   subst e0_
   exact x_r1 () Tryz.results33 (zad rfl) rfl (fun w h => za8 [] dc_ rfl w h)
  ·replace h := br_f hb6 h
   refine o_w (za4 rfl rfl rfl (vb_ hb6)) rfl (q_f F27_2 rfl) (o_w (za4 rfl rfl rfl (vb_ hb6)) rfl (q_ldb Y25 rfl (fun w h => h.zac (i := 0) rfl) rfl) (o_w (za4 rfl rfl rfl (vb_ hb6)) rfl (q_len Tryz.underlying25 rfl) (o_w (za4 rfl rfl rfl (vb_ hb6)) rfl (q_gtr rfl rfl) (o_q rfl rfl (zai false (vb_ hb6) rfl) (o_end (za1 (zas _ rfl (fun hb7 => ?_) (fun hb7 => ?_))))))))
   ·skip
    replace h := br_t hb7 h
    refine c_seq (za0 (o_q rfl rfl (q_asg rfl) (o_end (za1 (c_ret (za9 ?_))))))
    have e0_ := si_ h; clear h
    subst e0_
    exact x_r1 () Tryz.results33 (zad rfl) rfl (fun w h => za8 [] dc_ rfl w h)
   ·skip
    replace h := br_f hb7 h
    refine zal (za1 (c_seq (c_seq (za0 (o_q rfl rfl (q_f F27_1 rfl) (o_q rfl rfl (q_ldb Y24 rfl (fun w h => h.zac (i := 0) rfl) rfl) (o_q rfl rfl (q_len Tryz.underlying24 rfl) (o_q rfl rfl (za3 rfl) (o_end ?_)))))))))
    refine za1 (zah (za6 h (fun o16 hl15 hR14 => ?_) rfl))
    clear h
    refine c_fact (p := l0_1.length ≤ 9223372036854775807) (fun w h => (R0_1.now Z h).2.1) (fun hm13 => zax (σ := (List SStep) × Int) (fun k11 ((ys10, i8) : (List SStep) × Int) => Rg l0_1 i8 ys10 ∧ ys10.length = k11 ∧ spec_plGood.l0 a0_0 ys10 i8 = some o16) [2, 3, 4, 26, 27, 28, 29, 30, 31, 32, 33, 34, 35, 36, 37, 38, 39, 40, 41, 42, 43, 44, 45, 46] (fun ((ys10, i8) : (List SStep) × Int) => [(26, .int .i64 i8)]) (fun ((ys10, i8) : (List SStep) × Int) => [box g1 27 #[.int .i64 a0_0, .slice A0_1 l0_1.length c0_1, .slice A0_2 l0_2.length c0_2]]) l0_1.length (l0_1, 0) ⟨Rg.start _, rfl, hl15⟩ ⟨rfl, trivial⟩ (fun w h => h) (fun k11 => cur2 (listC (fun i8 U17 hJ_ => ?_) (fun y9 ys10 i8 U17 hJ_ => ?_))))
    ·skip
     clear hl15
     have hr12 := hJ_.1; have hk18 := hJ_.2.1; have h := hJ_.2.2; clear hJ_
     replace h : spec_plGood.l0 a0_0 [] i8 = some o16 := h
     rw [spec_plGood.l0] at h
     refine c_seq (za0 (o_q rfl rfl (q_lss rfl rfl) (o_end (za1 (c_seq (zb1 (vb_ hr12.ge) (zb2 (zab (zab ?_)))))))))
     have e_ := si_ h; replace h := hR14; rw [← e_] at h; clear e_
     refine x_hit (za1 (c_seq (c_seq (za0 (o_q rfl rfl (q_ldB G27 Z27 rfl (fun w h => h.zac (i := 0) rfl) rfl) (za6 h (fun l20 hx19 h => ?_) rfl))))))
     refine o_e rfl (za7 0 Z Tryz.func85 N85 rfl rfl rfl (fun w P1 hF hB hS hT => spec_plExponents.calls k a0_0 A0_1 c0_1 l0_1.length l0_1 A0_2 c0_2 l0_2.length l0_2 hB hF (hS _ R0_1) hc0_1 (hS _ R0_2) hc0_2 _ hx19)) (cur3 (fun A21 c22 H23 => o_q rfl rfl (q_len Tryz.underlying60 rfl) (o_q rfl rfl (za3 rfl) (o_end (za1 (zah (za6 h (fun o32 hl31 hR30 => ?_) rfl)))))))
     clear h
     refine c_fact (p := l20.length ≤ 9223372036854775807) (fun w h => (h.zat (i := 0) rfl).2.1) (fun hm29 => zax (σ := (List (List Int)) × Int) (fun k27 ((ys26, i24) : (List (List Int)) × Int) => Rg l20 i24 ys26 ∧ ys26.length = k27 ∧ spec_plGood.l1 ys26 i24 = some o32) [2, 6, 50, 51, 52, 53, 54, 55, 56, 57] (fun ((ys26, i24) : (List (List Int)) × Int) => [(50, .int .i64 i24)]) (fun ((ys26, i24) : (List (List Int)) × Int) => [row (gk 3 (Kd.int .i64)) 25 (.slice A21 l20.length c22) (zp H23 l20), box g1 27 #[.int .i64 a0_0, .slice A0_1 l0_1.length c0_1, .slice A0_2 l0_2.length c0_2]]) l20.length (l20, 0) ⟨Rg.start _, rfl, hl31⟩ ⟨rfl, trivial⟩ (fun w h => h) (fun k27 => cur2 (listC (fun i24 U33 hJ_ => ?_) (fun y25 ys26 i24 U33 hJ_ => ?_))))
     ·skip
      clear hl31
      have hr28 := hJ_.1; have hk34 := hJ_.2.1; have h := hJ_.2.2; clear hJ_
      replace h : spec_plGood.l1 [] i24 = some o32 := h
      rw [spec_plGood.l1] at h
      refine c_seq (za0 (o_q rfl rfl (q_lss rfl rfl) (o_end (za1 (c_seq (zb1 (vb_ hr28.ge) (zb2 (zab (zab ?_)))))))))
      have e_ := si_ h; replace h := hR30; rw [← e_] at h; clear e_
      refine x_hit (za1 (c_seq (za0 (o_q rfl rfl (q_f F27_2 rfl) (o_q rfl rfl (q_ldb Y25 rfl (fun w h => h.zac (i := 1) rfl) rfl) (o_q rfl rfl (q_f F27_0 rfl) (o_q rfl rfl (q_ldb Y3 rfl (fun w h => h.zac (i := 1) rfl) rfl) (o_q rfl rfl (q_f F27_1 rfl) (o_q rfl rfl (q_ldb Y24 rfl (fun w h => h.zac (i := 1) rfl) rfl) ?_)))))))))
      refine o_q rfl rfl (q_len Tryz.underlying24 rfl) (o_q rfl rfl (zb5 rfl rfl) (o_q rfl rfl (q_sub64 rfl rfl) (za6 h (fun b36 hx35 h => ?_) rfl)))
      refine o_e rfl (za7 0 Z Tryz.func71 N71 rfl rfl rfl (fun w P1 hF hB hS hT => spec_l1All.calls A0_2 c0_2 l0_2.length l0_2 0 (w64 (w64 (a0_0 + (l0_1.length : Int)) - 1)) hB hF (hS _ R0_2) hc0_2 _ hx35)) (fun _ => o_q rfl rfl (q_asg rfl) (o_end (za1 (c_ret ?_))))
      have e0_ := si_ h; clear h
      subst e0_
      exact x_r1 () Tryz.results33 (zad rfl) rfl (fun w h => za8 [] dc_ rfl w h)
     ·skip
      clear hl31
      have hr28 := hJ_.1; have hk34 := hJ_.2.1; have h := hJ_.2.2; clear hJ_
      replace h : spec_plGood.l1 (y25 :: ys26) i24 = some o32 := h
      rw [spec_plGood.l1] at h
      refine c_seq (za0 (o_q rfl rfl (q_lss rfl rfl) (o_end (za1 (c_seq (zay (vb_ hr28.lt) (zal (za1 (c_seq ?_)))))))))
      refine zah (c_seq (za0 (zb0 (p := Sh A21 l20.length (zp H23 l20).length) (fun w h => f_sh (dk := (gk 3 (Kd.int .i64))) h (fun w h => h.zat (i := 0) rfl)) (fun hq37 => o_q rfl rfl (q_ix Tryz.underlying60 Z25 rfl rfl hq37 (gt_zp hr28.get)) (zb0 (p := y25.length ≤ hC H23 i24) (fun w h => (K_in (h.zat (i := 0) rfl) hr28.get).1) (fun hc38 => o_q rfl rfl (q_lde (off := 0) Y25 rfl rfl (fun w h => h.zat (i := 0) rfl) (gt_zp hr28.get) (fun _ _ h => h.1) rfl) (o_q rfl rfl (q_asg rfl) (o_end (za1 ?_)))))))))
      refine c_seq (za0 (o_q rfl rfl (za3 rfl) (za6 h (fun b40 hx39 h => ?_) rfl)))
      refine o_e rfl (za7 0 Z Tryz.func71 N71 rfl rfl rfl (fun w P1 hF hB hS hT => spec_l1All.calls (hA H23 i24) (hC H23 i24) y25.length y25 0 1000000 hB hF (stab_in (hT 0 _ rfl).row hr28.get) hc38 _ hx39)) (fun _ => o_q rfl rfl (q_not rfl) (o_end (za1 (zas _ rfl (fun hb41 => ?_) (fun hb41 => ?_)))))
      ·replace hb41 := nt_t hb41
       replace h := bb_f hb41 h
       refine c_seq (za0 (o_q rfl rfl (q_asg rfl) (o_end (za1 (c_ret (zan (za9 (za9 ?_))))))))
       have e_ := si_ h; replace h := hR30; rw [← e_] at h; clear e_
       refine zan (za9 ?_)
       have e0_ := si_ h; clear h
       subst e0_
       exact x_r1 () Tryz.results33 (zad rfl) rfl (fun w h => za8 [] dc_ rfl w h)
      ·replace hb41 := nt_f hb41
       replace h := bb_t hb41 h
       refine zal (zak (za1 (za0 (o_q rfl rfl (q_up rfl rfl (hr28.up hm29)) (o_q rfl rfl (za3 rfl) (o_end (zaj ys26.length (ys26, i24 + 1) (by rw [← hk34]; exact Nat.lt_succ_self _) ⟨hr28.step, rfl, h⟩ ⟨rfl, trivial⟩ (fun w h => za8 [0, 1] dc_ rfl w h) ?_)))))))
       exact of_
    ·skip
     clear hl15
     have hr12 := hJ_.1; have hk18 := hJ_.2.1; have h := hJ_.2.2; clear hJ_
     replace h : spec_plGood.l0 a0_0 (y9 :: ys10) i8 = some o16 := h
     rw [spec_plGood.l0] at h
     refine c_seq (za0 (o_q rfl rfl (q_lss rfl rfl) (o_end (za1 (c_seq (zay (vb_ hr12.lt) (zal (za1 (c_seq ?_)))))))))
     refine zah (c_seq (za0 (o_q rfl rfl (za3 rfl) (zb0 (p := Sh A0_1 l0_1.length l0_1.length) (fun w h => f_sh (dk := kStep) h (fun w h => R0_1.now Z h)) (fun hq42 => o_q rfl rfl (q_ix Tryz.underlying24 Z72 rfl rfl hq42 hr12.get) (o_q rfl rfl (q_ldE G72 Z72 rfl rfl (fun w h => R0_1.now Z h) hr12.get (fun _ _ h => h) rfl) (o_e rfl (zao V72 rfl) (fun g43 => o_q rfl rfl (q_asg rfl) (o_e rfl (zae (i := 0) rfl rfl rfl Z72 rfl rfl) (fun _ => ?_))))))))))
     refine o_end (za1 (c_seq (za0 (o_q rfl rfl (q_f F72_0 rfl) (o_q rfl rfl (q_ldb Y3 rfl (fun w h => h.zac (i := 0) rfl) rfl) (o_q rfl rfl (q_f F72_1 rfl) (o_q rfl rfl (q_ldb Y3 rfl (fun w h => h.zac (i := 0) rfl) rfl) (za6 h (fun b46 hx45 h => ?_) rfl))))))))
     refine o_e rfl (za7 0 Z Tryz.func84 N84 rfl rfl rfl (fun w P1 hF hB hS hT => spec_l1In.calls y9.f0 0 y9.f1 hB hF _ hx45)) (fun _ => o_q rfl rfl (q_not rfl) (o_q rfl rfl (za3 rfl) (byB b46 (fun hb47 => ?_) (fun hb47 => ?_))))
     ·replace h := bb_t hb47 h
      refine o_w (za4 rfl rfl rfl (congrArg (fun b => Value.bool (!(b))) hb47)) rfl (q_f F72_1 rfl) (o_w (za4 rfl rfl rfl (congrArg (fun b => Value.bool (!(b))) hb47)) rfl (q_ldb Y3 rfl (fun w h => h.zac (i := 0) rfl) rfl) (o_w (za4 rfl rfl rfl (congrArg (fun b => Value.bool (!(b))) hb47)) rfl (q_f F27_0 rfl) (o_w (za4 rfl rfl rfl (congrArg (fun b => Value.bool (!(b))) hb47)) rfl (q_ldb Y3 rfl (fun w h => h.zac (i := 1) rfl) rfl) (o_w (za4 rfl rfl rfl (congrArg (fun b => Value.bool (!(b))) hb47)) rfl (za3 rfl) (o_w (za4 rfl rfl rfl (congrArg (fun b => Value.bool (!(b))) hb47)) rfl (zb5 rfl rfl) (o_w (za4 rfl rfl rfl (congrArg (fun b => Value.bool (!(b))) hb47)) rfl (q_geq rfl rfl) (o_q rfl rfl (zai false (congrArg (fun b => Value.bool (!(b))) hb47) rfl) (o_end (za1 ?_)))))))))
      refine zas _ rfl (fun hb48 => ?_) (fun hb48 => ?_)
      ·skip
       replace h := br_t hb48 h
       refine c_seq (za0 (o_q rfl rfl (q_asg rfl) (o_end (za1 (c_ret (zan (za9 (za9 ?_))))))))
       have e_ := si_ h; replace h := hR14; rw [← e_] at h; clear e_
       refine zan (za9 ?_)
       have e0_ := si_ h; clear h
       subst e0_
       exact x_r1 () Tryz.results33 (zad rfl) rfl (fun w h => za8 [] dc_ rfl w h)
      ·skip
       replace h := br_f hb48 h
       refine zal (zak (za1 (za0 (o_q rfl rfl (q_up rfl rfl (hr12.up hm13)) (o_q rfl rfl (za3 rfl) (o_end (zaj ys10.length (ys10, i8 + 1) (by rw [← hk18]; exact Nat.lt_succ_self _) ⟨hr12.step, rfl, h⟩ ⟨rfl, trivial⟩ (fun w h => za8 [1] dc_ rfl w h) ?_)))))))
       exact of_
     ·replace h := bb_f hb47 h
      refine o_n (d := 38) (za2 rfl rfl rfl (congrArg (fun b => Value.bool (!(b))) hb47) rfl) (Eq.refl (some 38)) (o_n (d := 39) (za2 rfl rfl rfl (congrArg (fun b => Value.bool (!(b))) hb47) rfl) (Eq.refl (some 39)) (o_n (d := 40) (za2 rfl rfl rfl (congrArg (fun b => Value.bool (!(b))) hb47) rfl) (Eq.refl (some 40)) (o_n (d := 41) (za2 rfl rfl rfl (congrArg (fun b => Value.bool (!(b))) hb47) rfl) (Eq.refl (some 41)) (o_n (d := 42) (za2 rfl rfl rfl (congrArg (fun b => Value.bool (!(b))) hb47) rfl) (Eq.refl (some 42)) (o_n (d := 43) (za2 rfl rfl rfl (congrArg (fun b => Value.bool (!(b))) hb47) rfl) (Eq.refl (some 43)) (o_n (d := 44) (za2 rfl rfl rfl (congrArg (fun b => Value.bool (!(b))) hb47) rfl) (Eq.refl (some 44)) (o_q rfl rfl (zai true (congrArg (fun b => Value.bool (!(b))) hb47) rfl) (o_end (za1 ?_)))))))))
      refine zay rfl (c_seq (za0 (o_q rfl rfl (q_asg rfl) (o_end (za1 (c_ret (zan (za9 (za9 ?_)))))))))
      have e_ := si_ h; replace h := hR14; rw [← e_] at h; clear e_
      refine zan (za9 ?_)
      have e0_ := si_ h; clear h
      subst e0_
      exact x_r1 () Tryz.results33 (zad rfl) rfl (fun w h => za8 [] dc_ rfl w h)
 ·replace h := bb_f hb5 h
  refine o_n (d := 12) (za2 rfl rfl rfl (congrArg (fun b => Value.bool (!(b))) hb5) rfl) (Eq.refl (some 12)) (o_n (d := 13) (za2 rfl rfl rfl (congrArg (fun b => Value.bool (!(b))) hb5) rfl) (Eq.refl (some 13)) (o_n (d := 14) (za2 rfl rfl rfl (congrArg (fun b => Value.bool (!(b))) hb5) rfl) (Eq.refl (some 14)) (o_n (d := 15) (za2 rfl rfl rfl (congrArg (fun b => Value.bool (!(b))) hb5) rfl) (Eq.refl (some 15)) (o_q rfl rfl (zai true (congrArg (fun b => Value.bool (!(b))) hb5) rfl) (o_q rfl rfl (za3 rfl) (o_n (d := 18) (za2 rfl rfl rfl rfl rfl) (Eq.refl (some 18)) (o_n (d := 19) (za2 rfl rfl rfl rfl rfl) (Eq.refl (some 19)) (o_n (d := 20) (za2 rfl rfl rfl rfl rfl) (Eq.refl (some 20)) (o_n (d := 21) (za2 rfl rfl rfl rfl rfl) (Eq.refl (some 21)) ?_)))))))))
  refine o_q rfl rfl (zai true rfl rfl) (o_end (za1 (zay rfl (c_seq (za0 (o_q rfl rfl (q_asg rfl) (o_end (za1 (c_ret ?_)))))))))
  refine za9 ?_
  have e0_ := si_ h; clear h
  subst e0_
  exact x_r1 () Tryz.results33 (zad rfl) rfl (fun w h => za8 [] dc_ rfl w h)

def spec_plUpTo.l0 (a0 : Int) : Nat → (List Int) → Int → Option (List Int)
 | 0, _, _ => none
 | k8 + 1, l2, i5 => if i5 < a0 then ((ap l2 ([i5] : List Int)).bind fun l20 => spec_plUpTo.l0 a0 k8 l20 (w64 (i5 + 1))) else (some l2)
def spec_plUpTo.f (k : Nat) (a0 : Int) : Option (List Int) := (spec_plUpTo.l0 a0 k ([] : List Int) 0).bind fun l2 => some l2
theorem spec_plUpTo.calls (k : Nat) {w0 ws : World} {P0 : Nat → Prop} (a0 : Int) (Z : Below w0.heap.size w0 ws) (hF : Fr w0 ws P0 [] ws)  (r_1 : List Int) (h : spec_plUpTo.f k a0 = some r_1) :
  Calls Tryz.prog 129 #[.int .i64 a0] ws (Post1 w0 ws P0 (fun ((q_2, q_3) : (Option Addr) × Nat) => .slice q_2 r_1.length q_3) (fun ((q_2, q_3) : (Option Addr) × Nat) => [row (Kd.int .i64) 3 (.slice q_2 r_1.length q_3) r_1])) := by
 unfold spec_plUpTo.f at h
 refine enter Tryz.func129 rfl Tryz.ntmps129 rfl hF (c_seq (za0 (o_q rfl rfl (q_asg rfl) (o_end (za1 (c_seq (za0 (o_q rfl rfl (q_asg rfl) (o_end ?_)))))))))
 refine za1 (c_seq (c_seq (za0 (o_q rfl rfl (q_asg rfl) (o_end (za1 (zah (c_nil (Kd.int .i64) 3 (za6 h (fun o13 hl12 hR11 => ?_) rfl)))))))))
 clear h
 refine zax (σ := (List Int) × Int × (Option Addr) × Nat) (fun k8 ((l2, i5, A3, c4) : (List Int) × Int × (Option Addr) × Nat) => spec_plUpTo.l0 a0 k8 l2 i5 = some o13) [3, 4, 5, 6, 7, 8, 9, 10, 11, 12, 13] (fun ((l2, i5, A3, c4) : (List Int) × Int × (Option Addr) × Nat) => [(3, .slice A3 l2.length c4), (4, .int .i64 i5)]) (fun ((l2, i5, A3, c4) : (List Int) × Int × (Option Addr) × Nat) => [row (Kd.int .i64) 3 (.slice A3 l2.length c4) l2]) k (([] : List Int), 0, none, 0) hl12 ⟨rfl, rfl, trivial⟩ (fun w h => h) (natC (cur4 (fun l2 i5 A3 c4 => fun U14 hJ_ => ?_)) (fun k8 => (cur4 (fun l2 i5 A3 c4 => fun U14 hJ_ => ?_))))
 ·skip
  replace hJ_ : spec_plUpTo.l0 a0 0 l2 i5 = some o13 := hJ_
  rw [spec_plUpTo.l0] at hJ_
  exact noneE hJ_
 ·skip
  clear hl12
  have h := hJ_; clear hJ_
  replace h : spec_plUpTo.l0 a0 (k8 + 1) l2 i5 = some o13 := h
  rw [spec_plUpTo.l0] at h
  refine c_seq (c_seq (za0 (o_q rfl rfl (za3 rfl) (o_q rfl rfl (za3 rfl) (o_q rfl rfl (q_lss rfl rfl) (o_end (za1 (zas _ rfl (fun hb16 => ?_) (fun hb16 => ?_)))))))))
  ·skip
   replace h := br_t hb16 h
   refine zal (za1 (c_seq (zah (za0 (o_q rfl rfl (za3 rfl) (o_q rfl rfl (za3 rfl) (o_e rfl (e_lit (vs := [(0, .int .i64 i5)]) (cs := [.int .i64 i5]) (Kd.int .i64) ([i5] : List Int) Tryz.underlying25 I3 dc_ rfl dc_ rfl rfl (fun _ _ => Kd.zaf _)) (cur2 (fun A17 c18 => za6 h (fun l20 ha21 h => ?_) rfl)))))))))
   refine o_e rfl (e_app (i := 1) (j := 0) Tryz.underlying25 I3 rfl dc_ dc_ rfl rfl rfl rfl rfl ha21) (cur2 (fun A22 c23 => o_q rfl rfl (q_asg rfl) (o_end (zak (za1 (za0 (o_q rfl rfl (za3 rfl) (o_q rfl rfl (zb5 rfl rfl) (o_q rfl rfl (q_asg rfl) (o_end ?_))))))))))
   refine zaj k8 (l20, w64 (i5 + 1), A22, c23) (Nat.lt_succ_self _) h ⟨rfl, rfl, trivial⟩ (fun w h => za8 [1] dc_ rfl w h) ?_
   exact of_
  ·skip
   replace h := br_f hb16 h
   refine zb2 (zab (zab ?_))
   have e_ := si_ h; replace h := hR11; rw [← e_] at h; clear e_
   refine x_hit (za1 (c_seq (za0 (o_q rfl rfl (za3 rfl) (o_q rfl rfl (q_asg rfl) (o_end (za1 (c_ret ?_))))))))
   have e0_ := si_ h; clear h
   subst e0_
   exact x_r1 (A3, c4) Tryz.results129 (zad rfl) rfl (fun w h => za8 [0] dc_ rfl w h)

def spec_l1Has.l0 (a1 : Int) : (List Int) → Int → Option ((Bool) ⊕ (Unit))
 | [], i1 => some (.inr ())
 | y2 :: ys3, i1 => if y2 = a1 then (some (.inl true)) else (spec_l1Has.l0 a1 ys3 (i1 + 1))
def spec_l1Has.f (l0 : List Int) (a1 : Int) : Option Bool := (spec_l1Has.l0 a1 l0 0).bind fun o_ => match o_ with | .inl r_ => some r_ | .inr _ => some false
theorem spec_l1Has.calls {w0 ws : World} {P0 : Nat → Prop} (A0 : Option Addr) (c0 : Nat) (n0 : Nat) (l0 : List Int) (a1 : Int) (Z : Below w0.heap.size w0 ws) (hF : Fr w0 ws P0 [] ws) (R0 : Stable ws P0 (fun w => Kd.C (Kd.int .i64) w A0 n0 l0)) (hc0 : n0 ≤ c0) (r_1 : Bool) (h : spec_l1Has.f l0 a1 = some r_1) :
  Calls Tryz.prog 72 #[.slice A0 n0 c0, .int .i64 a1] ws (Post1 w0 ws P0 (fun (_ : Unit) => .bool r_1) (fun (_ : Unit) => [])) := by
 unfold spec_l1Has.f at h
 obtain rfl := (R0 ws (KeptB.refl _ _)).1
 refine enter Tryz.func72 rfl Tryz.ntmps72 rfl hF (c_seq (za0 (o_q rfl rfl (q_asg rfl) (o_end (za1 (c_seq (c_seq (za0 (o_q rfl rfl (za3 rfl) ?_)))))))))
 refine o_q rfl rfl (q_len Tryz.underlying25 rfl) (o_q rfl rfl (za3 rfl) (o_end (za1 (zah (za6 h (fun o9 hl8 hR7 => ?_) rfl)))))
 clear h
 refine c_fact (p := l0.length ≤ 9223372036854775807) (fun w h => (R0.now Z h).2.1) (fun hm6 => zax (σ := (List Int) × Int) (fun k4 ((ys3, i1) : (List Int) × Int) => Rg l0 i1 ys3 ∧ ys3.length = k4 ∧ spec_l1Has.l0 a1 ys3 i1 = some o9) [4, 6, 9, 10, 11, 12, 13, 14, 15, 16] (fun ((ys3, i1) : (List Int) × Int) => [(9, .int .i64 i1)]) (fun ((ys3, i1) : (List Int) × Int) => []) l0.length (l0, 0) ⟨Rg.start _, rfl, hl8⟩ ⟨rfl, trivial⟩ (fun w h => h) (fun k4 => cur2 (listC (fun i1 U10 hJ_ => ?_) (fun y2 ys3 i1 U10 hJ_ => ?_))))
 ·skip
  clear hl8
  have hr5 := hJ_.1; have hk11 := hJ_.2.1; have h := hJ_.2.2; clear hJ_
  replace h : spec_l1Has.l0 a1 [] i1 = some o9 := h
  rw [spec_l1Has.l0] at h
  refine c_seq (za0 (o_q rfl rfl (q_lss rfl rfl) (o_end (za1 (c_seq (zb1 (vb_ hr5.ge) (zb2 (zab (zab ?_)))))))))
  have e_ := si_ h; replace h := hR7; rw [← e_] at h; clear e_
  refine x_hit (za1 (c_seq (za0 (o_q rfl rfl (q_asg rfl) (o_end (za1 (c_ret ?_)))))))
  have e0_ := si_ h; clear h
  subst e0_
  exact x_r1 () Tryz.results72 (zad rfl) rfl (fun w h => za8 [] dc_ rfl w h)
 ·skip
  clear hl8
  have hr5 := hJ_.1; have hk11 := hJ_.2.1; have h := hJ_.2.2; clear hJ_
  replace h : spec_l1Has.l0 a1 (y2 :: ys3) i1 = some o9 := h
  rw [spec_l1Has.l0] at h
  refine c_seq (za0 (o_q rfl rfl (q_lss rfl rfl) (o_end (za1 (c_seq (zay (vb_ hr5.lt) (zal (za1 (c_seq ?_)))))))))
  refine zah (c_seq (za0 (zb0 (p := Sh A0 l0.length l0.length) (fun w h => f_sh (dk := (Kd.int .i64)) h (fun w h => R0.now Z h)) (fun hq12 => o_q rfl rfl (q_ix Tryz.underlying25 Z3 rfl rfl hq12 hr5.get) (o_q rfl rfl (q_lde (off := 0) Y3 rfl rfl (fun w h => R0.now Z h) hr5.get (fun _ _ h => h) rfl) (o_q rfl rfl (q_asg rfl) (o_end (za1 (c_seq ?_)))))))))
  refine za0 (o_q rfl rfl (za3 rfl) (o_q rfl rfl (za3 rfl) (o_q rfl rfl (q_eql rfl rfl) (o_end (za1 (zas _ rfl (fun hb13 => ?_) (fun hb13 => ?_)))))))
  ·skip
   replace h := br_t hb13 h
   refine c_seq (za0 (o_q rfl rfl (q_asg rfl) (o_end (za1 (c_ret (zan (za9 (za9 ?_))))))))
   have e_ := si_ h; replace h := hR7; rw [← e_] at h; clear e_
   refine zan (za9 ?_)
   have e0_ := si_ h; clear h
   subst e0_
   exact x_r1 () Tryz.results72 (zad rfl) rfl (fun w h => za8 [] dc_ rfl w h)
  ·skip
   replace h := br_f hb13 h
   refine zal (zak (za1 (za0 (o_q rfl rfl (q_up rfl rfl (hr5.up hm6)) (o_q rfl rfl (za3 rfl) (o_end (zaj ys3.length (ys3, i1 + 1) (by rw [← hk11]; exact Nat.lt_succ_self _) ⟨hr5.step, rfl, h⟩ ⟨rfl, trivial⟩ (fun w h => za8 [] dc_ rfl w h) ?_)))))))
   exact of_

def spec_reNeeded.l1 (l1 : List Int) (i7 : Int) : (List SStep) → Int → Bool → Option Bool
 | [], i25, b26 => some b26
 | y27 :: ys28, i25, b26 => if b26 = true then (spec_reNeeded.l1 l1 i7 ys28 (i25 + 1) true) else ((spec_l1Has.f l1 i25).bind fun b50 => if b50 = true then (spec_reNeeded.l1 l1 i7 ys28 (i25 + 1) false) else (if y27.f0 = i7 then (spec_reNeeded.l1 l1 i7 ys28 (i25 + 1) true) else (spec_reNeeded.l1 l1 i7 ys28 (i25 + 1) (decide (y27.f1 = i7)))))
def spec_reNeeded.l2 (l1 : List Int) (i7 : Int) : (List SStep) → Int → Bool → Option Bool
 | [], i55, b56 => some b56
 | y57 :: ys58, i55, b56 => if b56 = true then (spec_reNeeded.l2 l1 i7 ys58 (i55 + 1) true) else ((spec_l1Has.f l1 i55).bind fun b80 => if b80 = true then (spec_reNeeded.l2 l1 i7 ys58 (i55 + 1) false) else (if y57.f0 = i7 then (spec_reNeeded.l2 l1 i7 ys58 (i55 + 1) true) else (spec_reNeeded.l2 l1 i7 ys58 (i55 + 1) (decide (y57.f1 = i7)))))
def spec_reNeeded.l0 (a0_0 : Int) (l0_1 : List SStep) (l0_2 : List Int) (l1 : List Int) : Nat → (List Int) → Int → Option (List Int)
 | 0, _, _ => none
 | k10 + 1, l4, i7 => if i7 < w64 (a0_0 + (l0_1.length : Int)) then (if a0_0 ≤ i7 then ((spec_l1Has.f l1 (w64 (i7 - a0_0))).bind fun b21 => if b21 = true then ((spec_l1Has.f l0_2 i7).bind fun b24 => (spec_reNeeded.l1 l1 i7 l0_1 0 b24).bind fun b26 => if b26 = true then ((ap l4 ([i7] : List Int)).bind fun l41 => spec_reNeeded.l0 a0_0 l0_1 l0_2 l1 k10 l41 (w64 (i7 + 1))) else (spec_reNeeded.l0 a0_0 l0_1 l0_2 l1 k10 l4 (w64 (i7 + 1)))) else (spec_reNeeded.l0 a0_0 l0_1 l0_2 l1 k10 l4 (w64 (i7 + 1)))) else ((spec_l1Has.f l0_2 i7).bind fun b54 => (spec_reNeeded.l2 l1 i7 l0_1 0 b54).bind fun b56 => if b56 = true then ((ap l4 ([i7] : List Int)).bind fun l71 => spec_reNeeded.l0 a0_0 l0_1 l0_2 l1 k10 l71 (w64 (i7 + 1))) else (spec_reNeeded.l0 a0_0 l0_1 l0_2 l1 k10 l4 (w64 (i7 + 1))))) else (some l4)
def spec_reNeeded.f (k : Nat) (a0_0 : Int) (l0_1 : List SStep) (l0_2 : List Int) (l1 : List Int) : Option (List Int) := (spec_reNeeded.l0 a0_0 l0_1 l0_2 l1 k ([] : List Int) 0).bind fun l4 => some l4
theorem spec_reNeeded.calls (k : Nat) {w0 ws : World} {P0 : Nat → Prop} (a0_0 : Int) (A0_1 : Option Addr) (c0_1 : Nat) (n0_1 : Nat) (l0_1 : List SStep) (A0_2 : Option Addr) (c0_2 : Nat) (n0_2 : Nat) (l0_2 : List Int) (A1 : Option Addr) (c1 : Nat) (n1 : Nat) (l1 : List Int) (Z : Below w0.heap.size w0 ws) (hF : Fr w0 ws P0 [] ws) (R0_1 : Stable ws P0 (fun w => Kd.C kStep w A0_1 n0_1 l0_1)) (hc0_1 : n0_1 ≤ c0_1) (R0_2 : Stable ws P0 (fun w => Kd.C (Kd.int .i64) w A0_2 n0_2 l0_2)) (hc0_2 : n0_2 ≤ c0_2) (R1 : Stable ws P0 (fun w => Kd.C (Kd.int .i64) w A1 n1 l1)) (hc1 : n1 ≤ c1) (r_1 : List Int) (h : spec_reNeeded.f k a0_0 l0_1 l0_2 l1 = some r_1) :
  Calls Tryz.prog 131 #[.agg #[.int .i64 a0_0, .slice A0_1 n0_1 c0_1, .slice A0_2 n0_2 c0_2], .slice A1 n1 c1] ws (Post1 w0 ws P0 (fun ((q_2, q_3) : (Option Addr) × Nat) => .slice q_2 r_1.length q_3) (fun ((q_2, q_3) : (Option Addr) × Nat) => [row (Kd.int .i64) 3 (.slice q_2 r_1.length q_3) r_1])) := by
 unfold spec_reNeeded.f at h
 obtain rfl := (R0_1 ws (KeptB.refl _ _)).1
 obtain rfl := (R0_2 ws (KeptB.refl _ _)).1
 obtain rfl := (R1 ws (KeptB.refl _ _)).1
 refine enter Tryz.func131 rfl Tryz.ntmps131 rfl hF (c_seq (za0 (o_e rfl (e_box rfl) (fun g1 => o_q rfl rfl (q_asg rfl) (o_end (za1 (c_seq (za0 (o_q rfl rfl (q_asg rfl) ?_)))))))))
 refine o_end (za1 (c_seq (c_seq (za0 (o_q rfl rfl (q_asg rfl) (o_end (za1 (zah (c_nil (Kd.int .i64) 3 ?_)))))))))
 refine za6 h (fun o15 hl14 hR13 => ?_) rfl
 clear h
 refine zax (σ := (List Int) × Int × (Option Addr) × Nat) (fun k10 ((l4, i7, A5, c6) : (List Int) × Int × (Option Addr) × Nat) => spec_reNeeded.l0 a0_0 l0_1 l0_2 l1 k10 l4 i7 = some o15) [5, 6, 7, 8, 9, 10, 11, 12, 13, 14, 15, 16, 17, 18, 19, 20, 21, 22, 23, 24, 25, 26, 27, 28, 29, 30, 31, 32, 33, 34, 35, 36, 37, 38, 39, 40, 41, 42, 43, 44, 45, 46, 47, 48, 49, 50, 51, 52, 53, 54, 55, 56, 57, 58, 59, 60, 61, 62, 63, 64, 65, 66, 67, 68, 69] (fun ((l4, i7, A5, c6) : (List Int) × Int × (Option Addr) × Nat) => [(5, .slice A5 l4.length c6), (6, .int .i64 i7)]) (fun ((l4, i7, A5, c6) : (List Int) × Int × (Option Addr) × Nat) => [row (Kd.int .i64) 3 (.slice A5 l4.length c6) l4, box g1 27 #[.int .i64 a0_0, .slice A0_1 l0_1.length c0_1, .slice A0_2 l0_2.length c0_2]]) k (([] : List Int), 0, none, 0) hl14 ⟨rfl, rfl, trivial⟩ (fun w h => h) (natC (cur4 (fun l4 i7 A5 c6 => fun U16 hJ_ => ?_)) (fun k10 => (cur4 (fun l4 i7 A5 c6 => fun U16 hJ_ => ?_))))
 ·skip
  replace hJ_ : spec_reNeeded.l0 a0_0 l0_1 l0_2 l1 0 l4 i7 = some o15 := hJ_
  rw [spec_reNeeded.l0] at hJ_
  exact noneE hJ_
 ·skip
  clear hl14
  have h := hJ_; clear hJ_
  replace h : spec_reNeeded.l0 a0_0 l0_1 l0_2 l1 (k10 + 1) l4 i7 = some o15 := h
  rw [spec_reNeeded.l0] at h
  refine c_seq (c_seq (za0 (o_q rfl rfl (za3 rfl) (o_q rfl rfl (q_f F27_0 rfl) (o_q rfl rfl (q_ldb Y3 rfl (fun w h => h.zac (i := 1) rfl) rfl) (o_q rfl rfl (q_f F27_1 rfl) (o_q rfl rfl (q_ldb Y24 rfl (fun w h => h.zac (i := 1) rfl) rfl) (o_q rfl rfl (q_len Tryz.underlying24 rfl) (o_q rfl rfl (zb5 rfl rfl) ?_)))))))))
  refine o_q rfl rfl (q_lss rfl rfl) (o_end (za1 (zas _ rfl (fun hb18 => ?_) (fun hb18 => ?_))))
  ·skip
   replace h := br_t hb18 h
   refine zal (za1 (c_seq (zah (c_seq (c_seq (za0 (o_q rfl rfl (za3 rfl) (o_q rfl rfl (q_f F27_0 rfl) (o_q rfl rfl (q_ldb Y3 rfl (fun w h => h.zac (i := 1) rfl) rfl) ?_)))))))))
   refine o_q rfl rfl (q_geq rfl rfl) (o_q rfl rfl (za3 rfl) (byB (decide (a0_0 ≤ i7)) (fun hb19 => ?_) (fun hb19 => ?_)))
   ·replace h := br_t hb19 h
    refine o_w (za4 rfl rfl rfl (vb_ hb19)) rfl (za3 rfl) (o_w (za4 rfl rfl rfl (vb_ hb19)) rfl (za3 rfl) (o_w (za4 rfl rfl rfl (vb_ hb19)) rfl (q_f F27_0 rfl) (o_w (za4 rfl rfl rfl (vb_ hb19)) rfl (q_ldb Y3 rfl (fun w h => h.zac (i := 1) rfl) rfl) (o_w (za4 rfl rfl rfl (vb_ hb19)) rfl (q_sub64 rfl rfl) (za6 h (fun b21 hx20 h => ?_) rfl)))))
    refine o_ew (za4 rfl rfl rfl (vb_ hb19)) (za7 0 Z Tryz.func72 N72 rfl rfl rfl (fun w P1 hF hB hS hT => spec_l1Has.calls A1 c1 l1.length l1 (w64 (i7 - a0_0)) hB hF (hS _ R1) hc1 _ hx20)) (fun _ => o_w (za4 rfl rfl rfl (vb_ hb19)) rfl (q_not rfl) (o_q rfl rfl (zai true (vb_ hb19) rfl) (o_end (za1 (zas _ rfl (fun hb22 => ?_) (fun hb22 => ?_))))))
    ·replace hb22 := nt_t hb22
     replace h := bb_f hb22 h
     refine zb2 (zab (x_hit (za1 (za0 (o_q rfl rfl (za3 rfl) (o_q rfl rfl (zb5 rfl rfl) (o_q rfl rfl (q_asg rfl) (o_end (zaj k10 (l4, w64 (i7 + 1), A5, c6) (Nat.lt_succ_self _) h ⟨rfl, rfl, trivial⟩ (fun w h => za8 [0, 1] dc_ rfl w h) ?_)))))))))
     exact of_
    ·replace hb22 := nt_f hb22
     replace h := bb_t hb22 h
     refine zal (za1 (c_seq (za0 (o_q rfl rfl (q_f F27_2 rfl) (o_q rfl rfl (q_ldb Y25 rfl (fun w h => h.zac (i := 1) rfl) rfl) (o_q rfl rfl (za3 rfl) (za6 h (fun b24 hx23 h => ?_) rfl)))))))
     refine o_e rfl (za7 0 Z Tryz.func72 N72 rfl rfl rfl (fun w P1 hF hB hS hT => spec_l1Has.calls A0_2 c0_2 l0_2.length l0_2 i7 hB hF (hS _ R0_2) hc0_2 _ hx23)) (fun _ => o_q rfl rfl (q_asg rfl) (o_end (za1 (c_seq (c_seq (za0 (o_q rfl rfl (q_f F27_1 rfl) (o_q rfl rfl (q_ldb Y24 rfl (fun w h => h.zac (i := 1) rfl) rfl) (o_q rfl rfl (q_len Tryz.underlying24 rfl) ?_)))))))))
     refine o_q rfl rfl (za3 rfl) (o_end (za1 (zah (za6 h (fun o34 hl33 hR32 => ?_) rfl))))
     clear h
     refine c_fact (p := l0_1.length ≤ 9223372036854775807) (fun w h => (R0_1.now Z h).2.1) (fun hm31 => zax (σ := (List SStep) × Int × Bool) (fun k29 ((ys28, i25, b26) : (List SStep) × Int × Bool) => Rg l0_1 i25 ys28 ∧ ys28.length = k29 ∧ spec_reNeeded.l1 l1 i7 ys28 i25 b26 = some o34) [7, 8, 9, 40, 41, 42, 43, 44, 45, 46, 47, 48, 49, 50, 51, 52, 53, 54, 55, 56, 57, 58, 59, 60, 61, 62, 63, 64] (fun ((ys28, i25, b26) : (List SStep) × Int × Bool) => [(7, .bool b26), (40, .int .i64 i25)]) (fun ((ys28, i25, b26) : (List SStep) × Int × Bool) => [row (Kd.int .i64) 3 (.slice A5 l4.length c6) l4, box g1 27 #[.int .i64 a0_0, .slice A0_1 l0_1.length c0_1, .slice A0_2 l0_2.length c0_2]]) l0_1.length (l0_1, 0, b24) ⟨Rg.start _, rfl, hl33⟩ ⟨rfl, rfl, trivial⟩ (fun w h => h) (fun k29 => cur3 (listC (fun i25 b26 U35 hJ_ => ?_) (fun y27 ys28 i25 b26 U35 hJ_ => ?_))))
     ·skip
      clear hl33
      have hr30 := hJ_.1; have hk36 := hJ_.2.1; have h := hJ_.2.2; clear hJ_
      replace h : spec_reNeeded.l1 l1 i7 [] i25 b26 = some o34 := h
      rw [spec_reNeeded.l1] at h
      refine c_seq (za0 (o_q rfl rfl (q_lss rfl rfl) (o_end (za1 (c_seq (zb1 (vb_ hr30.ge) (zb2 (zab (zab ?_)))))))))
      have e_ := si_ h; replace h := hR32; rw [← e_] at h; clear e_
      refine x_hit (za1 (c_seq (za0 (o_q rfl rfl (za3 rfl) (o_end (za1 (zas _ rfl (fun hb37 => ?_) (fun hb37 => ?_))))))))
      ·skip
       replace h := bb_t hb37 h
       refine za0 (o_q rfl rfl (za3 rfl) (o_q rfl rfl (za3 rfl) (o_e rfl (e_lit (vs := [(0, .int .i64 i7)]) (cs := [.int .i64 i7]) (Kd.int .i64) ([i7] : List Int) Tryz.underlying25 I3 dc_ rfl dc_ rfl rfl (fun _ _ => Kd.zaf _)) (cur2 (fun A38 c39 => za6 h (fun l41 ha42 h => ?_) rfl)))))
       refine o_e rfl (e_app (i := 1) (j := 0) Tryz.underlying25 I3 rfl dc_ dc_ rfl rfl rfl rfl rfl ha42) (cur2 (fun A43 c44 => o_q rfl rfl (q_asg rfl) (o_end (zak (za1 (za0 (o_q rfl rfl (za3 rfl) (o_q rfl rfl (zb5 rfl rfl) (o_q rfl rfl (q_asg rfl) (o_end ?_))))))))))
       refine zaj k10 (l41, w64 (i7 + 1), A43, c44) (Nat.lt_succ_self _) h ⟨rfl, rfl, trivial⟩ (fun w h => za8 [1, 2] dc_ rfl w h) ?_
       exact of_
      ·skip
       replace h := bb_f hb37 h
       refine zal (zak (za1 (za0 (o_q rfl rfl (za3 rfl) (o_q rfl rfl (zb5 rfl rfl) (o_q rfl rfl (q_asg rfl) (o_end (zaj k10 (l4, w64 (i7 + 1), A5, c6) (Nat.lt_succ_self _) h ⟨rfl, rfl, trivial⟩ (fun w h => za8 [0, 1] dc_ rfl w h) ?_))))))))
       exact of_
     ·skip
      clear hl33
      have hr30 := hJ_.1; have hk36 := hJ_.2.1; have h := hJ_.2.2; clear hJ_
      replace h : spec_reNeeded.l1 l1 i7 (y27 :: ys28) i25 b26 = some o34 := h
      rw [spec_reNeeded.l1] at h
      refine c_seq (za0 (o_q rfl rfl (q_lss rfl rfl) (o_end (za1 (c_seq (zay (vb_ hr30.lt) (zal (za1 (c_seq ?_)))))))))
      refine zah (c_seq (za0 (o_q rfl rfl (za3 rfl) (zb0 (p := Sh A0_1 l0_1.length l0_1.length) (fun w h => f_sh (dk := kStep) h (fun w h => R0_1.now Z h)) (fun hq45 => o_q rfl rfl (q_ix Tryz.underlying24 Z72 rfl rfl hq45 hr30.get) (o_q rfl rfl (q_ldE G72 Z72 rfl rfl (fun w h => R0_1.now Z h) hr30.get (fun _ _ h => h) rfl) (o_e rfl (zao V72 rfl) (fun g46 => o_q rfl rfl (q_asg rfl) (o_e rfl (zae (i := 0) rfl rfl rfl Z72 rfl rfl) (fun _ => ?_))))))))))
      refine o_end (za1 (za0 (o_q rfl rfl (za3 rfl) (o_q rfl rfl (za3 rfl) (byB b26 (fun hb48 => ?_) (fun hb48 => ?_))))))
      ·replace h := bb_t hb48 h
       refine o_n (d := 47) (za2 rfl rfl rfl (vb_ hb48) rfl) (Eq.refl (some 47)) (o_n (d := 48) (za2 rfl rfl rfl (vb_ hb48) rfl) (Eq.refl (some 48)) (o_n (d := 49) (za2 rfl rfl rfl (vb_ hb48) rfl) (Eq.refl (some 49)) (o_n (d := 50) (za2 rfl rfl rfl (vb_ hb48) rfl) (Eq.refl (some 50)) (o_n (d := 51) (za2 rfl rfl rfl (vb_ hb48) rfl) (Eq.refl (some 51)) (o_n (d := 52) (zb3 rfl rfl rfl rfl) (Eq.refl (some 52)) (o_n (d := 53) (zb3 rfl rfl rfl rfl) (Eq.refl (some 53)) (o_n (d := 54) (zb3 rfl rfl rfl rfl) (Eq.refl (some 54)) (o_n (d := 55) (zb3 rfl rfl rfl rfl) (Eq.refl (some 55)) (o_n (d := 56) (zb3 rfl rfl rfl rfl) (Eq.refl (some 56)) ?_)))))))))
       refine o_n (d := 57) (zb3 rfl rfl rfl rfl) (Eq.refl (some 57)) (o_n (d := 58) (zb3 rfl rfl rfl rfl) (Eq.refl (some 58)) (o_n (d := 59) (zb3 rfl rfl rfl rfl) (Eq.refl (some 59)) (o_n (d := 60) (zb3 rfl rfl rfl rfl) (Eq.refl (some 60)) (o_n (d := 61) (zb3 rfl rfl rfl rfl) (Eq.refl (some 61)) (o_n (d := 62) (za2 rfl rfl rfl (vb_ hb48) rfl) (Eq.refl (some 62)) (o_q rfl rfl (zai true (vb_ hb48) rfl) (o_q rfl rfl (q_asg rfl) (o_end (zak ?_)))))))))
       refine za1 (za0 (o_q rfl rfl (q_up rfl rfl (hr30.up hm31)) (o_q rfl rfl (za3 rfl) (o_end (zaj ys28.length (ys28, i25 + 1, true) (by rw [← hk36]; exact Nat.lt_succ_self _) ⟨hr30.step, rfl, h⟩ ⟨rfl, rfl, trivial⟩ (fun w h => za8 [1, 2] dc_ rfl w h) ?_)))))
       exact of_
      ·replace h := bb_f hb48 h
       refine o_w (za4 rfl rfl rfl (vb_ hb48)) rfl (za3 rfl) (o_w (za4 rfl rfl rfl (vb_ hb48)) rfl (za3 rfl) (za6 h (fun b50 hx49 h => ?_) rfl))
       refine o_ew (za4 rfl rfl rfl (vb_ hb48)) (za7 0 Z Tryz.func72 N72 rfl rfl rfl (fun w P1 hF hB hS hT => spec_l1Has.calls A1 c1 l1.length l1 i25 hB hF (hS _ R1) hc1 _ hx49)) (fun _ => o_w (za4 rfl rfl rfl (vb_ hb48)) rfl (q_not rfl) (o_w (za4 rfl rfl rfl (vb_ hb48)) rfl (za3 rfl) (byB b50 (fun hb51 => ?_) (fun hb51 => ?_))))
       ·replace h := bb_t hb51 h
        refine o_n (d := 52) (za2 rfl rfl rfl (congrArg (fun b => Value.bool (!(b))) hb51) rfl) (Eq.refl (some 52)) (o_n (d := 53) (za2 rfl rfl rfl (congrArg (fun b => Value.bool (!(b))) hb51) rfl) (Eq.refl (some 53)) (o_n (d := 54) (za2 rfl rfl rfl (congrArg (fun b => Value.bool (!(b))) hb51) rfl) (Eq.refl (some 54)) (o_n (d := 55) (za2 rfl rfl rfl (congrArg (fun b => Value.bool (!(b))) hb51) rfl) (Eq.refl (some 55)) (o_n (d := 56) (za2 rfl rfl rfl (congrArg (fun b => Value.bool (!(b))) hb51) rfl) (Eq.refl (some 56)) (o_n (d := 57) (zb3 rfl rfl rfl rfl) (Eq.refl (some 57)) (o_n (d := 58) (zb3 rfl rfl rfl rfl) (Eq.refl (some 58)) (o_n (d := 59) (zb3 rfl rfl rfl rfl) (Eq.refl (some 59)) (o_n (d := 60) (zb3 rfl rfl rfl rfl) (Eq.refl (some 60)) (o_n (d := 61) (za2 rfl rfl rfl (congrArg (fun b => Value.bool (!(b))) hb51) rfl) (Eq.refl (some 61)) ?_)))))))))
        refine o_w (za4 rfl rfl rfl (vb_ hb48)) rfl (zai false (congrArg (fun b => Value.bool (!(b))) hb51) rfl) (o_q rfl rfl (zai false (vb_ hb48) rfl) (o_q rfl rfl (q_asg rfl) (o_end (zak (za1 (za0 (o_q rfl rfl (q_up rfl rfl (hr30.up hm31)) (o_q rfl rfl (za3 rfl) (o_end ?_)))))))))
        refine zaj ys28.length (ys28, i25 + 1, false) (by rw [← hk36]; exact Nat.lt_succ_self _) ⟨hr30.step, rfl, h⟩ ⟨rfl, rfl, trivial⟩ (fun w h => za8 [1, 2] dc_ rfl w h) ?_
        exact of_
       ·replace h := bb_f hb51 h
        refine o_w (za4 rfl rfl rfl (congrArg (fun b => Value.bool (!(b))) hb51)) rfl (q_f F72_0 rfl) (o_w (za4 rfl rfl rfl (congrArg (fun b => Value.bool (!(b))) hb51)) rfl (q_ldb Y3 rfl (fun w h => h.zac (i := 0) rfl) rfl) (o_w (za4 rfl rfl rfl (congrArg (fun b => Value.bool (!(b))) hb51)) rfl (za3 rfl) (o_w (za4 rfl rfl rfl (congrArg (fun b => Value.bool (!(b))) hb51)) rfl (q_eql rfl rfl) (o_w (za4 rfl rfl rfl (congrArg (fun b => Value.bool (!(b))) hb51)) rfl (za3 rfl) (byB (decide (y27.f0 = i7)) (fun hb52 => ?_) (fun hb52 => ?_))))))
        ·replace h := br_t hb52 h
         refine o_n (d := 57) (za2 rfl rfl rfl (vb_ hb52) rfl) (Eq.refl (some 57)) (o_n (d := 58) (za2 rfl rfl rfl (vb_ hb52) rfl) (Eq.refl (some 58)) (o_n (d := 59) (za2 rfl rfl rfl (vb_ hb52) rfl) (Eq.refl (some 59)) (o_n (d := 60) (za2 rfl rfl rfl (vb_ hb52) rfl) (Eq.refl (some 60)) (o_w (za4 rfl rfl rfl (congrArg (fun b => Value.bool (!(b))) hb51)) rfl (zai true (vb_ hb52) rfl) (o_w (za4 rfl rfl rfl (vb_ hb48)) rfl (zai true (congrArg (fun b => Value.bool (!(b))) hb51) rfl) (o_q rfl rfl (zai false (vb_ hb48) rfl) (o_q rfl rfl (q_asg rfl) (o_end (zak ?_)))))))))
         refine za1 (za0 (o_q rfl rfl (q_up rfl rfl (hr30.up hm31)) (o_q rfl rfl (za3 rfl) (o_end (zaj ys28.length (ys28, i25 + 1, true) (by rw [← hk36]; exact Nat.lt_succ_self _) ⟨hr30.step, rfl, h⟩ ⟨rfl, rfl, trivial⟩ (fun w h => za8 [1, 2] dc_ rfl w h) ?_)))))
         exact of_
        ·replace h := br_f hb52 h
         refine o_w (za4 rfl rfl rfl (vb_ hb52)) rfl (q_f F72_1 rfl) (o_w (za4 rfl rfl rfl (vb_ hb52)) rfl (q_ldb Y3 rfl (fun w h => h.zac (i := 0) rfl) rfl) (o_w (za4 rfl rfl rfl (vb_ hb52)) rfl (za3 rfl) (o_w (za4 rfl rfl rfl (vb_ hb52)) rfl (q_eql rfl rfl) (o_w (za4 rfl rfl rfl (congrArg (fun b => Value.bool (!(b))) hb51)) rfl (zai false (vb_ hb52) rfl) (o_w (za4 rfl rfl rfl (vb_ hb48)) rfl (zai true (congrArg (fun b => Value.bool (!(b))) hb51) rfl) (o_q rfl rfl (zai false (vb_ hb48) rfl) (o_q rfl rfl (q_asg rfl) (o_end (zak ?_)))))))))
         refine za1 (za0 (o_q rfl rfl (q_up rfl rfl (hr30.up hm31)) (o_q rfl rfl (za3 rfl) (o_end (zaj ys28.length (ys28, i25 + 1, decide (y27.f1 = i7)) (by rw [← hk36]; exact Nat.lt_succ_self _) ⟨hr30.step, rfl, h⟩ ⟨rfl, rfl, trivial⟩ (fun w h => za8 [1, 2] dc_ rfl w h) ?_)))))
         exact of_
   ·replace h := br_f hb19 h
    refine o_n (d := 25) (za2 rfl rfl rfl (vb_ hb19) rfl) (Eq.refl (some 25)) (o_n (d := 26) (za2 rfl rfl rfl (vb_ hb19) rfl) (Eq.refl (some 26)) (o_n (d := 27) (za2 rfl rfl rfl (vb_ hb19) rfl) (Eq.refl (some 27)) (o_n (d := 28) (za2 rfl rfl rfl (vb_ hb19) rfl) (Eq.refl (some 28)) (o_n (d := 29) (za2 rfl rfl rfl (vb_ hb19) rfl) (Eq.refl (some 29)) (o_n (d := 30) (za2 rfl rfl rfl (vb_ hb19) rfl) (Eq.refl (some 30)) (o_n (d := 31) (za2 rfl rfl rfl (vb_ hb19) rfl) (Eq.refl (some 31)) (o_q rfl rfl (zai false (vb_ hb19) rfl) (o_end (za1 ?_)))))))))
    refine zb1 rfl (zal (za1 (c_seq (za0 (o_q rfl rfl (q_f F27_2 rfl) (o_q rfl rfl (q_ldb Y25 rfl (fun w h => h.zac (i := 1) rfl) rfl) (o_q rfl rfl (za3 rfl) (za6 h (fun b54 hx53 h => ?_) rfl))))))))
    refine o_e rfl (za7 0 Z Tryz.func72 N72 rfl rfl rfl (fun w P1 hF hB hS hT => spec_l1Has.calls A0_2 c0_2 l0_2.length l0_2 i7 hB hF (hS _ R0_2) hc0_2 _ hx53)) (fun _ => o_q rfl rfl (q_asg rfl) (o_end (za1 (c_seq (c_seq (za0 (o_q rfl rfl (q_f F27_1 rfl) (o_q rfl rfl (q_ldb Y24 rfl (fun w h => h.zac (i := 1) rfl) rfl) (o_q rfl rfl (q_len Tryz.underlying24 rfl) ?_)))))))))
    refine o_q rfl rfl (za3 rfl) (o_end (za1 (zah (za6 h (fun o64 hl63 hR62 => ?_) rfl))))
    clear h
    refine c_fact (p := l0_1.length ≤ 9223372036854775807) (fun w h => (R0_1.now Z h).2.1) (fun hm61 => zax (σ := (List SStep) × Int × Bool) (fun k59 ((ys58, i55, b56) : (List SStep) × Int × Bool) => Rg l0_1 i55 ys58 ∧ ys58.length = k59 ∧ spec_reNeeded.l2 l1 i7 ys58 i55 b56 = some o64) [7, 8, 9, 40, 41, 42, 43, 44, 45, 46, 47, 48, 49, 50, 51, 52, 53, 54, 55, 56, 57, 58, 59, 60, 61, 62, 63, 64] (fun ((ys58, i55, b56) : (List SStep) × Int × Bool) => [(7, .bool b56), (40, .int .i64 i55)]) (fun ((ys58, i55, b56) : (List SStep) × Int × Bool) => [row (Kd.int .i64) 3 (.slice A5 l4.length c6) l4, box g1 27 #[.int .i64 a0_0, .slice A0_1 l0_1.length c0_1, .slice A0_2 l0_2.length c0_2]]) l0_1.length (l0_1, 0, b54) ⟨Rg.start _, rfl, hl63⟩ ⟨rfl, rfl, trivial⟩ (fun w h => h) (fun k59 => cur3 (listC (fun i55 b56 U65 hJ_ => ?_) (fun y57 ys58 i55 b56 U65 hJ_ => ?_))))
    ·skip
     clear hl63
     have hr60 := hJ_.1; have hk66 := hJ_.2.1; have h := hJ_.2.2; clear hJ_
     replace h : spec_reNeeded.l2 l1 i7 [] i55 b56 = some o64 := h
     rw [spec_reNeeded.l2] at h
     refine c_seq (za0 (o_q rfl rfl (q_lss rfl rfl) (o_end (za1 (c_seq (zb1 (vb_ hr60.ge) (zb2 (zab (zab ?_)))))))))
     have e_ := si_ h; replace h := hR62; rw [← e_] at h; clear e_
     refine x_hit (za1 (c_seq (za0 (o_q rfl rfl (za3 rfl) (o_end (za1 (zas _ rfl (fun hb67 => ?_) (fun hb67 => ?_))))))))
     ·skip
      replace h := bb_t hb67 h
      refine za0 (o_q rfl rfl (za3 rfl) (o_q rfl rfl (za3 rfl) (o_e rfl (e_lit (vs := [(0, .int .i64 i7)]) (cs := [.int .i64 i7]) (Kd.int .i64) ([i7] : List Int) Tryz.underlying25 I3 dc_ rfl dc_ rfl rfl (fun _ _ => Kd.zaf _)) (cur2 (fun A68 c69 => za6 h (fun l71 ha72 h => ?_) rfl)))))
      refine o_e rfl (e_app (i := 1) (j := 0) Tryz.underlying25 I3 rfl dc_ dc_ rfl rfl rfl rfl rfl ha72) (cur2 (fun A73 c74 => o_q rfl rfl (q_asg rfl) (o_end (zak (za1 (za0 (o_q rfl rfl (za3 rfl) (o_q rfl rfl (zb5 rfl rfl) (o_q rfl rfl (q_asg rfl) (o_end ?_))))))))))
      refine zaj k10 (l71, w64 (i7 + 1), A73, c74) (Nat.lt_succ_self _) h ⟨rfl, rfl, trivial⟩ (fun w h => za8 [1, 2] dc_ rfl w h) ?_
      exact of_
     ·skip
      replace h := bb_f hb67 h
      refine zal (zak (za1 (za0 (o_q rfl rfl (za3 rfl) (o_q rfl rfl (zb5 rfl rfl) (o_q rfl rfl (q_asg rfl) (o_end (zaj k10 (l4, w64 (i7 + 1), A5, c6) (Nat.lt_succ_self _) h ⟨rfl, rfl, trivial⟩ (fun w h => za8 [0, 1] dc_ rfl w h) ?_))))))))
      exact of_
    ·skip
     clear hl63
     have hr60 := hJ_.1; have hk66 := hJ_.2.1; have h := hJ_.2.2; clear hJ_
     replace h : spec_reNeeded.l2 l1 i7 (y57 :: ys58) i55 b56 = some o64 := h
     rw [spec_reNeeded.l2] at h
     refine c_seq (za0 (o_q rfl rfl (q_lss rfl rfl) (o_end (za1 (c_seq (zay (vb_ hr60.lt) (zal (za1 (c_seq ?_)))))))))
     refine zah (c_seq (za0 (o_q rfl rfl (za3 rfl) (zb0 (p := Sh A0_1 l0_1.length l0_1.length) (fun w h => f_sh (dk := kStep) h (fun w h => R0_1.now Z h)) (fun hq75 => o_q rfl rfl (q_ix Tryz.underlying24 Z72 rfl rfl hq75 hr60.get) (o_q rfl rfl (q_ldE G72 Z72 rfl rfl (fun w h => R0_1.now Z h) hr60.get (fun _ _ h => h) rfl) (o_e rfl (zao V72 rfl) (fun g76 => o_q rfl rfl (q_asg rfl) (o_e rfl (zae (i := 0) rfl rfl rfl Z72 rfl rfl) (fun _ => ?_))))))))))
     refine o_end (za1 (za0 (o_q rfl rfl (za3 rfl) (o_q rfl rfl (za3 rfl) (byB b56 (fun hb78 => ?_) (fun hb78 => ?_))))))
     ·replace h := bb_t hb78 h
      refine o_n (d := 47) (za2 rfl rfl rfl (vb_ hb78) rfl) (Eq.refl (some 47)) (o_n (d := 48) (za2 rfl rfl rfl (vb_ hb78) rfl) (Eq.refl (some 48)) (o_n (d := 49) (za2 rfl rfl rfl (vb_ hb78) rfl) (Eq.refl (some 49)) (o_n (d := 50) (za2 rfl rfl rfl (vb_ hb78) rfl) (Eq.refl (some 50)) (o_n (d := 51) (za2 rfl rfl rfl (vb_ hb78) rfl) (Eq.refl (some 51)) (o_n (d := 52) (zb3 rfl rfl rfl rfl) (Eq.refl (some 52)) (o_n (d := 53) (zb3 rfl rfl rfl rfl) (Eq.refl (some 53)) (o_n (d := 54) (zb3 rfl rfl rfl rfl) (Eq.refl (some 54)) (o_n (d := 55) (zb3 rfl rfl rfl rfl) (Eq.refl (some 55)) (o_n (d := 56) (zb3 rfl rfl rfl rfl) (Eq.refl (some 56)) ?_)))))))))
      refine o_n (d := 57) (zb3 rfl rfl rfl rfl) (Eq.refl (some 57)) (o_n (d := 58) (zb3 rfl rfl rfl rfl) (Eq.refl (some 58)) (o_n (d := 59) (zb3 rfl rfl rfl rfl) (Eq.refl (some 59)) (o_n (d := 60) (zb3 rfl rfl rfl rfl) (Eq.refl (some 60)) (o_n (d := 61) (zb3 rfl rfl rfl rfl) (Eq.refl (some 61)) (o_n (d := 62) (za2 rfl rfl rfl (vb_ hb78) rfl) (Eq.refl (some 62)) (o_q rfl rfl (zai true (vb_ hb78) rfl) (o_q rfl rfl (q_asg rfl) (o_end (zak ?_)))))))))
      refine za1 (za0 (o_q rfl rfl (q_up rfl rfl (hr60.up hm61)) (o_q rfl rfl (za3 rfl) (o_end (zaj ys58.length (ys58, i55 + 1, true) (by rw [← hk66]; exact Nat.lt_succ_self _) ⟨hr60.step, rfl, h⟩ ⟨rfl, rfl, trivial⟩ (fun w h => za8 [1, 2] dc_ rfl w h) ?_)))))
      exact of_
     ·replace h := bb_f hb78 h
      refine o_w (za4 rfl rfl rfl (vb_ hb78)) rfl (za3 rfl) (o_w (za4 rfl rfl rfl (vb_ hb78)) rfl (za3 rfl) (za6 h (fun b80 hx79 h => ?_) rfl))
      refine o_ew (za4 rfl rfl rfl (vb_ hb78)) (za7 0 Z Tryz.func72 N72 rfl rfl rfl (fun w P1 hF hB hS hT => spec_l1Has.calls A1 c1 l1.length l1 i55 hB hF (hS _ R1) hc1 _ hx79)) (fun _ => o_w (za4 rfl rfl rfl (vb_ hb78)) rfl (q_not rfl) (o_w (za4 rfl rfl rfl (vb_ hb78)) rfl (za3 rfl) (byB b80 (fun hb81 => ?_) (fun hb81 => ?_))))
      ·replace h := bb_t hb81 h
       refine o_n (d := 52) (za2 rfl rfl rfl (congrArg (fun b => Value.bool (!(b))) hb81) rfl) (Eq.refl (some 52)) (o_n (d := 53) (za2 rfl rfl rfl (congrArg (fun b => Value.bool (!(b))) hb81) rfl) (Eq.refl (some 53)) (o_n (d := 54) (za2 rfl rfl rfl (congrArg (fun b => Value.bool (!(b))) hb81) rfl) (Eq.refl (some 54)) (o_n (d := 55) (za2 rfl rfl rfl (congrArg (fun b => Value.bool (!(b))) hb81) rfl) (Eq.refl (some 55)) (o_n (d := 56) (za2 rfl rfl rfl (congrArg (fun b => Value.bool (!(b))) hb81) rfl) (Eq.refl (some 56)) (o_n (d := 57) (zb3 rfl rfl rfl rfl) (Eq.refl (some 57)) (o_n (d := 58) (zb3 rfl rfl rfl rfl) (Eq.refl (some 58)) (o_n (d := 59) (zb3 rfl rfl rfl rfl) (Eq.refl (some 59)) (o_n (d := 60) (zb3 rfl rfl rfl rfl) (Eq.refl (some 60)) (o_n (d := 61) (za2 rfl rfl rfl (congrArg (fun b => Value.bool (!(b))) hb81) rfl) (Eq.refl (some 61)) ?_)))))))))
       refine o_w (za4 rfl rfl rfl (vb_ hb78)) rfl (zai false (congrArg (fun b => Value.bool (!(b))) hb81) rfl) (o_q rfl rfl (zai false (vb_ hb78) rfl) (o_q rfl rfl (q_asg rfl) (o_end (zak (za1 (za0 (o_q rfl rfl (q_up rfl rfl (hr60.up hm61)) (o_q rfl rfl (za3 rfl) (o_end ?_)))))))))
       refine zaj ys58.length (ys58, i55 + 1, false) (by rw [← hk66]; exact Nat.lt_succ_self _) ⟨hr60.step, rfl, h⟩ ⟨rfl, rfl, trivial⟩ (fun w h => za8 [1, 2] dc_ rfl w h) ?_
       exact of_
      ·replace h := bb_f hb81 h
       refine o_w (za4 rfl rfl rfl (congrArg (fun b => Value.bool (!(b))) hb81)) rfl (q_f F72_0 rfl) (o_w (za4 rfl rfl rfl (congrArg (fun b => Value.bool (!(b))) hb81)) rfl (q_ldb Y3 rfl (fun w h => h.zac (i := 0) rfl) rfl) (o_w (za4 rfl rfl rfl (congrArg (fun b => Value.bool (!(b))) hb81)) rfl (za3 rfl) (o_w (za4 rfl rfl rfl (congrArg (fun b => Value.bool (!(b))) hb81)) rfl (q_eql rfl rfl) (o_w (za4 rfl rfl rfl (congrArg (fun b => Value.bool (!(b))) hb81)) rfl (za3 rfl) (byB (decide (y57.f0 = i7)) (fun hb82 => ?_) (fun hb82 => ?_))))))
       ·replace h := br_t hb82 h
        refine o_n (d := 57) (za2 rfl rfl rfl (vb_ hb82) rfl) (Eq.refl (some 57)) (o_n (d := 58) (za2 rfl rfl rfl (vb_ hb82) rfl) (Eq.refl (some 58)) (o_n (d := 59) (za2 rfl rfl rfl (vb_ hb82) rfl) (Eq.refl (some 59)) (o_n (d := 60) (za2 rfl rfl rfl (vb_ hb82) rfl) (Eq.refl (some 60)) (o_w (za4 rfl rfl rfl (congrArg (fun b => Value.bool (!(b))) hb81)) rfl (zai true (vb_ hb82) rfl) (o_w (za4 rfl rfl rfl (vb_ hb78)) rfl (zai true (congrArg (fun b => Value.bool (!(b))) hb81) rfl) (o_q rfl rfl (zai false (vb_ hb78) rfl) (o_q rfl rfl (q_asg rfl) (o_end (zak ?_)))))))))
        refine za1 (za0 (o_q rfl rfl (q_up rfl rfl (hr60.up hm61)) (o_q rfl rfl (za3 rfl) (o_end (zaj ys58.length (ys58, i55 + 1, true) (by rw [← hk66]; exact Nat.lt_succ_self _) ⟨hr60.step, rfl, h⟩ ⟨rfl, rfl, trivial⟩ (fun w h => za8 [1, 2] dc_ rfl w h) ?_)))))
        exact of_
       ·replace h := br_f hb82 h
        refine o_w (za4 rfl rfl rfl (vb_ hb82)) rfl (q_f F72_1 rfl) (o_w (za4 rfl rfl rfl (vb_ hb82)) rfl (q_ldb Y3 rfl (fun w h => h.zac (i := 0) rfl) rfl) (o_w (za4 rfl rfl rfl (vb_ hb82)) rfl (za3 rfl) (o_w (za4 rfl rfl rfl (vb_ hb82)) rfl (q_eql rfl rfl) (o_w (za4 rfl rfl rfl (congrArg (fun b => Value.bool (!(b))) hb81)) rfl (zai false (vb_ hb82) rfl) (o_w (za4 rfl rfl rfl (vb_ hb78)) rfl (zai true (congrArg (fun b => Value.bool (!(b))) hb81) rfl) (o_q rfl rfl (zai false (vb_ hb78) rfl) (o_q rfl rfl (q_asg rfl) (o_end (zak ?_)))))))))
        refine za1 (za0 (o_q rfl rfl (q_up rfl rfl (hr60.up hm61)) (o_q rfl rfl (za3 rfl) (o_end (zaj ys58.length (ys58, i55 + 1, decide (y57.f1 = i7)) (by rw [← hk66]; exact Nat.lt_succ_self _) ⟨hr60.step, rfl, h⟩ ⟨rfl, rfl, trivial⟩ (fun w h => za8 [1, 2] dc_ rfl w h) ?_)))))
        exact of_
  ·skip
   replace h := br_f hb18 h
   refine zb2 (zab (zab ?_))
   have e_ := si_ h; replace h := hR13; rw [← e_] at h; clear e_
   refine x_hit (za1 (c_seq (za0 (o_q rfl rfl (za3 rfl) (o_q rfl rfl (q_asg rfl) (o_end (za1 (c_ret ?_))))))))
   have e0_ := si_ h; clear h
   subst e0_
   exact x_r1 (A5, c6) Tryz.results131 (zad rfl) rfl (fun w h => za8 [0] dc_ rfl w h)

def spec_l1Put.l0 (l0 : List Int) (a1 : Int) : Nat → Int → Option Int
 | 0, _ => none
 | k26 + 1, i23 => if i23 < (l0.length : Int) then ((gt l0 i23).bind fun y37 => if y37 < a1 then (spec_l1Put.l0 l0 a1 k26 (w64 (i23 + 1))) else (some i23)) else (some i23)
def spec_l1Put.f (k : Nat) (l0 : List Int) (a1 : Int) : Option (List Int) := ((spec_l1Put.l0 l0 a1 k 0)).bind fun i17 => (if i17 < (l0.length : Int) then ((gt l0 i17).bind fun y52 => if y52 = a1 then (some (.inl l0)) else (some (.inr ()))) else (some (.inr ())) : Option (((List Int)) ⊕ (Unit))).bind fun o_ => match o_ with | .inl r_ => some r_ | .inr _ => (ct l0 (0 : Int) i17).bind fun l57 => (ap ([] : List Int) l57).bind fun l60 => (ap l60 ([a1] : List Int)).bind fun l67 => (ct l0 i17 (l0.length : Int)).bind fun l71 => (ap l67 l71).bind fun l74 => some l74
theorem spec_l1Put.calls (k : Nat) {w0 ws : World} {P0 : Nat → Prop} (A0 : Option Addr) (c0 : Nat) (n0 : Nat) (l0 : List Int) (a1 : Int) (Z : Below w0.heap.size w0 ws) (hF : Fr w0 ws P0 [row (Kd.int .i64) 3 (.slice A0 n0 c0) l0] ws)  (r_1 : List Int) (h : spec_l1Put.f k l0 a1 = some r_1) :
  Calls Tryz.prog 103 #[.slice A0 n0 c0, .int .i64 a1] ws (Post1 w0 ws P0 (fun ((q_2, q_3) : (Option Addr) × Nat) => .slice q_2 r_1.length q_3) (fun ((q_2, q_3) : (Option Addr) × Nat) => [row (Kd.int .i64) 3 (.slice q_2 r_1.length q_3) r_1])) := by
 unfold spec_l1Put.f at h
 obtain rfl := (hF.row_C (i := 0) rfl).2.1
 refine enter Tryz.func103 rfl Tryz.ntmps103 rfl hF (c_seq (za0 (o_q rfl rfl (q_asg rfl) (o_end (za1 (c_seq (za0 (o_q rfl rfl (q_asg rfl) (o_end ?_)))))))))
 refine za1 (za6 h (fun o18 hl19 hR20 => ?_) rfl)
 clear h
 refine c_cutJ (σ := Int) (fun i17 => some i17 = some o18) [5, 7, 8, 9, 10, 11, 12, 13, 14, 15, 16, 17, 18, 19, 20] (fun i17 => [(5, .int .i64 i17)]) (fun i17 => [row (Kd.int .i64) 3 (.slice A0 l0.length c0) l0]) ?_ ?_
 ·skip
  have h := hl19; clear hl19
  clear hR20
  refine zah ?_
  have hl30 := h; clear h
  refine zax (σ := Int) (fun k26 (i23 : Int) => spec_l1Put.l0 l0 a1 k26 i23 = some o18) [5, 7, 8, 9, 10, 11, 12, 13, 14, 15, 16, 17, 18, 19, 20] (fun (i23 : Int) => [(5, .int .i64 i23)]) (fun (i23 : Int) => [row (Kd.int .i64) 3 (.slice A0 l0.length c0) l0]) k 0 hl30 ⟨rfl, trivial⟩ (fun w h => h) (natC (fun i23 => fun U32 hJ_ => ?_) (fun k26 => (fun i23 => fun U32 hJ_ => ?_)))
  ·skip
   replace hJ_ : spec_l1Put.l0 l0 a1 0 i23 = some o18 := hJ_
   rw [spec_l1Put.l0] at hJ_
   exact noneE hJ_
  ·skip
   clear hl30
   have h := hJ_; clear hJ_
   replace h : spec_l1Put.l0 l0 a1 (k26 + 1) i23 = some o18 := h
   rw [spec_l1Put.l0] at h
   refine c_seq (c_seq (za0 (o_q rfl rfl (za3 rfl) (o_q rfl rfl (za3 rfl) (o_q rfl rfl (q_len Tryz.underlying25 rfl) (o_q rfl rfl (q_lss rfl rfl) (o_q rfl rfl (za3 rfl) (byB (decide (i23 < (l0.length : Int))) (fun hb34 => ?_) (fun hb34 => ?_)))))))))
   ·replace h := br_t hb34 h
    refine o_w (za4 rfl rfl rfl (vb_ hb34)) rfl (za3 rfl) (o_w (za4 rfl rfl rfl (vb_ hb34)) rfl (za3 rfl) (zb0 (p := Sh A0 l0.length l0.length) (fun w h => f_sh (dk := (Kd.int .i64)) h (fun w h => h.zat (i := 0) rfl)) (fun hq35 => za6 h (fun y37 hg36 h => ?_) rfl)))
    refine o_w (za4 rfl rfl rfl (vb_ hb34)) rfl (q_ix Tryz.underlying25 Z3 rfl rfl hq35 hg36) (o_w (za4 rfl rfl rfl (vb_ hb34)) rfl (q_lde (off := 0) Y3 rfl rfl (fun w h => h.zat (i := 0) rfl) hg36 (fun _ _ h => h) rfl) (o_w (za4 rfl rfl rfl (vb_ hb34)) rfl (za3 rfl) (o_w (za4 rfl rfl rfl (vb_ hb34)) rfl (q_lss rfl rfl) (o_q rfl rfl (zai true (vb_ hb34) rfl) (o_end (za1 (zas _ rfl (fun hb38 => ?_) (fun hb38 => ?_))))))))
    ·skip
     replace h := br_t hb38 h
     refine zal (za1 (zah (za0 (o_q rfl rfl (za3 rfl) (o_q rfl rfl (zb5 rfl rfl) (o_q rfl rfl (q_asg rfl) (o_end (zak (zaj k26 (w64 (i23 + 1)) (Nat.lt_succ_self _) h ⟨rfl, trivial⟩ (fun w h => za8 [0] dc_ rfl w h) ?_)))))))))
     exact of_
    ·skip
     replace h := br_f hb38 h
     refine zb2 (zab (zab (x_hit (zam i23 h ⟨rfl, trivial⟩ (fun w h => za8 [0] dc_ rfl w h) ?_))))
     exact of_
   ·replace h := br_f hb34 h
    refine o_n (d := 12) (za2 rfl rfl rfl (vb_ hb34) rfl) (Eq.refl (some 12)) (o_n (d := 13) (za2 rfl rfl rfl (vb_ hb34) rfl) (Eq.refl (some 13)) (o_n (d := 14) (za2 rfl rfl rfl (vb_ hb34) rfl) (Eq.refl (some 14)) (o_n (d := 15) (za2 rfl rfl rfl (vb_ hb34) rfl) (Eq.refl (some 15)) (o_n (d := 16) (za2 rfl rfl rfl (vb_ hb34) rfl) (Eq.refl (some 16)) (o_n (d := 17) (za2 rfl rfl rfl (vb_ hb34) rfl) (Eq.refl (some 17)) (o_q rfl rfl (zai false (vb_ hb34) rfl) (o_end (za1 (zb1 rfl ?_)))))))))
    refine zb2 (zab (zab (x_hit (zam i23 h ⟨rfl, trivial⟩ (fun w h => za8 [0] dc_ rfl w h) ?_))))
    exact of_
 ·skip
  refine (fun i17 => fun U21 hJ22 => ?_)
  have e_ := si_ hJ22; have h := hR20; rw [← e_] at h; clear e_ hJ22 hR20 hl19
  refine za6 h (fun o44 hl45 hR46 => ?_) rfl
  clear h
  refine c_cutJ (σ := Unit) (fun _ => some (.inr ()) = some o44) [4, 21, 22, 23, 24, 25, 26, 27, 28, 29, 30, 31, 32, 33] (fun _ => []) (fun _ => [row (Kd.int .i64) 3 (.slice A0 l0.length c0) l0]) ?_ ?_
  ·skip
   have h := hl45; clear hl45
   refine c_seq (za0 (o_q rfl rfl (za3 rfl) (o_q rfl rfl (za3 rfl) (o_q rfl rfl (q_len Tryz.underlying25 rfl) (o_q rfl rfl (q_lss rfl rfl) (o_q rfl rfl (za3 rfl) (byB (decide (i17 < (l0.length : Int))) (fun hb49 => ?_) (fun hb49 => ?_))))))))
   ·replace h := br_t hb49 h
    refine o_w (za4 rfl rfl rfl (vb_ hb49)) rfl (za3 rfl) (o_w (za4 rfl rfl rfl (vb_ hb49)) rfl (za3 rfl) (zb0 (p := Sh A0 l0.length l0.length) (fun w h => f_sh (dk := (Kd.int .i64)) h (fun w h => h.zat (i := 0) rfl)) (fun hq50 => za6 h (fun y52 hg51 h => ?_) rfl)))
    refine o_w (za4 rfl rfl rfl (vb_ hb49)) rfl (q_ix Tryz.underlying25 Z3 rfl rfl hq50 hg51) (o_w (za4 rfl rfl rfl (vb_ hb49)) rfl (q_lde (off := 0) Y3 rfl rfl (fun w h => h.zat (i := 0) rfl) hg51 (fun _ _ h => h) rfl) (o_w (za4 rfl rfl rfl (vb_ hb49)) rfl (za3 rfl) (o_w (za4 rfl rfl rfl (vb_ hb49)) rfl (q_eql rfl rfl) (o_q rfl rfl (zai true (vb_ hb49) rfl) (o_end (za1 (zas _ rfl (fun hb53 => ?_) (fun hb53 => ?_))))))))
    ·skip
     replace h := br_t hb53 h
     refine c_seq (za0 (o_q rfl rfl (za3 rfl) (o_q rfl rfl (q_asg rfl) (o_end (za1 (c_ret (za9 ?_)))))))
     have e_ := si_ h; replace h := hR46; rw [← e_] at h; clear e_
     have e0_ := si_ h; clear h
     subst e0_
     exact x_r1 (A0, c0) Tryz.results103 (zad rfl) rfl (fun w h => za8 [0] dc_ rfl w h)
    ·skip
     replace h := br_f hb53 h
     refine zal (zam () h trivial (fun w h => za8 [0] dc_ rfl w h) ?_)
     exact of_
   ·replace h := br_f hb49 h
    refine o_n (d := 26) (za2 rfl rfl rfl (vb_ hb49) rfl) (Eq.refl (some 26)) (o_n (d := 27) (za2 rfl rfl rfl (vb_ hb49) rfl) (Eq.refl (some 27)) (o_n (d := 28) (za2 rfl rfl rfl (vb_ hb49) rfl) (Eq.refl (some 28)) (o_n (d := 29) (za2 rfl rfl rfl (vb_ hb49) rfl) (Eq.refl (some 29)) (o_n (d := 30) (za2 rfl rfl rfl (vb_ hb49) rfl) (Eq.refl (some 30)) (o_n (d := 31) (za2 rfl rfl rfl (vb_ hb49) rfl) (Eq.refl (some 31)) (o_q rfl rfl (zai false (vb_ hb49) rfl) (o_end (za1 (zb1 rfl ?_)))))))))
    refine zal (zam () h trivial (fun w h => za8 [0] dc_ rfl w h) ?_)
    exact of_
  ·skip
   refine (fun _ => fun U47 hJ48 => ?_)
   have e_ := si_ hJ48; have h := hR46; rw [← e_] at h; clear e_ hJ48 hR46 hl45
   refine c_seq (za0 (o_e rfl (e_lit0 (Kd.int .i64) Tryz.underlying25 I3) (cur2 (fun A54 c55 => o_q rfl rfl (za3 rfl) (o_q rfl rfl (za3 rfl) (za6 h (fun l57 hz58 h => ?_) rfl))))))
   refine zb0 (p := l0.length = l0.length ∧ l0.length ≤ c0) (fun w h => h.row_nc (i := 1) rfl) (fun hk59 => o_q rfl rfl (q_ctv Tryz.underlying25 Z3 rfl rfl ⟨_, rfl⟩ hk59.1 hk59.2 hz58) (za6 h (fun l60 ha61 h => ?_) rfl))
   refine o_e rfl (e_appr (i := 0) Tryz.underlying25 I3 rfl dc_ dc_ (fun _ _ _ _ h => h) rfl (fun w h => C_cut (dk := (Kd.int .i64)) rfl hz58 hk59.2 (h.zat (i := 1) rfl)) rfl rfl ha61) (cur2 (fun A62 c63 => o_q rfl rfl (q_asg rfl) (o_end (za1 (c_seq (za0 (o_q rfl rfl (za3 rfl) (o_q rfl rfl (za3 rfl) (o_e rfl (e_lit (vs := [(0, .int .i64 a1)]) (cs := [.int .i64 a1]) (Kd.int .i64) ([a1] : List Int) Tryz.underlying25 I3 dc_ rfl dc_ rfl rfl (fun _ _ => Kd.zaf _)) (cur2 (fun A64 c65 => za6 h (fun l67 ha68 h => ?_) rfl)))))))))))
   refine o_e rfl (e_app (i := 1) (j := 0) Tryz.underlying25 I3 rfl dc_ dc_ rfl rfl rfl rfl rfl ha68) (cur2 (fun A69 c70 => o_q rfl rfl (q_asg rfl) (o_end (za1 (c_seq (za0 (o_q rfl rfl (za3 rfl) (o_q rfl rfl (za3 rfl) (o_q rfl rfl (za3 rfl) (za6 h (fun l71 hz72 h => ?_) rfl))))))))))
   refine zb0 (p := l0.length = l0.length ∧ l0.length ≤ c0) (fun w h => h.row_nc (i := 2) rfl) (fun hk73 => o_q rfl rfl (q_ctv Tryz.underlying25 Z3 rfl ⟨_, rfl⟩ rfl hk73.1 hk73.2 hz72) (za6 h (fun l74 ha75 h => ?_) rfl))
   refine o_e rfl (e_appr (i := 1) Tryz.underlying25 I3 rfl dc_ dc_ (fun _ _ _ _ h => h) rfl (fun w h => C_cut (dk := (Kd.int .i64)) rfl hz72 hk73.2 (h.zat (i := 2) rfl)) rfl rfl ha75) (cur2 (fun A76 c77 => o_q rfl rfl (q_asg rfl) (o_end (za1 (c_ret ?_)))))
   have e0_ := si_ h; clear h
   subst e0_
   exact x_r1 (A76, c77) Tryz.results103 (zad rfl) rfl (fun w h => za8 [1] dc_ rfl w h)

def spec_rePressure.l0 (k : Nat) (a0_0 : Int) (l0_1 : List SStep) (l0_2 : List Int) (l1 : List Int) : (List Int) → Int → Int → Option Int
 | [], i3, i4 => some i4
 | y5 :: ys6, i3, i4 => (ct l1 (0 : Int) (i3 + 1)).bind fun l16 => (spec_reNeeded.f k a0_0 l0_1 l0_2 l16).bind fun l19 => (spec_l1Put.f k l19 (w64 (a0_0 + y5))).bind fun l23 => (spec_l1Most.f i4 (l23.length : Int)).bind fun i27 => spec_rePressure.l0 k a0_0 l0_1 l0_2 l1 ys6 (i3 + 1) i27
def spec_rePressure.f (k : Nat) (a0_0 : Int) (l0_1 : List SStep) (l0_2 : List Int) (l1 : List Int) : Option Int := (spec_rePressure.l0 k a0_0 l0_1 l0_2 l1 l1 0 a0_0).bind fun i4 => some i4
theorem spec_rePressure.calls (k : Nat) {w0 ws : World} {P0 : Nat → Prop} (a0_0 : Int) (A0_1 : Option Addr) (c0_1 : Nat) (n0_1 : Nat) (l0_1 : List SStep) (A0_2 : Option Addr) (c0_2 : Nat) (n0_2 : Nat) (l0_2 : List Int) (A1 : Option Addr) (c1 : Nat) (n1 : Nat) (l1 : List Int) (Z : Below w0.heap.size w0 ws) (hF : Fr w0 ws P0 [] ws) (R0_1 : Stable ws P0 (fun w => Kd.C kStep w A0_1 n0_1 l0_1)) (hc0_1 : n0_1 ≤ c0_1) (R0_2 : Stable ws P0 (fun w => Kd.C (Kd.int .i64) w A0_2 n0_2 l0_2)) (hc0_2 : n0_2 ≤ c0_2) (R1 : Stable ws P0 (fun w => Kd.C (Kd.int .i64) w A1 n1 l1)) (hc1 : n1 ≤ c1) (r_1 : Int) (h : spec_rePressure.f k a0_0 l0_1 l0_2 l1 = some r_1) :
  Calls Tryz.prog 128 #[.agg #[.int .i64 a0_0, .slice A0_1 n0_1 c0_1, .slice A0_2 n0_2 c0_2], .slice A1 n1 c1] ws (Post1 w0 ws P0 (fun (_ : Unit) => .int .i64 r_1) (fun (_ : Unit) => [])) := by
 unfold spec_rePressure.f at h
 obtain rfl := (R0_1 ws (KeptB.refl _ _)).1
 obtain rfl := (R0_2 ws (KeptB.refl _ _)).1
 obtain rfl := (R1 ws (KeptB.refl _ _)).1
 refine enter Tryz.func128 rfl Tryz.ntmps128 rfl hF (c_seq (za0 (o_e rfl (e_box rfl) (fun g1 => o_q rfl rfl (q_asg rfl) (o_end (za1 (c_seq (za0 (o_q rfl rfl (q_f F27_0 rfl) ?_)))))))))
 refine o_q rfl rfl (q_ldb Y3 rfl (fun w h => h.zac (i := 0) rfl) rfl) (o_q rfl rfl (q_asg rfl) (o_end (za1 (c_seq (c_seq (za0 (o_q rfl rfl (za3 rfl) (o_q rfl rfl (q_len Tryz.underlying25 rfl) (o_q rfl rfl (za3 rfl) ?_)))))))))
 refine o_end (za1 (zah (za6 h (fun o12 hl11 hR10 => ?_) rfl)))
 clear h
 refine c_fact (p := l1.length ≤ 9223372036854775807) (fun w h => (R1.now Z h).2.1) (fun hm9 => zax (σ := (List Int) × Int × Int) (fun k7 ((ys6, i3, i4) : (List Int) × Int × Int) => Rg l1 i3 ys6 ∧ ys6.length = k7 ∧ spec_rePressure.l0 k a0_0 l0_1 l0_2 l1 ys6 i3 i4 = some o12) [5, 6, 7, 12, 13, 14, 15, 16, 17, 18, 19, 20, 21, 22, 23, 24, 25, 26, 27, 28, 29, 30, 31] (fun ((ys6, i3, i4) : (List Int) × Int × Int) => [(5, .int .i64 i4), (12, .int .i64 i3)]) (fun ((ys6, i3, i4) : (List Int) × Int × Int) => [box g1 27 #[.int .i64 a0_0, .slice A0_1 l0_1.length c0_1, .slice A0_2 l0_2.length c0_2]]) l1.length (l1, 0, a0_0) ⟨Rg.start _, rfl, hl11⟩ ⟨rfl, rfl, trivial⟩ (fun w h => h) (fun k7 => cur3 (listC (fun i3 i4 U13 hJ_ => ?_) (fun y5 ys6 i3 i4 U13 hJ_ => ?_))))
 ·skip
  clear hl11
  have hr8 := hJ_.1; have hk14 := hJ_.2.1; have h := hJ_.2.2; clear hJ_
  replace h : spec_rePressure.l0 k a0_0 l0_1 l0_2 l1 [] i3 i4 = some o12 := h
  rw [spec_rePressure.l0] at h
  refine c_seq (za0 (o_q rfl rfl (q_lss rfl rfl) (o_end (za1 (c_seq (zb1 (vb_ hr8.ge) (zb2 (zab (zab ?_)))))))))
  have e_ := si_ h; replace h := hR10; rw [← e_] at h; clear e_
  refine x_hit (za1 (c_seq (za0 (o_q rfl rfl (za3 rfl) (o_q rfl rfl (q_asg rfl) (o_end (za1 (c_ret ?_))))))))
  have e0_ := si_ h; clear h
  subst e0_
  exact x_r1 () Tryz.results128 (zad rfl) rfl (fun w h => za8 [] dc_ rfl w h)
 ·skip
  clear hl11
  have hr8 := hJ_.1; have hk14 := hJ_.2.1; have h := hJ_.2.2; clear hJ_
  replace h : spec_rePressure.l0 k a0_0 l0_1 l0_2 l1 (y5 :: ys6) i3 i4 = some o12 := h
  rw [spec_rePressure.l0] at h
  refine c_seq (za0 (o_q rfl rfl (q_lss rfl rfl) (o_end (za1 (c_seq (zay (vb_ hr8.lt) (zal (za1 (c_seq ?_)))))))))
  refine zah (c_seq (za0 (o_q rfl rfl (za3 rfl) (zb0 (p := Sh A1 l1.length l1.length) (fun w h => f_sh (dk := (Kd.int .i64)) h (fun w h => R1.now Z h)) (fun hq15 => o_q rfl rfl (q_ix Tryz.underlying25 Z3 rfl rfl hq15 hr8.get) (o_q rfl rfl (q_lde (off := 0) Y3 rfl rfl (fun w h => R1.now Z h) hr8.get (fun _ _ h => h) rfl) (o_q rfl rfl (q_asg rfl) (o_q rfl rfl (q_asg rfl) (o_end ?_)))))))))
  refine za1 (a_start (ds := []) MO rfl (zaa 0 rfl rfl rfl kr_ (fun _ _ _ h => h) (za3 rfl) (zau 1 rfl rfl rfl kr_ (fun _ _ _ h => h) (fun w h => h) (q_ldB G27 Z27 rfl (fun w h => h.zac (i := 0) rfl) rfl) (zaa 2 rfl rfl rfl kr_ (fun _ _ _ h => h) (za3 rfl) (zaa 3 rfl rfl rfl kr_ (fun _ _ _ h => h) (za3 rfl) (zaa 4 rfl rfl rfl kr_ (fun _ _ _ h => h) (q_up rfl rfl (hr8.up hm9)) (za6 h (fun l16 hz17 h => ?_) rfl)))))))
  refine zaa 5 rfl rfl rfl kr_ (fun _ _ _ h => h) (q_ctv Tryz.underlying25 Z3 rfl rfl ⟨_, rfl⟩ rfl hc1 hz17) (zaa 7 rfl rfl rfl kr_ (fun _ _ _ h => h) (q_f F27_0 rfl) (zau 8 rfl rfl rfl kr_ (fun _ _ _ h => h) (fun w h => h) (q_ldb Y3 rfl (fun w h => h.zac (i := 0) rfl) rfl) (zaa 9 rfl rfl rfl kr_ (fun _ _ _ h => h) (za3 rfl) (zaa 10 rfl rfl rfl kr_ (fun _ _ _ h => h) (zb5 rfl rfl) (za6 h (fun l19 hx18 h => ?_) rfl)))))
  refine a_one 6 rfl rfl kr_ rfl (za7 0 Z Tryz.func131 N131 rfl rfl rfl (fun w P1 hF hB hS hT => spec_reNeeded.calls k a0_0 A0_1 c0_1 l0_1.length l0_1 A0_2 c0_2 l0_2.length l0_2 (cutA A1 c1 (0 : Int).toNat 1) (c1 - (0 : Int).toNat) l16.length l16 hB hF (hS _ R0_1) hc0_1 (hS _ R0_2) hc0_2 (stab_cut (dk := (Kd.int .i64)) rfl hz17 hc1 (hS _ R1)) (ct_cap hz17 rfl hc1) _ hx18)) (fun s w h => za5 [some 1] dc_ w h rfl) (cur2 (fun A20 c21 => za6 h (fun l23 hx22 h => ?_) rfl))
  refine a_one 11 rfl rfl kr_ rfl (za7 1 Z Tryz.func103 N103 rfl rfl rfl (fun w P1 hF hB hS hT => spec_l1Put.calls k A20 c21 l19.length l19 (w64 (a0_0 + y5)) hB hF _ hx22)) (fun s w h => za5 [some 1] dc_ w h rfl) (cur2 (fun A24 c25 => zaa 12 rfl rfl rfl kr_ (fun _ _ _ h => h) (q_len Tryz.underlying25 rfl) (za6 h (fun i27 hx26 h => ?_) rfl)))
  refine a_one 13 rfl rfl kr_ rfl (za7 0 Z Tryz.func67 N67 rfl rfl rfl (fun w P1 hF hB hS hT => spec_l1Most.calls i4 (l23.length : Int) hB hF _ hx26)) (fun s w h => za5 [some 1] dc_ w h rfl) (fun _ => zaa 14 rfl rfl rfl kr_ (fun _ _ _ h => h) (q_asg rfl) (zar kr_ (zak (za1 (za0 (o_q rfl rfl (q_up rfl rfl (hr8.up hm9)) (o_q rfl rfl (za3 rfl) (o_end (zaj ys6.length (ys6, i3 + 1, i27) (by rw [← hk14]; exact Nat.lt_succ_self _) ⟨hr8.step, rfl, h⟩ ⟨rfl, rfl, trivial⟩ (fun w h => za8 [1] dc_ rfl w h) ?_)))))))))
  exact of_

def spec_plPlace.l0 (a1 : Int) : (List Int) → Int → Option ((Int) ⊕ (Unit))
 | [], i1 => some (.inr ())
 | y2 :: ys3, i1 => if y2 = a1 then (some (.inl i1)) else (spec_plPlace.l0 a1 ys3 (i1 + 1))
def spec_plPlace.f (l0 : List Int) (a1 : Int) : Option Int := (spec_plPlace.l0 a1 l0 0).bind fun o_ => match o_ with | .inl r_ => some r_ | .inr _ => some (-1)
theorem spec_plPlace.calls {w0 ws : World} {P0 : Nat → Prop} (A0 : Option Addr) (c0 : Nat) (n0 : Nat) (l0 : List Int) (a1 : Int) (Z : Below w0.heap.size w0 ws) (hF : Fr w0 ws P0 [] ws) (R0 : Stable ws P0 (fun w => Kd.C (Kd.int .i64) w A0 n0 l0)) (hc0 : n0 ≤ c0) (r_1 : Int) (h : spec_plPlace.f l0 a1 = some r_1) :
  Calls Tryz.prog 130 #[.slice A0 n0 c0, .int .i64 a1] ws (Post1 w0 ws P0 (fun (_ : Unit) => .int .i64 r_1) (fun (_ : Unit) => [])) := by
 unfold spec_plPlace.f at h
 obtain rfl := (R0 ws (KeptB.refl _ _)).1
 refine enter Tryz.func130 rfl Tryz.ntmps130 rfl hF (c_seq (za0 (o_q rfl rfl (q_asg rfl) (o_end (za1 (c_seq (c_seq (za0 (o_q rfl rfl (za3 rfl) ?_)))))))))
 refine o_q rfl rfl (q_len Tryz.underlying25 rfl) (o_q rfl rfl (za3 rfl) (o_end (za1 (zah (za6 h (fun o9 hl8 hR7 => ?_) rfl)))))
 clear h
 refine c_fact (p := l0.length ≤ 9223372036854775807) (fun w h => (R0.now Z h).2.1) (fun hm6 => zax (σ := (List Int) × Int) (fun k4 ((ys3, i1) : (List Int) × Int) => Rg l0 i1 ys3 ∧ ys3.length = k4 ∧ spec_plPlace.l0 a1 ys3 i1 = some o9) [4, 5, 6, 9, 10, 11, 12, 13, 14, 15, 16, 17, 18] (fun ((ys3, i1) : (List Int) × Int) => [(9, .int .i64 i1)]) (fun ((ys3, i1) : (List Int) × Int) => []) l0.length (l0, 0) ⟨Rg.start _, rfl, hl8⟩ ⟨rfl, trivial⟩ (fun w h => h) (fun k4 => cur2 (listC (fun i1 U10 hJ_ => ?_) (fun y2 ys3 i1 U10 hJ_ => ?_))))
 ·skip
  clear hl8
  have hr5 := hJ_.1; have hk11 := hJ_.2.1; have h := hJ_.2.2; clear hJ_
  replace h : spec_plPlace.l0 a1 [] i1 = some o9 := h
  rw [spec_plPlace.l0] at h
  refine c_seq (za0 (o_q rfl rfl (q_lss rfl rfl) (o_end (za1 (c_seq (zb1 (vb_ hr5.ge) (zb2 (zab (zab ?_)))))))))
  have e_ := si_ h; replace h := hR7; rw [← e_] at h; clear e_
  refine x_hit (za1 (c_seq (za0 (o_q rfl rfl (q_asg rfl) (o_end (za1 (c_ret ?_)))))))
  have e0_ := si_ h; clear h
  subst e0_
  exact x_r1 () Tryz.results130 (zad rfl) rfl (fun w h => za8 [] dc_ rfl w h)
 ·skip
  clear hl8
  have hr5 := hJ_.1; have hk11 := hJ_.2.1; have h := hJ_.2.2; clear hJ_
  replace h : spec_plPlace.l0 a1 (y2 :: ys3) i1 = some o9 := h
  rw [spec_plPlace.l0] at h
  refine c_seq (za0 (o_q rfl rfl (q_lss rfl rfl) (o_end (za1 (c_seq (zay (vb_ hr5.lt) (zal (za1 (c_seq ?_)))))))))
  refine zah (c_seq (za0 (o_q rfl rfl (za3 rfl) (zb0 (p := Sh A0 l0.length l0.length) (fun w h => f_sh (dk := (Kd.int .i64)) h (fun w h => R0.now Z h)) (fun hq12 => o_q rfl rfl (q_ix Tryz.underlying25 Z3 rfl rfl hq12 hr5.get) (o_q rfl rfl (q_lde (off := 0) Y3 rfl rfl (fun w h => R0.now Z h) hr5.get (fun _ _ h => h) rfl) (o_q rfl rfl (q_asg rfl) (o_q rfl rfl (q_asg rfl) (o_end ?_)))))))))
  refine za1 (c_seq (za0 (o_q rfl rfl (za3 rfl) (o_q rfl rfl (za3 rfl) (o_q rfl rfl (q_eql rfl rfl) (o_end (za1 (zas _ rfl (fun hb13 => ?_) (fun hb13 => ?_)))))))))
  ·skip
   replace h := br_t hb13 h
   refine c_seq (za0 (o_q rfl rfl (za3 rfl) (o_q rfl rfl (q_asg rfl) (o_end (za1 (c_ret (zan (za9 (za9 ?_)))))))))
   have e_ := si_ h; replace h := hR7; rw [← e_] at h; clear e_
   refine zan (za9 ?_)
   have e0_ := si_ h; clear h
   subst e0_
   exact x_r1 () Tryz.results130 (zad rfl) rfl (fun w h => za8 [] dc_ rfl w h)
  ·skip
   replace h := br_f hb13 h
   refine zal (zak (za1 (za0 (o_q rfl rfl (q_up rfl rfl (hr5.up hm6)) (o_q rfl rfl (za3 rfl) (o_end (zaj ys3.length (ys3, i1 + 1) (by rw [← hk11]; exact Nat.lt_succ_self _) ⟨hr5.step, rfl, h⟩ ⟨rfl, trivial⟩ (fun w h => za8 [] dc_ rfl w h) ?_)))))))
   exact of_

def spec_AllocatePlan.l2 (l1612 : List Int) : (List Int) → (List Int) → Int → Option (List Int)
 | [], l1628, i1631 => some l1628
 | y1632 :: ys1633, l1628, i1631 => (spec_plPlace.f l1612 y1632).bind fun i1885 => (ap l1628 ([i1885] : List Int)).bind fun l2004 => spec_AllocatePlan.l2 l1612 ys1633 l2004 (i1631 + 1)
def spec_AllocatePlan.l3 (l3702 : List Int) : Nat → (List Int) → Int → Option (List Int)
 | 0, l3705, i3706 => some l3705
 | k3709 + 1, l3705, i3706 => (gt l3705 i3706).bind fun y3733 => (spec_l1Has.f l3702 y3733).bind fun b3735 => if b3735 = true then (spec_AllocatePlan.l3 l3702 k3709 l3705 (i3706 + 1)) else ((gt l3705 i3706).bind fun y3738 => (st l3705 i3706 (-1)).bind fun l3739 => spec_AllocatePlan.l3 l3702 k3709 l3739 (i3706 + 1))
def spec_AllocatePlan.l1 (k : Nat) (a0_0 : Int) (l0_1 : List SStep) (l0_2 : List Int) (l1581 : List Int) : (List SStep) → (List Int) → (List SRegOp) → Int → Option ((List Int) × (List SRegOp))
 | [], l1612, l1613, i1616 => some (l1612, l1613)
 | y1617 :: ys1618, l1612, l1613, i1616 => ((spec_plPlace.f l1612 y1617.f0).bind fun i3158 => (spec_plPlace.f l1612 y1617.f1).bind fun i3398 => some (i3158, i3398)).bind fun (i2969, i2970) => (spec_plUpTo.f k (i1616 + 1)).bind fun l3698 => (spec_reNeeded.f k a0_0 l0_1 l0_2 l3698).bind fun l3702 => (spec_AllocatePlan.l3 l3702 (((l1581.length : Int)).toNat) l1612 0).bind fun l3705 => (spec_plPlace.f l3705 (-1)).bind fun i3718 => (gt l3705 i3718).bind fun y3721 => (st l3705 i3718 (w64 (a0_0 + i1616))).bind fun l3722 => (ap l1613 ([(⟨i3718, i2969, i2970⟩ : SRegOp)] : List SRegOp)).bind fun l3727 => spec_AllocatePlan.l1 k a0_0 l0_1 l0_2 l1581 ys1618 l3722 l3727 (i1616 + 1)
def spec_AllocatePlan.l0 (a0_0 : Int) (i790 : Int) : Nat → (List Int) → Int → Option (List Int)
 | 0, _, _ => none
 | k1587 + 1, l1581, i1584 => if i1584 < i790 then (if i1584 < a0_0 then ((ap l1581 ([i1584] : List Int)).bind fun l1600 => spec_AllocatePlan.l0 a0_0 i790 k1587 l1600 (w64 (i1584 + 1))) else ((ap l1581 ([(-1)] : List Int)).bind fun l1607 => spec_AllocatePlan.l0 a0_0 i790 k1587 l1607 (w64 (i1584 + 1)))) else (some l1581)
def spec_AllocatePlan.f (k : Nat) (a0_0 : Int) (l0_1 : List SStep) (l0_2 : List Int) : Option (Int × (List Int) × (List SRegOp) × (List Int) × Bool) := (spec_plGood.f k a0_0 l0_1 l0_2).bind fun b6 => if b6 = true then (((spec_plUpTo.f k (l0_1.length : Int)).bind fun l1041 => (spec_rePressure.f k a0_0 l0_1 l0_2 l1041).bind fun i1101 => (spec_plUpTo.f k a0_0).bind fun l1281 => some (i1101, l1281)).bind fun (i790, l791) => (spec_AllocatePlan.l0 a0_0 i790 k ([] : List Int) 0).bind fun l1581 => (spec_AllocatePlan.l1 k a0_0 l0_1 l0_2 l1581 l0_1 l1581 ([] : List SRegOp) 0).bind fun (l1612, l1613) => (spec_AllocatePlan.l2 l1612 l0_2 ([] : List Int) 0).bind fun l1628 => some (i790, l791, l1613, l1628, true)) else (some (0, ([] : List Int), ([] : List SRegOp), ([] : List Int), false))
theorem spec_AllocatePlan.calls (k : Nat) {w0 ws : World} {P0 : Nat → Prop} (a0_0 : Int) (A0_1 : Option Addr) (c0_1 : Nat) (n0_1 : Nat) (l0_1 : List SStep) (A0_2 : Option Addr) (c0_2 : Nat) (n0_2 : Nat) (l0_2 : List Int) (Z : Below w0.heap.size w0 ws) (hF : Fr w0 ws P0 [] ws) (R0_1 : Stable ws P0 (fun w => Kd.C kStep w A0_1 n0_1 l0_1)) (hc0_1 : n0_1 ≤ c0_1) (R0_2 : Stable ws P0 (fun w => Kd.C (Kd.int .i64) w A0_2 n0_2 l0_2)) (hc0_2 : n0_2 ≤ c0_2) (r_1 : Int) (r_2 : List Int) (r_5 : List SRegOp) (r_8 : List Int) (r_11 : Bool) (h : spec_AllocatePlan.f k a0_0 l0_1 l0_2 = some (r_1, r_2, r_5, r_8, r_11)) :
  Calls Tryz.prog 101 #[.agg #[.int .i64 a0_0, .slice A0_1 n0_1 c0_1, .slice A0_2 n0_2 c0_2]] ws (Post1 w0 ws P0 (fun ((q_3, q_4, q_6, q_7, q_9, q_10) : (Option Addr) × Nat × (Option Addr) × Nat × (Option Addr) × Nat) => .tuple #[.agg #[.int .i64 r_1, .slice q_3 r_2.length q_4, .slice q_6 r_5.length q_7, .slice q_9 r_8.length q_10], .bool r_11]) (fun ((q_3, q_4, q_6, q_7, q_9, q_10) : (Option Addr) × Nat × (Option Addr) × Nat × (Option Addr) × Nat) => [row (Kd.int .i64) 3 (.slice q_3 r_2.length q_4) r_2, row zaq 84 (.slice q_6 r_5.length q_7) r_5, row (Kd.int .i64) 3 (.slice q_9 r_8.length q_10) r_8])) := by
 unfold spec_AllocatePlan.f at h
 obtain rfl := (R0_1 ws (KeptB.refl _ _)).1
 obtain rfl := (R0_2 ws (KeptB.refl _ _)).1
 refine enter Tryz.func101 rfl Tryz.ntmps101 rfl hF (c_seq (za0 (o_e rfl (e_box rfl) (fun g1 => o_e rfl (zao V38 rfl) (fun g3 => o_q rfl rfl (q_asg rfl) (o_end (za1 (c_seq (c_seq ?_)))))))))
 refine za0 (o_q rfl rfl (q_ldB G27 Z27 rfl (fun w h => h.zac (i := 1) rfl) rfl) (za6 h (fun b6 hx5 h => ?_) rfl))
 refine o_e rfl (za7 0 Z Tryz.func33 N33 rfl rfl rfl (fun w P1 hF hB hS hT => spec_plGood.calls k a0_0 A0_1 c0_1 l0_1.length l0_1 A0_2 c0_2 l0_2.length l0_2 hB hF (hS _ R0_1) hc0_1 (hS _ R0_2) hc0_2 _ hx5)) (fun _ => o_q rfl rfl (q_not rfl) (o_end (za1 (zas _ rfl (fun hb7 => ?_) (fun hb7 => ?_)))))
 ·replace hb7 := nt_t hb7
  replace h := bb_f hb7 h
  refine c_seq (za0 (o_q rfl rfl (zaw (vs := []) (cs := [.int .i64 0, .slice none 0 0, .slice none 0 0, .slice none 0 0]) rfl rfl) (o_e rfl (zae (i := 0) rfl rfl rfl Z38 rfl rfl) (fun _ => o_q rfl rfl (q_asg rfl) (o_end (za1 (c_ret (za9 (x_nil (Kd.int .i64) 3 ?_)))))))))
  refine x_nil zaq 84 (x_nil (Kd.int .i64) 3 ?_)
  have e0_ := si_ h; clear h
  obtain ⟨rfl, e1_⟩ := Prod.mk.inj e0_
  obtain ⟨rfl, e2_⟩ := Prod.mk.inj e1_
  obtain ⟨rfl, e3_⟩ := Prod.mk.inj e2_
  obtain ⟨rfl, e4_⟩ := Prod.mk.inj e3_
  subst e4_
  exact x_r2 (none, 0, none, 0, none, 0) Tryz.results101 (zb8 rfl G38 Z38 (fun w h => h.zac (i := 3) rfl) rfl) (zad rfl) rfl (fun w h => za8 [2, 1, 0] dc_ rfl w h)
 ·replace hb7 := nt_f hb7
  replace h := bb_t hb7 h
  refine zal (za1 (za6 h (fun o794 hl795 hR796 => ?_) rfl))
  clear h
  refine c_cutJ (σ := Int × (List Int) × Nat × (Option Addr) × Nat) (fun (i790, l791, g789, A792, c793) => some (i790, l791) = some o794) [4, 19, 20, 21, 22, 23, 24, 25, 26, 27, 28] (fun (i790, l791, g789, A792, c793) => [(4, .pointer (some ⟨g789, 0, none⟩))]) (fun (i790, l791, g789, A792, c793) => [box g1 27 #[.int .i64 a0_0, .slice A0_1 l0_1.length c0_1, .slice A0_2 l0_2.length c0_2], box g3 38 #[.int .i64 0, .slice none 0 0, .slice none 0 0, .slice none 0 0], box g789 38 #[.int .i64 i790, .slice A792 l791.length c793, .slice none 0 0, .slice none 0 0], row (Kd.int .i64) 3 (.slice A792 l791.length c793) l791]) ?_ ?_
  ·skip
   have h := hl795; clear hl795
   clear hR796
   refine za6 h (fun l1041 hx1040 h => ?_) rfl
   refine za6 h (fun i1101 hx1100 h => ?_) rfl
   refine za6 h (fun l1281 hx1280 h => ?_) rfl
   refine a_start (ds := []) MO rfl (zau 0 rfl rfl rfl kr_ (fun _ _ _ h => h) (fun w h => h) (q_ldB G27 Z27 rfl (fun w h => h.zac (i := 1) rfl) rfl) (zaa 1 rfl rfl rfl kr_ (fun _ _ _ h => h) (q_f F27_1 rfl) (zau 2 rfl rfl rfl kr_ (fun _ _ _ h => h) (fun w h => h) (q_ldb Y24 rfl (fun w h => h.zac (i := 1) rfl) rfl) (zaa 3 rfl rfl rfl kr_ (fun _ _ _ h => h) (q_len Tryz.underlying24 rfl) (zaa 6 rfl rfl rfl kr_ (fun _ _ _ h => h) (q_f F27_0 rfl) (zau 7 rfl rfl rfl kr_ (fun _ _ _ h => h) (fun w h => h) (q_ldb Y3 rfl (fun w h => h.zac (i := 1) rfl) rfl) (a_two 4 10 rfl rfl rfl rfl kr_ rfl rfl (za7 0 Z Tryz.func129 N129 rfl rfl rfl (fun w P1 hF hB hS hT => spec_plUpTo.calls k (l0_1.length : Int) hB hF _ hx1040)) (fun s w h => za5 [some 1, some 2] dc_ w h rfl) (zao V38 rfl) (fun s w h => za5 [some 1, some 2] dc_ w h rfl) (cur2 (fun A1042 c1043 => ?_)) (fun g1400 => ?_))))))))
   ·skip
    refine a_two 5 10 rfl rfl rfl rfl kr_ rfl rfl (za7 0 Z Tryz.func128 N128 rfl rfl rfl (fun w P1 hF hB hS hT => spec_rePressure.calls k a0_0 A0_1 c0_1 l0_1.length l0_1 A0_2 c0_2 l0_2.length l0_2 A1042 c1043 l1041.length l1041 hB hF (hS _ R0_1) hc0_1 (hS _ R0_2) hc0_2 (hT 0 _ rfl).row (hT 0 _ rfl).cap _ hx1100)) (fun s w h => za5 [some 1, some 2] dc_ w h rfl) (zao V38 rfl) (fun s w h => za5 [some 2, some 3] dc_ w h rfl) (fun _ => ?_) (fun g1400 => ?_)
    ·skip
     refine a_two 8 10 rfl rfl rfl rfl kr_ rfl rfl (za7 0 Z Tryz.func129 N129 rfl rfl rfl (fun w P1 hF hB hS hT => spec_plUpTo.calls k a0_0 hB hF _ hx1280)) (fun s w h => za5 [some 2, some 3] dc_ w h rfl) (zao V38 rfl) (fun s w h => za5 [some 2, some 3] dc_ w h rfl) (cur2 (fun A1282 c1283 => ?_)) (fun g1400 => ?_)
     ·skip
      refine zaa 9 rfl rfl rfl kr_ (fun _ _ _ h => h) (zaw (vs := [(0, .int .i64 i1101), (1, .slice A1282 l1281.length c1283)]) (cs := [.int .i64 i1101, .slice A1282 l1281.length c1283, .slice none 0 0, .slice none 0 0]) rfl rfl) (a_one 10 rfl rfl kr_ rfl (zao V38 rfl) (fun s w h => za5 [some 3, some 4] dc_ w h rfl) (fun g1400 => a_one 11 rfl rfl kr_ rfl (zae (i := 0) rfl rfl rfl Z38 rfl rfl) (fun s w h => za5 [some 3, some 4] dc_ w h rfl) (fun _ => zar kr_ (zam (i1101, l1281, g1400, A1282, c1283) h ⟨rfl, trivial⟩ (fun w h => za8 [4, 3, 0, 1] dc_ rfl w h) ?_))))
      exact of_
     ·skip
      refine a_one 8 rfl rfl kr_ rfl (za7 0 Z Tryz.func129 N129 rfl rfl rfl (fun w P1 hF hB hS hT => spec_plUpTo.calls k a0_0 hB hF _ hx1280)) (fun s w h => za5 [some 3, some 4] dc_ w h rfl) (cur2 (fun A1282 c1283 => zaa 9 rfl rfl rfl kr_ (fun _ _ _ h => h) (zaw (vs := [(0, .int .i64 i1101), (1, .slice A1282 l1281.length c1283)]) (cs := [.int .i64 i1101, .slice A1282 l1281.length c1283, .slice none 0 0, .slice none 0 0]) rfl rfl) (a_one 11 rfl rfl kr_ rfl (zae (i := 1) rfl rfl rfl Z38 rfl rfl) (fun s w h => za5 [some 3, some 4] dc_ w h rfl) (fun _ => zar kr_ (zam (i1101, l1281, g1400, A1282, c1283) h ⟨rfl, trivial⟩ (fun w h => za8 [4, 3, 1, 0] dc_ rfl w h) ?_)))))
      exact of_
    ·skip
     refine a_one 5 rfl rfl kr_ rfl (za7 0 Z Tryz.func128 N128 rfl rfl rfl (fun w P1 hF hB hS hT => spec_rePressure.calls k a0_0 A0_1 c0_1 l0_1.length l0_1 A0_2 c0_2 l0_2.length l0_2 A1042 c1043 l1041.length l1041 hB hF (hS _ R0_1) hc0_1 (hS _ R0_2) hc0_2 (hT 1 _ rfl).row (hT 1 _ rfl).cap _ hx1100)) (fun s w h => za5 [some 2, some 3] dc_ w h rfl) (fun _ => a_one 8 rfl rfl kr_ rfl (za7 0 Z Tryz.func129 N129 rfl rfl rfl (fun w P1 hF hB hS hT => spec_plUpTo.calls k a0_0 hB hF _ hx1280)) (fun s w h => za5 [some 3, some 4] dc_ w h rfl) (cur2 (fun A1282 c1283 => zaa 9 rfl rfl rfl kr_ (fun _ _ _ h => h) (zaw (vs := [(0, .int .i64 i1101), (1, .slice A1282 l1281.length c1283)]) (cs := [.int .i64 i1101, .slice A1282 l1281.length c1283, .slice none 0 0, .slice none 0 0]) rfl rfl) (a_one 11 rfl rfl kr_ rfl (zae (i := 1) rfl rfl rfl Z38 rfl rfl) (fun s w h => za5 [some 3, some 4] dc_ w h rfl) (fun _ => zar kr_ (zam (i1101, l1281, g1400, A1282, c1283) h ⟨rfl, trivial⟩ (fun w h => za8 [4, 3, 1, 0] dc_ rfl w h) ?_))))))
     exact of_
   ·skip
    refine a_one 4 rfl rfl kr_ rfl (za7 0 Z Tryz.func129 N129 rfl rfl rfl (fun w P1 hF hB hS hT => spec_plUpTo.calls k (l0_1.length : Int) hB hF _ hx1040)) (fun s w h => za5 [some 2, some 3] dc_ w h rfl) (cur2 (fun A1042 c1043 => a_one 5 rfl rfl kr_ rfl (za7 0 Z Tryz.func128 N128 rfl rfl rfl (fun w P1 hF hB hS hT => spec_rePressure.calls k a0_0 A0_1 c0_1 l0_1.length l0_1 A0_2 c0_2 l0_2.length l0_2 A1042 c1043 l1041.length l1041 hB hF (hS _ R0_1) hc0_1 (hS _ R0_2) hc0_2 (hT 0 _ rfl).row (hT 0 _ rfl).cap _ hx1100)) (fun s w h => za5 [some 2, some 3] dc_ w h rfl) (fun _ => a_one 8 rfl rfl kr_ rfl (za7 0 Z Tryz.func129 N129 rfl rfl rfl (fun w P1 hF hB hS hT => spec_plUpTo.calls k a0_0 hB hF _ hx1280)) (fun s w h => za5 [some 3, some 4] dc_ w h rfl) (cur2 (fun A1282 c1283 => zaa 9 rfl rfl rfl kr_ (fun _ _ _ h => h) (zaw (vs := [(0, .int .i64 i1101), (1, .slice A1282 l1281.length c1283)]) (cs := [.int .i64 i1101, .slice A1282 l1281.length c1283, .slice none 0 0, .slice none 0 0]) rfl rfl) (a_one 11 rfl rfl kr_ rfl (zae (i := 2) rfl rfl rfl Z38 rfl rfl) (fun s w h => za5 [some 3, some 4] dc_ w h rfl) (fun _ => zar kr_ (zam (i1101, l1281, g1400, A1282, c1283) h ⟨rfl, trivial⟩ (fun w h => za8 [4, 3, 2, 0] dc_ rfl w h) ?_))))))))
    exact of_
  ·skip
   refine (cur5 (fun i790 l791 g789 A792 c793 => fun U797 hJ798 => ?_))
   have e_ := si_ hJ798; have h := hR796; rw [← e_] at h; clear e_ hJ798 hR796 hl795
   refine c_seq (za0 (o_q rfl rfl (q_asg rfl) (o_end (za1 (c_seq (c_seq (za0 (o_q rfl rfl (q_asg rfl) (o_end ?_)))))))))
   refine za1 (zah (c_nil (Kd.int .i64) 3 (za6 h (fun o1592 hl1591 hR1590 => ?_) rfl)))
   clear h
   refine zax (σ := (List Int) × Int × (Option Addr) × Nat) (fun k1587 ((l1581, i1584, A1582, c1583) : (List Int) × Int × (Option Addr) × Nat) => spec_AllocatePlan.l0 a0_0 i790 k1587 l1581 i1584 = some o1592) [5, 6, 29, 30, 31, 32, 33, 34, 35, 36, 37, 38, 39, 40, 41, 42, 43, 44, 45] (fun ((l1581, i1584, A1582, c1583) : (List Int) × Int × (Option Addr) × Nat) => [(5, .slice A1582 l1581.length c1583), (6, .int .i64 i1584)]) (fun ((l1581, i1584, A1582, c1583) : (List Int) × Int × (Option Addr) × Nat) => [row (Kd.int .i64) 3 (.slice A1582 l1581.length c1583) l1581, box g1 27 #[.int .i64 a0_0, .slice A0_1 l0_1.length c0_1, .slice A0_2 l0_2.length c0_2], box g3 38 #[.int .i64 0, .slice none 0 0, .slice none 0 0, .slice none 0 0], box g789 38 #[.int .i64 i790, .slice A792 l791.length c793, .slice none 0 0, .slice none 0 0], row (Kd.int .i64) 3 (.slice A792 l791.length c793) l791]) k (([] : List Int), 0, none, 0) hl1591 ⟨rfl, rfl, trivial⟩ (fun w h => h) (natC (cur4 (fun l1581 i1584 A1582 c1583 => fun U1593 hJ_ => ?_)) (fun k1587 => (cur4 (fun l1581 i1584 A1582 c1583 => fun U1593 hJ_ => ?_))))
   ·skip
    replace hJ_ : spec_AllocatePlan.l0 a0_0 i790 0 l1581 i1584 = some o1592 := hJ_
    rw [spec_AllocatePlan.l0] at hJ_
    exact noneE hJ_
   ·skip
    clear hl1591
    have h := hJ_; clear hJ_
    replace h : spec_AllocatePlan.l0 a0_0 i790 (k1587 + 1) l1581 i1584 = some o1592 := h
    rw [spec_AllocatePlan.l0] at h
    refine c_seq (c_seq (za0 (o_q rfl rfl (za3 rfl) (o_q rfl rfl (q_f F38_0 rfl) (o_q rfl rfl (q_ldb Y3 rfl (fun w h => h.zac (i := 3) rfl) rfl) (o_q rfl rfl (q_lss rfl rfl) (o_end (za1 (zas _ rfl (fun hb1595 => ?_) (fun hb1595 => ?_))))))))))
    ·skip
     replace h := br_t hb1595 h
     refine zal (za1 (c_seq (zah (c_seq (za0 (o_q rfl rfl (za3 rfl) (o_q rfl rfl (q_f F27_0 rfl) (o_q rfl rfl (q_ldb Y3 rfl (fun w h => h.zac (i := 1) rfl) rfl) (o_q rfl rfl (q_lss rfl rfl) ?_)))))))))
     refine o_end (za1 (zas _ rfl (fun hb1596 => ?_) (fun hb1596 => ?_)))
     ·skip
      replace h := br_t hb1596 h
      refine za0 (o_q rfl rfl (za3 rfl) (o_q rfl rfl (za3 rfl) (o_e rfl (e_lit (vs := [(0, .int .i64 i1584)]) (cs := [.int .i64 i1584]) (Kd.int .i64) ([i1584] : List Int) Tryz.underlying25 I3 dc_ rfl dc_ rfl rfl (fun _ _ => Kd.zaf _)) (cur2 (fun A1597 c1598 => za6 h (fun l1600 ha1601 h => ?_) rfl)))))
      refine o_e rfl (e_app (i := 1) (j := 0) Tryz.underlying25 I3 rfl dc_ dc_ rfl rfl rfl rfl rfl ha1601) (cur2 (fun A1602 c1603 => o_q rfl rfl (q_asg rfl) (o_end (zak (za1 (za0 (o_q rfl rfl (za3 rfl) (o_q rfl rfl (zb5 rfl rfl) (o_q rfl rfl (q_asg rfl) (o_end ?_))))))))))
      refine zaj k1587 (l1600, w64 (i1584 + 1), A1602, c1603) (Nat.lt_succ_self _) h ⟨rfl, rfl, trivial⟩ (fun w h => za8 [1, 2, 3, 4, 5] dc_ rfl w h) ?_
      exact of_
     ·skip
      replace h := br_f hb1596 h
      refine za0 (o_q rfl rfl (za3 rfl) (o_e rfl (e_lit (vs := [(0, .int .i64 (-1))]) (cs := [.int .i64 (-1)]) (Kd.int .i64) ([(-1)] : List Int) Tryz.underlying25 I3 dc_ rfl dc_ rfl rfl (fun _ _ => Kd.zaf _)) (cur2 (fun A1604 c1605 => za6 h (fun l1607 ha1608 h => ?_) rfl))))
      refine o_e rfl (e_app (i := 1) (j := 0) Tryz.underlying25 I3 rfl dc_ dc_ rfl rfl rfl rfl rfl ha1608) (cur2 (fun A1609 c1610 => o_q rfl rfl (q_asg rfl) (o_end (zak (za1 (za0 (o_q rfl rfl (za3 rfl) (o_q rfl rfl (zb5 rfl rfl) (o_q rfl rfl (q_asg rfl) (o_end ?_))))))))))
      refine zaj k1587 (l1607, w64 (i1584 + 1), A1609, c1610) (Nat.lt_succ_self _) h ⟨rfl, rfl, trivial⟩ (fun w h => za8 [1, 2, 3, 4, 5] dc_ rfl w h) ?_
      exact of_
    ·skip
     replace h := br_f hb1595 h
     refine zb2 (zab (zab ?_))
     have e_ := si_ h; replace h := hR1590; rw [← e_] at h; clear e_
     refine x_hit (za1 (c_seq (c_seq (za0 (o_q rfl rfl (q_f F27_1 rfl) (o_q rfl rfl (q_ldb Y24 rfl (fun w h => h.zac (i := 1) rfl) rfl) (o_q rfl rfl (q_len Tryz.underlying24 rfl) (o_q rfl rfl (za3 rfl) (o_end ?_)))))))))
     refine za1 (zah (c_nil zaq 84 (za6 h (fun o1624 hl1623 hR1622 => ?_) rfl)))
     clear h
     refine c_fact (p := l0_1.length ≤ 9223372036854775807) (fun w h => (R0_1.now Z h).2.1) (fun hm1621 => zax (σ := (List SStep) × (List Int) × (List SRegOp) × Int × (Option Addr) × Nat) (fun k1619 ((ys1618, l1612, l1613, i1616, A1614, c1615) : (List SStep) × (List Int) × (List SRegOp) × Int × (Option Addr) × Nat) => Rg l0_1 i1616 ys1618 ∧ ys1618.length = k1619 ∧ spec_AllocatePlan.l1 k a0_0 l0_1 l0_2 l1581 ys1618 l1612 l1613 i1616 = some o1624) [7, 8, 9, 10, 11, 12, 49, 50, 51, 52, 53, 54, 55, 56, 57, 58, 59, 60, 61, 62, 63, 64, 65, 66, 67, 68, 69, 70, 71, 72, 73, 74, 75, 76, 77, 78, 79, 80, 81, 82, 83, 84, 85, 86, 87, 88, 89, 90, 91, 92, 93, 94, 95, 96, 97, 98, 99, 100] (fun ((ys1618, l1612, l1613, i1616, A1614, c1615) : (List SStep) × (List Int) × (List SRegOp) × Int × (Option Addr) × Nat) => [(49, .int .i64 i1616)]) (fun ((ys1618, l1612, l1613, i1616, A1614, c1615) : (List SStep) × (List Int) × (List SRegOp) × Int × (Option Addr) × Nat) => [row zaq 84 (.slice A1614 l1613.length c1615) l1613, row (Kd.int .i64) 3 (.slice A1582 l1581.length c1583) l1612, box g1 27 #[.int .i64 a0_0, .slice A0_1 l0_1.length c0_1, .slice A0_2 l0_2.length c0_2], box g3 38 #[.int .i64 0, .slice none 0 0, .slice none 0 0, .slice none 0 0], box g789 38 #[.int .i64 i790, .slice A792 l791.length c793, .slice A1614 l1613.length c1615, .slice none 0 0], row (Kd.int .i64) 3 (.slice A792 l791.length c793) l791]) l0_1.length (l0_1, l1581, ([] : List SRegOp), 0, none, 0) ⟨Rg.start _, rfl, hl1623⟩ ⟨rfl, trivial⟩ (fun w h => h) (fun k1619 => cur6 (listC (fun l1612 l1613 i1616 A1614 c1615 U1625 hJ_ => ?_) (fun y1617 ys1618 l1612 l1613 i1616 A1614 c1615 U1625 hJ_ => ?_))))
     ·skip
      clear hl1623
      have hr1620 := hJ_.1; have hk1626 := hJ_.2.1; have h := hJ_.2.2; clear hJ_
      replace h : spec_AllocatePlan.l1 k a0_0 l0_1 l0_2 l1581 [] l1612 l1613 i1616 = some o1624 := h
      rw [spec_AllocatePlan.l1] at h
      refine c_seq (za0 (o_q rfl rfl (q_lss rfl rfl) (o_end (za1 (c_seq (zb1 (vb_ hr1620.ge) (zb2 (zab (zab ?_)))))))))
      have e_ := si_ h; replace h := hR1622; rw [← e_] at h; clear e_
      refine x_hit (za1 (c_seq (c_seq (za0 (o_q rfl rfl (q_f F27_2 rfl) (o_q rfl rfl (q_ldb Y25 rfl (fun w h => h.zac (i := 2) rfl) rfl) (o_q rfl rfl (q_len Tryz.underlying25 rfl) (o_q rfl rfl (za3 rfl) (o_end ?_)))))))))
      refine za1 (zah (c_nil (Kd.int .i64) 3 (za6 h (fun o1639 hl1638 hR1637 => ?_) rfl)))
      clear h
      refine c_fact (p := l0_2.length ≤ 9223372036854775807) (fun w h => (R0_2.now Z h).2.1) (fun hm1636 => zax (σ := (List Int) × (List Int) × Int × (Option Addr) × Nat) (fun k1634 ((ys1633, l1628, i1631, A1629, c1630) : (List Int) × (List Int) × Int × (Option Addr) × Nat) => Rg l0_2 i1631 ys1633 ∧ ys1633.length = k1634 ∧ spec_AllocatePlan.l2 l1612 ys1633 l1628 i1631 = some o1639) [14, 104, 105, 106, 107, 108, 109, 110, 111, 112, 113, 114, 115, 116] (fun ((ys1633, l1628, i1631, A1629, c1630) : (List Int) × (List Int) × Int × (Option Addr) × Nat) => [(104, .int .i64 i1631)]) (fun ((ys1633, l1628, i1631, A1629, c1630) : (List Int) × (List Int) × Int × (Option Addr) × Nat) => [row (Kd.int .i64) 3 (.slice A1629 l1628.length c1630) l1628, row zaq 84 (.slice A1614 l1613.length c1615) l1613, row (Kd.int .i64) 3 (.slice A1582 l1581.length c1583) l1612, box g1 27 #[.int .i64 a0_0, .slice A0_1 l0_1.length c0_1, .slice A0_2 l0_2.length c0_2], box g3 38 #[.int .i64 0, .slice none 0 0, .slice none 0 0, .slice none 0 0], box g789 38 #[.int .i64 i790, .slice A792 l791.length c793, .slice A1614 l1613.length c1615, .slice A1629 l1628.length c1630], row (Kd.int .i64) 3 (.slice A792 l791.length c793) l791]) l0_2.length (l0_2, ([] : List Int), 0, none, 0) ⟨Rg.start _, rfl, hl1638⟩ ⟨rfl, trivial⟩ (fun w h => h) (fun k1634 => cur5 (listC (fun l1628 i1631 A1629 c1630 U1640 hJ_ => ?_) (fun y1632 ys1633 l1628 i1631 A1629 c1630 U1640 hJ_ => ?_))))
      ·skip
       clear hl1638
       have hr1635 := hJ_.1; have hk1641 := hJ_.2.1; have h := hJ_.2.2; clear hJ_
       replace h : spec_AllocatePlan.l2 l1612 [] l1628 i1631 = some o1639 := h
       rw [spec_AllocatePlan.l2] at h
       refine c_seq (za0 (o_q rfl rfl (q_lss rfl rfl) (o_end (za1 (c_seq (zb1 (vb_ hr1635.ge) (zb2 (zab (zab ?_)))))))))
       have e_ := si_ h; replace h := hR1637; rw [← e_] at h; clear e_
       refine x_hit (za1 (c_seq (za0 (o_q rfl rfl (q_ldB G38 Z38 rfl (fun w h => h.zac (i := 5) rfl) rfl) (o_e rfl (zae (i := 4) rfl rfl rfl Z38 rfl rfl) (fun _ => o_q rfl rfl (q_asg rfl) (o_end (za1 (c_ret ?_)))))))))
       have e0_ := si_ h; clear h
       obtain ⟨rfl, e1_⟩ := Prod.mk.inj e0_
       obtain ⟨rfl, e2_⟩ := Prod.mk.inj e1_
       obtain ⟨rfl, e3_⟩ := Prod.mk.inj e2_
       obtain ⟨rfl, e4_⟩ := Prod.mk.inj e3_
       subst e4_
       exact x_r2 (A792, c793, A1614, c1615, A1629, c1630) Tryz.results101 (zb8 rfl G38 Z38 (fun w h => h.zac (i := 4) rfl) rfl) (zad rfl) rfl (fun w h => za8 [6, 1, 0] dc_ rfl w h)
      ·skip
       clear hl1638
       have hr1635 := hJ_.1; have hk1641 := hJ_.2.1; have h := hJ_.2.2; clear hJ_
       replace h : spec_AllocatePlan.l2 l1612 (y1632 :: ys1633) l1628 i1631 = some o1639 := h
       rw [spec_AllocatePlan.l2] at h
       refine c_seq (za0 (o_q rfl rfl (q_lss rfl rfl) (o_end (za1 (c_seq (zay (vb_ hr1635.lt) (zal (za1 (c_seq ?_)))))))))
       refine zah (c_seq (za0 (zb0 (p := Sh A0_2 l0_2.length l0_2.length) (fun w h => f_sh (dk := (Kd.int .i64)) h (fun w h => R0_2.now Z h)) (fun hq1642 => o_q rfl rfl (q_ix Tryz.underlying25 Z3 rfl rfl hq1642 hr1635.get) (o_q rfl rfl (q_lde (off := 0) Y3 rfl rfl (fun w h => R0_2.now Z h) hr1635.get (fun _ _ h => h) rfl) (o_q rfl rfl (q_asg rfl) (o_end (za1 (za6 h (fun i1885 hx1884 h => ?_) rfl)))))))))
       refine za6 h (fun l2004 ha2005 h => ?_) rfl
       refine a_startS (ds := []) [none, some 1, some 2, some 3, some 4, none, some 6] MO rfl (zaa 0 rfl rfl rfl kr_ (fun _ _ _ h => h) (q_f F38_3 rfl) (zaa 2 rfl rfl rfl kr_ (fun _ _ _ h => h) (za3 rfl) (zaa 3 rfl rfl rfl kr_ (fun _ _ _ h => h) (za3 rfl) (a_two 1 4 rfl rfl rfl rfl kr_ rfl rfl (ev_q rfl (q_ldb Y25 rfl (fun w h => h.zac (i := 5) rfl) rfl)) (fun s w h => za5 [none, some 1, some 2, some 3, some 4, none, some 6] dc_ w h rfl) (za7 0 Z Tryz.func130 N130 rfl rfl rfl (fun w P1 hF hB hS hT => spec_plPlace.calls A1582 c1583 l1581.length l1612 y1632 hB hF (hT 2 _ rfl).row (hT 2 _ rfl).cap _ hx1884)) (fun s w h => za5 [none, some 1, some 2, some 3, some 4, none, some 6] dc_ w h rfl) (fun _ => ?_) (fun _ => ?_)))))
       ·skip
        refine a_one 4 rfl rfl kr_ rfl (za7 0 Z Tryz.func130 N130 rfl rfl rfl (fun w P1 hF hB hS hT => spec_plPlace.calls A1582 c1583 l1581.length l1612 y1632 hB hF (hT 2 _ rfl).row (hT 2 _ rfl).cap _ hx1884)) (fun s w h => za5 [none, some 1, some 2, some 3, some 4, none, some 6] dc_ w h rfl) (fun _ => a_one 5 rfl rfl kr_ rfl (e_lit (vs := [(0, .int .i64 i1885)]) (cs := [.int .i64 i1885]) (Kd.int .i64) ([i1885] : List Int) Tryz.underlying25 I3 dc_ rfl dc_ rfl rfl (fun _ _ => Kd.zaf _)) (fun s w h => za5 [none, some 2, some 3, some 4, some 5, none, some 7] dc_ w h rfl) (cur2 (fun A1944 c1945 => a_one 6 rfl rfl kr_ rfl (e_app (i := 1) (j := 0) Tryz.underlying25 I3 rfl dc_ dc_ rfl rfl rfl rfl rfl ha2005) (fun s w h => za5 [none, some 2, some 3, some 4, some 5, none, some 7] dc_ w h rfl) (cur2 (fun A2006 c2007 => zaa 7 rfl rfl rfl kr_ (fun _ _ _ h => h) (q_f F38_3 rfl) (a_one 8 rfl rfl kr_ rfl (zav (i := 6) rfl rfl rfl rfl Z25 rfl rfl) (fun s w h => za5 [none, some 2, some 3, some 4, some 5, none, some 7] dc_ w h rfl) (fun _ => zar kr_ (zak (za1 (za0 (o_q rfl rfl (q_up rfl rfl (hr1635.up hm1636)) ?_)))))))))))
        refine o_q rfl rfl (za3 rfl) (o_end (zaj ys1633.length (ys1633, l2004, i1631 + 1, A2006, c2007) (by rw [← hk1641]; exact Nat.lt_succ_self _) ⟨hr1635.step, rfl, h⟩ ⟨rfl, trivial⟩ (fun w h => za8 [1, 2, 3, 4, 5, 6, 7] dc_ rfl w h) ?_))
        exact of_
       ·skip
        refine a_two 1 5 rfl rfl rfl rfl kr_ rfl rfl (ev_q rfl (q_ldb Y25 rfl (fun w h => h.zac (i := 5) rfl) rfl)) (fun s w h => za5 [none, some 1, some 2, some 3, some 4, none, some 6] dc_ w h rfl) (e_lit (vs := [(0, .int .i64 i1885)]) (cs := [.int .i64 i1885]) (Kd.int .i64) ([i1885] : List Int) Tryz.underlying25 I3 dc_ rfl dc_ rfl rfl (fun _ _ => Kd.zaf _)) (fun s w h => za5 [none, some 2, some 3, some 4, some 5, none, some 7] dc_ w h rfl) (fun _ => ?_) (cur2 (fun A1944 c1945 => ?_))
        ·skip
         refine a_one 5 rfl rfl kr_ rfl (e_lit (vs := [(0, .int .i64 i1885)]) (cs := [.int .i64 i1885]) (Kd.int .i64) ([i1885] : List Int) Tryz.underlying25 I3 dc_ rfl dc_ rfl rfl (fun _ _ => Kd.zaf _)) (fun s w h => za5 [none, some 2, some 3, some 4, some 5, none, some 7] dc_ w h rfl) (cur2 (fun A1944 c1945 => a_one 6 rfl rfl kr_ rfl (e_app (i := 1) (j := 0) Tryz.underlying25 I3 rfl dc_ dc_ rfl rfl rfl rfl rfl ha2005) (fun s w h => za5 [none, some 2, some 3, some 4, some 5, none, some 7] dc_ w h rfl) (cur2 (fun A2006 c2007 => zaa 7 rfl rfl rfl kr_ (fun _ _ _ h => h) (q_f F38_3 rfl) (a_one 8 rfl rfl kr_ rfl (zav (i := 6) rfl rfl rfl rfl Z25 rfl rfl) (fun s w h => za5 [none, some 2, some 3, some 4, some 5, none, some 7] dc_ w h rfl) (fun _ => zar kr_ (zak (za1 (za0 (o_q rfl rfl (q_up rfl rfl (hr1635.up hm1636)) (o_q rfl rfl (za3 rfl) ?_)))))))))))
         refine o_end (zaj ys1633.length (ys1633, l2004, i1631 + 1, A2006, c2007) (by rw [← hk1641]; exact Nat.lt_succ_self _) ⟨hr1635.step, rfl, h⟩ ⟨rfl, trivial⟩ (fun w h => za8 [1, 2, 3, 4, 5, 6, 7] dc_ rfl w h) ?_)
         exact of_
        ·skip
         refine a_one 1 rfl rfl kr_ rfl (ev_q rfl (q_ldb Y25 rfl (fun w h => h.zac (i := 6) rfl) rfl)) (fun s w h => za5 [none, some 2, some 3, some 4, some 5, none, some 7] dc_ w h rfl) (fun _ => a_one 6 rfl rfl kr_ rfl (e_app (i := 1) (j := 0) Tryz.underlying25 I3 rfl dc_ dc_ rfl rfl rfl rfl rfl ha2005) (fun s w h => za5 [none, some 2, some 3, some 4, some 5, none, some 7] dc_ w h rfl) (cur2 (fun A2006 c2007 => zaa 7 rfl rfl rfl kr_ (fun _ _ _ h => h) (q_f F38_3 rfl) (a_one 8 rfl rfl kr_ rfl (zav (i := 6) rfl rfl rfl rfl Z25 rfl rfl) (fun s w h => za5 [none, some 2, some 3, some 4, some 5, none, some 7] dc_ w h rfl) (fun _ => zar kr_ (zak (za1 (za0 (o_q rfl rfl (q_up rfl rfl (hr1635.up hm1636)) (o_q rfl rfl (za3 rfl) ?_))))))))))
         refine o_end (zaj ys1633.length (ys1633, l2004, i1631 + 1, A2006, c2007) (by rw [← hk1641]; exact Nat.lt_succ_self _) ⟨hr1635.step, rfl, h⟩ ⟨rfl, trivial⟩ (fun w h => za8 [1, 2, 3, 4, 5, 6, 7] dc_ rfl w h) ?_)
         exact of_
     ·skip
      clear hl1623
      have hr1620 := hJ_.1; have hk1626 := hJ_.2.1; have h := hJ_.2.2; clear hJ_
      replace h : spec_AllocatePlan.l1 k a0_0 l0_1 l0_2 l1581 (y1617 :: ys1618) l1612 l1613 i1616 = some o1624 := h
      rw [spec_AllocatePlan.l1] at h
      refine c_seq (za0 (o_q rfl rfl (q_lss rfl rfl) (o_end (za1 (c_seq (zay (vb_ hr1620.lt) (zal (za1 (c_seq ?_)))))))))
      refine zah (c_seq (za0 (o_q rfl rfl (za3 rfl) (zb0 (p := Sh A0_1 l0_1.length l0_1.length) (fun w h => f_sh (dk := kStep) h (fun w h => R0_1.now Z h)) (fun hq2244 => o_q rfl rfl (q_ix Tryz.underlying24 Z72 rfl rfl hq2244 hr1620.get) (o_q rfl rfl (q_ldE G72 Z72 rfl rfl (fun w h => R0_1.now Z h) hr1620.get (fun _ _ h => h) rfl) (o_e rfl (zao V72 rfl) (fun g2245 => o_q rfl rfl (q_asg rfl) (o_e rfl (zae (i := 0) rfl rfl rfl Z72 rfl rfl) (fun _ => ?_))))))))))
      refine o_end (za1 (za6 h (fun o2971 hl2972 hR2973 => ?_) rfl))
      clear h
      refine c_cutJ (σ := Int × Int × Nat) (fun (i2969, i2970, g2968) => some (i2969, i2970) = some o2971) [9, 54, 55, 56, 57, 58, 59, 60, 61, 62] (fun (i2969, i2970, g2968) => [(9, .pointer (some ⟨g2968, 0, none⟩))]) (fun (i2969, i2970, g2968) => [box g1 27 #[.int .i64 a0_0, .slice A0_1 l0_1.length c0_1, .slice A0_2 l0_2.length c0_2], box g3 38 #[.int .i64 0, .slice none 0 0, .slice none 0 0, .slice none 0 0], box g789 38 #[.int .i64 i790, .slice A792 l791.length c793, .slice A1614 l1613.length c1615, .slice none 0 0], row (Kd.int .i64) 3 (.slice A792 l791.length c793) l791, row zaq 84 (.slice A1614 l1613.length c1615) l1613, row (Kd.int .i64) 3 (.slice A1582 l1581.length c1583) l1612, box g2968 84 #[.int .i64 0, .int .i64 i2969, .int .i64 i2970], box g2245 72 #[.int .i64 y1617.f0, .int .i64 y1617.f1]]) ?_ ?_
      ·skip
       have h := hl2972; clear hl2972
       clear hR2973
       refine za6 h (fun i3158 hx3157 h => ?_) rfl
       refine za6 h (fun i3398 hx3397 h => ?_) rfl
       refine a_start (ds := []) MO rfl (zaa 0 rfl rfl rfl kr_ (fun _ _ _ h => h) (za3 rfl) (zaa 1 rfl rfl rfl kr_ (fun _ _ _ h => h) (q_f F72_0 rfl) (zau 2 rfl rfl rfl kr_ (fun _ _ _ h => h) (fun w h => h) (q_ldb Y3 rfl (fun w h => h.zac (i := 0) rfl) rfl) (zaa 4 rfl rfl rfl kr_ (fun _ _ _ h => h) (za3 rfl) (zaa 5 rfl rfl rfl kr_ (fun _ _ _ h => h) (q_f F72_1 rfl) (zau 6 rfl rfl rfl kr_ (fun _ _ _ h => h) (fun w h => h) (q_ldb Y3 rfl (fun w h => h.zac (i := 0) rfl) rfl) (a_two 3 9 rfl rfl rfl rfl kr_ rfl rfl (za7 0 Z Tryz.func130 N130 rfl rfl rfl (fun w P1 hF hB hS hT => spec_plPlace.calls A1582 c1583 l1581.length l1612 y1617.f0 hB hF (hT 2 _ rfl).row (hT 2 _ rfl).cap _ hx3157)) (fun s w h => h) (zao V84 rfl) (fun s w h => za5 [some 1, some 2, some 3, some 4, some 5, some 6, some 7] dc_ w h rfl) (fun _ => ?_) (fun g3517 => ?_))))))))
       ·skip
        refine a_two 7 9 rfl rfl rfl rfl kr_ rfl rfl (za7 0 Z Tryz.func130 N130 rfl rfl rfl (fun w P1 hF hB hS hT => spec_plPlace.calls A1582 c1583 l1581.length l1612 y1617.f1 hB hF (hT 2 _ rfl).row (hT 2 _ rfl).cap _ hx3397)) (fun s w h => h) (zao V84 rfl) (fun s w h => za5 [some 1, some 2, some 3, some 4, some 5, some 6, some 7] dc_ w h rfl) (fun _ => ?_) (fun g3517 => ?_)
        ·skip
         refine zaa 8 rfl rfl rfl kr_ (fun _ _ _ h => h) (zaw (vs := [(1, .int .i64 i3158), (2, .int .i64 i3398)]) (cs := [.int .i64 0, .int .i64 i3158, .int .i64 i3398]) rfl rfl) (a_one 9 rfl rfl kr_ rfl (zao V84 rfl) (fun s w h => za5 [some 1, some 2, some 3, some 4, some 5, some 6, some 7] dc_ w h rfl) (fun g3517 => a_one 10 rfl rfl kr_ rfl (zae (i := 0) rfl rfl rfl Z84 rfl rfl) (fun s w h => za5 [some 1, some 2, some 3, some 4, some 5, some 6, some 7] dc_ w h rfl) (fun _ => zar kr_ (zam (i3158, i3398, g3517) h ⟨rfl, trivial⟩ (fun w h => za8 [4, 5, 6, 7, 2, 3, 0, 1] dc_ rfl w h) ?_))))
         exact of_
        ·skip
         refine a_one 7 rfl rfl kr_ rfl (za7 0 Z Tryz.func130 N130 rfl rfl rfl (fun w P1 hF hB hS hT => spec_plPlace.calls A1582 c1583 l1581.length l1612 y1617.f1 hB hF (hT 3 _ rfl).row (hT 3 _ rfl).cap _ hx3397)) (fun s w h => za5 [some 1, some 2, some 3, some 4, some 5, some 6, some 7] dc_ w h rfl) (fun _ => zaa 8 rfl rfl rfl kr_ (fun _ _ _ h => h) (zaw (vs := [(1, .int .i64 i3158), (2, .int .i64 i3398)]) (cs := [.int .i64 0, .int .i64 i3158, .int .i64 i3398]) rfl rfl) (a_one 10 rfl rfl kr_ rfl (zae (i := 0) rfl rfl rfl Z84 rfl rfl) (fun s w h => za5 [some 1, some 2, some 3, some 4, some 5, some 6, some 7] dc_ w h rfl) (fun _ => zar kr_ (zam (i3158, i3398, g3517) h ⟨rfl, trivial⟩ (fun w h => za8 [4, 5, 6, 7, 2, 3, 0, 1] dc_ rfl w h) ?_))))
         exact of_
       ·skip
        refine a_one 3 rfl rfl kr_ rfl (za7 0 Z Tryz.func130 N130 rfl rfl rfl (fun w P1 hF hB hS hT => spec_plPlace.calls A1582 c1583 l1581.length l1612 y1617.f0 hB hF (hT 3 _ rfl).row (hT 3 _ rfl).cap _ hx3157)) (fun s w h => za5 [some 1, some 2, some 3, some 4, some 5, some 6, some 7] dc_ w h rfl) (fun _ => a_one 7 rfl rfl kr_ rfl (za7 0 Z Tryz.func130 N130 rfl rfl rfl (fun w P1 hF hB hS hT => spec_plPlace.calls A1582 c1583 l1581.length l1612 y1617.f1 hB hF (hT 3 _ rfl).row (hT 3 _ rfl).cap _ hx3397)) (fun s w h => za5 [some 1, some 2, some 3, some 4, some 5, some 6, some 7] dc_ w h rfl) (fun _ => zaa 8 rfl rfl rfl kr_ (fun _ _ _ h => h) (zaw (vs := [(1, .int .i64 i3158), (2, .int .i64 i3398)]) (cs := [.int .i64 0, .int .i64 i3158, .int .i64 i3398]) rfl rfl) (a_one 10 rfl rfl kr_ rfl (zae (i := 0) rfl rfl rfl Z84 rfl rfl) (fun s w h => za5 [some 1, some 2, some 3, some 4, some 5, some 6, some 7] dc_ w h rfl) (fun _ => zar kr_ (zam (i3158, i3398, g3517) h ⟨rfl, trivial⟩ (fun w h => za8 [4, 5, 6, 7, 2, 3, 0, 1] dc_ rfl w h) ?_)))))
        exact of_
      ·skip
       refine (cur3 (fun i2969 i2970 g2968 => fun U2974 hJ2975 => ?_))
       have e_ := si_ hJ2975; have h := hR2973; rw [← e_] at h; clear e_ hJ2975 hR2973 hl2972
       refine c_seq (a_start (ds := []) MO rfl (zau 0 rfl rfl rfl kr_ (fun _ _ _ h => h) (fun w h => h) (q_ldB G27 Z27 rfl (fun w h => h.zac (i := 0) rfl) rfl) (zaa 1 rfl rfl rfl kr_ (fun _ _ _ h => h) (za3 rfl) (zaa 2 rfl rfl rfl kr_ (fun _ _ _ h => h) (q_up rfl rfl (hr1620.up hm1621)) (za6 h (fun l3698 hx3697 h => ?_) rfl)))))
       refine a_one 3 rfl rfl kr_ rfl (za7 0 Z Tryz.func129 N129 rfl rfl rfl (fun w P1 hF hB hS hT => spec_plUpTo.calls k (i1616 + 1) hB hF _ hx3697)) (fun s w h => za5 [some 1, some 2, some 3, some 4, some 5, some 6, some 7, some 8] dc_ w h rfl) (cur2 (fun A3699 c3700 => za6 h (fun l3702 hx3701 h => ?_) rfl))
       refine a_one 4 rfl rfl kr_ rfl (za7 0 Z Tryz.func131 N131 rfl rfl rfl (fun w P1 hF hB hS hT => spec_reNeeded.calls k a0_0 A0_1 c0_1 l0_1.length l0_1 A0_2 c0_2 l0_2.length l0_2 A3699 c3700 l3698.length l3698 hB hF (hS _ R0_1) hc0_1 (hS _ R0_2) hc0_2 (hT 0 _ rfl).row (hT 0 _ rfl).cap _ hx3701)) (fun s w h => za5 [some 2, some 3, some 4, some 5, some 6, some 7, some 8, some 9] dc_ w h rfl) (cur2 (fun A3703 c3704 => zaa 5 rfl rfl rfl kr_ (fun _ _ _ h => h) (q_asg rfl) (zar kr_ (za1 (c_seq (c_seq (za0 (o_q rfl rfl (za3 rfl) (o_q rfl rfl (q_len Tryz.underlying25 rfl) (o_q rfl rfl (za3 rfl) ?_))))))))))
       refine o_end (za1 (zah (za6 h (fun o3714 hl3713 hR3712 => ?_) rfl)))
       clear h
       refine c_fact (p := (l1581.length : Int) ≤ 9223372036854775807) (fun w h => by have := (h.zat (i := 7) rfl).2.1; omega) (fun hm3711 => zax (σ := (List Int) × Int) (fun k3709 ((l3705, i3706) : (List Int) × Int) => Cn (l1581.length : Int) i3706 k3709 ∧ spec_AllocatePlan.l3 l3702 k3709 l3705 i3706 = some o3714) [11, 12, 70, 71, 72, 73, 74, 75, 76, 77, 78, 79, 80, 81, 82] (fun ((l3705, i3706) : (List Int) × Int) => [(70, .int .i64 i3706)]) (fun ((l3705, i3706) : (List Int) × Int) => [row (Kd.int .i64) 3 (.slice A3703 l3702.length c3704) l3702, row (Kd.int .i64) 3 (.slice A3699 l3698.length c3700) l3698, box g1 27 #[.int .i64 a0_0, .slice A0_1 l0_1.length c0_1, .slice A0_2 l0_2.length c0_2], box g3 38 #[.int .i64 0, .slice none 0 0, .slice none 0 0, .slice none 0 0], box g789 38 #[.int .i64 i790, .slice A792 l791.length c793, .slice A1614 l1613.length c1615, .slice none 0 0], row (Kd.int .i64) 3 (.slice A792 l791.length c793) l791, row zaq 84 (.slice A1614 l1613.length c1615) l1613, row (Kd.int .i64) 3 (.slice A1582 l1581.length c1583) l3705, box g2968 84 #[.int .i64 0, .int .i64 i2969, .int .i64 i2970], box g2245 72 #[.int .i64 y1617.f0, .int .i64 y1617.f1]]) ((l1581.length : Int)).toNat (l1612, 0) ⟨Cn.start hm3711, hl3713⟩ ⟨rfl, trivial⟩ (fun w h => h) (natC (cur2 (fun l3705 i3706 => fun U3715 hJ_ => ?_)) (fun k3709 => (cur2 (fun l3705 i3706 => fun U3715 hJ_ => ?_)))))
       ·skip
        clear hl3713
        have hr3710 := hJ_.1; have h := hJ_.2; clear hJ_
        replace h : spec_AllocatePlan.l3 l3702 0 l3705 i3706 = some o3714 := h
        rw [spec_AllocatePlan.l3] at h
        refine c_seq (za0 (o_q rfl rfl (q_lss rfl rfl) (o_end (za1 (c_seq (zb1 (vb_ hr3710.ge) (zb2 (zab (zab ?_)))))))))
        have e_ := si_ h; replace h := hR3712; rw [← e_] at h; clear e_
        refine x_hit (za1 (c_seq (za0 (o_q rfl rfl (za3 rfl) (za6 h (fun i3718 hx3717 h => ?_) rfl)))))
        refine o_e rfl (za7 0 Z Tryz.func130 N130 rfl rfl rfl (fun w P1 hF hB hS hT => spec_plPlace.calls A1582 c1583 l1581.length l3705 (-1) hB hF (hT 7 _ rfl).row (hT 7 _ rfl).cap _ hx3717)) (fun _ => o_q rfl rfl (q_f F84_0 rfl) (o_e rfl (zav (i := 8) rfl rfl rfl rfl Z3 rfl rfl) (fun _ => o_end (za1 (c_seq (za0 (o_q rfl rfl (za3 rfl) (o_q rfl rfl (q_f F84_0 rfl) (o_q rfl rfl (q_ldb Y3 rfl (fun w h => h.zac (i := 8) rfl) rfl) ?_)))))))))
        refine o_q rfl rfl (q_f F27_0 rfl) (o_q rfl rfl (q_ldb Y3 rfl (fun w h => h.zac (i := 2) rfl) rfl) (o_q rfl rfl (za3 rfl) (o_q rfl rfl (zb5 rfl rfl) (zb0 (p := Sh A1582 l1581.length l3705.length) (fun w h => f_sh (dk := (Kd.int .i64)) h (fun w h => h.zat (i := 7) rfl)) (fun hq3719 => za6 h (fun y3721 hg3720 h => ?_) rfl)))))
        refine o_q rfl rfl (q_ix Tryz.underlying25 Z3 rfl rfl hq3719 hg3720) (za6 h (fun l3722 hs3723 h => ?_) rfl)
        refine o_e rfl (e_set (i := 7) rfl rfl rfl Z3 hs3723) (fun _ => o_end (za1 (za0 (o_q rfl rfl (q_f F38_2 rfl) (o_q rfl rfl (q_ldb Y36 rfl (fun w h => h.zac (i := 4) rfl) rfl) (o_q rfl rfl (q_ldB G84 Z84 rfl (fun w h => h.zac (i := 8) rfl) rfl) (o_e rfl (e_lit (vs := [(0, .agg #[.int .i64 i3718, .int .i64 i2969, .int .i64 i2970])]) (cs := [.int .i64 i3718, .int .i64 i2969, .int .i64 i2970]) zaq ([(⟨i3718, i2969, i2970⟩ : SRegOp)] : List SRegOp) Tryz.underlying36 I84 dc_ rfl dc_ rfl rfl (fun _ _ => zb4 _)) (cur2 (fun A3724 c3725 => za6 h (fun l3727 ha3728 h => ?_) rfl)))))))))
        refine o_e rfl (e_app (i := 7) (j := 0) Tryz.underlying36 I84 rfl dc_ dc_ rfl rfl rfl rfl rfl ha3728) (cur2 (fun A3729 c3730 => o_q rfl rfl (q_f F38_2 rfl) (o_e rfl (zav (i := 5) rfl rfl rfl rfl Z36 rfl rfl) (fun _ => o_end (zak (za1 (za0 (o_q rfl rfl (q_up rfl rfl (hr1620.up hm1621)) (o_q rfl rfl (za3 rfl) (o_end ?_))))))))))
        refine zaj ys1618.length (ys1618, l3722, l3727, i1616 + 1, A3729, c3730) (by rw [← hk1626]; exact Nat.lt_succ_self _) ⟨hr1620.step, rfl, h⟩ ⟨rfl, trivial⟩ (fun w h => za8 [7, 8, 3, 4, 5, 6] dc_ rfl w h) ?_
        exact of_
       ·skip
        clear hl3713
        have hr3710 := hJ_.1; have h := hJ_.2; clear hJ_
        replace h : spec_AllocatePlan.l3 l3702 (k3709 + 1) l3705 i3706 = some o3714 := h
        rw [spec_AllocatePlan.l3] at h
        refine c_seq (za0 (o_q rfl rfl (q_lss rfl rfl) (o_end (za1 (c_seq (zay (vb_ hr3710.lt) (zal (za1 (c_seq ?_)))))))))
        refine zah (c_seq (za0 (o_q rfl rfl (za3 rfl) (zb0 (p := Sh A1582 l1581.length l3705.length) (fun w h => f_sh (dk := (Kd.int .i64)) h (fun w h => h.zat (i := 7) rfl)) (fun hq3731 => za6 h (fun y3733 hg3732 h => ?_) rfl)))))
        refine o_q rfl rfl (q_ix Tryz.underlying25 Z3 rfl rfl hq3731 hg3732) (o_q rfl rfl (q_lde (off := 0) Y3 rfl rfl (fun w h => h.zat (i := 7) rfl) hg3732 (fun _ _ h => h) rfl) (o_q rfl rfl (q_asg rfl) (o_q rfl rfl (q_asg rfl) (o_end (za1 (c_seq (za0 (o_q rfl rfl (za3 rfl) (o_q rfl rfl (za3 rfl) ?_)))))))))
        refine za6 h (fun b3735 hx3734 h => ?_) rfl
        refine o_e rfl (za7 0 Z Tryz.func72 N72 rfl rfl rfl (fun w P1 hF hB hS hT => spec_l1Has.calls A3703 c3704 l3702.length l3702 y3733 hB hF (hT 0 _ rfl).row (hT 0 _ rfl).cap _ hx3734)) (fun _ => o_q rfl rfl (q_not rfl) (o_end (za1 (zas _ rfl (fun hb3736 => ?_) (fun hb3736 => ?_)))))
        ·replace hb3736 := nt_t hb3736
         replace h := bb_f hb3736 h
         refine za0 (o_q rfl rfl (za3 rfl) (o_q rfl rfl (za3 rfl) (za6 h (fun y3738 hg3737 h => ?_) rfl)))
         refine o_q rfl rfl (q_ix Tryz.underlying25 Z3 rfl rfl hq3731 hg3737) (za6 h (fun l3739 hs3740 h => ?_) rfl)
         refine o_e rfl (e_set (i := 7) rfl rfl rfl Z3 hs3740) (fun _ => o_end (zak (za1 (za0 (o_q rfl rfl (q_up rfl rfl hr3710.up) (o_q rfl rfl (za3 rfl) (o_end (zaj k3709 (l3739, i3706 + 1) (Nat.lt_succ_self _) ⟨hr3710.step, h⟩ ⟨rfl, trivial⟩ (fun w h => za8 [0, 1, 2, 3, 4, 5, 6, 7, 8, 9] dc_ rfl w h) ?_))))))))
         exact of_
        ·replace hb3736 := nt_f hb3736
         replace h := bb_t hb3736 h
         refine zal (zak (za1 (za0 (o_q rfl rfl (q_up rfl rfl hr3710.up) (o_q rfl rfl (za3 rfl) (o_end (zaj k3709 (l3705, i3706 + 1) (Nat.lt_succ_self _) ⟨hr3710.step, h⟩ ⟨rfl, trivial⟩ (fun w h => za8 [0, 1, 2, 3, 4, 5, 6, 7, 8, 9] dc_ rfl w h) ?_)))))))
         exact of_

end Go.Proofs.YtnnlfipcoahcnaaGreatDoor.G3
