import Derived.Test.YtnnlfipcoahcnaaGreatDoorKFnRenamedRegistersG3p4
namespace Go.Proofs.YtnnlfipcoahcnaaGreatDoor.G3
set_option maxHeartbeats 8000000
set_option maxRecDepth 100000
open Go.RowKit Go.Proofs.YtnnlfipcoahcnaaGreatDoor.Frame Go.Proofs.YtnnlfipcoahcnaaGreatDoorW.PrintLast Go.Proofs.YtnnlfipcoahcnaaGreatDoor.Hand
open Go.Proofs.YtnnlfipcoahcnaaGreatDoorW.PrintWords hiding mn mx
set_option linter.unusedVariables false
def spec_reNamed.l0 (l1 : List Int) : (List SRegOp) → (List SRegOp) → Int → Option (List SRegOp)
 | [], l1580, i1583 => some l1580
 | y1584 :: ys1585, l1580, i1583 => (gt l1 y1584.f0).bind fun y1900 => (gt l1 y1584.f1).bind fun y2199 => (gt l1 y1584.f2).bind fun y2499 => (ap l1580 ([(⟨y1900, y2199, y2499⟩ : SRegOp)] : List SRegOp)).bind fun l2738 => spec_reNamed.l0 l1 ys1585 l2738 (i1583 + 1)
def spec_reNamed.f (a0_0 : Int) (l0_1 : List Int) (l0_2 : List SRegOp) (l0_3 : List Int) (l1 : List Int) (a2 : Int) : Option ((List Int) × (List SRegOp) × (List Int)) := ((spec_moPick.f l1 l0_1).bind fun l1040 => (spec_moPick.f l1 l0_3).bind fun l1280 => some (l1040, l1280)).bind fun (l787, l790) => (spec_reNamed.l0 l1 l0_2 ([] : List SRegOp) 0).bind fun l1580 => some (l787, l1580, l790)
theorem spec_reNamed.calls {w0 ws : World} {P0 : Nat → Prop} (a0_0 : Int) (A0_1 : Option Addr) (c0_1 : Nat) (n0_1 : Nat) (l0_1 : List Int) (A0_2 : Option Addr) (c0_2 : Nat) (n0_2 : Nat) (l0_2 : List SRegOp) (A0_3 : Option Addr) (c0_3 : Nat) (n0_3 : Nat) (l0_3 : List Int) (A1 : Option Addr) (c1 : Nat) (n1 : Nat) (l1 : List Int) (a2 : Int) (Z : Below w0.heap.size w0 ws) (hF : Fr w0 ws P0 [] ws) (R0_1 : Stable ws P0 (fun w => Kd.C (Kd.int .i64) w A0_1 n0_1 l0_1)) (hc0_1 : n0_1 ≤ c0_1) (R0_2 : Stable ws P0 (fun w => Kd.C zaq w A0_2 n0_2 l0_2)) (hc0_2 : n0_2 ≤ c0_2) (R0_3 : Stable ws P0 (fun w => Kd.C (Kd.int .i64) w A0_3 n0_3 l0_3)) (hc0_3 : n0_3 ≤ c0_3) (R1 : Stable ws P0 (fun w => Kd.C (Kd.int .i64) w A1 n1 l1)) (hc1 : n1 ≤ c1) (r_1 : List Int) (r_4 : List SRegOp) (r_7 : List Int) (h : spec_reNamed.f a0_0 l0_1 l0_2 l0_3 l1 a2 = some (r_1, r_4, r_7)) :
  Calls Tryz.prog 73 #[.agg #[.int .i64 a0_0, .slice A0_1 n0_1 c0_1, .slice A0_2 n0_2 c0_2, .slice A0_3 n0_3 c0_3], .slice A1 n1 c1, .int .i64 a2] ws (Post1 w0 ws P0 (fun ((q_2, q_3, q_5, q_6, q_8, q_9) : (Option Addr) × Nat × (Option Addr) × Nat × (Option Addr) × Nat) => .agg #[.int .i64 a2, .slice q_2 r_1.length q_3, .slice q_5 r_4.length q_6, .slice q_8 r_7.length q_9]) (fun ((q_2, q_3, q_5, q_6, q_8, q_9) : (Option Addr) × Nat × (Option Addr) × Nat × (Option Addr) × Nat) => [row (Kd.int .i64) 3 (.slice q_2 r_1.length q_3) r_1, row zaq 84 (.slice q_5 r_4.length q_6) r_4, row (Kd.int .i64) 3 (.slice q_8 r_7.length q_9) r_7])) := by
 unfold spec_reNamed.f at h
 obtain rfl := (R0_1 ws (KeptB.refl _ _)).1
 obtain rfl := (R0_2 ws (KeptB.refl _ _)).1
 obtain rfl := (R0_3 ws (KeptB.refl _ _)).1
 obtain rfl := (R1 ws (KeptB.refl _ _)).1
 refine enter Tryz.func73 rfl Tryz.ntmps73 rfl hF (c_seq (za0 (o_e rfl (e_box rfl) (fun g1 => o_e rfl (zao V38 rfl) (fun g3 => o_end (za1 (za6 h (fun o793 hl794 hR795 => ?_) rfl)))))))
 clear h
 refine c_cutJ (σ := (List Int) × (List Int) × Nat × (Option Addr) × Nat × (Option Addr) × Nat) (fun (l787, l790, g786, A788, c789, A791, c792) => some (l787, l790) = some o793) [7, 10, 11, 12, 13, 14, 15, 16, 17, 18, 19] (fun (l787, l790, g786, A788, c789, A791, c792) => [(7, .pointer (some ⟨g786, 0, none⟩))]) (fun (l787, l790, g786, A788, c789, A791, c792) => [box g1 38 #[.int .i64 a0_0, .slice A0_1 l0_1.length c0_1, .slice A0_2 l0_2.length c0_2, .slice A0_3 l0_3.length c0_3], box g3 38 #[.int .i64 0, .slice none 0 0, .slice none 0 0, .slice none 0 0], box g786 38 #[.int .i64 a2, .slice A788 l787.length c789, .slice none 0 0, .slice A791 l790.length c792], row (Kd.int .i64) 3 (.slice A788 l787.length c789) l787, row (Kd.int .i64) 3 (.slice A791 l790.length c792) l790]) ?_ ?_
 ·skip
  have h := hl794; clear hl794
  clear hR795
  refine za6 h (fun l1040 hx1039 h => ?_) rfl
  refine za6 h (fun l1280 hx1279 h => ?_) rfl
  refine a_start (ds := []) MO rfl (zaa 0 rfl rfl rfl kr_ (fun _ _ _ h => h) (za3 rfl) (zaa 1 rfl rfl rfl kr_ (fun _ _ _ h => h) (za3 rfl) (zaa 2 rfl rfl rfl kr_ (fun _ _ _ h => h) (q_f F38_1 rfl) (zau 3 rfl rfl rfl kr_ (fun _ _ _ h => h) (fun w h => h) (q_ldb Y25 rfl (fun w h => h.zac (i := 1) rfl) rfl) (zaa 5 rfl rfl rfl kr_ (fun _ _ _ h => h) (za3 rfl) (zaa 6 rfl rfl rfl kr_ (fun _ _ _ h => h) (q_f F38_3 rfl) (zau 7 rfl rfl rfl kr_ (fun _ _ _ h => h) (fun w h => h) (q_ldb Y25 rfl (fun w h => h.zac (i := 1) rfl) rfl) (a_two 4 10 rfl rfl rfl rfl kr_ rfl rfl (za7 0 Z Tryz.func109 N109 rfl rfl rfl (fun w P1 hF hB hS hT => spec_moPick.calls A1 c1 l1.length l1 A0_1 c0_1 l0_1.length l0_1 hB hF (hS _ R1) hc1 (hS _ R0_1) hc0_1 _ hx1039)) (fun s w h => za5 [some 1, some 2] dc_ w h rfl) (zao V38 rfl) (fun s w h => za5 [some 1, some 2] dc_ w h rfl) (cur2 (fun A1041 c1042 => ?_)) (fun g1399 => ?_)))))))))
  ·skip
   refine a_two 8 10 rfl rfl rfl rfl kr_ rfl rfl (za7 0 Z Tryz.func109 N109 rfl rfl rfl (fun w P1 hF hB hS hT => spec_moPick.calls A1 c1 l1.length l1 A0_3 c0_3 l0_3.length l0_3 hB hF (hS _ R1) hc1 (hS _ R0_3) hc0_3 _ hx1279)) (fun s w h => za5 [some 2, some 3] dc_ w h rfl) (zao V38 rfl) (fun s w h => za5 [some 2, some 3] dc_ w h rfl) (cur2 (fun A1281 c1282 => ?_)) (fun g1399 => ?_)
   ·skip
    refine zaa 9 rfl rfl rfl kr_ (fun _ _ _ h => h) (zaw (vs := [(0, .int .i64 a2), (1, .slice A1041 l1040.length c1042), (3, .slice A1281 l1280.length c1282)]) (cs := [.int .i64 a2, .slice A1041 l1040.length c1042, .slice none 0 0, .slice A1281 l1280.length c1282]) rfl rfl) (a_one 10 rfl rfl kr_ rfl (zao V38 rfl) (fun s w h => za5 [some 3, some 4] dc_ w h rfl) (fun g1399 => a_one 11 rfl rfl kr_ rfl (zae (i := 0) rfl rfl rfl Z38 rfl rfl) (fun s w h => za5 [some 3, some 4] dc_ w h rfl) (fun _ => zar kr_ (zam (l1040, l1280, g1399, A1041, c1042, A1281, c1282) h ⟨rfl, trivial⟩ (fun w h => za8 [4, 3, 0, 2, 1] dc_ rfl w h) ?_))))
    exact of_
   ·skip
    refine a_one 8 rfl rfl kr_ rfl (za7 0 Z Tryz.func109 N109 rfl rfl rfl (fun w P1 hF hB hS hT => spec_moPick.calls A1 c1 l1.length l1 A0_3 c0_3 l0_3.length l0_3 hB hF (hS _ R1) hc1 (hS _ R0_3) hc0_3 _ hx1279)) (fun s w h => za5 [some 3, some 4] dc_ w h rfl) (cur2 (fun A1281 c1282 => zaa 9 rfl rfl rfl kr_ (fun _ _ _ h => h) (zaw (vs := [(0, .int .i64 a2), (1, .slice A1041 l1040.length c1042), (3, .slice A1281 l1280.length c1282)]) (cs := [.int .i64 a2, .slice A1041 l1040.length c1042, .slice none 0 0, .slice A1281 l1280.length c1282]) rfl rfl) (a_one 11 rfl rfl kr_ rfl (zae (i := 1) rfl rfl rfl Z38 rfl rfl) (fun s w h => za5 [some 3, some 4] dc_ w h rfl) (fun _ => zar kr_ (zam (l1040, l1280, g1399, A1041, c1042, A1281, c1282) h ⟨rfl, trivial⟩ (fun w h => za8 [4, 3, 1, 2, 0] dc_ rfl w h) ?_)))))
    exact of_
  ·skip
   refine a_one 4 rfl rfl kr_ rfl (za7 0 Z Tryz.func109 N109 rfl rfl rfl (fun w P1 hF hB hS hT => spec_moPick.calls A1 c1 l1.length l1 A0_1 c0_1 l0_1.length l0_1 hB hF (hS _ R1) hc1 (hS _ R0_1) hc0_1 _ hx1039)) (fun s w h => za5 [some 2, some 3] dc_ w h rfl) (cur2 (fun A1041 c1042 => a_one 8 rfl rfl kr_ rfl (za7 0 Z Tryz.func109 N109 rfl rfl rfl (fun w P1 hF hB hS hT => spec_moPick.calls A1 c1 l1.length l1 A0_3 c0_3 l0_3.length l0_3 hB hF (hS _ R1) hc1 (hS _ R0_3) hc0_3 _ hx1279)) (fun s w h => za5 [some 3, some 4] dc_ w h rfl) (cur2 (fun A1281 c1282 => zaa 9 rfl rfl rfl kr_ (fun _ _ _ h => h) (zaw (vs := [(0, .int .i64 a2), (1, .slice A1041 l1040.length c1042), (3, .slice A1281 l1280.length c1282)]) (cs := [.int .i64 a2, .slice A1041 l1040.length c1042, .slice none 0 0, .slice A1281 l1280.length c1282]) rfl rfl) (a_one 11 rfl rfl kr_ rfl (zae (i := 2) rfl rfl rfl Z38 rfl rfl) (fun s w h => za5 [some 3, some 4] dc_ w h rfl) (fun _ => zar kr_ (zam (l1040, l1280, g1399, A1041, c1042, A1281, c1282) h ⟨rfl, trivial⟩ (fun w h => za8 [4, 3, 2, 1, 0] dc_ rfl w h) ?_)))))))
   exact of_
 ·skip
  refine (cur7 (fun l787 l790 g786 A788 c789 A791 c792 => fun U796 hJ797 => ?_))
  have e_ := si_ hJ797; have h := hR795; rw [← e_] at h; clear e_ hJ797 hR795 hl794
  refine c_seq (c_seq (za0 (o_q rfl rfl (q_f F38_2 rfl) (o_q rfl rfl (q_ldb Y36 rfl (fun w h => h.zac (i := 0) rfl) rfl) (o_q rfl rfl (q_len Tryz.underlying36 rfl) (o_q rfl rfl (za3 rfl) (o_end (za1 (zah ?_)))))))))
  refine c_nil zaq 84 (za6 h (fun o1591 hl1590 hR1589 => ?_) rfl)
  clear h
  refine c_fact (p := l0_2.length ≤ 9223372036854775807) (fun w h => (R0_2.now Z h).2.1) (fun hm1588 => zax (σ := (List SRegOp) × (List SRegOp) × Int × (Option Addr) × Nat) (fun k1586 ((ys1585, l1580, i1583, A1581, c1582) : (List SRegOp) × (List SRegOp) × Int × (Option Addr) × Nat) => Rg l0_2 i1583 ys1585 ∧ ys1585.length = k1586 ∧ spec_reNamed.l0 l1 ys1585 l1580 i1583 = some o1591) [9, 23, 24, 25, 26, 27, 28, 29, 30, 31, 32, 33, 34, 35, 36, 37, 38, 39, 40, 41, 42, 43, 44, 45, 46, 47, 48] (fun ((ys1585, l1580, i1583, A1581, c1582) : (List SRegOp) × (List SRegOp) × Int × (Option Addr) × Nat) => [(23, .int .i64 i1583)]) (fun ((ys1585, l1580, i1583, A1581, c1582) : (List SRegOp) × (List SRegOp) × Int × (Option Addr) × Nat) => [row zaq 84 (.slice A1581 l1580.length c1582) l1580, box g1 38 #[.int .i64 a0_0, .slice A0_1 l0_1.length c0_1, .slice A0_2 l0_2.length c0_2, .slice A0_3 l0_3.length c0_3], box g3 38 #[.int .i64 0, .slice none 0 0, .slice none 0 0, .slice none 0 0], box g786 38 #[.int .i64 a2, .slice A788 l787.length c789, .slice A1581 l1580.length c1582, .slice A791 l790.length c792], row (Kd.int .i64) 3 (.slice A788 l787.length c789) l787, row (Kd.int .i64) 3 (.slice A791 l790.length c792) l790]) l0_2.length (l0_2, ([] : List SRegOp), 0, none, 0) ⟨Rg.start _, rfl, hl1590⟩ ⟨rfl, trivial⟩ (fun w h => h) (fun k1586 => cur5 (listC (fun l1580 i1583 A1581 c1582 U1592 hJ_ => ?_) (fun y1584 ys1585 l1580 i1583 A1581 c1582 U1592 hJ_ => ?_))))
  ·skip
   clear hl1590
   have hr1587 := hJ_.1; have hk1593 := hJ_.2.1; have h := hJ_.2.2; clear hJ_
   replace h : spec_reNamed.l0 l1 [] l1580 i1583 = some o1591 := h
   rw [spec_reNamed.l0] at h
   refine c_seq (za0 (o_q rfl rfl (q_lss rfl rfl) (o_end (za1 (c_seq (zb1 (vb_ hr1587.ge) (zb2 (zab (zab ?_)))))))))
   have e_ := si_ h; replace h := hR1589; rw [← e_] at h; clear e_
   refine x_hit (za1 (c_seq (za0 (o_q rfl rfl (q_ldB G38 Z38 rfl (fun w h => h.zac (i := 3) rfl) rfl) (o_e rfl (zae (i := 2) rfl rfl rfl Z38 rfl rfl) (fun _ => o_end (za1 (c_ret ?_))))))))
   have e0_ := si_ h; clear h
   obtain ⟨rfl, e1_⟩ := Prod.mk.inj e0_
   obtain ⟨rfl, e2_⟩ := Prod.mk.inj e1_
   subst e2_
   exact x_r1 (A788, c789, A1581, c1582, A791, c792) Tryz.results73 (zb8 rfl G38 Z38 (fun w h => h.zac (i := 2) rfl) rfl) rfl (fun w h => za8 [4, 0, 5] dc_ rfl w h)
  ·skip
   clear hl1590
   have hr1587 := hJ_.1; have hk1593 := hJ_.2.1; have h := hJ_.2.2; clear hJ_
   replace h : spec_reNamed.l0 l1 (y1584 :: ys1585) l1580 i1583 = some o1591 := h
   rw [spec_reNamed.l0] at h
   refine c_seq (za0 (o_q rfl rfl (q_lss rfl rfl) (o_end (za1 (c_seq (zay (vb_ hr1587.lt) (zal (za1 (c_seq ?_)))))))))
   refine zah (c_seq (za0 (zb0 (p := Sh A0_2 l0_2.length l0_2.length) (fun w h => f_sh (dk := zaq) h (fun w h => R0_2.now Z h)) (fun hq1594 => o_q rfl rfl (q_ix Tryz.underlying36 Z84 rfl rfl hq1594 hr1587.get) (o_q rfl rfl (q_ldE G84 Z84 rfl rfl (fun w h => R0_2.now Z h) hr1587.get (fun _ _ h => h) rfl) (o_e rfl (zao V84 rfl) (fun g1595 => o_e rfl (zae (i := 0) rfl rfl rfl Z84 rfl rfl) (fun _ => o_end (za1 ?_)))))))))
   refine za6 h (fun y1900 hg1899 h => ?_) rfl
   refine za6 h (fun y2199 hg2198 h => ?_) rfl
   refine za6 h (fun y2499 hg2498 h => ?_) rfl
   refine za6 h (fun l2738 ha2739 h => ?_) rfl
   refine a_startS (ds := []) [some 0, none, some 2, some 3, none, some 5, some 6] MO rfl (zaa 0 rfl rfl rfl kr_ (fun _ _ _ h => h) (q_f F38_2 rfl) (zaa 2 rfl rfl rfl kr_ (fun _ _ _ h => h) (za3 rfl) (zaa 3 rfl rfl rfl kr_ (fun _ _ _ h => h) (q_f F84_0 rfl) (zau 4 rfl rfl rfl kr_ (fun _ _ _ h => h) (fun w h => za5 [some 0, none, some 2, some 3, none, some 5, some 6] dc_ w h rfl) (q_ldb Y3 rfl (fun w h => h.zac (i := 0) rfl) rfl) (a_fact (p := Sh A1 l1.length l1.length) (fun w h => f_sh (dk := (Kd.int .i64)) h (fun w h => R1.now Z h)) (fun hq1898 => zaa 5 rfl rfl rfl kr_ (fun _ _ _ h => h) (q_ix Tryz.underlying25 Z3 rfl rfl hq1898 hg1899) (zau 6 rfl rfl rfl kr_ (fun _ _ _ h => h) (fun w h => za5 [some 0, none, some 2, some 3, none, some 5, some 6] dc_ w h rfl) (q_lde (off := 0) Y3 rfl rfl (fun w h => R1.now Z h) hg1899 (fun _ _ h => h) rfl) (zaa 7 rfl rfl rfl kr_ (fun _ _ _ h => h) (za3 rfl) (zaa 8 rfl rfl rfl kr_ (fun _ _ _ h => h) (q_f F84_1 rfl) ?_)))))))))
   refine zau 9 rfl rfl rfl kr_ (fun _ _ _ h => h) (fun w h => za5 [some 0, none, some 2, some 3, none, some 5, some 6] dc_ w h rfl) (q_ldb Y3 rfl (fun w h => h.zac (i := 0) rfl) rfl) (zaa 10 rfl rfl rfl kr_ (fun _ _ _ h => h) (q_ix Tryz.underlying25 Z3 rfl rfl hq1898 hg2198) (zau 11 rfl rfl rfl kr_ (fun _ _ _ h => h) (fun w h => za5 [some 0, none, some 2, some 3, none, some 5, some 6] dc_ w h rfl) (q_lde (off := 0) Y3 rfl rfl (fun w h => R1.now Z h) hg2198 (fun _ _ h => h) rfl) (zaa 12 rfl rfl rfl kr_ (fun _ _ _ h => h) (za3 rfl) (zaa 13 rfl rfl rfl kr_ (fun _ _ _ h => h) (q_f F84_2 rfl) (zau 14 rfl rfl rfl kr_ (fun _ _ _ h => h) (fun w h => za5 [some 0, none, some 2, some 3, none, some 5, some 6] dc_ w h rfl) (q_ldb Y3 rfl (fun w h => h.zac (i := 0) rfl) rfl) (zaa 15 rfl rfl rfl kr_ (fun _ _ _ h => h) (q_ix Tryz.underlying25 Z3 rfl rfl hq1898 hg2498) (zau 16 rfl rfl rfl kr_ (fun _ _ _ h => h) (fun w h => za5 [some 0, none, some 2, some 3, none, some 5, some 6] dc_ w h rfl) (q_lde (off := 0) Y3 rfl rfl (fun w h => R1.now Z h) hg2498 (fun _ _ h => h) rfl) (zaa 17 rfl rfl rfl kr_ (fun _ _ _ h => h) (zaw (vs := [(0, .int .i64 y1900), (1, .int .i64 y2199), (2, .int .i64 y2499)]) (cs := [.int .i64 y1900, .int .i64 y2199, .int .i64 y2499]) rfl rfl) (a_two 1 18 rfl rfl rfl rfl kr_ rfl rfl (ev_q rfl (q_ldb Y36 rfl (fun w h => h.zac (i := 4) rfl) rfl)) (fun s w h => za5 [some 0, none, some 2, some 3, none, some 5, some 6] dc_ w h rfl) (e_lit (vs := [(0, .agg #[.int .i64 y1900, .int .i64 y2199, .int .i64 y2499])]) (cs := [.int .i64 y1900, .int .i64 y2199, .int .i64 y2499]) zaq ([(⟨y1900, y2199, y2499⟩ : SRegOp)] : List SRegOp) Tryz.underlying36 I84 dc_ rfl dc_ rfl rfl (fun _ _ => zb4 _)) (fun s w h => za5 [some 1, none, some 3, some 4, none, some 6, some 7] dc_ w h rfl) (fun _ => ?_) (cur2 (fun A2678 c2679 => ?_)))))))))))
   ·skip
    refine a_one 18 rfl rfl kr_ rfl (e_lit (vs := [(0, .agg #[.int .i64 y1900, .int .i64 y2199, .int .i64 y2499])]) (cs := [.int .i64 y1900, .int .i64 y2199, .int .i64 y2499]) zaq ([(⟨y1900, y2199, y2499⟩ : SRegOp)] : List SRegOp) Tryz.underlying36 I84 dc_ rfl dc_ rfl rfl (fun _ _ => zb4 _)) (fun s w h => za5 [some 1, none, some 3, some 4, none, some 6, some 7] dc_ w h rfl) (cur2 (fun A2678 c2679 => a_one 19 rfl rfl kr_ rfl (e_app (i := 2) (j := 0) Tryz.underlying36 I84 rfl dc_ dc_ rfl rfl rfl rfl rfl ha2739) (fun s w h => za5 [some 1, none, some 3, some 4, none, some 6, some 7] dc_ w h rfl) (cur2 (fun A2740 c2741 => zaa 20 rfl rfl rfl kr_ (fun _ _ _ h => h) (q_f F38_2 rfl) (a_one 21 rfl rfl kr_ rfl (zav (i := 5) rfl rfl rfl rfl Z36 rfl rfl) (fun s w h => za5 [some 1, none, some 3, some 4, none, some 6, some 7] dc_ w h rfl) (fun _ => zar kr_ (zak (za1 (za0 (o_q rfl rfl (q_up rfl rfl (hr1587.up hm1588)) (o_q rfl rfl (za3 rfl) ?_)))))))))))
    refine o_end (zaj ys1585.length (ys1585, l2738, i1583 + 1, A2740, c2741) (by rw [← hk1593]; exact Nat.lt_succ_self _) ⟨hr1587.step, rfl, h⟩ ⟨rfl, trivial⟩ (fun w h => za8 [2, 3, 4, 5, 6, 7] dc_ rfl w h) ?_)
    exact of_
   ·skip
    refine a_one 1 rfl rfl kr_ rfl (ev_q rfl (q_ldb Y36 rfl (fun w h => h.zac (i := 5) rfl) rfl)) (fun s w h => za5 [some 1, none, some 3, some 4, none, some 6, some 7] dc_ w h rfl) (fun _ => a_one 19 rfl rfl kr_ rfl (e_app (i := 2) (j := 0) Tryz.underlying36 I84 rfl dc_ dc_ rfl rfl rfl rfl rfl ha2739) (fun s w h => za5 [some 1, none, some 3, some 4, none, some 6, some 7] dc_ w h rfl) (cur2 (fun A2740 c2741 => zaa 20 rfl rfl rfl kr_ (fun _ _ _ h => h) (q_f F38_2 rfl) (a_one 21 rfl rfl kr_ rfl (zav (i := 5) rfl rfl rfl rfl Z36 rfl rfl) (fun s w h => za5 [some 1, none, some 3, some 4, none, some 6, some 7] dc_ w h rfl) (fun _ => zar kr_ (zak (za1 (za0 (o_q rfl rfl (q_up rfl rfl (hr1587.up hm1588)) (o_q rfl rfl (za3 rfl) ?_))))))))))
    refine o_end (zaj ys1585.length (ys1585, l2738, i1583 + 1, A2740, c2741) (by rw [← hk1593]; exact Nat.lt_succ_self _) ⟨hr1587.step, rfl, h⟩ ⟨rfl, trivial⟩ (fun w h => za8 [2, 3, 4, 5, 6, 7] dc_ rfl w h) ?_)
    exact of_

def spec_RenameRegisters.l0 (l1 : List Int) : (List Int) → Int → Option ((Int × (List Int) × (List SRegOp) × (List Int) × Bool) ⊕ (Unit))
 | [], i24 => some (.inr ())
 | y25 :: ys26, i24 => (ct l1 (0 : Int) i24).bind fun l46 => (spec_l1Has.f l46 y25).bind fun b49 => if b49 = true then (some (.inl (0, ([] : List Int), ([] : List SRegOp), ([] : List Int), false))) else (spec_RenameRegisters.l0 l1 ys26 (i24 + 1))
def spec_RenameRegisters.f (k : Nat) (a0_0 : Int) (l0_1 : List Int) (l0_2 : List SRegOp) (l0_3 : List Int) (l1 : List Int) : Option (Int × (List Int) × (List SRegOp) × (List Int) × Bool) := ((spec_reCode.f k a0_0 l0_1 l0_2 l0_3).bind fun b18 => if b18 = true then (if (l1.length : Int) ≠ a0_0 then (some true) else ((spec_l1All.f l1 0 (w64 (a0_0 - 1))).bind fun b22 => some (!b22))) else (some true)).bind fun b11 => if b11 = true then (some (0, ([] : List Int), ([] : List SRegOp), ([] : List Int), false)) else ((spec_RenameRegisters.l0 l1 l1 0).bind fun o_ => match o_ with | .inl r_ => some r_ | .inr _ => (spec_reNamed.f a0_0 l0_1 l0_2 l0_3 l1 a0_0).bind fun (l36, l37, l38) => some (a0_0, l36, l37, l38, true))
theorem spec_RenameRegisters.calls (k : Nat) {w0 ws : World} {P0 : Nat → Prop} (a0_0 : Int) (A0_1 : Option Addr) (c0_1 : Nat) (n0_1 : Nat) (l0_1 : List Int) (A0_2 : Option Addr) (c0_2 : Nat) (n0_2 : Nat) (l0_2 : List SRegOp) (A0_3 : Option Addr) (c0_3 : Nat) (n0_3 : Nat) (l0_3 : List Int) (A1 : Option Addr) (c1 : Nat) (n1 : Nat) (l1 : List Int) (Z : Below w0.heap.size w0 ws) (hF : Fr w0 ws P0 [] ws) (R0_1 : Stable ws P0 (fun w => Kd.C (Kd.int .i64) w A0_1 n0_1 l0_1)) (hc0_1 : n0_1 ≤ c0_1) (R0_2 : Stable ws P0 (fun w => Kd.C zaq w A0_2 n0_2 l0_2)) (hc0_2 : n0_2 ≤ c0_2) (R0_3 : Stable ws P0 (fun w => Kd.C (Kd.int .i64) w A0_3 n0_3 l0_3)) (hc0_3 : n0_3 ≤ c0_3) (R1 : Stable ws P0 (fun w => Kd.C (Kd.int .i64) w A1 n1 l1)) (hc1 : n1 ≤ c1) (r_1 : Int) (r_2 : List Int) (r_5 : List SRegOp) (r_8 : List Int) (r_11 : Bool) (h : spec_RenameRegisters.f k a0_0 l0_1 l0_2 l0_3 l1 = some (r_1, r_2, r_5, r_8, r_11)) :
  Calls Tryz.prog 22 #[.agg #[.int .i64 a0_0, .slice A0_1 n0_1 c0_1, .slice A0_2 n0_2 c0_2, .slice A0_3 n0_3 c0_3], .slice A1 n1 c1] ws (Post1 w0 ws P0 (fun ((q_3, q_4, q_6, q_7, q_9, q_10) : (Option Addr) × Nat × (Option Addr) × Nat × (Option Addr) × Nat) => .tuple #[.agg #[.int .i64 r_1, .slice q_3 r_2.length q_4, .slice q_6 r_5.length q_7, .slice q_9 r_8.length q_10], .bool r_11]) (fun ((q_3, q_4, q_6, q_7, q_9, q_10) : (Option Addr) × Nat × (Option Addr) × Nat × (Option Addr) × Nat) => [row (Kd.int .i64) 3 (.slice q_3 r_2.length q_4) r_2, row zaq 84 (.slice q_6 r_5.length q_7) r_5, row (Kd.int .i64) 3 (.slice q_9 r_8.length q_10) r_8])) := by
 unfold spec_RenameRegisters.f at h
 obtain rfl := (R0_1 ws (KeptB.refl _ _)).1
 obtain rfl := (R0_2 ws (KeptB.refl _ _)).1
 obtain rfl := (R0_3 ws (KeptB.refl _ _)).1
 obtain rfl := (R1 ws (KeptB.refl _ _)).1
 refine enter Tryz.func22 rfl Tryz.ntmps22 rfl hF (c_seq (za0 (o_e rfl (e_box rfl) (fun g1 => o_e rfl (zao V38 rfl) (fun g3 => o_q rfl rfl (q_asg rfl) (o_end (za1 (c_seq (za6 h (fun o12 hl13 hR14 => ?_) rfl)))))))))
 clear h
 refine c_cutJ (σ := Bool) (fun b11 => some b11 = some o12) [8, 9, 10, 11, 12, 13, 14, 15, 16, 17, 18, 19, 20, 21, 22, 23, 24, 25] (fun b11 => [(25, .bool b11)]) (fun b11 => [box g1 38 #[.int .i64 a0_0, .slice A0_1 l0_1.length c0_1, .slice A0_2 l0_2.length c0_2, .slice A0_3 l0_3.length c0_3], box g3 38 #[.int .i64 0, .slice none 0 0, .slice none 0 0, .slice none 0 0]]) ?_ ?_
 ·skip
  have h := hl13; clear hl13
  clear hR14
  refine za0 (o_q rfl rfl (q_ldB G38 Z38 rfl (fun w h => h.zac (i := 1) rfl) rfl) (za6 h (fun b18 hx17 h => ?_) rfl))
  refine o_e rfl (za7 0 Z Tryz.func56 N56 rfl rfl rfl (fun w P1 hF hB hS hT => spec_reCode.calls k a0_0 A0_1 c0_1 l0_1.length l0_1 A0_2 c0_2 l0_2.length l0_2 A0_3 c0_3 l0_3.length l0_3 hB hF (hS _ R0_1) hc0_1 (hS _ R0_2) hc0_2 (hS _ R0_3) hc0_3 _ hx17)) (fun _ => o_q rfl rfl (q_not rfl) (o_q rfl rfl (za3 rfl) (byB b18 (fun hb19 => ?_) (fun hb19 => ?_))))
  ·replace h := bb_t hb19 h
   refine o_w (za4 rfl rfl rfl (congrArg (fun b => Value.bool (!(b))) hb19)) rfl (za3 rfl) (o_w (za4 rfl rfl rfl (congrArg (fun b => Value.bool (!(b))) hb19)) rfl (q_len Tryz.underlying25 rfl) (o_w (za4 rfl rfl rfl (congrArg (fun b => Value.bool (!(b))) hb19)) rfl (q_f F38_0 rfl) (o_w (za4 rfl rfl rfl (congrArg (fun b => Value.bool (!(b))) hb19)) rfl (q_ldb Y3 rfl (fun w h => h.zac (i := 1) rfl) rfl) (o_w (za4 rfl rfl rfl (congrArg (fun b => Value.bool (!(b))) hb19)) rfl (q_neq rfl rfl) (o_q rfl rfl (zai false (congrArg (fun b => Value.bool (!(b))) hb19) rfl) (o_q rfl rfl (za3 rfl) (byB (decide ((l1.length : Int) ≠ a0_0)) (fun hb20 => ?_) (fun hb20 => ?_))))))))
   ·replace h := br_t hb20 h
    refine o_n (d := 19) (za2 rfl rfl rfl (vb_ hb20) rfl) (Eq.refl (some 19)) (o_n (d := 20) (za2 rfl rfl rfl (vb_ hb20) rfl) (Eq.refl (some 20)) (o_n (d := 21) (za2 rfl rfl rfl (vb_ hb20) rfl) (Eq.refl (some 21)) (o_n (d := 22) (za2 rfl rfl rfl (vb_ hb20) rfl) (Eq.refl (some 22)) (o_n (d := 23) (za2 rfl rfl rfl (vb_ hb20) rfl) (Eq.refl (some 23)) (o_n (d := 24) (za2 rfl rfl rfl (vb_ hb20) rfl) (Eq.refl (some 24)) (o_q rfl rfl (zai true (vb_ hb20) rfl) (o_end (zam true h ⟨rfl, trivial⟩ (fun w h => za8 [1, 0] dc_ rfl w h) ?_))))))))
    exact of_
   ·replace h := br_f hb20 h
    refine o_w (za4 rfl rfl rfl (vb_ hb20)) rfl (za3 rfl) (o_w (za4 rfl rfl rfl (vb_ hb20)) rfl (q_f F38_0 rfl) (o_w (za4 rfl rfl rfl (vb_ hb20)) rfl (q_ldb Y3 rfl (fun w h => h.zac (i := 1) rfl) rfl) (o_w (za4 rfl rfl rfl (vb_ hb20)) rfl (q_sub64 rfl rfl) (za6 h (fun b22 hx21 h => ?_) rfl))))
    refine o_ew (za4 rfl rfl rfl (vb_ hb20)) (za7 0 Z Tryz.func71 N71 rfl rfl rfl (fun w P1 hF hB hS hT => spec_l1All.calls A1 c1 l1.length l1 0 (w64 (a0_0 - 1)) hB hF (hS _ R1) hc1 _ hx21)) (fun _ => o_w (za4 rfl rfl rfl (vb_ hb20)) rfl (q_not rfl) (o_q rfl rfl (zai false (vb_ hb20) rfl) (o_end (zam (!b22) h ⟨rfl, trivial⟩ (fun w h => za8 [1, 0] dc_ rfl w h) ?_))))
    exact of_
  ·replace h := bb_f hb19 h
   refine o_n (d := 12) (za2 rfl rfl rfl (congrArg (fun b => Value.bool (!(b))) hb19) rfl) (Eq.refl (some 12)) (o_n (d := 13) (za2 rfl rfl rfl (congrArg (fun b => Value.bool (!(b))) hb19) rfl) (Eq.refl (some 13)) (o_n (d := 14) (za2 rfl rfl rfl (congrArg (fun b => Value.bool (!(b))) hb19) rfl) (Eq.refl (some 14)) (o_n (d := 15) (za2 rfl rfl rfl (congrArg (fun b => Value.bool (!(b))) hb19) rfl) (Eq.refl (some 15)) (o_n (d := 16) (za2 rfl rfl rfl (congrArg (fun b => Value.bool (!(b))) hb19) rfl) (Eq.refl (some 16)) (o_q rfl rfl (zai true (congrArg (fun b => Value.bool (!(b))) hb19) rfl) (o_q rfl rfl (za3 rfl) (o_n (d := 19) (za2 rfl rfl rfl rfl rfl) (Eq.refl (some 19)) (o_n (d := 20) (za2 rfl rfl rfl rfl rfl) (Eq.refl (some 20)) (o_n (d := 21) (za2 rfl rfl rfl rfl rfl) (Eq.refl (some 21)) ?_)))))))))
   refine o_n (d := 22) (za2 rfl rfl rfl rfl rfl) (Eq.refl (some 22)) (o_n (d := 23) (za2 rfl rfl rfl rfl rfl) (Eq.refl (some 23)) (o_n (d := 24) (za2 rfl rfl rfl rfl rfl) (Eq.refl (some 24)) (o_q rfl rfl (zai true rfl rfl) (o_end (zam true h ⟨rfl, trivial⟩ (fun w h => za8 [1, 0] dc_ rfl w h) ?_)))))
   exact of_
 ·skip
  refine (fun b11 => fun U15 hJ16 => ?_)
  have e_ := si_ hJ16; have h := hR14; rw [← e_] at h; clear e_ hJ16 hR14 hl13
  refine zas _ rfl (fun hb23 => ?_) (fun hb23 => ?_)
  ·skip
   replace h := bb_t hb23 h
   refine c_seq (za0 (o_q rfl rfl (zaw (vs := []) (cs := [.int .i64 0, .slice none 0 0, .slice none 0 0, .slice none 0 0]) rfl rfl) (o_e rfl (zae (i := 1) rfl rfl rfl Z38 rfl rfl) (fun _ => o_q rfl rfl (q_asg rfl) (o_end (za1 (c_ret (za9 (x_nil (Kd.int .i64) 3 ?_)))))))))
   refine x_nil zaq 84 (x_nil (Kd.int .i64) 3 ?_)
   have e0_ := si_ h; clear h
   obtain ⟨rfl, e1_⟩ := Prod.mk.inj e0_
   obtain ⟨rfl, e2_⟩ := Prod.mk.inj e1_
   obtain ⟨rfl, e3_⟩ := Prod.mk.inj e2_
   obtain ⟨rfl, e4_⟩ := Prod.mk.inj e3_
   subst e4_
   exact x_r2 (none, 0, none, 0, none, 0) Tryz.results22 (zb8 rfl G38 Z38 (fun w h => h.zac (i := 4) rfl) rfl) (zad rfl) rfl (fun w h => za8 [2, 1, 0] dc_ rfl w h)
  ·skip
   replace h := bb_f hb23 h
   refine zal (za1 (c_seq (c_seq (za0 (o_q rfl rfl (za3 rfl) (o_q rfl rfl (q_len Tryz.underlying25 rfl) (o_q rfl rfl (za3 rfl) (o_end (za1 ?_)))))))))
   refine zah (za6 h (fun o32 hl31 hR30 => ?_) rfl)
   clear h
   refine c_fact (p := l1.length ≤ 9223372036854775807) (fun w h => (R1.now Z h).2.1) (fun hm29 => zax (σ := (List Int) × Int) (fun k27 ((ys26, i24) : (List Int) × Int) => Rg l1 i24 ys26 ∧ ys26.length = k27 ∧ spec_RenameRegisters.l0 l1 ys26 i24 = some o32) [5, 6, 7, 29, 30, 31, 32, 33, 34, 35, 36, 37, 38, 39, 40] (fun ((ys26, i24) : (List Int) × Int) => [(29, .int .i64 i24)]) (fun ((ys26, i24) : (List Int) × Int) => [box g1 38 #[.int .i64 a0_0, .slice A0_1 l0_1.length c0_1, .slice A0_2 l0_2.length c0_2, .slice A0_3 l0_3.length c0_3], box g3 38 #[.int .i64 0, .slice none 0 0, .slice none 0 0, .slice none 0 0]]) l1.length (l1, 0) ⟨Rg.start _, rfl, hl31⟩ ⟨rfl, trivial⟩ (fun w h => h) (fun k27 => cur2 (listC (fun i24 U33 hJ_ => ?_) (fun y25 ys26 i24 U33 hJ_ => ?_))))
   ·skip
    clear hl31
    have hr28 := hJ_.1; have hk34 := hJ_.2.1; have h := hJ_.2.2; clear hJ_
    replace h : spec_RenameRegisters.l0 l1 [] i24 = some o32 := h
    rw [spec_RenameRegisters.l0] at h
    refine c_seq (za0 (o_q rfl rfl (q_lss rfl rfl) (o_end (za1 (c_seq (zb1 (vb_ hr28.ge) (zb2 (zab (zab ?_)))))))))
    have e_ := si_ h; replace h := hR30; rw [← e_] at h; clear e_
    refine x_hit (za1 (c_seq (za0 (o_q rfl rfl (q_ldB G38 Z38 rfl (fun w h => h.zac (i := 0) rfl) rfl) (o_q rfl rfl (za3 rfl) (o_q rfl rfl (q_f F38_0 rfl) (o_q rfl rfl (q_ldb Y3 rfl (fun w h => h.zac (i := 0) rfl) rfl) (bindE3 h (fun l36 l37 l38 hx35 h => ?_) rfl))))))))
    refine o_e rfl (za7 0 Z Tryz.func73 N73 rfl rfl rfl (fun w P1 hF hB hS hT => spec_reNamed.calls a0_0 A0_1 c0_1 l0_1.length l0_1 A0_2 c0_2 l0_2.length l0_2 A0_3 c0_3 l0_3.length l0_3 A1 c1 l1.length l1 a0_0 hB hF (hS _ R0_1) hc0_1 (hS _ R0_2) hc0_2 (hS _ R0_3) hc0_3 (hS _ R1) hc1 _ _ _ hx35)) (cur6 (fun A39 c40 A41 c42 A43 c44 => o_e rfl (zae (i := 4) rfl rfl rfl Z38 rfl rfl) (fun _ => o_q rfl rfl (q_asg rfl) (o_end (za1 (c_ret ?_))))))
    have e0_ := si_ h; clear h
    obtain ⟨rfl, e1_⟩ := Prod.mk.inj e0_
    obtain ⟨rfl, e2_⟩ := Prod.mk.inj e1_
    obtain ⟨rfl, e3_⟩ := Prod.mk.inj e2_
    obtain ⟨rfl, e4_⟩ := Prod.mk.inj e3_
    subst e4_
    exact x_r2 (A39, c40, A41, c42, A43, c44) Tryz.results22 (zb8 rfl G38 Z38 (fun w h => h.zac (i := 4) rfl) rfl) (zad rfl) rfl (fun w h => za8 [0, 1, 2] dc_ rfl w h)
   ·skip
    clear hl31
    have hr28 := hJ_.1; have hk34 := hJ_.2.1; have h := hJ_.2.2; clear hJ_
    replace h : spec_RenameRegisters.l0 l1 (y25 :: ys26) i24 = some o32 := h
    rw [spec_RenameRegisters.l0] at h
    refine c_seq (za0 (o_q rfl rfl (q_lss rfl rfl) (o_end (za1 (c_seq (zay (vb_ hr28.lt) (zal (za1 (c_seq ?_)))))))))
    refine zah (c_seq (za0 (o_q rfl rfl (za3 rfl) (zb0 (p := Sh A1 l1.length l1.length) (fun w h => f_sh (dk := (Kd.int .i64)) h (fun w h => R1.now Z h)) (fun hq45 => o_q rfl rfl (q_ix Tryz.underlying25 Z3 rfl rfl hq45 hr28.get) (o_q rfl rfl (q_lde (off := 0) Y3 rfl rfl (fun w h => R1.now Z h) hr28.get (fun _ _ h => h) rfl) (o_q rfl rfl (q_asg rfl) (o_q rfl rfl (q_asg rfl) (o_end ?_)))))))))
    refine za1 (c_seq (za0 (o_q rfl rfl (za3 rfl) (o_q rfl rfl (za3 rfl) (za6 h (fun l46 hz47 h => ?_) rfl)))))
    refine o_q rfl rfl (q_ctv Tryz.underlying25 Z3 rfl rfl ⟨_, rfl⟩ rfl hc1 hz47) (o_q rfl rfl (za3 rfl) (za6 h (fun b49 hx48 h => ?_) rfl))
    refine o_e rfl (za7 0 Z Tryz.func72 N72 rfl rfl rfl (fun w P1 hF hB hS hT => spec_l1Has.calls (cutA A1 c1 (0 : Int).toNat 1) (c1 - (0 : Int).toNat) l46.length l46 y25 hB hF (stab_cut (dk := (Kd.int .i64)) rfl hz47 hc1 (hS _ R1)) (ct_cap hz47 rfl hc1) _ hx48)) (fun _ => o_end (za1 (zas _ rfl (fun hb50 => ?_) (fun hb50 => ?_))))
    ·skip
     replace h := bb_t hb50 h
     refine c_seq (za0 (o_q rfl rfl (zaw (vs := []) (cs := [.int .i64 0, .slice none 0 0, .slice none 0 0, .slice none 0 0]) rfl rfl) (o_e rfl (zae (i := 1) rfl rfl rfl Z38 rfl rfl) (fun _ => o_q rfl rfl (q_asg rfl) (o_end (za1 (c_ret (zan (za9 ?_)))))))))
     refine za9 ?_
     have e_ := si_ h; replace h := hR30; rw [← e_] at h; clear e_
     refine zan (za9 (x_nil (Kd.int .i64) 3 (x_nil zaq 84 (x_nil (Kd.int .i64) 3 ?_))))
     have e0_ := si_ h; clear h
     obtain ⟨rfl, e1_⟩ := Prod.mk.inj e0_
     obtain ⟨rfl, e2_⟩ := Prod.mk.inj e1_
     obtain ⟨rfl, e3_⟩ := Prod.mk.inj e2_
     obtain ⟨rfl, e4_⟩ := Prod.mk.inj e3_
     subst e4_
     exact x_r2 (none, 0, none, 0, none, 0) Tryz.results22 (zb8 rfl G38 Z38 (fun w h => h.zac (i := 4) rfl) rfl) (zad rfl) rfl (fun w h => za8 [2, 1, 0] dc_ rfl w h)
    ·skip
     replace h := bb_f hb50 h
     refine zal (zak (za1 (za0 (o_q rfl rfl (q_up rfl rfl (hr28.up hm29)) (o_q rfl rfl (za3 rfl) (o_end (zaj ys26.length (ys26, i24 + 1) (by rw [← hk34]; exact Nat.lt_succ_self _) ⟨hr28.step, rfl, h⟩ ⟨rfl, trivial⟩ (fun w h => za8 [0, 1] dc_ rfl w h) ?_)))))))
     exact of_

def impl_PackRegisters_1.l0 : (List Int) → (List Int) → Int → Int → Option ((List Int) × Int)
 | [], l1, i2, i3 => some (l1, i2)
 | y4 :: ys5, l1, i2, i3 => (gt l1 y4).bind fun y17 => if y17 = (-1) then ((gt l1 y4).bind fun y20 => (st l1 y4 i2).bind fun l21 => impl_PackRegisters_1.l0 ys5 l21 (w64 (i2 + 1)) (i3 + 1)) else (impl_PackRegisters_1.l0 ys5 l1 i2 (i3 + 1))
def impl_PackRegisters_1.f (l0 : List Int) (l1_0 : List Int) (a2_0 : Int) : Option ((List Int) × Int) := (impl_PackRegisters_1.l0 l0 l1_0 a2_0 0).bind fun (l1, i2) => some (l1, i2)
theorem impl_PackRegisters_1.calls {w0 ws : World} {P0 : Nat → Prop} (A0 : Option Addr) (c0 : Nat) (n0 : Nat) (l0 : List Int) (g1 : Nat) (A1_0 : Option Addr) (c1_0 : Nat) (n1_0 : Nat) (l1_0 : List Int) (g2 : Nat) (a2_0 : Int) (Z : Below w0.heap.size w0 ws) (hF : Fr w0 ws P0 [row (Kd.int .i64) 3 (.slice A1_0 n1_0 c1_0) l1_0, box g2 3 #[.int .i64 a2_0]] ws) (R0 : Stable ws P0 (fun w => Kd.C (Kd.int .i64) w A0 n0 l0)) (hc0 : n0 ≤ c0) (B1 : Stable ws P0 (fun w => w.heap[g1]? = some (.cells #[.slice A1_0 n1_0 c1_0] 25 (0, 0)))) (r_1 : List Int) (r_2 : Int) (h : impl_PackRegisters_1.f l0 l1_0 a2_0 = some (r_1, r_2)) :
  Calls Tryz.prog 75 #[.slice A0 n0 c0, .pointer (some ⟨g1, 0, none⟩), .pointer (some ⟨g2, 0, none⟩)] ws (Post1 w0 ws P0 (fun (_ : Unit) => .tuple #[]) (fun (_ : Unit) => [row (Kd.int .i64) 3 (.slice A1_0 n1_0 c1_0) r_1, box g2 3 #[.int .i64 r_2]])) := by
 unfold impl_PackRegisters_1.f at h
 obtain rfl := (hF.row_C (i := 0) rfl).2.1
 obtain rfl := (R0 ws (KeptB.refl _ _)).1
 refine enter Tryz.func75 rfl Tryz.ntmps75 rfl hF (c_seq (za0 (o_q rfl rfl (za3 rfl) (o_q rfl rfl (q_len Tryz.underlying25 rfl) (o_q rfl rfl (za3 rfl) (o_end (za1 (zah (za6 h (fun o11 hl10 hR9 => ?_) rfl)))))))))
 clear h
 refine c_fact (p := l0.length ≤ 9223372036854775807) (fun w h => (R0.now Z h).2.1) (fun hm8 => zax (σ := (List Int) × (List Int) × Int × Int) (fun k6 ((ys5, l1, i2, i3) : (List Int) × (List Int) × Int × Int) => Rg l0 i3 ys5 ∧ ys5.length = k6 ∧ impl_PackRegisters_1.l0 ys5 l1 i2 i3 = some o11) [5, 8, 9, 10, 11, 12, 13, 14, 15, 16, 17, 18, 19, 20, 21, 22, 23] (fun ((ys5, l1, i2, i3) : (List Int) × (List Int) × Int × Int) => [(8, .int .i64 i3)]) (fun ((ys5, l1, i2, i3) : (List Int) × (List Int) × Int × Int) => [row (Kd.int .i64) 3 (.slice A1_0 l1_0.length c1_0) l1, box g2 3 #[.int .i64 i2]]) l0.length (l0, l1_0, a2_0, 0) ⟨Rg.start _, rfl, hl10⟩ ⟨rfl, trivial⟩ (fun w h => h) (fun k6 => cur4 (listC (fun l1 i2 i3 U12 hJ_ => ?_) (fun y4 ys5 l1 i2 i3 U12 hJ_ => ?_))))
 ·skip
  clear hl10
  have hr7 := hJ_.1; have hk13 := hJ_.2.1; have h := hJ_.2.2; clear hJ_
  replace h : impl_PackRegisters_1.l0 [] l1 i2 i3 = some o11 := h
  rw [impl_PackRegisters_1.l0] at h
  refine c_seq (za0 (o_q rfl rfl (q_lss rfl rfl) (o_end (za1 (c_seq (zb1 (vb_ hr7.ge) (zb2 (zab (zab ?_)))))))))
  have e_ := si_ h; replace h := hR9; rw [← e_] at h; clear e_
  refine x_hit ?_
  have e0_ := si_ h; clear h
  obtain ⟨rfl, e1_⟩ := Prod.mk.inj e0_
  subst e1_
  exact x_r0 (.inr rfl) () Tryz.results75 rfl (fun w h => za8 [0, 1] dc_ rfl w h)
 ·skip
  clear hl10
  have hr7 := hJ_.1; have hk13 := hJ_.2.1; have h := hJ_.2.2; clear hJ_
  replace h : impl_PackRegisters_1.l0 (y4 :: ys5) l1 i2 i3 = some o11 := h
  rw [impl_PackRegisters_1.l0] at h
  refine c_seq (za0 (o_q rfl rfl (q_lss rfl rfl) (o_end (za1 (c_seq (zay (vb_ hr7.lt) (zal (za1 (c_seq ?_)))))))))
  refine zah (c_seq (za0 (zb0 (p := Sh A0 l0.length l0.length) (fun w h => f_sh (dk := (Kd.int .i64)) h (fun w h => R0.now Z h)) (fun hq14 => o_q rfl rfl (q_ix Tryz.underlying25 Z3 rfl rfl hq14 hr7.get) (o_q rfl rfl (q_lde (off := 0) Y3 rfl rfl (fun w h => R0.now Z h) hr7.get (fun _ _ h => h) rfl) (o_q rfl rfl (q_asg rfl) (o_end (za1 (c_seq ?_)))))))))
  refine za0 (o_q rfl rfl (q_ldb Y25 rfl (fun w h => B1.now Z h) rfl) (o_q rfl rfl (za3 rfl) (zb0 (p := Sh A1_0 l1_0.length l1.length) (fun w h => f_sh (dk := (Kd.int .i64)) h (fun w h => h.zat (i := 0) rfl)) (fun hq15 => za6 h (fun y17 hg16 h => ?_) rfl))))
  refine o_q rfl rfl (q_ix Tryz.underlying25 Z3 rfl rfl hq15 hg16) (o_q rfl rfl (q_lde (off := 0) Y3 rfl rfl (fun w h => h.zat (i := 0) rfl) hg16 (fun _ _ h => h) rfl) (o_q rfl rfl (q_eql rfl rfl) (o_end (za1 (zas _ rfl (fun hb18 => ?_) (fun hb18 => ?_))))))
  ·skip
   replace h := br_t hb18 h
   refine c_seq (za0 (o_q rfl rfl (q_ldb Y25 rfl (fun w h => B1.now Z h) rfl) (o_q rfl rfl (za3 rfl) (o_q rfl rfl (q_ldb Y3 rfl (fun w h => h.zac (i := 1) rfl) rfl) (za6 h (fun y20 hg19 h => ?_) rfl)))))
   refine o_q rfl rfl (q_ix Tryz.underlying25 Z3 rfl rfl hq15 hg19) (za6 h (fun l21 hs22 h => ?_) rfl)
   refine o_e rfl (e_set (i := 0) rfl rfl rfl Z3 hs22) (fun _ => o_end (za1 (za0 (o_q rfl rfl (q_ldb Y3 rfl (fun w h => h.zac (i := 1) rfl) rfl) (o_q rfl rfl (zb5 rfl rfl) (o_e rfl (zav (i := 1) rfl rfl rfl rfl Z3 rfl rfl) (fun _ => o_end (zak (za1 ?_)))))))))
   refine za0 (o_q rfl rfl (q_up rfl rfl (hr7.up hm8)) (o_q rfl rfl (za3 rfl) (o_end (zaj ys5.length (ys5, l21, w64 (i2 + 1), i3 + 1) (by rw [← hk13]; exact Nat.lt_succ_self _) ⟨hr7.step, rfl, h⟩ ⟨rfl, trivial⟩ (fun w h => za8 [0, 1] dc_ rfl w h) ?_))))
   exact of_
  ·skip
   replace h := br_f hb18 h
   refine zal (zak (za1 (za0 (o_q rfl rfl (q_up rfl rfl (hr7.up hm8)) (o_q rfl rfl (za3 rfl) (o_end (zaj ys5.length (ys5, l1, i2, i3 + 1) (by rw [← hk13]; exact Nat.lt_succ_self _) ⟨hr7.step, rfl, h⟩ ⟨rfl, trivial⟩ (fun w h => za8 [0, 1] dc_ rfl w h) ?_)))))))
   exact of_

def impl_PackRegisters.l0 : (List SRegOp) → (List Int) → Int → Int → Option ((List Int) × Int)
 | [], l22, i23, i24 => some (l22, i23)
 | y25 :: ys26, l22, i23, i24 => (impl_PackRegisters_1.f ([y25.f1, y25.f2, y25.f0] : List Int) l22 i23).bind fun (l52, i53) => impl_PackRegisters.l0 ys26 l52 i53 (i24 + 1)
def impl_PackRegisters.f (k : Nat) (a0_0 : Int) (l0_1 : List Int) (l0_2 : List SRegOp) (l0_3 : List Int) : Option (Int × (List Int) × (List SRegOp) × (List Int) × Bool) := (impl_IsRegCode.f k a0_0 l0_1 l0_2 l0_3).bind fun b6 => if b6 = true then ((slices_Repeat_int_int.f ([(-1)] : List Int) a0_0).bind fun l12 => (impl_PackRegisters_1.f l0_1 l12 0).bind fun (l20, i21) => (impl_PackRegisters.l0 l0_2 l20 i21 0).bind fun (l22, i23) => (impl_RegCode_called.f a0_0 l0_1 l0_2 l0_3 i23 l22).bind fun (l36, l37, l38) => some (i23, l36, l37, l38, true)) else (some (0, ([] : List Int), ([] : List SRegOp), ([] : List Int), false))
theorem impl_PackRegisters.calls (k : Nat) {w0 ws : World} {P0 : Nat → Prop} (a0_0 : Int) (A0_1 : Option Addr) (c0_1 : Nat) (n0_1 : Nat) (l0_1 : List Int) (A0_2 : Option Addr) (c0_2 : Nat) (n0_2 : Nat) (l0_2 : List SRegOp) (A0_3 : Option Addr) (c0_3 : Nat) (n0_3 : Nat) (l0_3 : List Int) (Z : Below w0.heap.size w0 ws) (hF : Fr w0 ws P0 [] ws) (R0_1 : Stable ws P0 (fun w => Kd.C (Kd.int .i64) w A0_1 n0_1 l0_1)) (hc0_1 : n0_1 ≤ c0_1) (R0_2 : Stable ws P0 (fun w => Kd.C zaq w A0_2 n0_2 l0_2)) (hc0_2 : n0_2 ≤ c0_2) (R0_3 : Stable ws P0 (fun w => Kd.C (Kd.int .i64) w A0_3 n0_3 l0_3)) (hc0_3 : n0_3 ≤ c0_3) (r_1 : Int) (r_2 : List Int) (r_5 : List SRegOp) (r_8 : List Int) (r_11 : Bool) (h : impl_PackRegisters.f k a0_0 l0_1 l0_2 l0_3 = some (r_1, r_2, r_5, r_8, r_11)) :
  Calls Tryz.prog 23 #[.agg #[.int .i64 a0_0, .slice A0_1 n0_1 c0_1, .slice A0_2 n0_2 c0_2, .slice A0_3 n0_3 c0_3]] ws (Post1 w0 ws P0 (fun ((q_3, q_4, q_6, q_7, q_9, q_10) : (Option Addr) × Nat × (Option Addr) × Nat × (Option Addr) × Nat) => .tuple #[.agg #[.int .i64 r_1, .slice q_3 r_2.length q_4, .slice q_6 r_5.length q_7, .slice q_9 r_8.length q_10], .bool r_11]) (fun ((q_3, q_4, q_6, q_7, q_9, q_10) : (Option Addr) × Nat × (Option Addr) × Nat × (Option Addr) × Nat) => [row (Kd.int .i64) 3 (.slice q_3 r_2.length q_4) r_2, row zaq 84 (.slice q_6 r_5.length q_7) r_5, row (Kd.int .i64) 3 (.slice q_9 r_8.length q_10) r_8])) := by
 unfold impl_PackRegisters.f at h
 obtain rfl := (R0_1 ws (KeptB.refl _ _)).1
 obtain rfl := (R0_2 ws (KeptB.refl _ _)).1
 obtain rfl := (R0_3 ws (KeptB.refl _ _)).1
 refine enter Tryz.func23 rfl Tryz.ntmps23 rfl hF (c_seq (za0 (o_e rfl (e_box rfl) (fun g1 => o_e rfl (zao V38 rfl) (fun g3 => o_q rfl rfl (q_asg rfl) (o_end (za1 (c_seq (c_seq ?_)))))))))
 refine za0 (o_q rfl rfl (q_ldB G38 Z38 rfl (fun w h => h.zac (i := 1) rfl) rfl) (za6 h (fun b6 hx5 h => ?_) rfl))
 refine o_e rfl (za7 0 Z Tryz.func26 N26 rfl rfl rfl (fun w P1 hF hB hS hT => impl_IsRegCode.calls k a0_0 A0_1 c0_1 l0_1.length l0_1 A0_2 c0_2 l0_2.length l0_2 A0_3 c0_3 l0_3.length l0_3 hB hF (hS _ R0_1) hc0_1 (hS _ R0_2) hc0_2 (hS _ R0_3) hc0_3 _ hx5)) (fun _ => o_q rfl rfl (q_not rfl) (o_end (za1 (zas _ rfl (fun hb7 => ?_) (fun hb7 => ?_)))))
 ·replace hb7 := nt_t hb7
  replace h := bb_f hb7 h
  refine c_seq (za0 (o_q rfl rfl (zaw (vs := []) (cs := [.int .i64 0, .slice none 0 0, .slice none 0 0, .slice none 0 0]) rfl rfl) (o_e rfl (zae (i := 0) rfl rfl rfl Z38 rfl rfl) (fun _ => o_q rfl rfl (q_asg rfl) (o_end (za1 (c_ret (za9 (x_nil (Kd.int .i64) 3 ?_)))))))))
  refine x_nil zaq 84 (x_nil (Kd.int .i64) 3 ?_)
  have e0_ := si_ h; clear h
  obtain ⟨rfl, e1_⟩ := Prod.mk.inj e0_
  obtain ⟨rfl, e2_⟩ := Prod.mk.inj e1_
  obtain ⟨rfl, e3_⟩ := Prod.mk.inj e2_
  obtain ⟨rfl, e4_⟩ := Prod.mk.inj e3_
  subst e4_
  exact x_r2 (none, 0, none, 0, none, 0) Tryz.results23 (zb8 rfl G38 Z38 (fun w h => h.zac (i := 3) rfl) rfl) (zad rfl) rfl (fun w h => za8 [2, 1, 0] dc_ rfl w h)
 ·replace hb7 := nt_f hb7
  replace h := bb_t hb7 h
  refine zal (za1 (c_seq (za0 (o_e rfl (e_lit (vs := [(0, .int .i64 (-1))]) (cs := [.int .i64 (-1)]) (Kd.int .i64) ([(-1)] : List Int) Tryz.underlying25 I3 dc_ rfl dc_ rfl rfl (fun _ _ => Kd.zaf _)) (cur2 (fun A8 c9 => o_q rfl rfl (q_f F38_0 rfl) (o_q rfl rfl (q_ldb Y3 rfl (fun w h => h.zac (i := 2) rfl) rfl) (za6 h (fun l12 hx11 h => ?_) rfl))))))))
  refine o_e rfl (za7 0 Z Tryz.func74 N74 rfl rfl rfl (fun w P1 hF hB hS hT => slices_Repeat_int_int.calls A8 c9 (([(-1)] : List Int).length) ([(-1)] : List Int) a0_0 hB hF (hT 0 _ rfl).row (hT 0 _ rfl).cap _ hx11)) (cur2 (fun A13 c14 => o_e rfl (zao V25 rfl) (fun g15 => o_e rfl (zao V3 rfl) (fun g17 => o_e rfl (zav (i := 1) rfl rfl rfl rfl Z25 rfl rfl) (fun _ => o_e rfl (zav (i := 0) rfl rfl rfl rfl Z3 rfl rfl) (fun _ => o_end (za1 (c_seq (za0 (o_q rfl rfl (q_func rfl rfl) ?_))))))))))
  refine o_q rfl rfl (q_asg rfl) (o_end (za1 (c_seq (za0 (o_q rfl rfl (za3 rfl) (o_q rfl rfl (q_f F38_1 rfl) (o_q rfl rfl (q_ldb Y25 rfl (fun w h => h.zac (i := 5) rfl) rfl) (o_pick [2, 0, 1, 3, 4, 5] dc_ rfl (bindE2 h (fun l20 i21 hx19 h => ?_) rfl)))))))))
  refine o_e rfl (za7 2 Z Tryz.func75 N75 rfl rfl rfl (fun w P1 hF hB hS hT => impl_PackRegisters_1.calls A0_1 c0_1 l0_1.length l0_1 g15 A13 c14 l12.length l12 g17 0 hB hF (hS _ R0_1) hc0_1 (hT 0 _ rfl).box _ _ hx19)) (fun _ => o_end (za1 (c_seq (c_seq (za0 (o_q rfl rfl (q_f F38_2 rfl) (o_q rfl rfl (q_ldb Y36 rfl (fun w h => h.zac (i := 5) rfl) rfl) (o_q rfl rfl (q_len Tryz.underlying36 rfl) (o_q rfl rfl (za3 rfl) ?_)))))))))
  refine o_end (za1 (zah (za6 h (fun o32 hl31 hR30 => ?_) rfl)))
  clear h
  refine c_fact (p := l0_2.length ≤ 9223372036854775807) (fun w h => (R0_2.now Z h).2.1) (fun hm29 => zax (σ := (List SRegOp) × (List Int) × Int × Int) (fun k27 ((ys26, l22, i23, i24) : (List SRegOp) × (List Int) × Int × Int) => Rg l0_2 i24 ys26 ∧ ys26.length = k27 ∧ impl_PackRegisters.l0 ys26 l22 i23 i24 = some o32) [8, 25, 26, 27, 28, 29, 30, 31, 32, 33, 34, 35, 36, 37, 38] (fun ((ys26, l22, i23, i24) : (List SRegOp) × (List Int) × Int × Int) => [(25, .int .i64 i24)]) (fun ((ys26, l22, i23, i24) : (List SRegOp) × (List Int) × Int × Int) => [row (Kd.int .i64) 3 (.slice A13 l12.length c14) l22, box g17 3 #[.int .i64 i23], box g15 25 #[.slice A13 l12.length c14], row (Kd.int .i64) 3 (.slice A8 (([(-1)] : List Int).length) c9) ([(-1)] : List Int), box g3 38 #[.int .i64 0, .slice none 0 0, .slice none 0 0, .slice none 0 0], box g1 38 #[.int .i64 a0_0, .slice A0_1 l0_1.length c0_1, .slice A0_2 l0_2.length c0_2, .slice A0_3 l0_3.length c0_3]]) l0_2.length (l0_2, l20, i21, 0) ⟨Rg.start _, rfl, hl31⟩ ⟨rfl, trivial⟩ (fun w h => h) (fun k27 => cur4 (listC (fun l22 i23 i24 U33 hJ_ => ?_) (fun y25 ys26 l22 i23 i24 U33 hJ_ => ?_))))
  ·skip
   clear hl31
   have hr28 := hJ_.1; have hk34 := hJ_.2.1; have h := hJ_.2.2; clear hJ_
   replace h : impl_PackRegisters.l0 [] l22 i23 i24 = some o32 := h
   rw [impl_PackRegisters.l0] at h
   refine c_seq (za0 (o_q rfl rfl (q_lss rfl rfl) (o_end (za1 (c_seq (zb1 (vb_ hr28.ge) (zb2 (zab (zab ?_)))))))))
   have e_ := si_ h; replace h := hR30; rw [← e_] at h; clear e_
   refine x_hit (za1 (c_seq (za0 (o_q rfl rfl (q_ldb Y3 rfl (fun w h => h.zac (i := 1) rfl) rfl) (o_q rfl rfl (q_ldb Y25 rfl (fun w h => h.zac (i := 2) rfl) rfl) (bindE3 h (fun l36 l37 l38 hx35 h => ?_) rfl))))))
   refine o_e rfl (za7 0 Z Tryz.func70 N70 rfl rfl rfl (fun w P1 hF hB hS hT => impl_RegCode_called.calls g1 a0_0 A0_1 c0_1 l0_1.length l0_1 A0_2 c0_2 l0_2.length l0_2 A0_3 c0_3 l0_3.length l0_3 i23 A13 c14 l12.length l22 hB hF (hS _ R0_1) hc0_1 (hS _ R0_2) hc0_2 (hS _ R0_3) hc0_3 (hT 5 _ rfl).box (hT 0 _ rfl).row (hT 0 _ rfl).cap _ _ _ hx35)) (cur6 (fun A39 c40 A41 c42 A43 c44 => o_e rfl (zae (i := 7) rfl rfl rfl Z38 rfl rfl) (fun _ => o_q rfl rfl (q_asg rfl) (o_end (za1 (c_ret ?_))))))
   have e0_ := si_ h; clear h
   obtain ⟨rfl, e1_⟩ := Prod.mk.inj e0_
   obtain ⟨rfl, e2_⟩ := Prod.mk.inj e1_
   obtain ⟨rfl, e3_⟩ := Prod.mk.inj e2_
   obtain ⟨rfl, e4_⟩ := Prod.mk.inj e3_
   subst e4_
   exact x_r2 (A39, c40, A41, c42, A43, c44) Tryz.results23 (zb8 rfl G38 Z38 (fun w h => h.zac (i := 7) rfl) rfl) (zad rfl) rfl (fun w h => za8 [0, 1, 2] dc_ rfl w h)
  ·skip
   clear hl31
   have hr28 := hJ_.1; have hk34 := hJ_.2.1; have h := hJ_.2.2; clear hJ_
   replace h : impl_PackRegisters.l0 (y25 :: ys26) l22 i23 i24 = some o32 := h
   rw [impl_PackRegisters.l0] at h
   refine c_seq (za0 (o_q rfl rfl (q_lss rfl rfl) (o_end (za1 (c_seq (zay (vb_ hr28.lt) (zal (za1 (c_seq ?_)))))))))
   refine zah (c_seq (za0 (zb0 (p := Sh A0_2 l0_2.length l0_2.length) (fun w h => f_sh (dk := zaq) h (fun w h => R0_2.now Z h)) (fun hq45 => o_q rfl rfl (q_ix Tryz.underlying36 Z84 rfl rfl hq45 hr28.get) (o_q rfl rfl (q_ldE G84 Z84 rfl rfl (fun w h => R0_2.now Z h) hr28.get (fun _ _ h => h) rfl) (o_e rfl (zao V84 rfl) (fun g46 => o_e rfl (zae (i := 0) rfl rfl rfl Z84 rfl rfl) (fun _ => o_end (za1 ?_)))))))))
   refine za0 (o_q rfl rfl (za3 rfl) (o_q rfl rfl (q_f F84_1 rfl) (o_q rfl rfl (q_ldb Y3 rfl (fun w h => h.zac (i := 0) rfl) rfl) (o_q rfl rfl (q_f F84_2 rfl) (o_q rfl rfl (q_ldb Y3 rfl (fun w h => h.zac (i := 0) rfl) rfl) (o_q rfl rfl (q_f F84_0 rfl) (o_q rfl rfl (q_ldb Y3 rfl (fun w h => h.zac (i := 0) rfl) rfl) (o_e rfl (e_lit (vs := [(0, .int .i64 y25.f1), (1, .int .i64 y25.f2), (2, .int .i64 y25.f0)]) (cs := [.int .i64 y25.f1, .int .i64 y25.f2, .int .i64 y25.f0]) (Kd.int .i64) ([y25.f1, y25.f2, y25.f0] : List Int) Tryz.underlying25 I3 dc_ rfl dc_ rfl rfl (fun _ _ => Kd.zaf _)) (cur2 (fun A48 c49 => o_pick [2, 3, 0, 1, 4, 5, 6, 7] dc_ rfl ?_))))))))))
   refine bindE2 h (fun l52 i53 hx51 h => ?_) rfl
   refine o_e rfl (za7 2 Z Tryz.func75 N75 rfl rfl rfl (fun w P1 hF hB hS hT => impl_PackRegisters_1.calls A48 c49 (([y25.f1, y25.f2, y25.f0] : List Int).length) ([y25.f1, y25.f2, y25.f0] : List Int) g15 A13 c14 l12.length l22 g17 i23 hB hF (hT 0 _ rfl).row (hT 0 _ rfl).cap (hT 2 _ rfl).box _ _ hx51)) (fun _ => o_end (zak (za1 (za0 (o_q rfl rfl (q_up rfl rfl (hr28.up hm29)) (o_q rfl rfl (za3 rfl) (o_end (zaj ys26.length (ys26, l52, i53, i24 + 1) (by rw [← hk34]; exact Nat.lt_succ_self _) ⟨hr28.step, rfl, h⟩ ⟨rfl, trivial⟩ (fun w h => za8 [0, 1, 4, 5, 6, 7] dc_ rfl w h) ?_))))))))
   exact of_

def spec_l1Own.f (l0 : List Int) : Option (List Int) := (ap ([] : List Int) l0).bind fun l4 => some l4
theorem spec_l1Own.calls {w0 ws : World} {P0 : Nat → Prop} (A0 : Option Addr) (c0 : Nat) (n0 : Nat) (l0 : List Int) (Z : Below w0.heap.size w0 ws) (hF : Fr w0 ws P0 [] ws) (R0 : Stable ws P0 (fun w => Kd.C (Kd.int .i64) w A0 n0 l0)) (hc0 : n0 ≤ c0) (r_1 : List Int) (h : spec_l1Own.f l0 = some r_1) :
  Calls Tryz.prog 76 #[.slice A0 n0 c0] ws (Post1 w0 ws P0 (fun ((q_2, q_3) : (Option Addr) × Nat) => .slice q_2 r_1.length q_3) (fun ((q_2, q_3) : (Option Addr) × Nat) => [row (Kd.int .i64) 3 (.slice q_2 r_1.length q_3) r_1])) := by
 unfold spec_l1Own.f at h
 obtain rfl := (R0 ws (KeptB.refl _ _)).1
 refine enter Tryz.func76 rfl Tryz.ntmps76 rfl hF (c_seq (za0 (o_q rfl rfl (q_asg rfl) (o_end (za1 (c_seq (za0 (o_e rfl (e_lit0 (Kd.int .i64) Tryz.underlying25 I3) (cur2 (fun A1 c2 => o_q rfl rfl (za3 rfl) ?_))))))))))
 refine za6 h (fun l4 ha5 h => ?_) rfl
 refine o_e rfl (e_appr (i := 0) Tryz.underlying25 I3 rfl dc_ dc_ (fun _ _ _ _ h => h) rfl (fun w h => R0.now Z h) rfl rfl ha5) (cur2 (fun A6 c7 => o_q rfl rfl (q_asg rfl) (o_end (za1 (c_ret ?_)))))
 have e0_ := si_ h; clear h
 subst e0_
 exact x_r1 (A6, c7) Tryz.results76 (zad rfl) rfl (fun w h => za8 [0] dc_ rfl w h)

def spec_PackRegisters.l1 : (List Int) → (List Int) → Int → Option (List Int)
 | [], l31, i32 => some l31
 | y33 :: ys34, l31, i32 => (gt l31 y33).bind fun y56 => (st l31 y33 i32).bind fun l57 => spec_PackRegisters.l1 ys34 l57 (i32 + 1)
def spec_PackRegisters.l2 : (List Int) → (List Int) → Int → Option (List Int)
 | [], l65, i68 => some l65
 | y69 :: ys70, l65, i68 => (spec_l1Has.f l65 y69).bind fun b81 => if b81 = true then (spec_PackRegisters.l2 ys70 l65 (i68 + 1)) else ((ap l65 ([y69] : List Int)).bind fun l86 => spec_PackRegisters.l2 ys70 l86 (i68 + 1))
def spec_PackRegisters.l0 : (List SRegOp) → (List Int) → Int → Option (List Int)
 | [], l12, i15 => some l12
 | y16 :: ys17, l12, i15 => (spec_PackRegisters.l2 ([y16.f1, y16.f2, y16.f0] : List Int) l12 0).bind fun l65 => spec_PackRegisters.l0 ys17 l65 (i15 + 1)
def spec_PackRegisters.f (k : Nat) (a0_0 : Int) (l0_1 : List Int) (l0_2 : List SRegOp) (l0_3 : List Int) : Option (Int × (List Int) × (List SRegOp) × (List Int) × Bool) := (spec_reCode.f k a0_0 l0_1 l0_2 l0_3).bind fun b6 => if b6 = true then ((spec_l1Own.f l0_1).bind fun l9 => (spec_PackRegisters.l0 l0_2 l9 0).bind fun l12 => (mk0 a0_0 (0 : Int)).bind fun l26 => (spec_PackRegisters.l1 l12 l26 0).bind fun l31 => (spec_reNamed.f a0_0 l0_1 l0_2 l0_3 l31 (l12.length : Int)).bind fun (l44, l45, l46) => some ((l12.length : Int), l44, l45, l46, true)) else (some (0, ([] : List Int), ([] : List SRegOp), ([] : List Int), false))
theorem spec_PackRegisters.calls (k : Nat) {w0 ws : World} {P0 : Nat → Prop} (a0_0 : Int) (A0_1 : Option Addr) (c0_1 : Nat) (n0_1 : Nat) (l0_1 : List Int) (A0_2 : Option Addr) (c0_2 : Nat) (n0_2 : Nat) (l0_2 : List SRegOp) (A0_3 : Option Addr) (c0_3 : Nat) (n0_3 : Nat) (l0_3 : List Int) (Z : Below w0.heap.size w0 ws) (hF : Fr w0 ws P0 [] ws) (R0_1 : Stable ws P0 (fun w => Kd.C (Kd.int .i64) w A0_1 n0_1 l0_1)) (hc0_1 : n0_1 ≤ c0_1) (R0_2 : Stable ws P0 (fun w => Kd.C zaq w A0_2 n0_2 l0_2)) (hc0_2 : n0_2 ≤ c0_2) (R0_3 : Stable ws P0 (fun w => Kd.C (Kd.int .i64) w A0_3 n0_3 l0_3)) (hc0_3 : n0_3 ≤ c0_3) (r_1 : Int) (r_2 : List Int) (r_5 : List SRegOp) (r_8 : List Int) (r_11 : Bool) (h : spec_PackRegisters.f k a0_0 l0_1 l0_2 l0_3 = some (r_1, r_2, r_5, r_8, r_11)) :
  Calls Tryz.prog 24 #[.agg #[.int .i64 a0_0, .slice A0_1 n0_1 c0_1, .slice A0_2 n0_2 c0_2, .slice A0_3 n0_3 c0_3]] ws (Post1 w0 ws P0 (fun ((q_3, q_4, q_6, q_7, q_9, q_10) : (Option Addr) × Nat × (Option Addr) × Nat × (Option Addr) × Nat) => .tuple #[.agg #[.int .i64 r_1, .slice q_3 r_2.length q_4, .slice q_6 r_5.length q_7, .slice q_9 r_8.length q_10], .bool r_11]) (fun ((q_3, q_4, q_6, q_7, q_9, q_10) : (Option Addr) × Nat × (Option Addr) × Nat × (Option Addr) × Nat) => [row (Kd.int .i64) 3 (.slice q_3 r_2.length q_4) r_2, row zaq 84 (.slice q_6 r_5.length q_7) r_5, row (Kd.int .i64) 3 (.slice q_9 r_8.length q_10) r_8])) := by
 unfold spec_PackRegisters.f at h
 obtain rfl := (R0_1 ws (KeptB.refl _ _)).1
 obtain rfl := (R0_2 ws (KeptB.refl _ _)).1
 obtain rfl := (R0_3 ws (KeptB.refl _ _)).1
 refine enter Tryz.func24 rfl Tryz.ntmps24 rfl hF (c_seq (za0 (o_e rfl (e_box rfl) (fun g1 => o_e rfl (zao V38 rfl) (fun g3 => o_q rfl rfl (q_asg rfl) (o_end (za1 (c_seq (c_seq ?_)))))))))
 refine za0 (o_q rfl rfl (q_ldB G38 Z38 rfl (fun w h => h.zac (i := 1) rfl) rfl) (za6 h (fun b6 hx5 h => ?_) rfl))
 refine o_e rfl (za7 0 Z Tryz.func56 N56 rfl rfl rfl (fun w P1 hF hB hS hT => spec_reCode.calls k a0_0 A0_1 c0_1 l0_1.length l0_1 A0_2 c0_2 l0_2.length l0_2 A0_3 c0_3 l0_3.length l0_3 hB hF (hS _ R0_1) hc0_1 (hS _ R0_2) hc0_2 (hS _ R0_3) hc0_3 _ hx5)) (fun _ => o_q rfl rfl (q_not rfl) (o_end (za1 (zas _ rfl (fun hb7 => ?_) (fun hb7 => ?_)))))
 ·replace hb7 := nt_t hb7
  replace h := bb_f hb7 h
  refine c_seq (za0 (o_q rfl rfl (zaw (vs := []) (cs := [.int .i64 0, .slice none 0 0, .slice none 0 0, .slice none 0 0]) rfl rfl) (o_e rfl (zae (i := 0) rfl rfl rfl Z38 rfl rfl) (fun _ => o_q rfl rfl (q_asg rfl) (o_end (za1 (c_ret (za9 (x_nil (Kd.int .i64) 3 ?_)))))))))
  refine x_nil zaq 84 (x_nil (Kd.int .i64) 3 ?_)
  have e0_ := si_ h; clear h
  obtain ⟨rfl, e1_⟩ := Prod.mk.inj e0_
  obtain ⟨rfl, e2_⟩ := Prod.mk.inj e1_
  obtain ⟨rfl, e3_⟩ := Prod.mk.inj e2_
  obtain ⟨rfl, e4_⟩ := Prod.mk.inj e3_
  subst e4_
  exact x_r2 (none, 0, none, 0, none, 0) Tryz.results24 (zb8 rfl G38 Z38 (fun w h => h.zac (i := 3) rfl) rfl) (zad rfl) rfl (fun w h => za8 [2, 1, 0] dc_ rfl w h)
 ·replace hb7 := nt_f hb7
  replace h := bb_t hb7 h
  refine zal (za1 (c_seq (za0 (o_q rfl rfl (q_f F38_1 rfl) (o_q rfl rfl (q_ldb Y25 rfl (fun w h => h.zac (i := 1) rfl) rfl) (za6 h (fun l9 hx8 h => ?_) rfl))))))
  refine o_e rfl (za7 0 Z Tryz.func76 N76 rfl rfl rfl (fun w P1 hF hB hS hT => spec_l1Own.calls A0_1 c0_1 l0_1.length l0_1 hB hF (hS _ R0_1) hc0_1 _ hx8)) (cur2 (fun A10 c11 => o_q rfl rfl (q_asg rfl) (o_end (za1 (c_seq (c_seq (za0 (o_q rfl rfl (q_f F38_2 rfl) (o_q rfl rfl (q_ldb Y36 rfl (fun w h => h.zac (i := 2) rfl) rfl) (o_q rfl rfl (q_len Tryz.underlying36 rfl) ?_))))))))))
  refine o_q rfl rfl (za3 rfl) (o_end (za1 (zah (za6 h (fun o23 hl22 hR21 => ?_) rfl))))
  clear h
  refine c_fact (p := l0_2.length ≤ 9223372036854775807) (fun w h => (R0_2.now Z h).2.1) (fun hm20 => zax (σ := (List SRegOp) × (List Int) × Int × (Option Addr) × Nat) (fun k18 ((ys17, l12, i15, A13, c14) : (List SRegOp) × (List Int) × Int × (Option Addr) × Nat) => Rg l0_2 i15 ys17 ∧ ys17.length = k18 ∧ spec_PackRegisters.l0 ys17 l12 i15 = some o23) [4, 6, 8, 22, 23, 24, 25, 26, 27, 28, 29, 30, 31, 32, 33, 34, 35, 36, 37, 38, 39, 40, 41, 42, 43, 44, 45, 46, 47] (fun ((ys17, l12, i15, A13, c14) : (List SRegOp) × (List Int) × Int × (Option Addr) × Nat) => [(4, .slice A13 l12.length c14), (22, .int .i64 i15)]) (fun ((ys17, l12, i15, A13, c14) : (List SRegOp) × (List Int) × Int × (Option Addr) × Nat) => [row (Kd.int .i64) 3 (.slice A13 l12.length c14) l12, box g3 38 #[.int .i64 0, .slice none 0 0, .slice none 0 0, .slice none 0 0], box g1 38 #[.int .i64 a0_0, .slice A0_1 l0_1.length c0_1, .slice A0_2 l0_2.length c0_2, .slice A0_3 l0_3.length c0_3]]) l0_2.length (l0_2, l9, 0, A10, c11) ⟨Rg.start _, rfl, hl22⟩ ⟨rfl, rfl, trivial⟩ (fun w h => h) (fun k18 => cur5 (listC (fun l12 i15 A13 c14 U24 hJ_ => ?_) (fun y16 ys17 l12 i15 A13 c14 U24 hJ_ => ?_))))
  ·skip
   clear hl22
   have hr19 := hJ_.1; have hk25 := hJ_.2.1; have h := hJ_.2.2; clear hJ_
   replace h : spec_PackRegisters.l0 [] l12 i15 = some o23 := h
   rw [spec_PackRegisters.l0] at h
   refine c_seq (za0 (o_q rfl rfl (q_lss rfl rfl) (o_end (za1 (c_seq (zb1 (vb_ hr19.ge) (zb2 (zab (zab ?_)))))))))
   have e_ := si_ h; replace h := hR21; rw [← e_] at h; clear e_
   refine x_hit (za1 (c_seq (za0 (o_q rfl rfl (q_f F38_0 rfl) (o_q rfl rfl (q_ldb Y3 rfl (fun w h => h.zac (i := 2) rfl) rfl) (za6 h (fun l26 hm27 h => ?_) rfl))))))
   refine o_e rfl (e_make (Kd.int .i64) (0 : Int) Tryz.underlying25 I3 rfl dc_ dc_ (fun _ _ => rfl) rfl rfl hm27) (cur2 (fun A28 c29 => o_q rfl rfl (q_asg rfl) (o_end (za1 (c_seq (c_seq (za0 (o_q rfl rfl (za3 rfl) (o_q rfl rfl (q_len Tryz.underlying25 rfl) (o_q rfl rfl (za3 rfl) ?_))))))))))
   refine o_end (za1 (zah (za6 h (fun o40 hl39 hR38 => ?_) rfl)))
   clear h
   refine c_fact (p := l12.length ≤ 9223372036854775807) (fun w h => (h.zat (i := 1) rfl).2.1) (fun hm37 => zax (σ := (List Int) × (List Int) × Int) (fun k35 ((ys34, l31, i32) : (List Int) × (List Int) × Int) => Rg l12 i32 ys34 ∧ ys34.length = k35 ∧ spec_PackRegisters.l1 ys34 l31 i32 = some o40) [10, 11, 53, 54, 55, 56, 57, 58, 59, 60, 61, 62] (fun ((ys34, l31, i32) : (List Int) × (List Int) × Int) => [(53, .int .i64 i32)]) (fun ((ys34, l31, i32) : (List Int) × (List Int) × Int) => [row (Kd.int .i64) 3 (.slice A28 l26.length c29) l31, row (Kd.int .i64) 3 (.slice A13 l12.length c14) l12, box g3 38 #[.int .i64 0, .slice none 0 0, .slice none 0 0, .slice none 0 0], box g1 38 #[.int .i64 a0_0, .slice A0_1 l0_1.length c0_1, .slice A0_2 l0_2.length c0_2, .slice A0_3 l0_3.length c0_3]]) l12.length (l12, l26, 0) ⟨Rg.start _, rfl, hl39⟩ ⟨rfl, trivial⟩ (fun w h => h) (fun k35 => cur3 (listC (fun l31 i32 U41 hJ_ => ?_) (fun y33 ys34 l31 i32 U41 hJ_ => ?_))))
   ·skip
    clear hl39
    have hr36 := hJ_.1; have hk42 := hJ_.2.1; have h := hJ_.2.2; clear hJ_
    replace h : spec_PackRegisters.l1 [] l31 i32 = some o40 := h
    rw [spec_PackRegisters.l1] at h
    refine c_seq (za0 (o_q rfl rfl (q_lss rfl rfl) (o_end (za1 (c_seq (zb1 (vb_ hr36.ge) (zb2 (zab (zab ?_)))))))))
    have e_ := si_ h; replace h := hR38; rw [← e_] at h; clear e_
    refine x_hit (za1 (c_seq (za0 (o_q rfl rfl (q_ldB G38 Z38 rfl (fun w h => h.zac (i := 3) rfl) rfl) (o_q rfl rfl (za3 rfl) (o_q rfl rfl (za3 rfl) (o_q rfl rfl (q_len Tryz.underlying25 rfl) (bindE3 h (fun l44 l45 l46 hx43 h => ?_) rfl))))))))
    refine o_e rfl (za7 0 Z Tryz.func73 N73 rfl rfl rfl (fun w P1 hF hB hS hT => spec_reNamed.calls a0_0 A0_1 c0_1 l0_1.length l0_1 A0_2 c0_2 l0_2.length l0_2 A0_3 c0_3 l0_3.length l0_3 A28 c29 l26.length l31 (l12.length : Int) hB hF (hS _ R0_1) hc0_1 (hS _ R0_2) hc0_2 (hS _ R0_3) hc0_3 (hT 0 _ rfl).row (hT 0 _ rfl).cap _ _ _ hx43)) (cur6 (fun A47 c48 A49 c50 A51 c52 => o_e rfl (zae (i := 5) rfl rfl rfl Z38 rfl rfl) (fun _ => o_q rfl rfl (q_asg rfl) (o_end (za1 (c_ret ?_))))))
    have e0_ := si_ h; clear h
    obtain ⟨rfl, e1_⟩ := Prod.mk.inj e0_
    obtain ⟨rfl, e2_⟩ := Prod.mk.inj e1_
    obtain ⟨rfl, e3_⟩ := Prod.mk.inj e2_
    obtain ⟨rfl, e4_⟩ := Prod.mk.inj e3_
    subst e4_
    exact x_r2 (A47, c48, A49, c50, A51, c52) Tryz.results24 (zb8 rfl G38 Z38 (fun w h => h.zac (i := 5) rfl) rfl) (zad rfl) rfl (fun w h => za8 [0, 1, 2] dc_ rfl w h)
   ·skip
    clear hl39
    have hr36 := hJ_.1; have hk42 := hJ_.2.1; have h := hJ_.2.2; clear hJ_
    replace h : spec_PackRegisters.l1 (y33 :: ys34) l31 i32 = some o40 := h
    rw [spec_PackRegisters.l1] at h
    refine c_seq (za0 (o_q rfl rfl (q_lss rfl rfl) (o_end (za1 (c_seq (zay (vb_ hr36.lt) (zal (za1 (c_seq ?_)))))))))
    refine zah (c_seq (za0 (o_q rfl rfl (za3 rfl) (zb0 (p := Sh A13 l12.length l12.length) (fun w h => f_sh (dk := (Kd.int .i64)) h (fun w h => h.zat (i := 1) rfl)) (fun hq53 => o_q rfl rfl (q_ix Tryz.underlying25 Z3 rfl rfl hq53 hr36.get) (o_q rfl rfl (q_lde (off := 0) Y3 rfl rfl (fun w h => h.zat (i := 1) rfl) hr36.get (fun _ _ h => h) rfl) (o_q rfl rfl (q_asg rfl) (o_q rfl rfl (q_asg rfl) (o_end ?_)))))))))
    refine za1 (za0 (o_q rfl rfl (za3 rfl) (o_q rfl rfl (za3 rfl) (o_q rfl rfl (za3 rfl) (zb0 (p := Sh A28 l26.length l31.length) (fun w h => f_sh (dk := (Kd.int .i64)) h (fun w h => h.zat (i := 0) rfl)) (fun hq54 => za6 h (fun y56 hg55 h => ?_) rfl))))))
    refine o_q rfl rfl (q_ix Tryz.underlying25 Z3 rfl rfl hq54 hg55) (za6 h (fun l57 hs58 h => ?_) rfl)
    refine o_e rfl (e_set (i := 0) rfl rfl rfl Z3 hs58) (fun _ => o_end (zak (za1 (za0 (o_q rfl rfl (q_up rfl rfl (hr36.up hm37)) (o_q rfl rfl (za3 rfl) (o_end (zaj ys34.length (ys34, l57, i32 + 1) (by rw [← hk42]; exact Nat.lt_succ_self _) ⟨hr36.step, rfl, h⟩ ⟨rfl, trivial⟩ (fun w h => za8 [0, 1, 2, 3] dc_ rfl w h) ?_))))))))
    exact of_
  ·skip
   clear hl22
   have hr19 := hJ_.1; have hk25 := hJ_.2.1; have h := hJ_.2.2; clear hJ_
   replace h : spec_PackRegisters.l0 (y16 :: ys17) l12 i15 = some o23 := h
   rw [spec_PackRegisters.l0] at h
   refine c_seq (za0 (o_q rfl rfl (q_lss rfl rfl) (o_end (za1 (c_seq (zay (vb_ hr19.lt) (zal (za1 (c_seq ?_)))))))))
   refine zah (c_seq (za0 (zb0 (p := Sh A0_2 l0_2.length l0_2.length) (fun w h => f_sh (dk := zaq) h (fun w h => R0_2.now Z h)) (fun hq59 => o_q rfl rfl (q_ix Tryz.underlying36 Z84 rfl rfl hq59 hr19.get) (o_q rfl rfl (q_ldE G84 Z84 rfl rfl (fun w h => R0_2.now Z h) hr19.get (fun _ _ h => h) rfl) (o_e rfl (zao V84 rfl) (fun g60 => o_e rfl (zae (i := 0) rfl rfl rfl Z84 rfl rfl) (fun _ => o_end (za1 ?_)))))))))
   refine c_seq (za0 (o_q rfl rfl (q_f F84_1 rfl) (o_q rfl rfl (q_ldb Y3 rfl (fun w h => h.zac (i := 0) rfl) rfl) (o_q rfl rfl (q_f F84_2 rfl) (o_q rfl rfl (q_ldb Y3 rfl (fun w h => h.zac (i := 0) rfl) rfl) (o_q rfl rfl (q_f F84_0 rfl) (o_q rfl rfl (q_ldb Y3 rfl (fun w h => h.zac (i := 0) rfl) rfl) (o_e rfl (e_lit (vs := [(0, .int .i64 y16.f1), (1, .int .i64 y16.f2), (2, .int .i64 y16.f0)]) (cs := [.int .i64 y16.f1, .int .i64 y16.f2, .int .i64 y16.f0]) (Kd.int .i64) ([y16.f1, y16.f2, y16.f0] : List Int) Tryz.underlying25 I3 dc_ rfl dc_ rfl rfl (fun _ _ => Kd.zaf _)) (cur2 (fun A62 c63 => o_q rfl rfl (q_len Tryz.underlying25 rfl) ?_))))))))))
   refine o_q rfl rfl (za3 rfl) (o_end (za1 (zah (za6 h (fun o76 hl75 hR74 => ?_) rfl))))
   clear h
   refine c_fact (p := ([y16.f1, y16.f2, y16.f0] : List Int).length ≤ 9223372036854775807) (fun w h => (h.zat (i := 0) rfl).2.1) (fun hm73 => zax (σ := (List Int) × (List Int) × Int × (Option Addr) × Nat) (fun k71 ((ys70, l65, i68, A66, c67) : (List Int) × (List Int) × Int × (Option Addr) × Nat) => Rg ([y16.f1, y16.f2, y16.f0] : List Int) i68 ys70 ∧ ys70.length = k71 ∧ spec_PackRegisters.l2 ys70 l65 i68 = some o76) [4, 8, 34, 35, 36, 37, 38, 39, 40, 41, 42, 43, 44, 45, 46] (fun ((ys70, l65, i68, A66, c67) : (List Int) × (List Int) × Int × (Option Addr) × Nat) => [(4, .slice A66 l65.length c67), (34, .int .i64 i68)]) (fun ((ys70, l65, i68, A66, c67) : (List Int) × (List Int) × Int × (Option Addr) × Nat) => [row (Kd.int .i64) 3 (.slice A62 (([y16.f1, y16.f2, y16.f0] : List Int).length) c63) ([y16.f1, y16.f2, y16.f0] : List Int), box g60 84 #[.int .i64 y16.f0, .int .i64 y16.f1, .int .i64 y16.f2], row (Kd.int .i64) 3 (.slice A66 l65.length c67) l65, box g3 38 #[.int .i64 0, .slice none 0 0, .slice none 0 0, .slice none 0 0], box g1 38 #[.int .i64 a0_0, .slice A0_1 l0_1.length c0_1, .slice A0_2 l0_2.length c0_2, .slice A0_3 l0_3.length c0_3]]) ([y16.f1, y16.f2, y16.f0] : List Int).length (([y16.f1, y16.f2, y16.f0] : List Int), l12, 0, A13, c14) ⟨Rg.start _, rfl, hl75⟩ ⟨rfl, rfl, trivial⟩ (fun w h => h) (fun k71 => cur5 (listC (fun l65 i68 A66 c67 U77 hJ_ => ?_) (fun y69 ys70 l65 i68 A66 c67 U77 hJ_ => ?_))))
   ·skip
    clear hl75
    have hr72 := hJ_.1; have hk78 := hJ_.2.1; have h := hJ_.2.2; clear hJ_
    replace h : spec_PackRegisters.l2 [] l65 i68 = some o76 := h
    rw [spec_PackRegisters.l2] at h
    refine c_seq (za0 (o_q rfl rfl (q_lss rfl rfl) (o_end (za1 (c_seq (zb1 (vb_ hr72.ge) (zb2 (zab (zab ?_)))))))))
    have e_ := si_ h; replace h := hR74; rw [← e_] at h; clear e_
    refine x_hit (zak (za1 (za0 (o_q rfl rfl (q_up rfl rfl (hr19.up hm20)) (o_q rfl rfl (za3 rfl) (o_end (zaj ys17.length (ys17, l65, i15 + 1, A66, c67) (by rw [← hk25]; exact Nat.lt_succ_self _) ⟨hr19.step, rfl, h⟩ ⟨rfl, rfl, trivial⟩ (fun w h => za8 [2, 3, 4] dc_ rfl w h) ?_)))))))
    exact of_
   ·skip
    clear hl75
    have hr72 := hJ_.1; have hk78 := hJ_.2.1; have h := hJ_.2.2; clear hJ_
    replace h : spec_PackRegisters.l2 (y69 :: ys70) l65 i68 = some o76 := h
    rw [spec_PackRegisters.l2] at h
    refine c_seq (za0 (o_q rfl rfl (q_lss rfl rfl) (o_end (za1 (c_seq (zay (vb_ hr72.lt) (zal (za1 (c_seq ?_)))))))))
    refine zah (c_seq (za0 (zb0 (p := Sh A62 (([y16.f1, y16.f2, y16.f0] : List Int).length) ([y16.f1, y16.f2, y16.f0] : List Int).length) (fun w h => f_sh (dk := (Kd.int .i64)) h (fun w h => h.zat (i := 0) rfl)) (fun hq79 => o_q rfl rfl (q_ix Tryz.underlying25 Z3 rfl rfl hq79 hr72.get) (o_q rfl rfl (q_lde (off := 0) Y3 rfl rfl (fun w h => h.zat (i := 0) rfl) hr72.get (fun _ _ h => h) rfl) (o_q rfl rfl (q_asg rfl) (o_end (za1 (c_seq ?_)))))))))
    refine za0 (o_q rfl rfl (za3 rfl) (o_q rfl rfl (za3 rfl) (za6 h (fun b81 hx80 h => ?_) rfl)))
    refine o_e rfl (za7 0 Z Tryz.func72 N72 rfl rfl rfl (fun w P1 hF hB hS hT => spec_l1Has.calls A66 c67 l65.length l65 y69 hB hF (hT 2 _ rfl).row (hT 2 _ rfl).cap _ hx80)) (fun _ => o_q rfl rfl (q_not rfl) (o_end (za1 (zas _ rfl (fun hb82 => ?_) (fun hb82 => ?_)))))
    ·replace hb82 := nt_t hb82
     replace h := bb_f hb82 h
     refine za0 (o_q rfl rfl (za3 rfl) (o_q rfl rfl (za3 rfl) (o_e rfl (e_lit (vs := [(0, .int .i64 y69)]) (cs := [.int .i64 y69]) (Kd.int .i64) ([y69] : List Int) Tryz.underlying25 I3 dc_ rfl dc_ rfl rfl (fun _ _ => Kd.zaf _)) (cur2 (fun A83 c84 => za6 h (fun l86 ha87 h => ?_) rfl)))))
     refine o_e rfl (e_app (i := 3) (j := 0) Tryz.underlying25 I3 rfl dc_ dc_ rfl rfl rfl rfl rfl ha87) (cur2 (fun A88 c89 => o_q rfl rfl (q_asg rfl) (o_end (zak (za1 (za0 (o_q rfl rfl (q_up rfl rfl (hr72.up hm73)) (o_q rfl rfl (za3 rfl) (o_end (zaj ys70.length (ys70, l86, i68 + 1, A88, c89) (by rw [← hk78]; exact Nat.lt_succ_self _) ⟨hr72.step, rfl, h⟩ ⟨rfl, rfl, trivial⟩ (fun w h => za8 [1, 2, 3, 4, 5] dc_ rfl w h) ?_))))))))))
     exact of_
    ·replace hb82 := nt_f hb82
     replace h := bb_t hb82 h
     refine zal (zak (za1 (za0 (o_q rfl rfl (q_up rfl rfl (hr72.up hm73)) (o_q rfl rfl (za3 rfl) (o_end (zaj ys70.length (ys70, l65, i68 + 1, A66, c67) (by rw [← hk78]; exact Nat.lt_succ_self _) ⟨hr72.step, rfl, h⟩ ⟨rfl, rfl, trivial⟩ (fun w h => za8 [0, 1, 2, 3, 4] dc_ rfl w h) ?_)))))))
     exact of_

def laws_rSame.l0 (l1 : List Int) : (List Int) → Int → Option ((Bool) ⊕ (Unit))
 | [], i2 => some (.inr ())
 | y3 :: ys4, i2 => (gt l1 i2).bind fun y16 => if y3 ≠ y16 then (some (.inl false)) else (laws_rSame.l0 l1 ys4 (i2 + 1))
def laws_rSame.f (l0 : List Int) (l1 : List Int) : Option Bool := if (l0.length : Int) ≠ (l1.length : Int) then (some false) else ((laws_rSame.l0 l1 l0 0).bind fun o_ => match o_ with | .inl r_ => some r_ | .inr _ => some true)
theorem laws_rSame.calls {w0 ws : World} {P0 : Nat → Prop} (A0 : Option Addr) (c0 : Nat) (n0 : Nat) (l0 : List Int) (A1 : Option Addr) (c1 : Nat) (n1 : Nat) (l1 : List Int) (Z : Below w0.heap.size w0 ws) (hF : Fr w0 ws P0 [] ws) (R0 : Stable ws P0 (fun w => Kd.C (Kd.int .i64) w A0 n0 l0)) (hc0 : n0 ≤ c0) (R1 : Stable ws P0 (fun w => Kd.C (Kd.int .i64) w A1 n1 l1)) (hc1 : n1 ≤ c1) (r_1 : Bool) (h : laws_rSame.f l0 l1 = some r_1) :
  Calls Tryz.prog 77 #[.slice A0 n0 c0, .slice A1 n1 c1] ws (Post1 w0 ws P0 (fun (_ : Unit) => .bool r_1) (fun (_ : Unit) => [])) := by
 unfold laws_rSame.f at h
 obtain rfl := (R0 ws (KeptB.refl _ _)).1
 obtain rfl := (R1 ws (KeptB.refl _ _)).1
 refine enter Tryz.func77 rfl Tryz.ntmps77 rfl hF (c_seq (za0 (o_q rfl rfl (q_asg rfl) (o_end (za1 (c_seq (c_seq (za0 (o_q rfl rfl (za3 rfl) ?_)))))))))
 refine o_q rfl rfl (q_len Tryz.underlying25 rfl) (o_q rfl rfl (za3 rfl) (o_q rfl rfl (q_len Tryz.underlying25 rfl) (o_q rfl rfl (q_neq rfl rfl) (o_end (za1 (zas _ rfl (fun hb1 => ?_) (fun hb1 => ?_)))))))
 ·skip
  replace h := br_t hb1 h
  refine c_seq (za0 (o_q rfl rfl (q_asg rfl) (o_end (za1 (c_ret (za9 ?_))))))
  have e0_ := si_ h; clear h
  subst e0_
  exact x_r1 () Tryz.results77 (zad rfl) rfl (fun w h => za8 [] dc_ rfl w h)
 ·skip
  replace h := br_f hb1 h
  refine zal (za1 (c_seq (c_seq (za0 (o_q rfl rfl (za3 rfl) (o_q rfl rfl (q_len Tryz.underlying25 rfl) (o_q rfl rfl (za3 rfl) (o_end (za1 ?_)))))))))
  refine zah (za6 h (fun o10 hl9 hR8 => ?_) rfl)
  clear h
  refine c_fact (p := l0.length ≤ 9223372036854775807) (fun w h => (R0.now Z h).2.1) (fun hm7 => zax (σ := (List Int) × Int) (fun k5 ((ys4, i2) : (List Int) × Int) => Rg l0 i2 ys4 ∧ ys4.length = k5 ∧ laws_rSame.l0 l1 ys4 i2 = some o10) [4, 5, 13, 14, 15, 16, 17, 18, 19, 20, 21, 22, 23, 24, 25] (fun ((ys4, i2) : (List Int) × Int) => [(13, .int .i64 i2)]) (fun ((ys4, i2) : (List Int) × Int) => []) l0.length (l0, 0) ⟨Rg.start _, rfl, hl9⟩ ⟨rfl, trivial⟩ (fun w h => h) (fun k5 => cur2 (listC (fun i2 U11 hJ_ => ?_) (fun y3 ys4 i2 U11 hJ_ => ?_))))
  ·skip
   clear hl9
   have hr6 := hJ_.1; have hk12 := hJ_.2.1; have h := hJ_.2.2; clear hJ_
   replace h : laws_rSame.l0 l1 [] i2 = some o10 := h
   rw [laws_rSame.l0] at h
   refine c_seq (za0 (o_q rfl rfl (q_lss rfl rfl) (o_end (za1 (c_seq (zb1 (vb_ hr6.ge) (zb2 (zab (zab ?_)))))))))
   have e_ := si_ h; replace h := hR8; rw [← e_] at h; clear e_
   refine x_hit (za1 (c_seq (za0 (o_q rfl rfl (q_asg rfl) (o_end (za1 (c_ret ?_)))))))
   have e0_ := si_ h; clear h
   subst e0_
   exact x_r1 () Tryz.results77 (zad rfl) rfl (fun w h => za8 [] dc_ rfl w h)
  ·skip
   clear hl9
   have hr6 := hJ_.1; have hk12 := hJ_.2.1; have h := hJ_.2.2; clear hJ_
   replace h : laws_rSame.l0 l1 (y3 :: ys4) i2 = some o10 := h
   rw [laws_rSame.l0] at h
   refine c_seq (za0 (o_q rfl rfl (q_lss rfl rfl) (o_end (za1 (c_seq (zay (vb_ hr6.lt) (zal (za1 (c_seq ?_)))))))))
   refine zah (c_seq (za0 (o_q rfl rfl (za3 rfl) (o_q rfl rfl (q_asg rfl) (o_end (za1 (c_seq (a_start (ds := []) MO rfl (zaa 0 rfl rfl rfl kr_ (fun _ _ _ h => h) (za3 rfl) ?_)))))))))
   refine zaa 1 rfl rfl rfl kr_ (fun _ _ _ h => h) (za3 rfl) (a_fact (p := Sh A0 l0.length l0.length) (fun w h => f_sh (dk := (Kd.int .i64)) h (fun w h => R0.now Z h)) (fun hq13 => zaa 2 rfl rfl rfl kr_ (fun _ _ _ h => h) (q_ix Tryz.underlying25 Z3 rfl rfl hq13 hr6.get) (zau 3 rfl rfl rfl kr_ (fun _ _ _ h => h) (fun w h => h) (q_lde (off := 0) Y3 rfl rfl (fun w h => R0.now Z h) hr6.get (fun _ _ h => h) rfl) (zaa 4 rfl rfl rfl kr_ (fun _ _ _ h => h) (za3 rfl) (zaa 5 rfl rfl rfl kr_ (fun _ _ _ h => h) (za3 rfl) (a_fact (p := Sh A1 l1.length l1.length) (fun w h => f_sh (dk := (Kd.int .i64)) h (fun w h => R1.now Z h)) (fun hq14 => za6 h (fun y16 hg15 h => ?_) rfl)))))))
   refine zaa 6 rfl rfl rfl kr_ (fun _ _ _ h => h) (q_ix Tryz.underlying25 Z3 rfl rfl hq14 hg15) (zau 7 rfl rfl rfl kr_ (fun _ _ _ h => h) (fun w h => h) (q_lde (off := 0) Y3 rfl rfl (fun w h => R1.now Z h) hg15 (fun _ _ h => h) rfl) (zaa 8 rfl rfl rfl kr_ (fun _ _ _ h => h) (q_neq rfl rfl) (zar kr_ (za1 (zas _ rfl (fun hb17 => ?_) (fun hb17 => ?_))))))
   ·skip
    replace h := br_t hb17 h
    refine c_seq (za0 (o_q rfl rfl (q_asg rfl) (o_end (za1 (c_ret (zan (za9 (za9 ?_))))))))
    have e_ := si_ h; replace h := hR8; rw [← e_] at h; clear e_
    refine zan (za9 ?_)
    have e0_ := si_ h; clear h
    subst e0_
    exact x_r1 () Tryz.results77 (zad rfl) rfl (fun w h => za8 [] dc_ rfl w h)
   ·skip
    replace h := br_f hb17 h
    refine zal (zak (za1 (za0 (o_q rfl rfl (q_up rfl rfl (hr6.up hm7)) (o_q rfl rfl (za3 rfl) (o_end (zaj ys4.length (ys4, i2 + 1) (by rw [← hk12]; exact Nat.lt_succ_self _) ⟨hr6.step, rfl, h⟩ ⟨rfl, trivial⟩ (fun w h => za8 [] dc_ rfl w h) ?_)))))))
    exact of_

def laws_rSameCode.l0 (l1_2 : List SRegOp) : (List SRegOp) → Int → Option ((Bool) ⊕ (Unit))
 | [], i13 => some (.inr ())
 | y14 :: ys15, i13 => (gt l1_2 i13).bind fun y27 => if (y14.f0 == y27.f0 && (y14.f1 == y27.f1 && (y14.f2 == y27.f2 && true))) = true then (laws_rSameCode.l0 l1_2 ys15 (i13 + 1)) else (some (.inl false))
def laws_rSameCode.f (a0_0 : Int) (l0_1 : List Int) (l0_2 : List SRegOp) (l0_3 : List Int) (a1_0 : Int) (l1_1 : List Int) (l1_2 : List SRegOp) (l1_3 : List Int) : Option Bool := if a0_0 ≠ a1_0 then (some false) else ((laws_rSame.f l0_1 l1_1).bind fun b7 => if b7 = true then (if (l0_2.length : Int) ≠ (l1_2.length : Int) then (some false) else ((laws_rSame.f l0_3 l1_3).bind fun b11 => if b11 = true then ((laws_rSameCode.l0 l1_2 l0_2 0).bind fun o_ => match o_ with | .inl r_ => some r_ | .inr _ => some true) else (some false))) else (some false))
theorem laws_rSameCode.calls {w0 ws : World} {P0 : Nat → Prop} (a0_0 : Int) (A0_1 : Option Addr) (c0_1 : Nat) (n0_1 : Nat) (l0_1 : List Int) (A0_2 : Option Addr) (c0_2 : Nat) (n0_2 : Nat) (l0_2 : List SRegOp) (A0_3 : Option Addr) (c0_3 : Nat) (n0_3 : Nat) (l0_3 : List Int) (a1_0 : Int) (A1_1 : Option Addr) (c1_1 : Nat) (n1_1 : Nat) (l1_1 : List Int) (A1_2 : Option Addr) (c1_2 : Nat) (n1_2 : Nat) (l1_2 : List SRegOp) (A1_3 : Option Addr) (c1_3 : Nat) (n1_3 : Nat) (l1_3 : List Int) (Z : Below w0.heap.size w0 ws) (hF : Fr w0 ws P0 [] ws) (R0_1 : Stable ws P0 (fun w => Kd.C (Kd.int .i64) w A0_1 n0_1 l0_1)) (hc0_1 : n0_1 ≤ c0_1) (R0_2 : Stable ws P0 (fun w => Kd.C zaq w A0_2 n0_2 l0_2)) (hc0_2 : n0_2 ≤ c0_2) (R0_3 : Stable ws P0 (fun w => Kd.C (Kd.int .i64) w A0_3 n0_3 l0_3)) (hc0_3 : n0_3 ≤ c0_3) (R1_1 : Stable ws P0 (fun w => Kd.C (Kd.int .i64) w A1_1 n1_1 l1_1)) (hc1_1 : n1_1 ≤ c1_1) (R1_2 : Stable ws P0 (fun w => Kd.C zaq w A1_2 n1_2 l1_2)) (hc1_2 : n1_2 ≤ c1_2) (R1_3 : Stable ws P0 (fun w => Kd.C (Kd.int .i64) w A1_3 n1_3 l1_3)) (hc1_3 : n1_3 ≤ c1_3) (r_1 : Bool) (h : laws_rSameCode.f a0_0 l0_1 l0_2 l0_3 a1_0 l1_1 l1_2 l1_3 = some r_1) :
  Calls Tryz.prog 25 #[.agg #[.int .i64 a0_0, .slice A0_1 n0_1 c0_1, .slice A0_2 n0_2 c0_2, .slice A0_3 n0_3 c0_3], .agg #[.int .i64 a1_0, .slice A1_1 n1_1 c1_1, .slice A1_2 n1_2 c1_2, .slice A1_3 n1_3 c1_3]] ws (Post1 w0 ws P0 (fun (_ : Unit) => .bool r_1) (fun (_ : Unit) => [])) := by
 unfold laws_rSameCode.f at h
 obtain rfl := (R0_1 ws (KeptB.refl _ _)).1
 obtain rfl := (R0_2 ws (KeptB.refl _ _)).1
 obtain rfl := (R0_3 ws (KeptB.refl _ _)).1
 obtain rfl := (R1_1 ws (KeptB.refl _ _)).1
 obtain rfl := (R1_2 ws (KeptB.refl _ _)).1
 obtain rfl := (R1_3 ws (KeptB.refl _ _)).1
 refine enter Tryz.func25 rfl Tryz.ntmps25 rfl hF (c_seq (za0 (o_e rfl (e_box rfl) (fun g1 => o_e rfl (e_box rfl) (fun g3 => o_q rfl rfl (q_asg rfl) (o_end (za1 (c_seq (c_seq ?_)))))))))
 refine za0 (o_q rfl rfl (q_f F38_0 rfl) (o_q rfl rfl (q_ldb Y3 rfl (fun w h => h.zac (i := 1) rfl) rfl) (o_q rfl rfl (q_f F38_0 rfl) (o_q rfl rfl (q_ldb Y3 rfl (fun w h => h.zac (i := 0) rfl) rfl) (o_q rfl rfl (q_neq rfl rfl) (o_q rfl rfl (za3 rfl) (byB (decide (a0_0 ≠ a1_0)) (fun hb5 => ?_) (fun hb5 => ?_))))))))
 ·replace h := br_t hb5 h
  refine o_n (d := 12) (za2 rfl rfl rfl (vb_ hb5) rfl) (Eq.refl (some 12)) (o_n (d := 13) (za2 rfl rfl rfl (vb_ hb5) rfl) (Eq.refl (some 13)) (o_n (d := 14) (za2 rfl rfl rfl (vb_ hb5) rfl) (Eq.refl (some 14)) (o_n (d := 15) (za2 rfl rfl rfl (vb_ hb5) rfl) (Eq.refl (some 15)) (o_n (d := 16) (za2 rfl rfl rfl (vb_ hb5) rfl) (Eq.refl (some 16)) (o_n (d := 17) (za2 rfl rfl rfl (vb_ hb5) rfl) (Eq.refl (some 17)) (o_q rfl rfl (zai true (vb_ hb5) rfl) (o_q rfl rfl (za3 rfl) (o_n (d := 20) (za2 rfl rfl rfl rfl rfl) (Eq.refl (some 20)) (o_n (d := 21) (za2 rfl rfl rfl rfl rfl) (Eq.refl (some 21)) ?_)))))))))
  refine o_n (d := 22) (za2 rfl rfl rfl rfl rfl) (Eq.refl (some 22)) (o_n (d := 23) (za2 rfl rfl rfl rfl rfl) (Eq.refl (some 23)) (o_n (d := 24) (za2 rfl rfl rfl rfl rfl) (Eq.refl (some 24)) (o_n (d := 25) (za2 rfl rfl rfl rfl rfl) (Eq.refl (some 25)) (o_n (d := 26) (za2 rfl rfl rfl rfl rfl) (Eq.refl (some 26)) (o_q rfl rfl (zai true rfl rfl) (o_q rfl rfl (za3 rfl) (o_n (d := 29) (za2 rfl rfl rfl rfl rfl) (Eq.refl (some 29)) (o_n (d := 30) (za2 rfl rfl rfl rfl rfl) (Eq.refl (some 30)) (o_n (d := 31) (za2 rfl rfl rfl rfl rfl) (Eq.refl (some 31)) ?_)))))))))
  refine o_n (d := 32) (za2 rfl rfl rfl rfl rfl) (Eq.refl (some 32)) (o_n (d := 33) (za2 rfl rfl rfl rfl rfl) (Eq.refl (some 33)) (o_n (d := 34) (za2 rfl rfl rfl rfl rfl) (Eq.refl (some 34)) (o_q rfl rfl (zai true rfl rfl) (o_end (za1 (zay rfl (c_seq (za0 (o_q rfl rfl (q_asg rfl) ?_)))))))))
  refine o_end (za1 (c_ret (za9 ?_)))
  have e0_ := si_ h; clear h
  subst e0_
  exact x_r1 () Tryz.results25 (zad rfl) rfl (fun w h => za8 [] dc_ rfl w h)
 ·replace h := br_f hb5 h
  refine o_w (za4 rfl rfl rfl (vb_ hb5)) rfl (q_f F38_1 rfl) (o_w (za4 rfl rfl rfl (vb_ hb5)) rfl (q_ldb Y25 rfl (fun w h => h.zac (i := 1) rfl) rfl) (o_w (za4 rfl rfl rfl (vb_ hb5)) rfl (q_f F38_1 rfl) (o_w (za4 rfl rfl rfl (vb_ hb5)) rfl (q_ldb Y25 rfl (fun w h => h.zac (i := 0) rfl) rfl) (za6 h (fun b7 hx6 h => ?_) rfl))))
  refine o_ew (za4 rfl rfl rfl (vb_ hb5)) (za7 0 Z Tryz.func77 N77 rfl rfl rfl (fun w P1 hF hB hS hT => laws_rSame.calls A0_1 c0_1 l0_1.length l0_1 A1_1 c1_1 l1_1.length l1_1 hB hF (hS _ R0_1) hc0_1 (hS _ R1_1) hc1_1 _ hx6)) (fun _ => o_w (za4 rfl rfl rfl (vb_ hb5)) rfl (q_not rfl) (o_q rfl rfl (zai false (vb_ hb5) rfl) (o_q rfl rfl (za3 rfl) (byB b7 (fun hb8 => ?_) (fun hb8 => ?_)))))
  ·replace h := bb_t hb8 h
   refine o_w (za4 rfl rfl rfl (congrArg (fun b => Value.bool (!(b))) hb8)) rfl (q_f F38_2 rfl) (o_w (za4 rfl rfl rfl (congrArg (fun b => Value.bool (!(b))) hb8)) rfl (q_ldb Y36 rfl (fun w h => h.zac (i := 1) rfl) rfl) (o_w (za4 rfl rfl rfl (congrArg (fun b => Value.bool (!(b))) hb8)) rfl (q_len Tryz.underlying36 rfl) (o_w (za4 rfl rfl rfl (congrArg (fun b => Value.bool (!(b))) hb8)) rfl (q_f F38_2 rfl) (o_w (za4 rfl rfl rfl (congrArg (fun b => Value.bool (!(b))) hb8)) rfl (q_ldb Y36 rfl (fun w h => h.zac (i := 0) rfl) rfl) (o_w (za4 rfl rfl rfl (congrArg (fun b => Value.bool (!(b))) hb8)) rfl (q_len Tryz.underlying36 rfl) (o_w (za4 rfl rfl rfl (congrArg (fun b => Value.bool (!(b))) hb8)) rfl (q_neq rfl rfl) (o_q rfl rfl (zai false (congrArg (fun b => Value.bool (!(b))) hb8) rfl) (o_q rfl rfl (za3 rfl) (byB (decide ((l0_2.length : Int) ≠ (l1_2.length : Int))) (fun hb9 => ?_) (fun hb9 => ?_))))))))))
   ·replace h := br_t hb9 h
    refine o_n (d := 29) (za2 rfl rfl rfl (vb_ hb9) rfl) (Eq.refl (some 29)) (o_n (d := 30) (za2 rfl rfl rfl (vb_ hb9) rfl) (Eq.refl (some 30)) (o_n (d := 31) (za2 rfl rfl rfl (vb_ hb9) rfl) (Eq.refl (some 31)) (o_n (d := 32) (za2 rfl rfl rfl (vb_ hb9) rfl) (Eq.refl (some 32)) (o_n (d := 33) (za2 rfl rfl rfl (vb_ hb9) rfl) (Eq.refl (some 33)) (o_n (d := 34) (za2 rfl rfl rfl (vb_ hb9) rfl) (Eq.refl (some 34)) (o_q rfl rfl (zai true (vb_ hb9) rfl) (o_end (za1 (zay rfl ?_)))))))))
    refine c_seq (za0 (o_q rfl rfl (q_asg rfl) (o_end (za1 (c_ret (za9 ?_))))))
    have e0_ := si_ h; clear h
    subst e0_
    exact x_r1 () Tryz.results25 (zad rfl) rfl (fun w h => za8 [] dc_ rfl w h)
   ·replace h := br_f hb9 h
    refine o_w (za4 rfl rfl rfl (vb_ hb9)) rfl (q_f F38_3 rfl) (o_w (za4 rfl rfl rfl (vb_ hb9)) rfl (q_ldb Y25 rfl (fun w h => h.zac (i := 1) rfl) rfl) (o_w (za4 rfl rfl rfl (vb_ hb9)) rfl (q_f F38_3 rfl) (o_w (za4 rfl rfl rfl (vb_ hb9)) rfl (q_ldb Y25 rfl (fun w h => h.zac (i := 0) rfl) rfl) (za6 h (fun b11 hx10 h => ?_) rfl))))
    refine o_ew (za4 rfl rfl rfl (vb_ hb9)) (za7 0 Z Tryz.func77 N77 rfl rfl rfl (fun w P1 hF hB hS hT => laws_rSame.calls A0_3 c0_3 l0_3.length l0_3 A1_3 c1_3 l1_3.length l1_3 hB hF (hS _ R0_3) hc0_3 (hS _ R1_3) hc1_3 _ hx10)) (fun _ => o_w (za4 rfl rfl rfl (vb_ hb9)) rfl (q_not rfl) (o_q rfl rfl (zai false (vb_ hb9) rfl) (o_end (za1 (zas _ rfl (fun hb12 => ?_) (fun hb12 => ?_))))))
    ·replace hb12 := nt_t hb12
     replace h := bb_f hb12 h
     refine c_seq (za0 (o_q rfl rfl (q_asg rfl) (o_end (za1 (c_ret (za9 ?_))))))
     have e0_ := si_ h; clear h
     subst e0_
     exact x_r1 () Tryz.results25 (zad rfl) rfl (fun w h => za8 [] dc_ rfl w h)
    ·replace hb12 := nt_f hb12
     replace h := bb_t hb12 h
     refine zal (za1 (c_seq (c_seq (za0 (o_q rfl rfl (q_f F38_2 rfl) (o_q rfl rfl (q_ldb Y36 rfl (fun w h => h.zac (i := 1) rfl) rfl) (o_q rfl rfl (q_len Tryz.underlying36 rfl) (o_q rfl rfl (za3 rfl) (o_end ?_)))))))))
     refine za1 (zah (za6 h (fun o21 hl20 hR19 => ?_) rfl))
     clear h
     refine c_fact (p := l0_2.length ≤ 9223372036854775807) (fun w h => (R0_2.now Z h).2.1) (fun hm18 => zax (σ := (List SRegOp) × Int) (fun k16 ((ys15, i13) : (List SRegOp) × Int) => Rg l0_2 i13 ys15 ∧ ys15.length = k16 ∧ laws_rSameCode.l0 l1_2 ys15 i13 = some o21) [4, 5, 39, 40, 41, 42, 43, 44, 45, 46, 47, 48, 49, 50, 51, 52, 53] (fun ((ys15, i13) : (List SRegOp) × Int) => [(39, .int .i64 i13)]) (fun ((ys15, i13) : (List SRegOp) × Int) => [box g3 38 #[.int .i64 a1_0, .slice A1_1 l1_1.length c1_1, .slice A1_2 l1_2.length c1_2, .slice A1_3 l1_3.length c1_3], box g1 38 #[.int .i64 a0_0, .slice A0_1 l0_1.length c0_1, .slice A0_2 l0_2.length c0_2, .slice A0_3 l0_3.length c0_3]]) l0_2.length (l0_2, 0) ⟨Rg.start _, rfl, hl20⟩ ⟨rfl, trivial⟩ (fun w h => h) (fun k16 => cur2 (listC (fun i13 U22 hJ_ => ?_) (fun y14 ys15 i13 U22 hJ_ => ?_))))
     ·skip
      clear hl20
      have hr17 := hJ_.1; have hk23 := hJ_.2.1; have h := hJ_.2.2; clear hJ_
      replace h : laws_rSameCode.l0 l1_2 [] i13 = some o21 := h
      rw [laws_rSameCode.l0] at h
      refine c_seq (za0 (o_q rfl rfl (q_lss rfl rfl) (o_end (za1 (c_seq (zb1 (vb_ hr17.ge) (zb2 (zab (zab ?_)))))))))
      have e_ := si_ h; replace h := hR19; rw [← e_] at h; clear e_
      refine x_hit (za1 (c_seq (za0 (o_q rfl rfl (q_asg rfl) (o_end (za1 (c_ret ?_)))))))
      have e0_ := si_ h; clear h
      subst e0_
      exact x_r1 () Tryz.results25 (zad rfl) rfl (fun w h => za8 [] dc_ rfl w h)
     ·skip
      clear hl20
      have hr17 := hJ_.1; have hk23 := hJ_.2.1; have h := hJ_.2.2; clear hJ_
      replace h : laws_rSameCode.l0 l1_2 (y14 :: ys15) i13 = some o21 := h
      rw [laws_rSameCode.l0] at h
      refine c_seq (za0 (o_q rfl rfl (q_lss rfl rfl) (o_end (za1 (c_seq (zay (vb_ hr17.lt) (zal (za1 (c_seq ?_)))))))))
      refine zah (c_seq (za0 (o_q rfl rfl (za3 rfl) (o_q rfl rfl (q_asg rfl) (o_end (za1 (c_seq (a_start (ds := []) MO rfl (zaa 0 rfl rfl rfl kr_ (fun _ _ _ h => h) (q_f F38_2 rfl) ?_)))))))))
      refine zau 1 rfl rfl rfl kr_ (fun _ _ _ h => h) (fun w h => h) (q_ldb Y36 rfl (fun w h => h.zac (i := 1) rfl) rfl) (zaa 2 rfl rfl rfl kr_ (fun _ _ _ h => h) (za3 rfl) (a_fact (p := Sh A0_2 l0_2.length l0_2.length) (fun w h => f_sh (dk := zaq) h (fun w h => R0_2.now Z h)) (fun hq24 => zaa 3 rfl rfl rfl kr_ (fun _ _ _ h => h) (q_ix Tryz.underlying36 Z84 rfl rfl hq24 hr17.get) (zau 4 rfl rfl rfl kr_ (fun _ _ _ h => h) (fun w h => h) (q_ldE G84 Z84 rfl rfl (fun w h => R0_2.now Z h) hr17.get (fun _ _ h => h) rfl) (zaa 5 rfl rfl rfl kr_ (fun _ _ _ h => h) (q_f F38_2 rfl) (zau 6 rfl rfl rfl kr_ (fun _ _ _ h => h) (fun w h => h) (q_ldb Y36 rfl (fun w h => h.zac (i := 0) rfl) rfl) (zaa 7 rfl rfl rfl kr_ (fun _ _ _ h => h) (za3 rfl) (a_fact (p := Sh A1_2 l1_2.length l1_2.length) (fun w h => f_sh (dk := zaq) h (fun w h => R1_2.now Z h)) (fun hq25 => za6 h (fun y27 hg26 h => ?_) rfl)))))))))
      refine zaa 8 rfl rfl rfl kr_ (fun _ _ _ h => h) (q_ix Tryz.underlying36 Z84 rfl rfl hq25 hg26) (zau 9 rfl rfl rfl kr_ (fun _ _ _ h => h) (fun w h => h) (q_ldE G84 Z84 rfl rfl (fun w h => R1_2.now Z h) hg26 (fun _ _ h => h) rfl) (zaa 10 rfl rfl rfl kr_ (fun _ _ _ h => h) (q_aneq E84 O84 P84 (Q84 y14.f0 y14.f1 y14.f2 y27.f0 y27.f1 y27.f2) rfl rfl) (zar kr_ (za1 (zas _ rfl (fun hb28 => ?_) (fun hb28 => ?_))))))
      ·replace hb28 := nt_t hb28
       replace h := bb_f hb28 h
       refine c_seq (za0 (o_q rfl rfl (q_asg rfl) (o_end (za1 (c_ret (zan (za9 (za9 ?_))))))))
       have e_ := si_ h; replace h := hR19; rw [← e_] at h; clear e_
       refine zan (za9 ?_)
       have e0_ := si_ h; clear h
       subst e0_
       exact x_r1 () Tryz.results25 (zad rfl) rfl (fun w h => za8 [] dc_ rfl w h)
      ·replace hb28 := nt_f hb28
       replace h := bb_t hb28 h
       refine zal (zak (za1 (za0 (o_q rfl rfl (q_up rfl rfl (hr17.up hm18)) (o_q rfl rfl (za3 rfl) (o_end (zaj ys15.length (ys15, i13 + 1) (by rw [← hk23]; exact Nat.lt_succ_self _) ⟨hr17.step, rfl, h⟩ ⟨rfl, trivial⟩ (fun w h => za8 [0, 1] dc_ rfl w h) ?_)))))))
       exact of_
  ·replace h := bb_f hb8 h
   refine o_n (d := 20) (za2 rfl rfl rfl (congrArg (fun b => Value.bool (!(b))) hb8) rfl) (Eq.refl (some 20)) (o_n (d := 21) (za2 rfl rfl rfl (congrArg (fun b => Value.bool (!(b))) hb8) rfl) (Eq.refl (some 21)) (o_n (d := 22) (za2 rfl rfl rfl (congrArg (fun b => Value.bool (!(b))) hb8) rfl) (Eq.refl (some 22)) (o_n (d := 23) (za2 rfl rfl rfl (congrArg (fun b => Value.bool (!(b))) hb8) rfl) (Eq.refl (some 23)) (o_n (d := 24) (za2 rfl rfl rfl (congrArg (fun b => Value.bool (!(b))) hb8) rfl) (Eq.refl (some 24)) (o_n (d := 25) (za2 rfl rfl rfl (congrArg (fun b => Value.bool (!(b))) hb8) rfl) (Eq.refl (some 25)) (o_n (d := 26) (za2 rfl rfl rfl (congrArg (fun b => Value.bool (!(b))) hb8) rfl) (Eq.refl (some 26)) (o_q rfl rfl (zai true (congrArg (fun b => Value.bool (!(b))) hb8) rfl) (o_q rfl rfl (za3 rfl) (o_n (d := 29) (za2 rfl rfl rfl rfl rfl) (Eq.refl (some 29)) ?_)))))))))
   refine o_n (d := 30) (za2 rfl rfl rfl rfl rfl) (Eq.refl (some 30)) (o_n (d := 31) (za2 rfl rfl rfl rfl rfl) (Eq.refl (some 31)) (o_n (d := 32) (za2 rfl rfl rfl rfl rfl) (Eq.refl (some 32)) (o_n (d := 33) (za2 rfl rfl rfl rfl rfl) (Eq.refl (some 33)) (o_n (d := 34) (za2 rfl rfl rfl rfl rfl) (Eq.refl (some 34)) (o_q rfl rfl (zai true rfl rfl) (o_end (za1 (zay rfl (c_seq ?_)))))))))
   refine za0 (o_q rfl rfl (q_asg rfl) (o_end (za1 (c_ret (za9 ?_)))))
   have e0_ := si_ h; clear h
   subst e0_
   exact x_r1 () Tryz.results25 (zad rfl) rfl (fun w h => za8 [] dc_ rfl w h)

def impl_RegCodePlan.f (k : Nat) (a0_0 : Int) (l0_1 : List Int) (l0_2 : List SRegOp) (l0_3 : List Int) : Option (Int × (List SStep) × (List Int) × Bool) := (impl_RegCode_plan.f k a0_0 l0_1 l0_2 l0_3).bind fun (i6, l7, l8, b9) => some (i6, l7, l8, b9)
theorem impl_RegCodePlan.calls (k : Nat) {w0 ws : World} {P0 : Nat → Prop} (a0_0 : Int) (A0_1 : Option Addr) (c0_1 : Nat) (n0_1 : Nat) (l0_1 : List Int) (A0_2 : Option Addr) (c0_2 : Nat) (n0_2 : Nat) (l0_2 : List SRegOp) (A0_3 : Option Addr) (c0_3 : Nat) (n0_3 : Nat) (l0_3 : List Int) (Z : Below w0.heap.size w0 ws) (hF : Fr w0 ws P0 [] ws) (R0_1 : Stable ws P0 (fun w => Kd.C (Kd.int .i64) w A0_1 n0_1 l0_1)) (hc0_1 : n0_1 ≤ c0_1) (R0_2 : Stable ws P0 (fun w => Kd.C zaq w A0_2 n0_2 l0_2)) (hc0_2 : n0_2 ≤ c0_2) (R0_3 : Stable ws P0 (fun w => Kd.C (Kd.int .i64) w A0_3 n0_3 l0_3)) (hc0_3 : n0_3 ≤ c0_3) (r_1 : Int) (r_2 : List SStep) (r_5 : List Int) (r_8 : Bool) (h : impl_RegCodePlan.f k a0_0 l0_1 l0_2 l0_3 = some (r_1, r_2, r_5, r_8)) :
  Calls Tryz.prog 27 #[.agg #[.int .i64 a0_0, .slice A0_1 n0_1 c0_1, .slice A0_2 n0_2 c0_2, .slice A0_3 n0_3 c0_3]] ws (Post1 w0 ws P0 (fun ((q_3, q_4, q_6, q_7) : (Option Addr) × Nat × (Option Addr) × Nat) => .tuple #[.agg #[.int .i64 r_1, .slice q_3 r_2.length q_4, .slice q_6 r_5.length q_7], .bool r_8]) (fun ((q_3, q_4, q_6, q_7) : (Option Addr) × Nat × (Option Addr) × Nat) => [row kStep 72 (.slice q_3 r_2.length q_4) r_2, row (Kd.int .i64) 3 (.slice q_6 r_5.length q_7) r_5])) := by
 unfold impl_RegCodePlan.f at h
 obtain rfl := (R0_1 ws (KeptB.refl _ _)).1
 obtain rfl := (R0_2 ws (KeptB.refl _ _)).1
 obtain rfl := (R0_3 ws (KeptB.refl _ _)).1
 refine enter Tryz.func27 rfl Tryz.ntmps27 rfl hF (c_seq (za0 (o_e rfl (e_box rfl) (fun g1 => o_e rfl (zao V27 rfl) (fun g3 => o_q rfl rfl (q_asg rfl) (o_end (za1 (c_seq (za0 ?_)))))))))
 refine bindE4 h (fun i6 l7 l8 b9 hx5 h => ?_) rfl
 refine o_e rfl (za7 0 Z Tryz.func78 N78 rfl rfl rfl (fun w P1 hF hB hS hT => impl_RegCode_plan.calls k g1 a0_0 A0_1 c0_1 l0_1.length l0_1 A0_2 c0_2 l0_2.length l0_2 A0_3 c0_3 l0_3.length l0_3 hB hF (hS _ R0_1) hc0_1 (hS _ R0_2) hc0_2 (hS _ R0_3) hc0_3 (hT 1 _ rfl).box _ _ _ _ hx5)) (cur4 (fun A10 c11 A12 c13 => o_q rfl rfl (q_ext rfl rfl) (o_q rfl rfl (q_ext rfl rfl) (o_e rfl (zae (i := 2) rfl rfl rfl Z27 rfl rfl) (fun _ => o_q rfl rfl (q_asg rfl) (o_end (za1 (c_ret ?_))))))))
 have e0_ := si_ h; clear h
 obtain ⟨rfl, e1_⟩ := Prod.mk.inj e0_
 obtain ⟨rfl, e2_⟩ := Prod.mk.inj e1_
 obtain ⟨rfl, e3_⟩ := Prod.mk.inj e2_
 subst e3_
 exact x_r2 (A10, c11, A12, c13) Tryz.results27 (zb8 rfl G27 Z27 (fun w h => h.zac (i := 2) rfl) rfl) (zad rfl) rfl (fun w h => za8 [0, 1] dc_ rfl w h)

def laws_rSamePlan.l0 (l1_1 : List SStep) : (List SStep) → Int → Option ((Bool) ⊕ (Unit))
 | [], i10 => some (.inr ())
 | y11 :: ys12, i10 => (gt l1_1 i10).bind fun y24 => if (y11.f0 == y24.f0 && (y11.f1 == y24.f1 && true)) = true then (laws_rSamePlan.l0 l1_1 ys12 (i10 + 1)) else (some (.inl false))
def laws_rSamePlan.f (a0_0 : Int) (l0_1 : List SStep) (l0_2 : List Int) (a1_0 : Int) (l1_1 : List SStep) (l1_2 : List Int) : Option Bool := if a0_0 ≠ a1_0 then (some false) else (if (l0_1.length : Int) ≠ (l1_1.length : Int) then (some false) else ((laws_rSame.f l0_2 l1_2).bind fun b8 => if b8 = true then ((laws_rSamePlan.l0 l1_1 l0_1 0).bind fun o_ => match o_ with | .inl r_ => some r_ | .inr _ => some true) else (some false)))
theorem laws_rSamePlan.calls {w0 ws : World} {P0 : Nat → Prop} (a0_0 : Int) (A0_1 : Option Addr) (c0_1 : Nat) (n0_1 : Nat) (l0_1 : List SStep) (A0_2 : Option Addr) (c0_2 : Nat) (n0_2 : Nat) (l0_2 : List Int) (a1_0 : Int) (A1_1 : Option Addr) (c1_1 : Nat) (n1_1 : Nat) (l1_1 : List SStep) (A1_2 : Option Addr) (c1_2 : Nat) (n1_2 : Nat) (l1_2 : List Int) (Z : Below w0.heap.size w0 ws) (hF : Fr w0 ws P0 [] ws) (R0_1 : Stable ws P0 (fun w => Kd.C kStep w A0_1 n0_1 l0_1)) (hc0_1 : n0_1 ≤ c0_1) (R0_2 : Stable ws P0 (fun w => Kd.C (Kd.int .i64) w A0_2 n0_2 l0_2)) (hc0_2 : n0_2 ≤ c0_2) (R1_1 : Stable ws P0 (fun w => Kd.C kStep w A1_1 n1_1 l1_1)) (hc1_1 : n1_1 ≤ c1_1) (R1_2 : Stable ws P0 (fun w => Kd.C (Kd.int .i64) w A1_2 n1_2 l1_2)) (hc1_2 : n1_2 ≤ c1_2) (r_1 : Bool) (h : laws_rSamePlan.f a0_0 l0_1 l0_2 a1_0 l1_1 l1_2 = some r_1) :
  Calls Tryz.prog 28 #[.agg #[.int .i64 a0_0, .slice A0_1 n0_1 c0_1, .slice A0_2 n0_2 c0_2], .agg #[.int .i64 a1_0, .slice A1_1 n1_1 c1_1, .slice A1_2 n1_2 c1_2]] ws (Post1 w0 ws P0 (fun (_ : Unit) => .bool r_1) (fun (_ : Unit) => [])) := by
 unfold laws_rSamePlan.f at h
 obtain rfl := (R0_1 ws (KeptB.refl _ _)).1
 obtain rfl := (R0_2 ws (KeptB.refl _ _)).1
 obtain rfl := (R1_1 ws (KeptB.refl _ _)).1
 obtain rfl := (R1_2 ws (KeptB.refl _ _)).1
 refine enter Tryz.func28 rfl Tryz.ntmps28 rfl hF (c_seq (za0 (o_e rfl (e_box rfl) (fun g1 => o_e rfl (e_box rfl) (fun g3 => o_q rfl rfl (q_asg rfl) (o_end (za1 (c_seq (c_seq ?_)))))))))
 refine za0 (o_q rfl rfl (q_f F27_0 rfl) (o_q rfl rfl (q_ldb Y3 rfl (fun w h => h.zac (i := 1) rfl) rfl) (o_q rfl rfl (q_f F27_0 rfl) (o_q rfl rfl (q_ldb Y3 rfl (fun w h => h.zac (i := 0) rfl) rfl) (o_q rfl rfl (q_neq rfl rfl) (o_q rfl rfl (za3 rfl) (byB (decide (a0_0 ≠ a1_0)) (fun hb5 => ?_) (fun hb5 => ?_))))))))
 ·replace h := br_t hb5 h
  refine o_n (d := 12) (za2 rfl rfl rfl (vb_ hb5) rfl) (Eq.refl (some 12)) (o_n (d := 13) (za2 rfl rfl rfl (vb_ hb5) rfl) (Eq.refl (some 13)) (o_n (d := 14) (za2 rfl rfl rfl (vb_ hb5) rfl) (Eq.refl (some 14)) (o_n (d := 15) (za2 rfl rfl rfl (vb_ hb5) rfl) (Eq.refl (some 15)) (o_n (d := 16) (za2 rfl rfl rfl (vb_ hb5) rfl) (Eq.refl (some 16)) (o_n (d := 17) (za2 rfl rfl rfl (vb_ hb5) rfl) (Eq.refl (some 17)) (o_n (d := 18) (za2 rfl rfl rfl (vb_ hb5) rfl) (Eq.refl (some 18)) (o_q rfl rfl (zai true (vb_ hb5) rfl) (o_q rfl rfl (za3 rfl) (o_n (d := 21) (za2 rfl rfl rfl rfl rfl) (Eq.refl (some 21)) ?_)))))))))
  refine o_n (d := 22) (za2 rfl rfl rfl rfl rfl) (Eq.refl (some 22)) (o_n (d := 23) (za2 rfl rfl rfl rfl rfl) (Eq.refl (some 23)) (o_n (d := 24) (za2 rfl rfl rfl rfl rfl) (Eq.refl (some 24)) (o_n (d := 25) (za2 rfl rfl rfl rfl rfl) (Eq.refl (some 25)) (o_n (d := 26) (za2 rfl rfl rfl rfl rfl) (Eq.refl (some 26)) (o_q rfl rfl (zai true rfl rfl) (o_end (za1 (zay rfl (c_seq ?_)))))))))
  refine za0 (o_q rfl rfl (q_asg rfl) (o_end (za1 (c_ret (za9 ?_)))))
  have e0_ := si_ h; clear h
  subst e0_
  exact x_r1 () Tryz.results28 (zad rfl) rfl (fun w h => za8 [] dc_ rfl w h)
 ·replace h := br_f hb5 h
  refine o_w (za4 rfl rfl rfl (vb_ hb5)) rfl (q_f F27_1 rfl) (o_w (za4 rfl rfl rfl (vb_ hb5)) rfl (q_ldb Y24 rfl (fun w h => h.zac (i := 1) rfl) rfl) (o_w (za4 rfl rfl rfl (vb_ hb5)) rfl (q_len Tryz.underlying24 rfl) (o_w (za4 rfl rfl rfl (vb_ hb5)) rfl (q_f F27_1 rfl) (o_w (za4 rfl rfl rfl (vb_ hb5)) rfl (q_ldb Y24 rfl (fun w h => h.zac (i := 0) rfl) rfl) (o_w (za4 rfl rfl rfl (vb_ hb5)) rfl (q_len Tryz.underlying24 rfl) (o_w (za4 rfl rfl rfl (vb_ hb5)) rfl (q_neq rfl rfl) (o_q rfl rfl (zai false (vb_ hb5) rfl) (o_q rfl rfl (za3 rfl) (byB (decide ((l0_1.length : Int) ≠ (l1_1.length : Int))) (fun hb6 => ?_) (fun hb6 => ?_))))))))))
  ·replace h := br_t hb6 h
   refine o_n (d := 21) (za2 rfl rfl rfl (vb_ hb6) rfl) (Eq.refl (some 21)) (o_n (d := 22) (za2 rfl rfl rfl (vb_ hb6) rfl) (Eq.refl (some 22)) (o_n (d := 23) (za2 rfl rfl rfl (vb_ hb6) rfl) (Eq.refl (some 23)) (o_n (d := 24) (za2 rfl rfl rfl (vb_ hb6) rfl) (Eq.refl (some 24)) (o_n (d := 25) (za2 rfl rfl rfl (vb_ hb6) rfl) (Eq.refl (some 25)) (o_n (d := 26) (za2 rfl rfl rfl (vb_ hb6) rfl) (Eq.refl (some 26)) (o_q rfl rfl (zai true (vb_ hb6) rfl) (o_end (za1 (zay rfl ?_)))))))))
   refine c_seq (za0 (o_q rfl rfl (q_asg rfl) (o_end (za1 (c_ret (za9 ?_))))))
   have e0_ := si_ h; clear h
   subst e0_
   exact x_r1 () Tryz.results28 (zad rfl) rfl (fun w h => za8 [] dc_ rfl w h)
  ·replace h := br_f hb6 h
   refine o_w (za4 rfl rfl rfl (vb_ hb6)) rfl (q_f F27_2 rfl) (o_w (za4 rfl rfl rfl (vb_ hb6)) rfl (q_ldb Y25 rfl (fun w h => h.zac (i := 1) rfl) rfl) (o_w (za4 rfl rfl rfl (vb_ hb6)) rfl (q_f F27_2 rfl) (o_w (za4 rfl rfl rfl (vb_ hb6)) rfl (q_ldb Y25 rfl (fun w h => h.zac (i := 0) rfl) rfl) (za6 h (fun b8 hx7 h => ?_) rfl))))
   refine o_ew (za4 rfl rfl rfl (vb_ hb6)) (za7 0 Z Tryz.func77 N77 rfl rfl rfl (fun w P1 hF hB hS hT => laws_rSame.calls A0_2 c0_2 l0_2.length l0_2 A1_2 c1_2 l1_2.length l1_2 hB hF (hS _ R0_2) hc0_2 (hS _ R1_2) hc1_2 _ hx7)) (fun _ => o_w (za4 rfl rfl rfl (vb_ hb6)) rfl (q_not rfl) (o_q rfl rfl (zai false (vb_ hb6) rfl) (o_end (za1 (zas _ rfl (fun hb9 => ?_) (fun hb9 => ?_))))))
   ·replace hb9 := nt_t hb9
    replace h := bb_f hb9 h
    refine c_seq (za0 (o_q rfl rfl (q_asg rfl) (o_end (za1 (c_ret (za9 ?_))))))
    have e0_ := si_ h; clear h
    subst e0_
    exact x_r1 () Tryz.results28 (zad rfl) rfl (fun w h => za8 [] dc_ rfl w h)
   ·replace hb9 := nt_f hb9
    replace h := bb_t hb9 h
    refine zal (za1 (c_seq (c_seq (za0 (o_q rfl rfl (q_f F27_1 rfl) (o_q rfl rfl (q_ldb Y24 rfl (fun w h => h.zac (i := 1) rfl) rfl) (o_q rfl rfl (q_len Tryz.underlying24 rfl) (o_q rfl rfl (za3 rfl) (o_end ?_)))))))))
    refine za1 (zah (za6 h (fun o18 hl17 hR16 => ?_) rfl))
    clear h
    refine c_fact (p := l0_1.length ≤ 9223372036854775807) (fun w h => (R0_1.now Z h).2.1) (fun hm15 => zax (σ := (List SStep) × Int) (fun k13 ((ys12, i10) : (List SStep) × Int) => Rg l0_1 i10 ys12 ∧ ys12.length = k13 ∧ laws_rSamePlan.l0 l1_1 ys12 i10 = some o18) [4, 5, 31, 32, 33, 34, 35, 36, 37, 38, 39, 40, 41, 42, 43, 44, 45] (fun ((ys12, i10) : (List SStep) × Int) => [(31, .int .i64 i10)]) (fun ((ys12, i10) : (List SStep) × Int) => [box g3 27 #[.int .i64 a1_0, .slice A1_1 l1_1.length c1_1, .slice A1_2 l1_2.length c1_2], box g1 27 #[.int .i64 a0_0, .slice A0_1 l0_1.length c0_1, .slice A0_2 l0_2.length c0_2]]) l0_1.length (l0_1, 0) ⟨Rg.start _, rfl, hl17⟩ ⟨rfl, trivial⟩ (fun w h => h) (fun k13 => cur2 (listC (fun i10 U19 hJ_ => ?_) (fun y11 ys12 i10 U19 hJ_ => ?_))))
    ·skip
     clear hl17
     have hr14 := hJ_.1; have hk20 := hJ_.2.1; have h := hJ_.2.2; clear hJ_
     replace h : laws_rSamePlan.l0 l1_1 [] i10 = some o18 := h
     rw [laws_rSamePlan.l0] at h
     refine c_seq (za0 (o_q rfl rfl (q_lss rfl rfl) (o_end (za1 (c_seq (zb1 (vb_ hr14.ge) (zb2 (zab (zab ?_)))))))))
     have e_ := si_ h; replace h := hR16; rw [← e_] at h; clear e_
     refine x_hit (za1 (c_seq (za0 (o_q rfl rfl (q_asg rfl) (o_end (za1 (c_ret ?_)))))))
     have e0_ := si_ h; clear h
     subst e0_
     exact x_r1 () Tryz.results28 (zad rfl) rfl (fun w h => za8 [] dc_ rfl w h)
    ·skip
     clear hl17
     have hr14 := hJ_.1; have hk20 := hJ_.2.1; have h := hJ_.2.2; clear hJ_
     replace h : laws_rSamePlan.l0 l1_1 (y11 :: ys12) i10 = some o18 := h
     rw [laws_rSamePlan.l0] at h
     refine c_seq (za0 (o_q rfl rfl (q_lss rfl rfl) (o_end (za1 (c_seq (zay (vb_ hr14.lt) (zal (za1 (c_seq ?_)))))))))
     refine zah (c_seq (za0 (o_q rfl rfl (za3 rfl) (o_q rfl rfl (q_asg rfl) (o_end (za1 (c_seq (a_start (ds := []) MO rfl (zaa 0 rfl rfl rfl kr_ (fun _ _ _ h => h) (q_f F27_1 rfl) ?_)))))))))
     refine zau 1 rfl rfl rfl kr_ (fun _ _ _ h => h) (fun w h => h) (q_ldb Y24 rfl (fun w h => h.zac (i := 1) rfl) rfl) (zaa 2 rfl rfl rfl kr_ (fun _ _ _ h => h) (za3 rfl) (a_fact (p := Sh A0_1 l0_1.length l0_1.length) (fun w h => f_sh (dk := kStep) h (fun w h => R0_1.now Z h)) (fun hq21 => zaa 3 rfl rfl rfl kr_ (fun _ _ _ h => h) (q_ix Tryz.underlying24 Z72 rfl rfl hq21 hr14.get) (zau 4 rfl rfl rfl kr_ (fun _ _ _ h => h) (fun w h => h) (q_ldE G72 Z72 rfl rfl (fun w h => R0_1.now Z h) hr14.get (fun _ _ h => h) rfl) (zaa 5 rfl rfl rfl kr_ (fun _ _ _ h => h) (q_f F27_1 rfl) (zau 6 rfl rfl rfl kr_ (fun _ _ _ h => h) (fun w h => h) (q_ldb Y24 rfl (fun w h => h.zac (i := 0) rfl) rfl) (zaa 7 rfl rfl rfl kr_ (fun _ _ _ h => h) (za3 rfl) (a_fact (p := Sh A1_1 l1_1.length l1_1.length) (fun w h => f_sh (dk := kStep) h (fun w h => R1_1.now Z h)) (fun hq22 => za6 h (fun y24 hg23 h => ?_) rfl)))))))))
     refine zaa 8 rfl rfl rfl kr_ (fun _ _ _ h => h) (q_ix Tryz.underlying24 Z72 rfl rfl hq22 hg23) (zau 9 rfl rfl rfl kr_ (fun _ _ _ h => h) (fun w h => h) (q_ldE G72 Z72 rfl rfl (fun w h => R1_1.now Z h) hg23 (fun _ _ h => h) rfl) (zaa 10 rfl rfl rfl kr_ (fun _ _ _ h => h) (q_aneq E72 O72 P72 (Q72 y11.f0 y11.f1 y24.f0 y24.f1) rfl rfl) (zar kr_ (za1 (zas _ rfl (fun hb25 => ?_) (fun hb25 => ?_))))))
     ·replace hb25 := nt_t hb25
      replace h := bb_f hb25 h
      refine c_seq (za0 (o_q rfl rfl (q_asg rfl) (o_end (za1 (c_ret (zan (za9 (za9 ?_))))))))
      have e_ := si_ h; replace h := hR16; rw [← e_] at h; clear e_
      refine zan (za9 ?_)
      have e0_ := si_ h; clear h
      subst e0_
      exact x_r1 () Tryz.results28 (zad rfl) rfl (fun w h => za8 [] dc_ rfl w h)
     ·replace hb25 := nt_f hb25
      replace h := bb_t hb25 h
      refine zal (zak (za1 (za0 (o_q rfl rfl (q_up rfl rfl (hr14.up hm15)) (o_q rfl rfl (za3 rfl) (o_end (zaj ys12.length (ys12, i10 + 1) (by rw [← hk20]; exact Nat.lt_succ_self _) ⟨hr14.step, rfl, h⟩ ⟨rfl, trivial⟩ (fun w h => za8 [0, 1] dc_ rfl w h) ?_)))))))
      exact of_

def impl_listed.f (l0 : List ByteArray) : Option ByteArray := if (l0.length : Int) = 0 then (some (⟨#[45]⟩ : ByteArray)) else ((strings_Join.f l0 (⟨#[44]⟩ : ByteArray)).bind fun s3 => some s3)
theorem impl_listed.calls {w0 ws : World} {P0 : Nat → Prop} (A0 : Option Addr) (c0 : Nat) (n0 : Nat) (l0 : List ByteArray) (Z : Below w0.heap.size w0 ws) (hF : Fr w0 ws P0 [] ws) (R0 : Stable ws P0 (fun w => Kd.C Kd.string w A0 n0 l0)) (hc0 : n0 ≤ c0) (r_1 : ByteArray) (h : impl_listed.f l0 = some r_1) :
  Calls Tryz.prog 82 #[.slice A0 n0 c0] ws (Post1 w0 ws P0 (fun (_ : Unit) => .string r_1) (fun (_ : Unit) => [])) := by
 unfold impl_listed.f at h
 obtain rfl := (R0 ws (KeptB.refl _ _)).1
 refine enter Tryz.func82 rfl Tryz.ntmps82 rfl hF (c_seq (za0 (o_q rfl rfl (q_asg rfl) (o_end (za1 (c_seq (c_seq (za0 (o_q rfl rfl (za3 rfl) ?_)))))))))
 refine o_q rfl rfl (q_len Tryz.underlying64 rfl) (o_q rfl rfl (q_eql rfl rfl) (o_end (za1 (zas _ rfl (fun hb1 => ?_) (fun hb1 => ?_)))))
 ·skip
  replace h := br_t hb1 h
  refine c_seq (za0 (o_q rfl rfl (q_asg rfl) (o_end (za1 (c_ret (za9 ?_))))))
  have e0_ := si_ h; clear h
  subst e0_
  exact x_r1 () Tryz.results82 (zad rfl) rfl (fun w h => za8 [] dc_ rfl w h)
 ·skip
  replace h := br_f hb1 h
  refine zal (za1 (c_seq (za0 (o_q rfl rfl (za3 rfl) (za6 h (fun s3 hx2 h => ?_) rfl)))))
  refine o_e rfl (za7 0 Z Tryz.func99 N99 rfl rfl rfl (fun w P1 hF hB hS hT => strings_Join.calls A0 c0 l0.length l0 (⟨#[44]⟩ : ByteArray) hB hF (hS _ R0) hc0 _ hx2)) (fun _ => o_q rfl rfl (q_asg rfl) (o_end (za1 (c_ret ?_))))
  have e0_ := si_ h; clear h
  subst e0_
  exact x_r1 () Tryz.results82 (zad rfl) rfl (fun w h => za8 [] dc_ rfl w h)

def impl_numbersText.l0 : (List Int) → (List ByteArray) → Int → Option (List ByteArray)
 | [], l4, i7 => some l4
 | y8 :: ys9, l4, i7 => (strconv_Itoa.f y8).bind fun s22 => (ap l4 ([s22] : List ByteArray)).bind fun l26 => impl_numbersText.l0 ys9 l26 (i7 + 1)
def impl_numbersText.f (l0 : List Int) : Option ByteArray := (impl_numbersText.l0 l0 ([] : List ByteArray) 0).bind fun l4 => (impl_listed.f l4).bind fun s19 => some s19
theorem impl_numbersText.calls {w0 ws : World} {P0 : Nat → Prop} (A0 : Option Addr) (c0 : Nat) (n0 : Nat) (l0 : List Int) (Z : Below w0.heap.size w0 ws) (hF : Fr w0 ws P0 [] ws) (R0 : Stable ws P0 (fun w => Kd.C (Kd.int .i64) w A0 n0 l0)) (hc0 : n0 ≤ c0) (r_1 : ByteArray) (h : impl_numbersText.f l0 = some r_1) :
  Calls Tryz.prog 83 #[.slice A0 n0 c0] ws (Post1 w0 ws P0 (fun (_ : Unit) => .string r_1) (fun (_ : Unit) => [])) := by
 unfold impl_numbersText.f at h
 obtain rfl := (R0 ws (KeptB.refl _ _)).1
 refine enter Tryz.func83 rfl Tryz.ntmps83 rfl hF (c_seq (za0 (o_q rfl rfl (q_asg rfl) (o_end (za1 (c_seq (za0 (o_e rfl (e_lit0 Kd.string Tryz.underlying64 I9) (cur2 (fun A1 c2 => o_q rfl rfl (q_asg rfl) ?_))))))))))
 refine o_end (za1 (c_seq (c_seq (za0 (o_q rfl rfl (za3 rfl) (o_q rfl rfl (q_len Tryz.underlying25 rfl) (o_q rfl rfl (za3 rfl) (o_end (za1 ?_)))))))))
 refine zah (za6 h (fun o15 hl14 hR13 => ?_) rfl)
 clear h
 refine c_fact (p := l0.length ≤ 9223372036854775807) (fun w h => (R0.now Z h).2.1) (fun hm12 => zax (σ := (List Int) × (List ByteArray) × Int × (Option Addr) × Nat) (fun k10 ((ys9, l4, i7, A5, c6) : (List Int) × (List ByteArray) × Int × (Option Addr) × Nat) => Rg l0 i7 ys9 ∧ ys9.length = k10 ∧ impl_numbersText.l0 ys9 l4 i7 = some o15) [3, 5, 9, 10, 11, 12, 13, 14, 15, 16, 17, 18] (fun ((ys9, l4, i7, A5, c6) : (List Int) × (List ByteArray) × Int × (Option Addr) × Nat) => [(3, .slice A5 l4.length c6), (9, .int .i64 i7)]) (fun ((ys9, l4, i7, A5, c6) : (List Int) × (List ByteArray) × Int × (Option Addr) × Nat) => [row Kd.string 9 (.slice A5 l4.length c6) l4]) l0.length (l0, ([] : List ByteArray), 0, A1, c2) ⟨Rg.start _, rfl, hl14⟩ ⟨rfl, rfl, trivial⟩ (fun w h => h) (fun k10 => cur5 (listC (fun l4 i7 A5 c6 U16 hJ_ => ?_) (fun y8 ys9 l4 i7 A5 c6 U16 hJ_ => ?_))))
 ·skip
  clear hl14
  have hr11 := hJ_.1; have hk17 := hJ_.2.1; have h := hJ_.2.2; clear hJ_
  replace h : impl_numbersText.l0 [] l4 i7 = some o15 := h
  rw [impl_numbersText.l0] at h
  refine c_seq (za0 (o_q rfl rfl (q_lss rfl rfl) (o_end (za1 (c_seq (zb1 (vb_ hr11.ge) (zb2 (zab (zab ?_)))))))))
  have e_ := si_ h; replace h := hR13; rw [← e_] at h; clear e_
  refine x_hit (za1 (c_seq (za0 (o_q rfl rfl (za3 rfl) (za6 h (fun s19 hx18 h => ?_) rfl)))))
  refine o_e rfl (za7 0 Z Tryz.func82 N82 rfl rfl rfl (fun w P1 hF hB hS hT => impl_listed.calls A5 c6 l4.length l4 hB hF (hT 0 _ rfl).row (hT 0 _ rfl).cap _ hx18)) (fun _ => o_q rfl rfl (q_asg rfl) (o_end (za1 (c_ret ?_))))
  have e0_ := si_ h; clear h
  subst e0_
  exact x_r1 () Tryz.results83 (zad rfl) rfl (fun w h => za8 [] dc_ rfl w h)
 ·skip
  clear hl14
  have hr11 := hJ_.1; have hk17 := hJ_.2.1; have h := hJ_.2.2; clear hJ_
  replace h : impl_numbersText.l0 (y8 :: ys9) l4 i7 = some o15 := h
  rw [impl_numbersText.l0] at h
  refine c_seq (za0 (o_q rfl rfl (q_lss rfl rfl) (o_end (za1 (c_seq (zay (vb_ hr11.lt) (zal (za1 (c_seq ?_)))))))))
  refine zah (c_seq (za0 (zb0 (p := Sh A0 l0.length l0.length) (fun w h => f_sh (dk := (Kd.int .i64)) h (fun w h => R0.now Z h)) (fun hq20 => o_q rfl rfl (q_ix Tryz.underlying25 Z3 rfl rfl hq20 hr11.get) (o_q rfl rfl (q_lde (off := 0) Y3 rfl rfl (fun w h => R0.now Z h) hr11.get (fun _ _ h => h) rfl) (o_q rfl rfl (q_asg rfl) (o_end (za1 (za0 ?_)))))))))
  refine o_q rfl rfl (za3 rfl) (o_q rfl rfl (za3 rfl) (za6 h (fun s22 hx21 h => ?_) rfl))
  refine o_e rfl (za7 0 Z Tryz.func81 N81 rfl rfl rfl (fun w P1 hF hB hS hT => strconv_Itoa.calls y8 hB hF _ hx21)) (fun _ => o_e rfl (e_lit (vs := [(0, .string s22)]) (cs := [.string s22]) Kd.string ([s22] : List ByteArray) Tryz.underlying64 I9 dc_ rfl dc_ rfl rfl (fun _ _ => Kd.zaf _)) (cur2 (fun A23 c24 => za6 h (fun l26 ha27 h => ?_) rfl)))
  refine o_e rfl (e_app (i := 1) (j := 0) Tryz.underlying64 I9 rfl dc_ dc_ rfl rfl rfl rfl rfl ha27) (cur2 (fun A28 c29 => o_q rfl rfl (q_asg rfl) (o_end (zak (za1 (za0 (o_q rfl rfl (q_up rfl rfl (hr11.up hm12)) (o_q rfl rfl (za3 rfl) (o_end (zaj ys9.length (ys9, l26, i7 + 1, A28, c29) (by rw [← hk17]; exact Nat.lt_succ_self _) ⟨hr11.step, rfl, h⟩ ⟨rfl, rfl, trivial⟩ (fun w h => za8 [1] dc_ rfl w h) ?_))))))))))
  exact of_

def impl_RegCode_text.l0 : (List SRegOp) → (List ByteArray) → Int → Option (List ByteArray)
 | [], l4, i7 => some l4
 | y8 :: ys9, l4, i7 => (strconv_Itoa.f y8.f0).bind fun s35 => (sap s35 (⟨#[61]⟩ : ByteArray)).bind fun s37 => (strconv_Itoa.f y8.f1).bind fun s39 => (sap s37 s39).bind fun s41 => (sap s41 (⟨#[42]⟩ : ByteArray)).bind fun s43 => (strconv_Itoa.f y8.f2).bind fun s45 => (sap s43 s45).bind fun s47 => (ap l4 ([s47] : List ByteArray)).bind fun l51 => impl_RegCode_text.l0 ys9 l51 (i7 + 1)
def impl_RegCode_text.f (a0_0 : Int) (l0_1 : List Int) (l0_2 : List SRegOp) (l0_3 : List Int) : Option ByteArray := (impl_RegCode_text.l0 l0_2 ([] : List ByteArray) 0).bind fun l4 => (strconv_Itoa.f a0_0).bind fun s19 => (impl_numbersText.f l0_1).bind fun s21 => (impl_listed.f l4).bind fun s23 => (impl_numbersText.f l0_3).bind fun s25 => (strings_Join.f ([s19, s21, s23, s25] : List ByteArray) (⟨#[58]⟩ : ByteArray)).bind fun s30 => some s30
theorem impl_RegCode_text.calls {w0 ws : World} {P0 : Nat → Prop} (g0 : Nat) (a0_0 : Int) (A0_1 : Option Addr) (c0_1 : Nat) (n0_1 : Nat) (l0_1 : List Int) (A0_2 : Option Addr) (c0_2 : Nat) (n0_2 : Nat) (l0_2 : List SRegOp) (A0_3 : Option Addr) (c0_3 : Nat) (n0_3 : Nat) (l0_3 : List Int) (Z : Below w0.heap.size w0 ws) (hF : Fr w0 ws P0 [] ws) (R0_1 : Stable ws P0 (fun w => Kd.C (Kd.int .i64) w A0_1 n0_1 l0_1)) (hc0_1 : n0_1 ≤ c0_1) (R0_2 : Stable ws P0 (fun w => Kd.C zaq w A0_2 n0_2 l0_2)) (hc0_2 : n0_2 ≤ c0_2) (R0_3 : Stable ws P0 (fun w => Kd.C (Kd.int .i64) w A0_3 n0_3 l0_3)) (hc0_3 : n0_3 ≤ c0_3) (B0 : Stable ws P0 (fun w => w.heap[g0]? = some (.cells #[.int .i64 a0_0, .slice A0_1 n0_1 c0_1, .slice A0_2 n0_2 c0_2, .slice A0_3 n0_3 c0_3] 38 (0, 0)))) (r_1 : ByteArray) (h : impl_RegCode_text.f a0_0 l0_1 l0_2 l0_3 = some r_1) :
  Calls Tryz.prog 58 #[.pointer (some ⟨g0, 0, none⟩)] ws (Post1 w0 ws P0 (fun (_ : Unit) => .string r_1) (fun (_ : Unit) => [])) := by
 unfold impl_RegCode_text.f at h
 obtain rfl := (R0_1 ws (KeptB.refl _ _)).1
 obtain rfl := (R0_2 ws (KeptB.refl _ _)).1
 obtain rfl := (R0_3 ws (KeptB.refl _ _)).1
 refine enter Tryz.func58 rfl Tryz.ntmps58 rfl hF (c_seq (za0 (o_q rfl rfl (q_asg rfl) (o_end (za1 (c_seq (za0 (o_e rfl (e_lit0 Kd.string Tryz.underlying64 I9) (cur2 (fun A1 c2 => o_q rfl rfl (q_asg rfl) ?_))))))))))
 refine o_end (za1 (c_seq (c_seq (za0 (o_q rfl rfl (za3 rfl) (o_q rfl rfl (q_nil rfl) (o_q rfl rfl (q_f F38_2 rfl) (o_q rfl rfl (q_ldb Y36 rfl (fun w h => B0.now Z h) rfl) (o_q rfl rfl (q_len Tryz.underlying36 rfl) ?_)))))))))
 refine o_q rfl rfl (za3 rfl) (o_end (za1 (zah (za6 h (fun o15 hl14 hR13 => ?_) rfl))))
 clear h
 refine c_fact (p := l0_2.length ≤ 9223372036854775807) (fun w h => (R0_2.now Z h).2.1) (fun hm12 => zax (σ := (List SRegOp) × (List ByteArray) × Int × (Option Addr) × Nat) (fun k10 ((ys9, l4, i7, A5, c6) : (List SRegOp) × (List ByteArray) × Int × (Option Addr) × Nat) => Rg l0_2 i7 ys9 ∧ ys9.length = k10 ∧ impl_RegCode_text.l0 ys9 l4 i7 = some o15) [3, 5, 12, 13, 14, 15, 16, 17, 18, 19, 20, 21, 22, 23, 24, 25, 26, 27, 28, 29, 30, 31, 32] (fun ((ys9, l4, i7, A5, c6) : (List SRegOp) × (List ByteArray) × Int × (Option Addr) × Nat) => [(3, .slice A5 l4.length c6), (12, .int .i64 i7)]) (fun ((ys9, l4, i7, A5, c6) : (List SRegOp) × (List ByteArray) × Int × (Option Addr) × Nat) => [row Kd.string 9 (.slice A5 l4.length c6) l4]) l0_2.length (l0_2, ([] : List ByteArray), 0, A1, c2) ⟨Rg.start _, rfl, hl14⟩ ⟨rfl, rfl, trivial⟩ (fun w h => h) (fun k10 => cur5 (listC (fun l4 i7 A5 c6 U16 hJ_ => ?_) (fun y8 ys9 l4 i7 A5 c6 U16 hJ_ => ?_))))
 ·skip
  clear hl14
  have hr11 := hJ_.1; have hk17 := hJ_.2.1; have h := hJ_.2.2; clear hJ_
  replace h : impl_RegCode_text.l0 [] l4 i7 = some o15 := h
  rw [impl_RegCode_text.l0] at h
  refine c_seq (za0 (o_q rfl rfl (q_lss rfl rfl) (o_end (za1 (c_seq (zb1 (vb_ hr11.ge) (zb2 (zab (zab ?_)))))))))
  have e_ := si_ h; replace h := hR13; rw [← e_] at h; clear e_
  refine x_hit (za1 (c_seq (a_start (ds := []) MO rfl (zaa 0 rfl rfl rfl kr_ (fun _ _ _ h => h) (za3 rfl) (zaa 1 rfl rfl rfl kr_ (fun _ _ _ h => h) (q_nil rfl) (zaa 2 rfl rfl rfl kr_ (fun _ _ _ h => h) (q_f F38_0 rfl) (zau 3 rfl rfl rfl kr_ (fun _ _ _ h => h) (fun w h => h) (q_ldb Y3 rfl (fun w h => B0.now Z h) rfl) (zaa 5 rfl rfl rfl kr_ (fun _ _ _ h => h) (za3 rfl) (zaa 6 rfl rfl rfl kr_ (fun _ _ _ h => h) (q_nil rfl) ?_)))))))))
  refine zaa 7 rfl rfl rfl kr_ (fun _ _ _ h => h) (q_f F38_1 rfl) (zau 8 rfl rfl rfl kr_ (fun _ _ _ h => h) (fun w h => h) (q_ldb Y25 rfl (fun w h => B0.now Z h) rfl) (zaa 10 rfl rfl rfl kr_ (fun _ _ _ h => h) (za3 rfl) (zaa 12 rfl rfl rfl kr_ (fun _ _ _ h => h) (za3 rfl) (zaa 13 rfl rfl rfl kr_ (fun _ _ _ h => h) (q_nil rfl) (zaa 14 rfl rfl rfl kr_ (fun _ _ _ h => h) (q_f F38_3 rfl) (zau 15 rfl rfl rfl kr_ (fun _ _ _ h => h) (fun w h => h) (q_ldb Y25 rfl (fun w h => B0.now Z h) rfl) (za6 h (fun s19 hx18 h => ?_) rfl)))))))
  refine a_one 4 rfl rfl kr_ rfl (za7 0 Z Tryz.func81 N81 rfl rfl rfl (fun w P1 hF hB hS hT => strconv_Itoa.calls a0_0 hB hF _ hx18)) (fun s w h => h) (fun _ => za6 h (fun s21 hx20 h => ?_) rfl)
  refine a_one 9 rfl rfl kr_ rfl (za7 0 Z Tryz.func83 N83 rfl rfl rfl (fun w P1 hF hB hS hT => impl_numbersText.calls A0_1 c0_1 l0_1.length l0_1 hB hF (hS _ R0_1) hc0_1 _ hx20)) (fun s w h => h) (fun _ => za6 h (fun s23 hx22 h => ?_) rfl)
  refine a_one 11 rfl rfl kr_ rfl (za7 0 Z Tryz.func82 N82 rfl rfl rfl (fun w P1 hF hB hS hT => impl_listed.calls A5 c6 l4.length l4 hB hF (hT 0 _ rfl).row (hT 0 _ rfl).cap _ hx22)) (fun s w h => h) (fun _ => za6 h (fun s25 hx24 h => ?_) rfl)
  refine a_one 16 rfl rfl kr_ rfl (za7 0 Z Tryz.func83 N83 rfl rfl rfl (fun w P1 hF hB hS hT => impl_numbersText.calls A0_3 c0_3 l0_3.length l0_3 hB hF (hS _ R0_3) hc0_3 _ hx24)) (fun s w h => h) (fun _ => a_one 17 rfl rfl kr_ rfl (e_lit (vs := [(0, .string s19), (1, .string s21), (2, .string s23), (3, .string s25)]) (cs := [.string s19, .string s21, .string s23, .string s25]) Kd.string ([s19, s21, s23, s25] : List ByteArray) Tryz.underlying64 I9 dc_ rfl dc_ rfl rfl (fun _ _ => Kd.zaf _)) (fun s w h => za5 [some 1] dc_ w h rfl) (cur2 (fun A26 c27 => za6 h (fun s30 hx29 h => ?_) rfl)))
  refine a_one 18 rfl rfl kr_ rfl (za7 0 Z Tryz.func99 N99 rfl rfl rfl (fun w P1 hF hB hS hT => strings_Join.calls A26 c27 (([s19, s21, s23, s25] : List ByteArray).length) ([s19, s21, s23, s25] : List ByteArray) (⟨#[58]⟩ : ByteArray) hB hF (hT 0 _ rfl).row (hT 0 _ rfl).cap _ hx29)) (fun s w h => za5 [some 1] dc_ w h rfl) (fun _ => zaa 19 rfl rfl rfl kr_ (fun _ _ _ h => h) (q_asg rfl) (zar kr_ (za1 (c_ret ?_))))
  have e0_ := si_ h; clear h
  subst e0_
  exact x_r1 () Tryz.results58 (zad rfl) rfl (fun w h => za8 [] dc_ rfl w h)
 ·skip
  clear hl14
  have hr11 := hJ_.1; have hk17 := hJ_.2.1; have h := hJ_.2.2; clear hJ_
  replace h : impl_RegCode_text.l0 (y8 :: ys9) l4 i7 = some o15 := h
  rw [impl_RegCode_text.l0] at h
  refine c_seq (za0 (o_q rfl rfl (q_lss rfl rfl) (o_end (za1 (c_seq (zay (vb_ hr11.lt) (zal (za1 (c_seq ?_)))))))))
  refine zah (c_seq (za0 (zb0 (p := Sh A0_2 l0_2.length l0_2.length) (fun w h => f_sh (dk := zaq) h (fun w h => R0_2.now Z h)) (fun hq31 => o_q rfl rfl (q_ix Tryz.underlying36 Z84 rfl rfl hq31 hr11.get) (o_q rfl rfl (q_ldE G84 Z84 rfl rfl (fun w h => R0_2.now Z h) hr11.get (fun _ _ h => h) rfl) (o_e rfl (zao V84 rfl) (fun g32 => o_e rfl (zae (i := 0) rfl rfl rfl Z84 rfl rfl) (fun _ => o_end (za1 ?_)))))))))
  refine a_startS (ds := []) [some 0, none] MO rfl (zaa 0 rfl rfl rfl kr_ (fun _ _ _ h => h) (za3 rfl) (zaa 1 rfl rfl rfl kr_ (fun _ _ _ h => h) (q_f F84_0 rfl) (zau 2 rfl rfl rfl kr_ (fun _ _ _ h => h) (fun w h => za5 [some 0, none] dc_ w h rfl) (q_ldb Y3 rfl (fun w h => h.zac (i := 0) rfl) rfl) (zaa 5 rfl rfl rfl kr_ (fun _ _ _ h => h) (q_f F84_1 rfl) (zau 6 rfl rfl rfl kr_ (fun _ _ _ h => h) (fun w h => za5 [some 0, none] dc_ w h rfl) (q_ldb Y3 rfl (fun w h => h.zac (i := 0) rfl) rfl) (zaa 10 rfl rfl rfl kr_ (fun _ _ _ h => h) (q_f F84_2 rfl) (zau 11 rfl rfl rfl kr_ (fun _ _ _ h => h) (fun w h => za5 [some 0, none] dc_ w h rfl) (q_ldb Y3 rfl (fun w h => h.zac (i := 0) rfl) rfl) (za6 h (fun s35 hx34 h => ?_) rfl))))))))
  refine a_one 3 rfl rfl kr_ rfl (za7 0 Z Tryz.func81 N81 rfl rfl rfl (fun w P1 hF hB hS hT => strconv_Itoa.calls y8.f0 hB hF _ hx34)) (fun s w h => za5 [some 0, none] dc_ w h rfl) (fun _ => za6 h (fun s37 hs36 h => ?_) rfl)
  refine zaa 4 rfl rfl rfl kr_ (fun _ _ _ h => h) (q_sap rfl rfl hs36) (za6 h (fun s39 hx38 h => ?_) rfl)
  refine a_one 7 rfl rfl kr_ rfl (za7 0 Z Tryz.func81 N81 rfl rfl rfl (fun w P1 hF hB hS hT => strconv_Itoa.calls y8.f1 hB hF _ hx38)) (fun s w h => za5 [some 0, none] dc_ w h rfl) (fun _ => za6 h (fun s41 hs40 h => ?_) rfl)
  refine zaa 8 rfl rfl rfl kr_ (fun _ _ _ h => h) (q_sap rfl rfl hs40) (za6 h (fun s43 hs42 h => ?_) rfl)
  refine zaa 9 rfl rfl rfl kr_ (fun _ _ _ h => h) (q_sap rfl rfl hs42) (za6 h (fun s45 hx44 h => ?_) rfl)
  refine a_one 12 rfl rfl kr_ rfl (za7 0 Z Tryz.func81 N81 rfl rfl rfl (fun w P1 hF hB hS hT => strconv_Itoa.calls y8.f2 hB hF _ hx44)) (fun s w h => za5 [some 0, none] dc_ w h rfl) (fun _ => za6 h (fun s47 hs46 h => ?_) rfl)
  refine zaa 13 rfl rfl rfl kr_ (fun _ _ _ h => h) (q_sap rfl rfl hs46) (a_one 14 rfl rfl kr_ rfl (e_lit (vs := [(0, .string s47)]) (cs := [.string s47]) Kd.string ([s47] : List ByteArray) Tryz.underlying64 I9 dc_ rfl dc_ rfl rfl (fun _ _ => Kd.zaf _)) (fun s w h => za5 [some 1, none] dc_ w h rfl) (cur2 (fun A48 c49 => za6 h (fun l51 ha52 h => ?_) rfl)))
  refine a_one 15 rfl rfl kr_ rfl (e_app (i := 2) (j := 0) Tryz.underlying64 I9 rfl dc_ dc_ rfl rfl rfl rfl rfl ha52) (fun s w h => za5 [some 1, none] dc_ w h rfl) (cur2 (fun A53 c54 => zaa 16 rfl rfl rfl kr_ (fun _ _ _ h => h) (q_asg rfl) (zar kr_ (zak (za1 (za0 (o_q rfl rfl (q_up rfl rfl (hr11.up hm12)) (o_q rfl rfl (za3 rfl) (o_end (zaj ys9.length (ys9, l51, i7 + 1, A53, c54) (by rw [← hk17]; exact Nat.lt_succ_self _) ⟨hr11.step, rfl, h⟩ ⟨rfl, rfl, trivial⟩ (fun w h => za8 [2] dc_ rfl w h) ?_))))))))))
  exact of_

def impl_RegCodeText.f (k : Nat) (a0_0 : Int) (l0_1 : List Int) (l0_2 : List SRegOp) (l0_3 : List Int) : Option (ByteArray × Bool) := (impl_IsRegCode.f k a0_0 l0_1 l0_2 l0_3).bind fun b4 => if b4 = true then ((impl_RegCode_text.f a0_0 l0_1 l0_2 l0_3).bind fun s7 => some (s7, true)) else (some ((⟨#[]⟩ : ByteArray), false))
theorem impl_RegCodeText.calls (k : Nat) {w0 ws : World} {P0 : Nat → Prop} (a0_0 : Int) (A0_1 : Option Addr) (c0_1 : Nat) (n0_1 : Nat) (l0_1 : List Int) (A0_2 : Option Addr) (c0_2 : Nat) (n0_2 : Nat) (l0_2 : List SRegOp) (A0_3 : Option Addr) (c0_3 : Nat) (n0_3 : Nat) (l0_3 : List Int) (Z : Below w0.heap.size w0 ws) (hF : Fr w0 ws P0 [] ws) (R0_1 : Stable ws P0 (fun w => Kd.C (Kd.int .i64) w A0_1 n0_1 l0_1)) (hc0_1 : n0_1 ≤ c0_1) (R0_2 : Stable ws P0 (fun w => Kd.C zaq w A0_2 n0_2 l0_2)) (hc0_2 : n0_2 ≤ c0_2) (R0_3 : Stable ws P0 (fun w => Kd.C (Kd.int .i64) w A0_3 n0_3 l0_3)) (hc0_3 : n0_3 ≤ c0_3) (r_1 : ByteArray) (r_2 : Bool) (h : impl_RegCodeText.f k a0_0 l0_1 l0_2 l0_3 = some (r_1, r_2)) :
  Calls Tryz.prog 29 #[.agg #[.int .i64 a0_0, .slice A0_1 n0_1 c0_1, .slice A0_2 n0_2 c0_2, .slice A0_3 n0_3 c0_3]] ws (Post1 w0 ws P0 (fun (_ : Unit) => .tuple #[.string r_1, .bool r_2]) (fun (_ : Unit) => [])) := by
 unfold impl_RegCodeText.f at h
 obtain rfl := (R0_1 ws (KeptB.refl _ _)).1
 obtain rfl := (R0_2 ws (KeptB.refl _ _)).1
 obtain rfl := (R0_3 ws (KeptB.refl _ _)).1
 refine enter Tryz.func29 rfl Tryz.ntmps29 rfl hF (c_seq (za0 (o_e rfl (e_box rfl) (fun g1 => o_q rfl rfl (q_asg rfl) (o_q rfl rfl (q_asg rfl) (o_end (za1 (c_seq (c_seq ?_)))))))))
 refine za0 (o_q rfl rfl (q_ldB G38 Z38 rfl (fun w h => h.zac (i := 0) rfl) rfl) (za6 h (fun b4 hx3 h => ?_) rfl))
 refine o_e rfl (za7 0 Z Tryz.func26 N26 rfl rfl rfl (fun w P1 hF hB hS hT => impl_IsRegCode.calls k a0_0 A0_1 c0_1 l0_1.length l0_1 A0_2 c0_2 l0_2.length l0_2 A0_3 c0_3 l0_3.length l0_3 hB hF (hS _ R0_1) hc0_1 (hS _ R0_2) hc0_2 (hS _ R0_3) hc0_3 _ hx3)) (fun _ => o_q rfl rfl (q_not rfl) (o_end (za1 (zas _ rfl (fun hb5 => ?_) (fun hb5 => ?_)))))
 ·replace hb5 := nt_t hb5
  replace h := bb_f hb5 h
  refine c_seq (za0 (o_q rfl rfl (q_asg rfl) (o_q rfl rfl (q_asg rfl) (o_end (za1 (c_ret (za9 ?_)))))))
  have e0_ := si_ h; clear h
  obtain ⟨rfl, e1_⟩ := Prod.mk.inj e0_
  subst e1_
  exact x_r2 () Tryz.results29 (zad rfl) (zad rfl) rfl (fun w h => za8 [] dc_ rfl w h)
 ·replace hb5 := nt_f hb5
  replace h := bb_t hb5 h
  refine zal (za1 (c_seq (za0 (za6 h (fun s7 hx6 h => ?_) rfl))))
  refine o_e rfl (za7 0 Z Tryz.func58 N58 rfl rfl rfl (fun w P1 hF hB hS hT => impl_RegCode_text.calls g1 a0_0 A0_1 c0_1 l0_1.length l0_1 A0_2 c0_2 l0_2.length l0_2 A0_3 c0_3 l0_3.length l0_3 hB hF (hS _ R0_1) hc0_1 (hS _ R0_2) hc0_2 (hS _ R0_3) hc0_3 (hT 0 _ rfl).box _ hx6)) (fun _ => o_q rfl rfl (q_asg rfl) (o_q rfl rfl (q_asg rfl) (o_end (za1 (c_ret ?_)))))
  have e0_ := si_ h; clear h
  obtain ⟨rfl, e1_⟩ := Prod.mk.inj e0_
  subst e1_
  exact x_r2 () Tryz.results29 (zad rfl) (zad rfl) rfl (fun w h => za8 [] dc_ rfl w h)

end Go.Proofs.YtnnlfipcoahcnaaGreatDoor.G3
