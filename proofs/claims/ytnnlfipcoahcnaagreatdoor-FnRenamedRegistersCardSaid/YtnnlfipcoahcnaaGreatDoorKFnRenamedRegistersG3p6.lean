import Derived.Test.YtnnlfipcoahcnaaGreatDoorKFnRenamedRegistersG3p5
namespace Go.Proofs.YtnnlfipcoahcnaaGreatDoor.G3
set_option maxHeartbeats 8000000
set_option maxRecDepth 100000
open Go.RowKit Go.Proofs.YtnnlfipcoahcnaaGreatDoor.Frame Go.Proofs.YtnnlfipcoahcnaaGreatDoorW.PrintLast Go.Proofs.YtnnlfipcoahcnaaGreatDoor.Hand
open Go.Proofs.YtnnlfipcoahcnaaGreatDoorW.PrintWords hiding mn mx
set_option linter.unusedVariables false
def impl_numberOf.f (a0 : ByteArray) : Option Int := (strconv_Atoi.f a0).bind fun i2 => some i2
theorem impl_numberOf.calls {w0 ws : World} {P0 : Nat → Prop} (a0 : ByteArray) (Z : Below w0.heap.size w0 ws) (hF : Fr w0 ws P0 [] ws) (GW : Stable ws P0 GP) (r_1 : Int) (h : impl_numberOf.f a0 = some r_1) :
  Calls Tryz.prog 41 #[.string a0] ws (Post1 w0 ws P0 (fun (_ : Unit) => .int .i64 r_1) (fun (_ : Unit) => [])) := by
 unfold impl_numberOf.f at h
 refine enter Tryz.func41 rfl Tryz.ntmps41 rfl hF (c_seq (za0 (o_q rfl rfl (q_asg rfl) (o_end (za1 (c_seq (za0 (o_q rfl rfl (za3 rfl) (za6 h (fun i2 hx1 h => ?_) rfl)))))))))
 refine o_e rfl (za7 0 Z Tryz.func94 N94 rfl rfl rfl (fun w P1 hF hB hS hT => strconv_Atoi.calls a0 hB hF (hS _ GW) _ hx1)) (fun E3 => o_q rfl rfl (za3 rfl) (o_q rfl rfl (q_ext rfl rfl) (o_q rfl rfl (q_ext rfl rfl) (o_q rfl rfl (q_asg rfl) (o_q rfl rfl (q_asg rfl) (o_end (za1 (c_seq (za0 ?_)))))))))
 refine o_q rfl rfl (za3 rfl) (o_q rfl rfl (q_asg rfl) (o_end (za1 (c_ret ?_))))
 have e0_ := si_ h; clear h
 subst e0_
 exact x_r1 () Tryz.results41 (zad rfl) rfl (fun w h => za8 [] dc_ rfl w h)

def impl_parts.f (a0 : ByteArray) (a1 : Int) : Option (List ByteArray) := if a0 = (⟨#[45]⟩ : ByteArray) then (some ([] : List ByteArray)) else ((strings_SplitN.f a0 (⟨#[44]⟩ : ByteArray) (w64 (a1 + 1))).bind fun l3 => some l3)
theorem impl_parts.calls {w0 ws : World} {P0 : Nat → Prop} (a0 : ByteArray) (a1 : Int) (Z : Below w0.heap.size w0 ws) (hF : Fr w0 ws P0 [] ws) (GW : Stable ws P0 GP) (r_1 : List ByteArray) (h : impl_parts.f a0 a1 = some r_1) :
  Calls Tryz.prog 43 #[.string a0, .int .i64 a1] ws (Post1 w0 ws P0 (fun ((q_2, q_3) : (Option Addr) × Nat) => .slice q_2 r_1.length q_3) (fun ((q_2, q_3) : (Option Addr) × Nat) => [row Kd.string 9 (.slice q_2 r_1.length q_3) r_1])) := by
 unfold impl_parts.f at h
 refine enter Tryz.func43 rfl Tryz.ntmps43 rfl hF (c_seq (za0 (o_q rfl rfl (q_asg rfl) (o_end (za1 (c_seq (c_seq (za0 (o_q rfl rfl (za3 rfl) ?_)))))))))
 refine o_q rfl rfl (q_seql rfl rfl) (o_end (za1 (zas _ rfl (fun hb1 => ?_) (fun hb1 => ?_))))
 ·skip
  replace h := br_t hb1 h
  refine c_seq (za0 (o_q rfl rfl (q_asg rfl) (o_end (za1 (c_ret (za9 (x_nil Kd.string 9 ?_)))))))
  have e0_ := si_ h; clear h
  subst e0_
  exact x_r1 (none, 0) Tryz.results43 (zad rfl) rfl (fun w h => za8 [0] dc_ rfl w h)
 ·skip
  replace h := br_f hb1 h
  refine zal (za1 (c_seq (za0 (o_q rfl rfl (za3 rfl) (o_q rfl rfl (za3 rfl) (o_q rfl rfl (zb5 rfl rfl) (za6 h (fun l3 hx2 h => ?_) rfl)))))))
  refine o_e rfl (za7 0 Z Tryz.func40 N40 rfl rfl rfl (fun w P1 hF hB hS hT => strings_SplitN.calls a0 (⟨#[44]⟩ : ByteArray) (w64 (a1 + 1)) hB hF (hS _ GW) _ hx2)) (cur2 (fun A4 c5 => o_q rfl rfl (q_asg rfl) (o_end (za1 (c_ret ?_)))))
  have e0_ := si_ h; clear h
  subst e0_
  exact x_r1 (A4, c5) Tryz.results43 (zad rfl) rfl (fun w h => za8 [0] dc_ rfl w h)

def impl_numbersOf.l0 : (List ByteArray) → (List Int) → Int → Option (List Int)
 | [], l4, i7 => some l4
 | y8 :: ys9, l4, i7 => (impl_numberOf.f y8).bind fun i20 => (ap l4 ([i20] : List Int)).bind fun l24 => impl_numbersOf.l0 ys9 l24 (i7 + 1)
def impl_numbersOf.f (l0 : List ByteArray) : Option (List Int) := (impl_numbersOf.l0 l0 ([] : List Int) 0).bind fun l4 => some l4
theorem impl_numbersOf.calls {w0 ws : World} {P0 : Nat → Prop} (A0 : Option Addr) (c0 : Nat) (n0 : Nat) (l0 : List ByteArray) (Z : Below w0.heap.size w0 ws) (hF : Fr w0 ws P0 [] ws) (R0 : Stable ws P0 (fun w => Kd.C Kd.string w A0 n0 l0)) (hc0 : n0 ≤ c0) (GW : Stable ws P0 GP) (r_1 : List Int) (h : impl_numbersOf.f l0 = some r_1) :
  Calls Tryz.prog 42 #[.slice A0 n0 c0] ws (Post1 w0 ws P0 (fun ((q_2, q_3) : (Option Addr) × Nat) => .slice q_2 r_1.length q_3) (fun ((q_2, q_3) : (Option Addr) × Nat) => [row (Kd.int .i64) 3 (.slice q_2 r_1.length q_3) r_1])) := by
 unfold impl_numbersOf.f at h
 obtain rfl := (R0 ws (KeptB.refl _ _)).1
 refine enter Tryz.func42 rfl Tryz.ntmps42 rfl hF (c_seq (za0 (o_q rfl rfl (q_asg rfl) (o_end (za1 (c_seq (za0 (o_e rfl (e_lit0 (Kd.int .i64) Tryz.underlying25 I3) (cur2 (fun A1 c2 => o_q rfl rfl (q_asg rfl) ?_))))))))))
 refine o_end (za1 (c_seq (c_seq (za0 (o_q rfl rfl (za3 rfl) (o_q rfl rfl (q_len Tryz.underlying64 rfl) (o_q rfl rfl (za3 rfl) (o_end (za1 ?_)))))))))
 refine zah (za6 h (fun o15 hl14 hR13 => ?_) rfl)
 clear h
 refine c_fact (p := l0.length ≤ 9223372036854775807) (fun w h => (R0.now Z h).2.1) (fun hm12 => zax (σ := (List ByteArray) × (List Int) × Int × (Option Addr) × Nat) (fun k10 ((ys9, l4, i7, A5, c6) : (List ByteArray) × (List Int) × Int × (Option Addr) × Nat) => Rg l0 i7 ys9 ∧ ys9.length = k10 ∧ impl_numbersOf.l0 ys9 l4 i7 = some o15) [3, 5, 9, 10, 11, 12, 13, 14, 15, 16, 17, 18] (fun ((ys9, l4, i7, A5, c6) : (List ByteArray) × (List Int) × Int × (Option Addr) × Nat) => [(3, .slice A5 l4.length c6), (9, .int .i64 i7)]) (fun ((ys9, l4, i7, A5, c6) : (List ByteArray) × (List Int) × Int × (Option Addr) × Nat) => [row (Kd.int .i64) 3 (.slice A5 l4.length c6) l4]) l0.length (l0, ([] : List Int), 0, A1, c2) ⟨Rg.start _, rfl, hl14⟩ ⟨rfl, rfl, trivial⟩ (fun w h => h) (fun k10 => cur5 (listC (fun l4 i7 A5 c6 U16 hJ_ => ?_) (fun y8 ys9 l4 i7 A5 c6 U16 hJ_ => ?_))))
 ·skip
  clear hl14
  have hr11 := hJ_.1; have hk17 := hJ_.2.1; have h := hJ_.2.2; clear hJ_
  replace h : impl_numbersOf.l0 [] l4 i7 = some o15 := h
  rw [impl_numbersOf.l0] at h
  refine c_seq (za0 (o_q rfl rfl (q_lss rfl rfl) (o_end (za1 (c_seq (zb1 (vb_ hr11.ge) (zb2 (zab (zab ?_)))))))))
  have e_ := si_ h; replace h := hR13; rw [← e_] at h; clear e_
  refine x_hit (za1 (c_seq (za0 (o_q rfl rfl (za3 rfl) (o_q rfl rfl (q_asg rfl) (o_end (za1 (c_ret ?_))))))))
  have e0_ := si_ h; clear h
  subst e0_
  exact x_r1 (A5, c6) Tryz.results42 (zad rfl) rfl (fun w h => za8 [0] dc_ rfl w h)
 ·skip
  clear hl14
  have hr11 := hJ_.1; have hk17 := hJ_.2.1; have h := hJ_.2.2; clear hJ_
  replace h : impl_numbersOf.l0 (y8 :: ys9) l4 i7 = some o15 := h
  rw [impl_numbersOf.l0] at h
  refine c_seq (za0 (o_q rfl rfl (q_lss rfl rfl) (o_end (za1 (c_seq (zay (vb_ hr11.lt) (zal (za1 (c_seq ?_)))))))))
  refine zah (c_seq (za0 (zb0 (p := Sh A0 l0.length l0.length) (fun w h => f_sh (dk := Kd.string) h (fun w h => R0.now Z h)) (fun hq18 => o_q rfl rfl (q_ix Tryz.underlying64 Z9 rfl rfl hq18 hr11.get) (o_q rfl rfl (q_lde (off := 0) Y9 rfl rfl (fun w h => R0.now Z h) hr11.get (fun _ _ h => h) rfl) (o_q rfl rfl (q_asg rfl) (o_end (za1 (za0 ?_)))))))))
  refine o_q rfl rfl (za3 rfl) (o_q rfl rfl (za3 rfl) (za6 h (fun i20 hx19 h => ?_) rfl))
  refine o_e rfl (za7 0 Z Tryz.func41 N41 rfl rfl rfl (fun w P1 hF hB hS hT => impl_numberOf.calls y8 hB hF (hS _ GW) _ hx19)) (fun _ => o_e rfl (e_lit (vs := [(0, .int .i64 i20)]) (cs := [.int .i64 i20]) (Kd.int .i64) ([i20] : List Int) Tryz.underlying25 I3 dc_ rfl dc_ rfl rfl (fun _ _ => Kd.zaf _)) (cur2 (fun A21 c22 => za6 h (fun l24 ha25 h => ?_) rfl)))
  refine o_e rfl (e_app (i := 1) (j := 0) Tryz.underlying25 I3 rfl dc_ dc_ rfl rfl rfl rfl rfl ha25) (cur2 (fun A26 c27 => o_q rfl rfl (q_asg rfl) (o_end (zak (za1 (za0 (o_q rfl rfl (q_up rfl rfl (hr11.up hm12)) (o_q rfl rfl (za3 rfl) (o_end (zaj ys9.length (ys9, l24, i7 + 1, A26, c27) (by rw [← hk17]; exact Nat.lt_succ_self _) ⟨hr11.step, rfl, h⟩ ⟨rfl, rfl, trivial⟩ (fun w h => za8 [1] dc_ rfl w h) ?_))))))))))
  exact of_

def impl_ParseRegCode.l0 : (List ByteArray) → (List SRegOp) → Int → Option (List SRegOp)
 | [], l2191, i2194 => some l2191
 | y2195 :: ys2196, l2191, i2194 => (strings_Cut.f y2195 (⟨#[61]⟩ : ByteArray)).bind fun (s2224, s2225, b2226) => (strings_Cut.f s2225 (⟨#[42]⟩ : ByteArray)).bind fun (s2228, s2229, b2230) => (impl_numberOf.f s2224).bind fun i2413 => (impl_numberOf.f s2228).bind fun i2533 => (impl_numberOf.f s2229).bind fun i2653 => (ap l2191 ([(⟨i2413, i2533, i2653⟩ : SRegOp)] : List SRegOp)).bind fun l2832 => impl_ParseRegCode.l0 ys2196 l2832 (i2194 + 1)
def impl_ParseRegCode.f (k : Nat) (a0 : ByteArray) : Option (Int × (List Int) × (List SRegOp) × (List Int) × Bool) := (strings_SplitN.f a0 (⟨#[58]⟩ : ByteArray) 5).bind fun l4 => if (l4.length : Int) ≠ 4 then (some (0, ([] : List Int), ([] : List SRegOp), ([] : List Int), false)) else (((gt l4 0).bind fun y1165 => (impl_numberOf.f y1165).bind fun i1284 => (gt l4 1).bind fun y1404 => (impl_parts.f y1404 6).bind fun l1524 => (impl_numbersOf.f l1524).bind fun l1584 => (gt l4 3).bind fun y1704 => (impl_parts.f y1704 6).bind fun l1824 => (impl_numbersOf.f l1824).bind fun l1884 => some (i1284, l1584, l1884)).bind fun (i1090, l1091, l1094) => (gt l4 2).bind fun y2185 => (impl_parts.f y2185 40).bind fun l2187 => (impl_ParseRegCode.l0 l2187 ([] : List SRegOp) 0).bind fun l2191 => ((impl_IsRegCode.f k i1090 l1091 l2191 l1094).bind fun b2217 => if b2217 = true then ((impl_RegCode_text.f i1090 l1091 l2191 l1094).bind fun s2220 => some (decide (s2220 ≠ a0))) else (some true)).bind fun b2210 => if b2210 = true then (some (0, ([] : List Int), ([] : List SRegOp), ([] : List Int), false)) else (some (i1090, l1091, l2191, l1094, true)))
theorem impl_ParseRegCode.calls (k : Nat) {w0 ws : World} {P0 : Nat → Prop} (a0 : ByteArray) (Z : Below w0.heap.size w0 ws) (hF : Fr w0 ws P0 [] ws) (GW : Stable ws P0 GP) (r_1 : Int) (r_2 : List Int) (r_5 : List SRegOp) (r_8 : List Int) (r_11 : Bool) (h : impl_ParseRegCode.f k a0 = some (r_1, r_2, r_5, r_8, r_11)) :
  Calls Tryz.prog 16 #[.string a0] ws (Post1 w0 ws P0 (fun ((q_3, q_4, q_6, q_7, q_9, q_10) : (Option Addr) × Nat × (Option Addr) × Nat × (Option Addr) × Nat) => .tuple #[.agg #[.int .i64 r_1, .slice q_3 r_2.length q_4, .slice q_6 r_5.length q_7, .slice q_9 r_8.length q_10], .bool r_11]) (fun ((q_3, q_4, q_6, q_7, q_9, q_10) : (Option Addr) × Nat × (Option Addr) × Nat × (Option Addr) × Nat) => [row (Kd.int .i64) 3 (.slice q_3 r_2.length q_4) r_2, row zaq 84 (.slice q_6 r_5.length q_7) r_5, row (Kd.int .i64) 3 (.slice q_9 r_8.length q_10) r_8])) := by
 unfold impl_ParseRegCode.f at h
 refine enter Tryz.func16 rfl Tryz.ntmps16 rfl hF (c_seq (za0 (o_e rfl (zao V38 rfl) (fun g1 => o_q rfl rfl (q_asg rfl) (o_end (za1 (c_seq (za0 (o_q rfl rfl (za3 rfl) ?_)))))))))
 refine za6 h (fun l4 hx3 h => ?_) rfl
 refine o_e rfl (za7 0 Z Tryz.func40 N40 rfl rfl rfl (fun w P1 hF hB hS hT => strings_SplitN.calls a0 (⟨#[58]⟩ : ByteArray) 5 hB hF (hS _ GW) _ hx3)) (cur2 (fun A5 c6 => o_q rfl rfl (q_asg rfl) (o_end (za1 (c_seq (c_seq (za0 (o_q rfl rfl (za3 rfl) (o_q rfl rfl (q_len Tryz.underlying64 rfl) (o_q rfl rfl (q_neq rfl rfl) ?_))))))))))
 refine o_end (za1 (zas _ rfl (fun hb7 => ?_) (fun hb7 => ?_)))
 ·skip
  replace h := br_t hb7 h
  refine c_seq (za0 (o_q rfl rfl (zaw (vs := []) (cs := [.int .i64 0, .slice none 0 0, .slice none 0 0, .slice none 0 0]) rfl rfl) (o_e rfl (zae (i := 1) rfl rfl rfl Z38 rfl rfl) (fun _ => o_q rfl rfl (q_asg rfl) (o_end (za1 (c_ret (za9 (x_nil (Kd.int .i64) 3 ?_)))))))))
  refine x_nil zaq 84 (x_nil (Kd.int .i64) 3 ?_)
  have e0_ := si_ h; clear h
  obtain ⟨rfl, e1_⟩ := Prod.mk.inj e0_
  obtain ⟨rfl, e2_⟩ := Prod.mk.inj e1_
  obtain ⟨rfl, e3_⟩ := Prod.mk.inj e2_
  obtain ⟨rfl, e4_⟩ := Prod.mk.inj e3_
  subst e4_
  exact x_r2 (none, 0, none, 0, none, 0) Tryz.results16 (zb8 rfl G38 Z38 (fun w h => h.zac (i := 4) rfl) rfl) (zad rfl) rfl (fun w h => za8 [2, 1, 0] dc_ rfl w h)
 ·skip
  replace h := br_f hb7 h
  refine zal (za1 (za6 h (fun o1097 hl1098 hR1099 => ?_) rfl))
  clear h
  refine c_cutJ (σ := Int × (List Int) × (List Int) × Nat × (Option Addr) × Nat × (Option Addr) × Nat) (fun (i1090, l1091, l1094, g1089, A1092, c1093, A1095, c1096) => some (i1090, l1091, l1094) = some o1097) [5, 20, 21, 22, 23, 24, 25, 26, 27, 28, 29, 30, 31, 32, 33, 34] (fun (i1090, l1091, l1094, g1089, A1092, c1093, A1095, c1096) => [(5, .pointer (some ⟨g1089, 0, none⟩))]) (fun (i1090, l1091, l1094, g1089, A1092, c1093, A1095, c1096) => [box g1 38 #[.int .i64 0, .slice none 0 0, .slice none 0 0, .slice none 0 0], row Kd.string 9 (.slice A5 l4.length c6) l4, box g1089 38 #[.int .i64 i1090, .slice A1092 l1091.length c1093, .slice none 0 0, .slice A1095 l1094.length c1096], row (Kd.int .i64) 3 (.slice A1092 l1091.length c1093) l1091, row (Kd.int .i64) 3 (.slice A1095 l1094.length c1096) l1094]) ?_ ?_
  ·skip
   have h := hl1098; clear hl1098
   clear hR1099
   refine za6 h (fun y1165 hg1164 h => ?_) rfl
   refine za6 h (fun i1284 hx1283 h => ?_) rfl
   refine za6 h (fun y1404 hg1403 h => ?_) rfl
   refine za6 h (fun l1524 hx1523 h => ?_) rfl
   refine za6 h (fun l1584 hx1583 h => ?_) rfl
   refine za6 h (fun y1704 hg1703 h => ?_) rfl
   refine za6 h (fun l1824 hx1823 h => ?_) rfl
   refine za6 h (fun l1884 hx1883 h => ?_) rfl
   refine a_start (ds := []) MO rfl (zaa 0 rfl rfl rfl kr_ (fun _ _ _ h => h) (za3 rfl) (a_fact (p := Sh A5 l4.length l4.length) (fun w h => f_sh (dk := Kd.string) h (fun w h => h.zat (i := 0) rfl)) (fun hq1163 => zaa 1 rfl rfl rfl kr_ (fun _ _ _ h => h) (q_ix Tryz.underlying64 Z9 rfl rfl hq1163 hg1164) (zau 2 rfl rfl rfl kr_ (fun _ _ _ h => h) (fun w h => h) (q_lde (off := 0) Y9 rfl rfl (fun w h => h.zat (i := 0) rfl) hg1164 (fun _ _ h => h) rfl) (zaa 4 rfl rfl rfl kr_ (fun _ _ _ h => h) (za3 rfl) (zaa 5 rfl rfl rfl kr_ (fun _ _ _ h => h) (q_ix Tryz.underlying64 Z9 rfl rfl hq1163 hg1403) (zau 6 rfl rfl rfl kr_ (fun _ _ _ h => h) (fun w h => h) (q_lde (off := 0) Y9 rfl rfl (fun w h => h.zat (i := 0) rfl) hg1403 (fun _ _ h => h) rfl) (zaa 9 rfl rfl rfl kr_ (fun _ _ _ h => h) (za3 rfl) (zaa 10 rfl rfl rfl kr_ (fun _ _ _ h => h) (q_ix Tryz.underlying64 Z9 rfl rfl hq1163 hg1703) ?_)))))))))
   refine zau 11 rfl rfl rfl kr_ (fun _ _ _ h => h) (fun w h => h) (q_lde (off := 0) Y9 rfl rfl (fun w h => h.zat (i := 0) rfl) hg1703 (fun _ _ h => h) rfl) (a_two 3 15 rfl rfl rfl rfl kr_ rfl rfl (za7 0 Z Tryz.func41 N41 rfl rfl rfl (fun w P1 hF hB hS hT => impl_numberOf.calls y1165 hB hF (hS _ GW) _ hx1283)) (fun s w h => h) (zao V38 rfl) (fun s w h => za5 [some 1, some 2] dc_ w h rfl) (fun _ => ?_) (fun g2003 => ?_))
   ·skip
    refine a_two 7 15 rfl rfl rfl rfl kr_ rfl rfl (za7 0 Z Tryz.func43 N43 rfl rfl rfl (fun w P1 hF hB hS hT => impl_parts.calls y1404 6 hB hF (hS _ GW) _ hx1523)) (fun s w h => za5 [some 1, some 2] dc_ w h rfl) (zao V38 rfl) (fun s w h => za5 [some 1, some 2] dc_ w h rfl) (cur2 (fun A1525 c1526 => ?_)) (fun g2003 => ?_)
    ·skip
     refine a_two 8 15 rfl rfl rfl rfl kr_ rfl rfl (za7 0 Z Tryz.func42 N42 rfl rfl rfl (fun w P1 hF hB hS hT => impl_numbersOf.calls A1525 c1526 l1524.length l1524 hB hF (hT 0 _ rfl).row (hT 0 _ rfl).cap (hS _ GW) _ hx1583)) (fun s w h => za5 [some 2, some 3] dc_ w h rfl) (zao V38 rfl) (fun s w h => za5 [some 2, some 3] dc_ w h rfl) (cur2 (fun A1585 c1586 => ?_)) (fun g2003 => ?_)
     ·skip
      refine a_two 12 15 rfl rfl rfl rfl kr_ rfl rfl (za7 0 Z Tryz.func43 N43 rfl rfl rfl (fun w P1 hF hB hS hT => impl_parts.calls y1704 6 hB hF (hS _ GW) _ hx1823)) (fun s w h => za5 [some 3, some 4] dc_ w h rfl) (zao V38 rfl) (fun s w h => za5 [some 3, some 4] dc_ w h rfl) (cur2 (fun A1825 c1826 => ?_)) (fun g2003 => ?_)
      ·skip
       refine a_two 13 15 rfl rfl rfl rfl kr_ rfl rfl (za7 0 Z Tryz.func42 N42 rfl rfl rfl (fun w P1 hF hB hS hT => impl_numbersOf.calls A1825 c1826 l1824.length l1824 hB hF (hT 0 _ rfl).row (hT 0 _ rfl).cap (hS _ GW) _ hx1883)) (fun s w h => za5 [some 4, some 5] dc_ w h rfl) (zao V38 rfl) (fun s w h => za5 [some 4, some 5] dc_ w h rfl) (cur2 (fun A1885 c1886 => ?_)) (fun g2003 => ?_)
       ·skip
        refine zaa 14 rfl rfl rfl kr_ (fun _ _ _ h => h) (zaw (vs := [(0, .int .i64 i1284), (1, .slice A1585 l1584.length c1586), (3, .slice A1885 l1884.length c1886)]) (cs := [.int .i64 i1284, .slice A1585 l1584.length c1586, .slice none 0 0, .slice A1885 l1884.length c1886]) rfl rfl) (a_one 15 rfl rfl kr_ rfl (zao V38 rfl) (fun s w h => za5 [some 5, some 6] dc_ w h rfl) (fun g2003 => a_one 16 rfl rfl kr_ rfl (zae (i := 0) rfl rfl rfl Z38 rfl rfl) (fun s w h => za5 [some 5, some 6] dc_ w h rfl) (fun _ => zar kr_ (zam (i1284, l1584, l1884, g2003, A1585, c1586, A1885, c1886) h ⟨rfl, trivial⟩ (fun w h => za8 [6, 5, 0, 3, 1] dc_ rfl w h) ?_))))
        exact of_
       ·skip
        refine a_one 13 rfl rfl kr_ rfl (za7 0 Z Tryz.func42 N42 rfl rfl rfl (fun w P1 hF hB hS hT => impl_numbersOf.calls A1825 c1826 l1824.length l1824 hB hF (hT 1 _ rfl).row (hT 1 _ rfl).cap (hS _ GW) _ hx1883)) (fun s w h => za5 [some 5, some 6] dc_ w h rfl) (cur2 (fun A1885 c1886 => zaa 14 rfl rfl rfl kr_ (fun _ _ _ h => h) (zaw (vs := [(0, .int .i64 i1284), (1, .slice A1585 l1584.length c1586), (3, .slice A1885 l1884.length c1886)]) (cs := [.int .i64 i1284, .slice A1585 l1584.length c1586, .slice none 0 0, .slice A1885 l1884.length c1886]) rfl rfl) (a_one 16 rfl rfl kr_ rfl (zae (i := 1) rfl rfl rfl Z38 rfl rfl) (fun s w h => za5 [some 5, some 6] dc_ w h rfl) (fun _ => zar kr_ (zam (i1284, l1584, l1884, g2003, A1585, c1586, A1885, c1886) h ⟨rfl, trivial⟩ (fun w h => za8 [6, 5, 1, 3, 0] dc_ rfl w h) ?_)))))
        exact of_
      ·skip
       refine a_one 12 rfl rfl kr_ rfl (za7 0 Z Tryz.func43 N43 rfl rfl rfl (fun w P1 hF hB hS hT => impl_parts.calls y1704 6 hB hF (hS _ GW) _ hx1823)) (fun s w h => za5 [some 4, some 5] dc_ w h rfl) (cur2 (fun A1825 c1826 => a_one 13 rfl rfl kr_ rfl (za7 0 Z Tryz.func42 N42 rfl rfl rfl (fun w P1 hF hB hS hT => impl_numbersOf.calls A1825 c1826 l1824.length l1824 hB hF (hT 0 _ rfl).row (hT 0 _ rfl).cap (hS _ GW) _ hx1883)) (fun s w h => za5 [some 5, some 6] dc_ w h rfl) (cur2 (fun A1885 c1886 => zaa 14 rfl rfl rfl kr_ (fun _ _ _ h => h) (zaw (vs := [(0, .int .i64 i1284), (1, .slice A1585 l1584.length c1586), (3, .slice A1885 l1884.length c1886)]) (cs := [.int .i64 i1284, .slice A1585 l1584.length c1586, .slice none 0 0, .slice A1885 l1884.length c1886]) rfl rfl) (a_one 16 rfl rfl kr_ rfl (zae (i := 2) rfl rfl rfl Z38 rfl rfl) (fun s w h => za5 [some 5, some 6] dc_ w h rfl) (fun _ => zar kr_ (zam (i1284, l1584, l1884, g2003, A1585, c1586, A1885, c1886) h ⟨rfl, trivial⟩ (fun w h => za8 [6, 5, 2, 3, 0] dc_ rfl w h) ?_)))))))
       exact of_
     ·skip
      refine a_one 8 rfl rfl kr_ rfl (za7 0 Z Tryz.func42 N42 rfl rfl rfl (fun w P1 hF hB hS hT => impl_numbersOf.calls A1525 c1526 l1524.length l1524 hB hF (hT 1 _ rfl).row (hT 1 _ rfl).cap (hS _ GW) _ hx1583)) (fun s w h => za5 [some 3, some 4] dc_ w h rfl) (cur2 (fun A1585 c1586 => a_one 12 rfl rfl kr_ rfl (za7 0 Z Tryz.func43 N43 rfl rfl rfl (fun w P1 hF hB hS hT => impl_parts.calls y1704 6 hB hF (hS _ GW) _ hx1823)) (fun s w h => za5 [some 4, some 5] dc_ w h rfl) (cur2 (fun A1825 c1826 => a_one 13 rfl rfl kr_ rfl (za7 0 Z Tryz.func42 N42 rfl rfl rfl (fun w P1 hF hB hS hT => impl_numbersOf.calls A1825 c1826 l1824.length l1824 hB hF (hT 0 _ rfl).row (hT 0 _ rfl).cap (hS _ GW) _ hx1883)) (fun s w h => za5 [some 5, some 6] dc_ w h rfl) (cur2 (fun A1885 c1886 => zaa 14 rfl rfl rfl kr_ (fun _ _ _ h => h) (zaw (vs := [(0, .int .i64 i1284), (1, .slice A1585 l1584.length c1586), (3, .slice A1885 l1884.length c1886)]) (cs := [.int .i64 i1284, .slice A1585 l1584.length c1586, .slice none 0 0, .slice A1885 l1884.length c1886]) rfl rfl) (a_one 16 rfl rfl kr_ rfl (zae (i := 3) rfl rfl rfl Z38 rfl rfl) (fun s w h => za5 [some 5, some 6] dc_ w h rfl) (fun _ => zar kr_ (zam (i1284, l1584, l1884, g2003, A1585, c1586, A1885, c1886) h ⟨rfl, trivial⟩ (fun w h => za8 [6, 5, 3, 2, 0] dc_ rfl w h) ?_)))))))))
      exact of_
    ·skip
     refine a_one 7 rfl rfl kr_ rfl (za7 0 Z Tryz.func43 N43 rfl rfl rfl (fun w P1 hF hB hS hT => impl_parts.calls y1404 6 hB hF (hS _ GW) _ hx1523)) (fun s w h => za5 [some 2, some 3] dc_ w h rfl) (cur2 (fun A1525 c1526 => a_one 8 rfl rfl kr_ rfl (za7 0 Z Tryz.func42 N42 rfl rfl rfl (fun w P1 hF hB hS hT => impl_numbersOf.calls A1525 c1526 l1524.length l1524 hB hF (hT 0 _ rfl).row (hT 0 _ rfl).cap (hS _ GW) _ hx1583)) (fun s w h => za5 [some 3, some 4] dc_ w h rfl) (cur2 (fun A1585 c1586 => a_one 12 rfl rfl kr_ rfl (za7 0 Z Tryz.func43 N43 rfl rfl rfl (fun w P1 hF hB hS hT => impl_parts.calls y1704 6 hB hF (hS _ GW) _ hx1823)) (fun s w h => za5 [some 4, some 5] dc_ w h rfl) (cur2 (fun A1825 c1826 => a_one 13 rfl rfl kr_ rfl (za7 0 Z Tryz.func42 N42 rfl rfl rfl (fun w P1 hF hB hS hT => impl_numbersOf.calls A1825 c1826 l1824.length l1824 hB hF (hT 0 _ rfl).row (hT 0 _ rfl).cap (hS _ GW) _ hx1883)) (fun s w h => za5 [some 5, some 6] dc_ w h rfl) (cur2 (fun A1885 c1886 => zaa 14 rfl rfl rfl kr_ (fun _ _ _ h => h) (zaw (vs := [(0, .int .i64 i1284), (1, .slice A1585 l1584.length c1586), (3, .slice A1885 l1884.length c1886)]) (cs := [.int .i64 i1284, .slice A1585 l1584.length c1586, .slice none 0 0, .slice A1885 l1884.length c1886]) rfl rfl) (a_one 16 rfl rfl kr_ rfl (zae (i := 4) rfl rfl rfl Z38 rfl rfl) (fun s w h => za5 [some 5, some 6] dc_ w h rfl) (fun _ => zar kr_ (zam (i1284, l1584, l1884, g2003, A1585, c1586, A1885, c1886) h ⟨rfl, trivial⟩ (fun w h => za8 [6, 5, 4, 2, 0] dc_ rfl w h) ?_)))))))))))
     exact of_
   ·skip
    refine a_one 3 rfl rfl kr_ rfl (za7 0 Z Tryz.func41 N41 rfl rfl rfl (fun w P1 hF hB hS hT => impl_numberOf.calls y1165 hB hF (hS _ GW) _ hx1283)) (fun s w h => za5 [some 1, some 2] dc_ w h rfl) (fun _ => a_one 7 rfl rfl kr_ rfl (za7 0 Z Tryz.func43 N43 rfl rfl rfl (fun w P1 hF hB hS hT => impl_parts.calls y1404 6 hB hF (hS _ GW) _ hx1523)) (fun s w h => za5 [some 2, some 3] dc_ w h rfl) (cur2 (fun A1525 c1526 => a_one 8 rfl rfl kr_ rfl (za7 0 Z Tryz.func42 N42 rfl rfl rfl (fun w P1 hF hB hS hT => impl_numbersOf.calls A1525 c1526 l1524.length l1524 hB hF (hT 0 _ rfl).row (hT 0 _ rfl).cap (hS _ GW) _ hx1583)) (fun s w h => za5 [some 3, some 4] dc_ w h rfl) (cur2 (fun A1585 c1586 => a_one 12 rfl rfl kr_ rfl (za7 0 Z Tryz.func43 N43 rfl rfl rfl (fun w P1 hF hB hS hT => impl_parts.calls y1704 6 hB hF (hS _ GW) _ hx1823)) (fun s w h => za5 [some 4, some 5] dc_ w h rfl) (cur2 (fun A1825 c1826 => a_one 13 rfl rfl kr_ rfl (za7 0 Z Tryz.func42 N42 rfl rfl rfl (fun w P1 hF hB hS hT => impl_numbersOf.calls A1825 c1826 l1824.length l1824 hB hF (hT 0 _ rfl).row (hT 0 _ rfl).cap (hS _ GW) _ hx1883)) (fun s w h => za5 [some 5, some 6] dc_ w h rfl) (cur2 (fun A1885 c1886 => zaa 14 rfl rfl rfl kr_ (fun _ _ _ h => h) (zaw (vs := [(0, .int .i64 i1284), (1, .slice A1585 l1584.length c1586), (3, .slice A1885 l1884.length c1886)]) (cs := [.int .i64 i1284, .slice A1585 l1584.length c1586, .slice none 0 0, .slice A1885 l1884.length c1886]) rfl rfl) (a_one 16 rfl rfl kr_ rfl (zae (i := 4) rfl rfl rfl Z38 rfl rfl) (fun s w h => za5 [some 5, some 6] dc_ w h rfl) (fun _ => zar kr_ (zam (i1284, l1584, l1884, g2003, A1585, c1586, A1885, c1886) h ⟨rfl, trivial⟩ (fun w h => za8 [6, 5, 4, 2, 0] dc_ rfl w h) ?_))))))))))))
    exact of_
  ·skip
   refine (cur8 (fun i1090 l1091 l1094 g1089 A1092 c1093 A1095 c1096 => fun U1100 hJ1101 => ?_))
   have e_ := si_ hJ1101; have h := hR1099; rw [← e_] at h; clear e_ hJ1101 hR1099 hl1098
   refine c_seq (c_seq (za0 (o_q rfl rfl (za3 rfl) (zb0 (p := Sh A5 l4.length l4.length) (fun w h => f_sh (dk := Kd.string) h (fun w h => h.zat (i := 1) rfl)) (fun hq2183 => za6 h (fun y2185 hg2184 h => ?_) rfl)))))
   refine o_q rfl rfl (q_ix Tryz.underlying64 Z9 rfl rfl hq2183 hg2184) (o_q rfl rfl (q_lde (off := 0) Y9 rfl rfl (fun w h => h.zat (i := 1) rfl) hg2184 (fun _ _ h => h) rfl) (za6 h (fun l2187 hx2186 h => ?_) rfl))
   refine o_e rfl (za7 0 Z Tryz.func43 N43 rfl rfl rfl (fun w P1 hF hB hS hT => impl_parts.calls y2185 40 hB hF (hS _ GW) _ hx2186)) (cur2 (fun A2188 c2189 => o_q rfl rfl (q_len Tryz.underlying64 rfl) (o_q rfl rfl (za3 rfl) (o_end (za1 (zah (c_nil zaq 84 (za6 h (fun o2202 hl2201 hR2200 => ?_) rfl))))))))
   clear h
   refine c_fact (p := l2187.length ≤ 9223372036854775807) (fun w h => (h.zat (i := 1) rfl).2.1) (fun hm2199 => zax (σ := (List ByteArray) × (List SRegOp) × Int × (Option Addr) × Nat) (fun k2197 ((ys2196, l2191, i2194, A2192, c2193) : (List ByteArray) × (List SRegOp) × Int × (Option Addr) × Nat) => Rg l2187 i2194 ys2196 ∧ ys2196.length = k2197 ∧ impl_ParseRegCode.l0 ys2196 l2191 i2194 = some o2202) [7, 8, 9, 10, 11, 12, 13, 40, 41, 42, 43, 44, 45, 46, 47, 48, 49, 50, 51, 52, 53, 54, 55, 56, 57, 58, 59, 60, 61, 62, 63, 64, 65, 66, 67, 68] (fun ((ys2196, l2191, i2194, A2192, c2193) : (List ByteArray) × (List SRegOp) × Int × (Option Addr) × Nat) => [(40, .int .i64 i2194)]) (fun ((ys2196, l2191, i2194, A2192, c2193) : (List ByteArray) × (List SRegOp) × Int × (Option Addr) × Nat) => [row zaq 84 (.slice A2192 l2191.length c2193) l2191, row Kd.string 9 (.slice A2188 l2187.length c2189) l2187, box g1 38 #[.int .i64 0, .slice none 0 0, .slice none 0 0, .slice none 0 0], row Kd.string 9 (.slice A5 l4.length c6) l4, box g1089 38 #[.int .i64 i1090, .slice A1092 l1091.length c1093, .slice A2192 l2191.length c2193, .slice A1095 l1094.length c1096], row (Kd.int .i64) 3 (.slice A1092 l1091.length c1093) l1091, row (Kd.int .i64) 3 (.slice A1095 l1094.length c1096) l1094]) l2187.length (l2187, ([] : List SRegOp), 0, none, 0) ⟨Rg.start _, rfl, hl2201⟩ ⟨rfl, trivial⟩ (fun w h => h) (fun k2197 => cur5 (listC (fun l2191 i2194 A2192 c2193 U2203 hJ_ => ?_) (fun y2195 ys2196 l2191 i2194 A2192 c2193 U2203 hJ_ => ?_))))
   ·skip
    clear hl2201
    have hr2198 := hJ_.1; have hk2204 := hJ_.2.1; have h := hJ_.2.2; clear hJ_
    replace h : impl_ParseRegCode.l0 [] l2191 i2194 = some o2202 := h
    rw [impl_ParseRegCode.l0] at h
    refine c_seq (za0 (o_q rfl rfl (q_lss rfl rfl) (o_end (za1 (c_seq (zb1 (vb_ hr2198.ge) (zb2 (zab (zab ?_)))))))))
    have e_ := si_ h; replace h := hR2200; rw [← e_] at h; clear e_
    refine x_hit (za1 (c_seq (za6 h (fun o2211 hl2212 hR2213 => ?_) rfl)))
    clear h
    refine c_cutJ (σ := Bool) (fun b2210 => some b2210 = some o2211) [69, 70, 71, 72, 73, 74, 75, 76] (fun b2210 => [(76, .bool b2210)]) (fun b2210 => [box g1 38 #[.int .i64 0, .slice none 0 0, .slice none 0 0, .slice none 0 0], box g1089 38 #[.int .i64 i1090, .slice A1092 l1091.length c1093, .slice A2192 l2191.length c2193, .slice A1095 l1094.length c1096], row (Kd.int .i64) 3 (.slice A1092 l1091.length c1093) l1091, row zaq 84 (.slice A2192 l2191.length c2193) l2191, row (Kd.int .i64) 3 (.slice A1095 l1094.length c1096) l1094, row Kd.string 9 (.slice A2188 l2187.length c2189) l2187, row Kd.string 9 (.slice A5 l4.length c6) l4]) ?_ ?_
    ·skip
     have h := hl2212; clear hl2212
     clear hR2213
     refine za0 (o_q rfl rfl (q_ldB G38 Z38 rfl (fun w h => h.zac (i := 4) rfl) rfl) (za6 h (fun b2217 hx2216 h => ?_) rfl))
     refine o_e rfl (za7 0 Z Tryz.func26 N26 rfl rfl rfl (fun w P1 hF hB hS hT => impl_IsRegCode.calls k i1090 A1092 c1093 l1091.length l1091 A2192 c2193 l2191.length l2191 A1095 c1096 l1094.length l1094 hB hF (hT 5 _ rfl).row (hT 5 _ rfl).cap (hT 0 _ rfl).row (hT 0 _ rfl).cap (hT 6 _ rfl).row (hT 6 _ rfl).cap _ hx2216)) (fun _ => o_q rfl rfl (q_not rfl) (o_q rfl rfl (za3 rfl) (byB b2217 (fun hb2218 => ?_) (fun hb2218 => ?_))))
     ·replace h := bb_t hb2218 h
      refine za6 h (fun s2220 hx2219 h => ?_) rfl
      refine o_ew (za4 rfl rfl rfl (congrArg (fun b => Value.bool (!(b))) hb2218)) (za7 0 Z Tryz.func58 N58 rfl rfl rfl (fun w P1 hF hB hS hT => impl_RegCode_text.calls g1089 i1090 A1092 c1093 l1091.length l1091 A2192 c2193 l2191.length l2191 A1095 c1096 l1094.length l1094 hB hF (hT 5 _ rfl).row (hT 5 _ rfl).cap (hT 0 _ rfl).row (hT 0 _ rfl).cap (hT 6 _ rfl).row (hT 6 _ rfl).cap (hT 4 _ rfl).box _ hx2219)) (fun _ => o_w (za4 rfl rfl rfl (congrArg (fun b => Value.bool (!(b))) hb2218)) rfl (za3 rfl) (o_w (za4 rfl rfl rfl (congrArg (fun b => Value.bool (!(b))) hb2218)) rfl (q_sneq rfl rfl) (o_q rfl rfl (zai false (congrArg (fun b => Value.bool (!(b))) hb2218) rfl) (o_end (zam (decide (s2220 ≠ a0)) h ⟨rfl, trivial⟩ (fun w h => za8 [2, 4, 5, 0, 6, 1, 3] dc_ rfl w h) ?_)))))
      exact of_
     ·replace h := bb_f hb2218 h
      refine o_n (d := 73) (za2 rfl rfl rfl (congrArg (fun b => Value.bool (!(b))) hb2218) rfl) (Eq.refl (some 73)) (o_n (d := 74) (za2 rfl rfl rfl (congrArg (fun b => Value.bool (!(b))) hb2218) rfl) (Eq.refl (some 74)) (o_n (d := 75) (za2 rfl rfl rfl (congrArg (fun b => Value.bool (!(b))) hb2218) rfl) (Eq.refl (some 75)) (o_q rfl rfl (zai true (congrArg (fun b => Value.bool (!(b))) hb2218) rfl) (o_end (zam true h ⟨rfl, trivial⟩ (fun w h => za8 [2, 4, 5, 0, 6, 1, 3] dc_ rfl w h) ?_)))))
      exact of_
    ·skip
     refine (fun b2210 => fun U2214 hJ2215 => ?_)
     have e_ := si_ hJ2215; have h := hR2213; rw [← e_] at h; clear e_ hJ2215 hR2213 hl2212
     refine zas _ rfl (fun hb2221 => ?_) (fun hb2221 => ?_)
     ·skip
      replace h := bb_t hb2221 h
      refine c_seq (za0 (o_q rfl rfl (zaw (vs := []) (cs := [.int .i64 0, .slice none 0 0, .slice none 0 0, .slice none 0 0]) rfl rfl) (o_e rfl (zae (i := 0) rfl rfl rfl Z38 rfl rfl) (fun _ => o_q rfl rfl (q_asg rfl) (o_end (za1 (c_ret (za9 (x_nil (Kd.int .i64) 3 ?_)))))))))
      refine x_nil zaq 84 (x_nil (Kd.int .i64) 3 ?_)
      have e0_ := si_ h; clear h
      obtain ⟨rfl, e1_⟩ := Prod.mk.inj e0_
      obtain ⟨rfl, e2_⟩ := Prod.mk.inj e1_
      obtain ⟨rfl, e3_⟩ := Prod.mk.inj e2_
      obtain ⟨rfl, e4_⟩ := Prod.mk.inj e3_
      subst e4_
      exact x_r2 (none, 0, none, 0, none, 0) Tryz.results16 (zb8 rfl G38 Z38 (fun w h => h.zac (i := 3) rfl) rfl) (zad rfl) rfl (fun w h => za8 [2, 1, 0] dc_ rfl w h)
     ·skip
      replace h := bb_f hb2221 h
      refine zal (za1 (c_seq (za0 (o_q rfl rfl (q_ldB G38 Z38 rfl (fun w h => h.zac (i := 1) rfl) rfl) (o_e rfl (zae (i := 0) rfl rfl rfl Z38 rfl rfl) (fun _ => o_q rfl rfl (q_asg rfl) (o_end (za1 (c_ret ?_)))))))))
      have e0_ := si_ h; clear h
      obtain ⟨rfl, e1_⟩ := Prod.mk.inj e0_
      obtain ⟨rfl, e2_⟩ := Prod.mk.inj e1_
      obtain ⟨rfl, e3_⟩ := Prod.mk.inj e2_
      obtain ⟨rfl, e4_⟩ := Prod.mk.inj e3_
      subst e4_
      exact x_r2 (A1092, c1093, A2192, c2193, A1095, c1096) Tryz.results16 (zb8 rfl G38 Z38 (fun w h => h.zac (i := 0) rfl) rfl) (zad rfl) rfl (fun w h => za8 [2, 3, 4] dc_ rfl w h)
   ·skip
    clear hl2201
    have hr2198 := hJ_.1; have hk2204 := hJ_.2.1; have h := hJ_.2.2; clear hJ_
    replace h : impl_ParseRegCode.l0 (y2195 :: ys2196) l2191 i2194 = some o2202 := h
    rw [impl_ParseRegCode.l0] at h
    refine c_seq (za0 (o_q rfl rfl (q_lss rfl rfl) (o_end (za1 (c_seq (zay (vb_ hr2198.lt) (zal (za1 (c_seq ?_)))))))))
    refine zah (c_seq (za0 (zb0 (p := Sh A2188 l2187.length l2187.length) (fun w h => f_sh (dk := Kd.string) h (fun w h => h.zat (i := 1) rfl)) (fun hq2222 => o_q rfl rfl (q_ix Tryz.underlying64 Z9 rfl rfl hq2222 hr2198.get) (o_q rfl rfl (q_lde (off := 0) Y9 rfl rfl (fun w h => h.zat (i := 1) rfl) hr2198.get (fun _ _ h => h) rfl) (o_q rfl rfl (q_asg rfl) (o_end (za1 (c_seq ?_)))))))))
    refine za0 (o_q rfl rfl (za3 rfl) (bindE3 h (fun s2224 s2225 b2226 hx2223 h => ?_) rfl))
    refine o_e rfl (za7 0 Z Tryz.func44 N44 rfl rfl rfl (fun w P1 hF hB hS hT => strings_Cut.calls y2195 (⟨#[61]⟩ : ByteArray) hB hF (hS _ GW) _ _ _ hx2223)) (fun _ => o_q rfl rfl (za3 rfl) (o_q rfl rfl (q_ext rfl rfl) (o_q rfl rfl (q_ext rfl rfl) (o_q rfl rfl (q_ext rfl rfl) (o_q rfl rfl (q_asg rfl) (o_q rfl rfl (q_asg rfl) (o_q rfl rfl (q_asg rfl) (o_end (za1 ?_)))))))))
    refine c_seq (za0 (o_q rfl rfl (za3 rfl) (bindE3 h (fun s2228 s2229 b2230 hx2227 h => ?_) rfl)))
    refine o_e rfl (za7 0 Z Tryz.func44 N44 rfl rfl rfl (fun w P1 hF hB hS hT => strings_Cut.calls s2225 (⟨#[42]⟩ : ByteArray) hB hF (hS _ GW) _ _ _ hx2227)) (fun _ => o_q rfl rfl (za3 rfl) (o_q rfl rfl (q_ext rfl rfl) (o_q rfl rfl (q_ext rfl rfl) (o_q rfl rfl (q_ext rfl rfl) (o_q rfl rfl (q_asg rfl) (o_q rfl rfl (q_asg rfl) (o_q rfl rfl (q_asg rfl) (o_end (za1 ?_)))))))))
    refine za6 h (fun i2413 hx2412 h => ?_) rfl
    refine za6 h (fun i2533 hx2532 h => ?_) rfl
    refine za6 h (fun i2653 hx2652 h => ?_) rfl
    refine za6 h (fun l2832 ha2833 h => ?_) rfl
    refine a_startS (ds := []) [none, some 1, some 2, some 3, none, some 5, some 6] MO rfl (zaa 0 rfl rfl rfl kr_ (fun _ _ _ h => h) (q_f F38_2 rfl) (zaa 2 rfl rfl rfl kr_ (fun _ _ _ h => h) (za3 rfl) (zaa 4 rfl rfl rfl kr_ (fun _ _ _ h => h) (za3 rfl) (zaa 6 rfl rfl rfl kr_ (fun _ _ _ h => h) (za3 rfl) (a_two 1 3 rfl rfl rfl rfl kr_ rfl rfl (ev_q rfl (q_ldb Y36 rfl (fun w h => h.zac (i := 4) rfl) rfl)) (fun s w h => za5 [none, some 1, some 2, some 3, none, some 5, some 6] dc_ w h rfl) (za7 0 Z Tryz.func41 N41 rfl rfl rfl (fun w P1 hF hB hS hT => impl_numberOf.calls s2224 hB hF (hS _ GW) _ hx2412)) (fun s w h => za5 [none, some 1, some 2, some 3, none, some 5, some 6] dc_ w h rfl) (fun _ => ?_) (fun _ => ?_))))))
    ·skip
     refine a_one 3 rfl rfl kr_ rfl (za7 0 Z Tryz.func41 N41 rfl rfl rfl (fun w P1 hF hB hS hT => impl_numberOf.calls s2224 hB hF (hS _ GW) _ hx2412)) (fun s w h => za5 [none, some 1, some 2, some 3, none, some 5, some 6] dc_ w h rfl) (fun _ => a_one 5 rfl rfl kr_ rfl (za7 0 Z Tryz.func41 N41 rfl rfl rfl (fun w P1 hF hB hS hT => impl_numberOf.calls s2228 hB hF (hS _ GW) _ hx2532)) (fun s w h => za5 [none, some 1, some 2, some 3, none, some 5, some 6] dc_ w h rfl) (fun _ => a_one 7 rfl rfl kr_ rfl (za7 0 Z Tryz.func41 N41 rfl rfl rfl (fun w P1 hF hB hS hT => impl_numberOf.calls s2229 hB hF (hS _ GW) _ hx2652)) (fun s w h => za5 [none, some 1, some 2, some 3, none, some 5, some 6] dc_ w h rfl) (fun _ => zaa 8 rfl rfl rfl kr_ (fun _ _ _ h => h) (zaw (vs := [(0, .int .i64 i2413), (1, .int .i64 i2533), (2, .int .i64 i2653)]) (cs := [.int .i64 i2413, .int .i64 i2533, .int .i64 i2653]) rfl rfl) (a_one 9 rfl rfl kr_ rfl (e_lit (vs := [(0, .agg #[.int .i64 i2413, .int .i64 i2533, .int .i64 i2653])]) (cs := [.int .i64 i2413, .int .i64 i2533, .int .i64 i2653]) zaq ([(⟨i2413, i2533, i2653⟩ : SRegOp)] : List SRegOp) Tryz.underlying36 I84 dc_ rfl dc_ rfl rfl (fun _ _ => zb4 _)) (fun s w h => za5 [none, some 2, some 3, some 4, none, some 6, some 7] dc_ w h rfl) (cur2 (fun A2772 c2773 => a_one 10 rfl rfl kr_ rfl (e_app (i := 1) (j := 0) Tryz.underlying36 I84 rfl dc_ dc_ rfl rfl rfl rfl rfl ha2833) (fun s w h => za5 [none, some 2, some 3, some 4, none, some 6, some 7] dc_ w h rfl) (cur2 (fun A2834 c2835 => zaa 11 rfl rfl rfl kr_ (fun _ _ _ h => h) (q_f F38_2 rfl) (a_one 12 rfl rfl kr_ rfl (zav (i := 5) rfl rfl rfl rfl Z36 rfl rfl) (fun s w h => za5 [none, some 2, some 3, some 4, none, some 6, some 7] dc_ w h rfl) (fun _ => zar kr_ (zak ?_)))))))))))
     refine za1 (za0 (o_q rfl rfl (q_up rfl rfl (hr2198.up hm2199)) (o_q rfl rfl (za3 rfl) (o_end (zaj ys2196.length (ys2196, l2832, i2194 + 1, A2834, c2835) (by rw [← hk2204]; exact Nat.lt_succ_self _) ⟨hr2198.step, rfl, h⟩ ⟨rfl, trivial⟩ (fun w h => za8 [1, 2, 3, 4, 5, 6, 7] dc_ rfl w h) ?_)))))
     exact of_
    ·skip
     refine a_two 1 5 rfl rfl rfl rfl kr_ rfl rfl (ev_q rfl (q_ldb Y36 rfl (fun w h => h.zac (i := 4) rfl) rfl)) (fun s w h => za5 [none, some 1, some 2, some 3, none, some 5, some 6] dc_ w h rfl) (za7 0 Z Tryz.func41 N41 rfl rfl rfl (fun w P1 hF hB hS hT => impl_numberOf.calls s2228 hB hF (hS _ GW) _ hx2532)) (fun s w h => za5 [none, some 1, some 2, some 3, none, some 5, some 6] dc_ w h rfl) (fun _ => ?_) (fun _ => ?_)
     ·skip
      refine a_one 5 rfl rfl kr_ rfl (za7 0 Z Tryz.func41 N41 rfl rfl rfl (fun w P1 hF hB hS hT => impl_numberOf.calls s2228 hB hF (hS _ GW) _ hx2532)) (fun s w h => za5 [none, some 1, some 2, some 3, none, some 5, some 6] dc_ w h rfl) (fun _ => a_one 7 rfl rfl kr_ rfl (za7 0 Z Tryz.func41 N41 rfl rfl rfl (fun w P1 hF hB hS hT => impl_numberOf.calls s2229 hB hF (hS _ GW) _ hx2652)) (fun s w h => za5 [none, some 1, some 2, some 3, none, some 5, some 6] dc_ w h rfl) (fun _ => zaa 8 rfl rfl rfl kr_ (fun _ _ _ h => h) (zaw (vs := [(0, .int .i64 i2413), (1, .int .i64 i2533), (2, .int .i64 i2653)]) (cs := [.int .i64 i2413, .int .i64 i2533, .int .i64 i2653]) rfl rfl) (a_one 9 rfl rfl kr_ rfl (e_lit (vs := [(0, .agg #[.int .i64 i2413, .int .i64 i2533, .int .i64 i2653])]) (cs := [.int .i64 i2413, .int .i64 i2533, .int .i64 i2653]) zaq ([(⟨i2413, i2533, i2653⟩ : SRegOp)] : List SRegOp) Tryz.underlying36 I84 dc_ rfl dc_ rfl rfl (fun _ _ => zb4 _)) (fun s w h => za5 [none, some 2, some 3, some 4, none, some 6, some 7] dc_ w h rfl) (cur2 (fun A2772 c2773 => a_one 10 rfl rfl kr_ rfl (e_app (i := 1) (j := 0) Tryz.underlying36 I84 rfl dc_ dc_ rfl rfl rfl rfl rfl ha2833) (fun s w h => za5 [none, some 2, some 3, some 4, none, some 6, some 7] dc_ w h rfl) (cur2 (fun A2834 c2835 => zaa 11 rfl rfl rfl kr_ (fun _ _ _ h => h) (q_f F38_2 rfl) (a_one 12 rfl rfl kr_ rfl (zav (i := 5) rfl rfl rfl rfl Z36 rfl rfl) (fun s w h => za5 [none, some 2, some 3, some 4, none, some 6, some 7] dc_ w h rfl) (fun _ => zar kr_ (zak (za1 ?_)))))))))))
      refine za0 (o_q rfl rfl (q_up rfl rfl (hr2198.up hm2199)) (o_q rfl rfl (za3 rfl) (o_end (zaj ys2196.length (ys2196, l2832, i2194 + 1, A2834, c2835) (by rw [← hk2204]; exact Nat.lt_succ_self _) ⟨hr2198.step, rfl, h⟩ ⟨rfl, trivial⟩ (fun w h => za8 [1, 2, 3, 4, 5, 6, 7] dc_ rfl w h) ?_))))
      exact of_
     ·skip
      refine a_two 1 7 rfl rfl rfl rfl kr_ rfl rfl (ev_q rfl (q_ldb Y36 rfl (fun w h => h.zac (i := 4) rfl) rfl)) (fun s w h => za5 [none, some 1, some 2, some 3, none, some 5, some 6] dc_ w h rfl) (za7 0 Z Tryz.func41 N41 rfl rfl rfl (fun w P1 hF hB hS hT => impl_numberOf.calls s2229 hB hF (hS _ GW) _ hx2652)) (fun s w h => za5 [none, some 1, some 2, some 3, none, some 5, some 6] dc_ w h rfl) (fun _ => ?_) (fun _ => ?_)
      ·skip
       refine a_one 7 rfl rfl kr_ rfl (za7 0 Z Tryz.func41 N41 rfl rfl rfl (fun w P1 hF hB hS hT => impl_numberOf.calls s2229 hB hF (hS _ GW) _ hx2652)) (fun s w h => za5 [none, some 1, some 2, some 3, none, some 5, some 6] dc_ w h rfl) (fun _ => zaa 8 rfl rfl rfl kr_ (fun _ _ _ h => h) (zaw (vs := [(0, .int .i64 i2413), (1, .int .i64 i2533), (2, .int .i64 i2653)]) (cs := [.int .i64 i2413, .int .i64 i2533, .int .i64 i2653]) rfl rfl) (a_one 9 rfl rfl kr_ rfl (e_lit (vs := [(0, .agg #[.int .i64 i2413, .int .i64 i2533, .int .i64 i2653])]) (cs := [.int .i64 i2413, .int .i64 i2533, .int .i64 i2653]) zaq ([(⟨i2413, i2533, i2653⟩ : SRegOp)] : List SRegOp) Tryz.underlying36 I84 dc_ rfl dc_ rfl rfl (fun _ _ => zb4 _)) (fun s w h => za5 [none, some 2, some 3, some 4, none, some 6, some 7] dc_ w h rfl) (cur2 (fun A2772 c2773 => a_one 10 rfl rfl kr_ rfl (e_app (i := 1) (j := 0) Tryz.underlying36 I84 rfl dc_ dc_ rfl rfl rfl rfl rfl ha2833) (fun s w h => za5 [none, some 2, some 3, some 4, none, some 6, some 7] dc_ w h rfl) (cur2 (fun A2834 c2835 => zaa 11 rfl rfl rfl kr_ (fun _ _ _ h => h) (q_f F38_2 rfl) (a_one 12 rfl rfl kr_ rfl (zav (i := 5) rfl rfl rfl rfl Z36 rfl rfl) (fun s w h => za5 [none, some 2, some 3, some 4, none, some 6, some 7] dc_ w h rfl) (fun _ => zar kr_ (zak (za1 (za0 ?_)))))))))))
       refine o_q rfl rfl (q_up rfl rfl (hr2198.up hm2199)) (o_q rfl rfl (za3 rfl) (o_end (zaj ys2196.length (ys2196, l2832, i2194 + 1, A2834, c2835) (by rw [← hk2204]; exact Nat.lt_succ_self _) ⟨hr2198.step, rfl, h⟩ ⟨rfl, trivial⟩ (fun w h => za8 [1, 2, 3, 4, 5, 6, 7] dc_ rfl w h) ?_)))
       exact of_
      ·skip
       refine zaa 8 rfl rfl rfl kr_ (fun _ _ _ h => h) (zaw (vs := [(0, .int .i64 i2413), (1, .int .i64 i2533), (2, .int .i64 i2653)]) (cs := [.int .i64 i2413, .int .i64 i2533, .int .i64 i2653]) rfl rfl) (a_two 1 9 rfl rfl rfl rfl kr_ rfl rfl (ev_q rfl (q_ldb Y36 rfl (fun w h => h.zac (i := 4) rfl) rfl)) (fun s w h => za5 [none, some 1, some 2, some 3, none, some 5, some 6] dc_ w h rfl) (e_lit (vs := [(0, .agg #[.int .i64 i2413, .int .i64 i2533, .int .i64 i2653])]) (cs := [.int .i64 i2413, .int .i64 i2533, .int .i64 i2653]) zaq ([(⟨i2413, i2533, i2653⟩ : SRegOp)] : List SRegOp) Tryz.underlying36 I84 dc_ rfl dc_ rfl rfl (fun _ _ => zb4 _)) (fun s w h => za5 [none, some 2, some 3, some 4, none, some 6, some 7] dc_ w h rfl) (fun _ => ?_) (cur2 (fun A2772 c2773 => ?_)))
       ·skip
        refine a_one 9 rfl rfl kr_ rfl (e_lit (vs := [(0, .agg #[.int .i64 i2413, .int .i64 i2533, .int .i64 i2653])]) (cs := [.int .i64 i2413, .int .i64 i2533, .int .i64 i2653]) zaq ([(⟨i2413, i2533, i2653⟩ : SRegOp)] : List SRegOp) Tryz.underlying36 I84 dc_ rfl dc_ rfl rfl (fun _ _ => zb4 _)) (fun s w h => za5 [none, some 2, some 3, some 4, none, some 6, some 7] dc_ w h rfl) (cur2 (fun A2772 c2773 => a_one 10 rfl rfl kr_ rfl (e_app (i := 1) (j := 0) Tryz.underlying36 I84 rfl dc_ dc_ rfl rfl rfl rfl rfl ha2833) (fun s w h => za5 [none, some 2, some 3, some 4, none, some 6, some 7] dc_ w h rfl) (cur2 (fun A2834 c2835 => zaa 11 rfl rfl rfl kr_ (fun _ _ _ h => h) (q_f F38_2 rfl) (a_one 12 rfl rfl kr_ rfl (zav (i := 5) rfl rfl rfl rfl Z36 rfl rfl) (fun s w h => za5 [none, some 2, some 3, some 4, none, some 6, some 7] dc_ w h rfl) (fun _ => zar kr_ (zak (za1 (za0 (o_q rfl rfl (q_up rfl rfl (hr2198.up hm2199)) (o_q rfl rfl (za3 rfl) ?_)))))))))))
        refine o_end (zaj ys2196.length (ys2196, l2832, i2194 + 1, A2834, c2835) (by rw [← hk2204]; exact Nat.lt_succ_self _) ⟨hr2198.step, rfl, h⟩ ⟨rfl, trivial⟩ (fun w h => za8 [1, 2, 3, 4, 5, 6, 7] dc_ rfl w h) ?_)
        exact of_
       ·skip
        refine a_one 1 rfl rfl kr_ rfl (ev_q rfl (q_ldb Y36 rfl (fun w h => h.zac (i := 5) rfl) rfl)) (fun s w h => za5 [none, some 2, some 3, some 4, none, some 6, some 7] dc_ w h rfl) (fun _ => a_one 10 rfl rfl kr_ rfl (e_app (i := 1) (j := 0) Tryz.underlying36 I84 rfl dc_ dc_ rfl rfl rfl rfl rfl ha2833) (fun s w h => za5 [none, some 2, some 3, some 4, none, some 6, some 7] dc_ w h rfl) (cur2 (fun A2834 c2835 => zaa 11 rfl rfl rfl kr_ (fun _ _ _ h => h) (q_f F38_2 rfl) (a_one 12 rfl rfl kr_ rfl (zav (i := 5) rfl rfl rfl rfl Z36 rfl rfl) (fun s w h => za5 [none, some 2, some 3, some 4, none, some 6, some 7] dc_ w h rfl) (fun _ => zar kr_ (zak (za1 (za0 (o_q rfl rfl (q_up rfl rfl (hr2198.up hm2199)) (o_q rfl rfl (za3 rfl) ?_))))))))))
        refine o_end (zaj ys2196.length (ys2196, l2832, i2194 + 1, A2834, c2835) (by rw [← hk2204]; exact Nat.lt_succ_self _) ⟨hr2198.step, rfl, h⟩ ⟨rfl, trivial⟩ (fun w h => za8 [1, 2, 3, 4, 5, 6, 7] dc_ rfl w h) ?_)
        exact of_

def spec_l1Num.f : Nat → Int → Option ByteArray
 | 0, _ => none
 | k + 1, a0 => if a0 < 10 then (some (strOfNums ([IntKind.u8.wrap (w64 (48 + a0))] : List Int))) else (((spec_l1Num.f k) (w64 (a0.tdiv 10))).bind fun s127 => (sap s127 (strOfNums ([IntKind.u8.wrap (w64 (48 + (a0.tmod 10)))] : List Int))).bind fun s547 => some s547)
theorem spec_l1Num.calls : ∀ (k : Nat) {w0 ws : World} {P0 : Nat → Prop} (a0 : Int) (Z : Below w0.heap.size w0 ws) (hF : Fr w0 ws P0 [] ws)  (r_1 : ByteArray) (h : spec_l1Num.f k a0 = some r_1),
  Calls Tryz.prog 86 #[.int .i64 a0] ws (Post1 w0 ws P0 (fun (_ : Unit) => .string r_1) (fun (_ : Unit) => [])) := by
 intro k
 induction k with
 | zero =>
  intros
  rename_i h
  cases h
 | succ k ih =>
  intro w0 ws P0 a0 Z hF  r_1 h
  rw [spec_l1Num.f] at h
  refine enter Tryz.func86 rfl Tryz.ntmps86 rfl hF (c_seq (za0 (o_q rfl rfl (q_asg rfl) (o_end (za1 (c_seq (c_seq (za0 (o_q rfl rfl (za3 rfl) ?_)))))))))
  refine o_q rfl rfl (q_lss rfl rfl) (o_end (za1 (zas _ rfl (fun hb1 => ?_) (fun hb1 => ?_))))
  ·skip
   replace h := br_t hb1 h
   refine c_seq (za0 (o_q rfl rfl (za3 rfl) (o_q rfl rfl (zb5 rfl rfl) (o_q rfl rfl (q_conv (by rw [Tryz.underlying3]; rfl) Tryz.underlying5 rfl) (o_e rfl (e_lit (vs := [(0, .int .u8 (IntKind.u8.wrap (w64 (48 + a0))))]) (cs := [.int .u8 (IntKind.u8.wrap (w64 (48 + a0)))]) (Kd.int .u8) ([IntKind.u8.wrap (w64 (48 + a0))] : List Int) Tryz.underlying22 I5 dc_ rfl dc_ rfl rfl (fun _ _ => Kd.zaf _)) (cur2 (fun A2 c3 => o_q rfl rfl (q_bstr Tryz.underlying22 Tryz.underlying5 Tryz.underlying9 rfl (fun w h => h.zat (i := 0) rfl) (Nat.succ_pos _)) (o_q rfl rfl (q_asg rfl) (o_end (za1 ?_))))))))))
   refine c_ret (za9 ?_)
   have e0_ := si_ h; clear h
   subst e0_
   exact x_r1 () Tryz.results86 (zad rfl) rfl (fun w h => za8 [] dc_ rfl w h)
  ·skip
   replace h := br_f hb1 h
   refine zal (za1 (c_seq (za6 h (fun s127 hx126 h => ?_) rfl)))
   refine za6 h (fun s547 hs546 h => ?_) rfl
   refine a_start (ds := []) MO rfl (zaa 0 rfl rfl rfl kr_ (fun _ _ _ h => h) (za3 rfl) (zaa 1 rfl rfl rfl kr_ (fun _ _ _ h => h) (q_quo64 rfl rfl dc_) (zaa 3 rfl rfl rfl kr_ (fun _ _ _ h => h) (za3 rfl) (zaa 4 rfl rfl rfl kr_ (fun _ _ _ h => h) (q_rem rfl rfl dc_) (zaa 5 rfl rfl rfl kr_ (fun _ _ _ h => h) (zb5 rfl rfl) (zaa 6 rfl rfl rfl kr_ (fun _ _ _ h => h) (q_conv (by rw [Tryz.underlying3]; rfl) Tryz.underlying5 rfl) (a_two 2 7 rfl rfl rfl rfl kr_ rfl rfl (za7 0 Z Tryz.func86 N86 rfl rfl rfl (fun w P1 hF hB hS hT => ih (w64 (a0.tdiv 10)) hB hF _ hx126)) (fun s w h => h) (e_lit (vs := [(0, .int .u8 (IntKind.u8.wrap (w64 (48 + (a0.tmod 10)))))]) (cs := [.int .u8 (IntKind.u8.wrap (w64 (48 + (a0.tmod 10))))]) (Kd.int .u8) ([IntKind.u8.wrap (w64 (48 + (a0.tmod 10)))] : List Int) Tryz.underlying22 I5 dc_ rfl dc_ rfl rfl (fun _ _ => Kd.zaf _)) (fun s w h => za5 [] dc_ w h rfl) (fun _ => ?_) (cur2 (fun A426 c427 => ?_)))))))))
   ·skip
    refine a_one 7 rfl rfl kr_ rfl (e_lit (vs := [(0, .int .u8 (IntKind.u8.wrap (w64 (48 + (a0.tmod 10)))))]) (cs := [.int .u8 (IntKind.u8.wrap (w64 (48 + (a0.tmod 10))))]) (Kd.int .u8) ([IntKind.u8.wrap (w64 (48 + (a0.tmod 10)))] : List Int) Tryz.underlying22 I5 dc_ rfl dc_ rfl rfl (fun _ _ => Kd.zaf _)) (fun s w h => za5 [] dc_ w h rfl) (cur2 (fun A426 c427 => a_one 8 rfl rfl kr_ rfl (ev_q rfl (q_bstr Tryz.underlying22 Tryz.underlying5 Tryz.underlying9 rfl (fun w h => h.zat (i := 0) rfl) (Nat.succ_pos _))) (fun s w h => za5 [] dc_ w h rfl) (fun _ => zaa 9 rfl rfl rfl kr_ (fun _ _ _ h => h) (q_sap rfl rfl hs546) (zaa 10 rfl rfl rfl kr_ (fun _ _ _ h => h) (q_asg rfl) (zar kr_ (za1 (c_ret ?_)))))))
    have e0_ := si_ h; clear h
    subst e0_
    exact x_r1 () Tryz.results86 (zad rfl) rfl (fun w h => za8 [] dc_ rfl w h)
   ·skip
    refine a_two 2 8 rfl rfl rfl rfl kr_ rfl rfl (za7 0 Z Tryz.func86 N86 rfl rfl rfl (fun w P1 hF hB hS hT => ih (w64 (a0.tdiv 10)) hB hF _ hx126)) (fun s w h => za5 [] dc_ w h rfl) (ev_q rfl (q_bstr Tryz.underlying22 Tryz.underlying5 Tryz.underlying9 rfl (fun w h => h.zat (i := 0) rfl) (Nat.succ_pos _))) (fun s w h => za5 [] dc_ w h rfl) (fun _ => ?_) (fun _ => ?_)
    ·skip
     refine a_one 8 rfl rfl kr_ rfl (ev_q rfl (q_bstr Tryz.underlying22 Tryz.underlying5 Tryz.underlying9 rfl (fun w h => h.zat (i := 0) rfl) (Nat.succ_pos _))) (fun s w h => za5 [] dc_ w h rfl) (fun _ => zaa 9 rfl rfl rfl kr_ (fun _ _ _ h => h) (q_sap rfl rfl hs546) (zaa 10 rfl rfl rfl kr_ (fun _ _ _ h => h) (q_asg rfl) (zar kr_ (za1 (c_ret ?_)))))
     have e0_ := si_ h; clear h
     subst e0_
     exact x_r1 () Tryz.results86 (zad rfl) rfl (fun w h => za8 [] dc_ rfl w h)
    ·skip
     refine a_one 2 rfl rfl kr_ rfl (za7 0 Z Tryz.func86 N86 rfl rfl rfl (fun w P1 hF hB hS hT => ih (w64 (a0.tdiv 10)) hB hF _ hx126)) (fun s w h => za5 [] dc_ w h rfl) (fun _ => zaa 9 rfl rfl rfl kr_ (fun _ _ _ h => h) (q_sap rfl rfl hs546) (zaa 10 rfl rfl rfl kr_ (fun _ _ _ h => h) (q_asg rfl) (zar kr_ (za1 (c_ret ?_)))))
     have e0_ := si_ h; clear h
     subst e0_
     exact x_r1 () Tryz.results86 (zad rfl) rfl (fun w h => za8 [] dc_ rfl w h)

def spec_reList.l0 (k : Nat) : (List Int) → ByteArray → Int → Option ByteArray
 | [], s1, i2 => some s1
 | y3 :: ys4, s1, i2 => (if 0 < i2 then ((sap s1 (⟨#[44]⟩ : ByteArray)).bind fun s26 => some s26) else (some s1)).bind fun s18 => (spec_l1Num.f k y3).bind fun s28 => (sap s18 s28).bind fun s30 => spec_reList.l0 k ys4 s30 (i2 + 1)
def spec_reList.f (k : Nat) (l0 : List Int) : Option ByteArray := (spec_reList.l0 k l0 (⟨#[]⟩ : ByteArray) 0).bind fun s1 => if s1 = (⟨#[]⟩ : ByteArray) then (some (⟨#[45]⟩ : ByteArray)) else (some s1)
theorem spec_reList.calls (k : Nat) {w0 ws : World} {P0 : Nat → Prop} (A0 : Option Addr) (c0 : Nat) (n0 : Nat) (l0 : List Int) (Z : Below w0.heap.size w0 ws) (hF : Fr w0 ws P0 [] ws) (R0 : Stable ws P0 (fun w => Kd.C (Kd.int .i64) w A0 n0 l0)) (hc0 : n0 ≤ c0) (r_1 : ByteArray) (h : spec_reList.f k l0 = some r_1) :
  Calls Tryz.prog 98 #[.slice A0 n0 c0] ws (Post1 w0 ws P0 (fun (_ : Unit) => .string r_1) (fun (_ : Unit) => [])) := by
 unfold spec_reList.f at h
 obtain rfl := (R0 ws (KeptB.refl _ _)).1
 refine enter Tryz.func98 rfl Tryz.ntmps98 rfl hF (c_seq (za0 (o_q rfl rfl (q_asg rfl) (o_end (za1 (c_seq (za0 (o_q rfl rfl (q_asg rfl) (o_end ?_)))))))))
 refine za1 (c_seq (c_seq (za0 (o_q rfl rfl (za3 rfl) (o_q rfl rfl (q_len Tryz.underlying25 rfl) (o_q rfl rfl (za3 rfl) (o_end (za1 (zah ?_)))))))))
 refine za6 h (fun o10 hl9 hR8 => ?_) rfl
 clear h
 refine c_fact (p := l0.length ≤ 9223372036854775807) (fun w h => (R0.now Z h).2.1) (fun hm7 => zax (σ := (List Int) × ByteArray × Int) (fun k5 ((ys4, s1, i2) : (List Int) × ByteArray × Int) => Rg l0 i2 ys4 ∧ ys4.length = k5 ∧ spec_reList.l0 k ys4 s1 i2 = some o10) [3, 4, 5, 8, 9, 10, 11, 12, 13, 14, 15, 16, 17, 18, 19, 20, 21] (fun ((ys4, s1, i2) : (List Int) × ByteArray × Int) => [(3, .string s1), (8, .int .i64 i2)]) (fun ((ys4, s1, i2) : (List Int) × ByteArray × Int) => []) l0.length (l0, (⟨#[]⟩ : ByteArray), 0) ⟨Rg.start _, rfl, hl9⟩ ⟨rfl, rfl, trivial⟩ (fun w h => h) (fun k5 => cur3 (listC (fun s1 i2 U11 hJ_ => ?_) (fun y3 ys4 s1 i2 U11 hJ_ => ?_))))
 ·skip
  clear hl9
  have hr6 := hJ_.1; have hk12 := hJ_.2.1; have h := hJ_.2.2; clear hJ_
  replace h : spec_reList.l0 k [] s1 i2 = some o10 := h
  rw [spec_reList.l0] at h
  refine c_seq (za0 (o_q rfl rfl (q_lss rfl rfl) (o_end (za1 (c_seq (zb1 (vb_ hr6.ge) (zb2 (zab (zab ?_)))))))))
  have e_ := si_ h; replace h := hR8; rw [← e_] at h; clear e_
  refine x_hit (za1 (c_seq (c_seq (za0 (o_q rfl rfl (za3 rfl) (o_q rfl rfl (q_seql rfl rfl) (o_end (za1 (zas _ rfl (fun hb13 => ?_) (fun hb13 => ?_))))))))))
  ·skip
   replace h := br_t hb13 h
   refine c_seq (za0 (o_q rfl rfl (q_asg rfl) (o_end (za1 (c_ret (za9 ?_))))))
   have e0_ := si_ h; clear h
   subst e0_
   exact x_r1 () Tryz.results98 (zad rfl) rfl (fun w h => za8 [] dc_ rfl w h)
  ·skip
   replace h := br_f hb13 h
   refine zal (za1 (c_seq (za0 (o_q rfl rfl (za3 rfl) (o_q rfl rfl (q_asg rfl) (o_end (za1 (c_ret ?_))))))))
   have e0_ := si_ h; clear h
   subst e0_
   exact x_r1 () Tryz.results98 (zad rfl) rfl (fun w h => za8 [] dc_ rfl w h)
 ·skip
  clear hl9
  have hr6 := hJ_.1; have hk12 := hJ_.2.1; have h := hJ_.2.2; clear hJ_
  replace h : spec_reList.l0 k (y3 :: ys4) s1 i2 = some o10 := h
  rw [spec_reList.l0] at h
  refine c_seq (za0 (o_q rfl rfl (q_lss rfl rfl) (o_end (za1 (c_seq (zay (vb_ hr6.lt) (zal (za1 (c_seq ?_)))))))))
  refine zah (c_seq (za0 (o_q rfl rfl (za3 rfl) (zb0 (p := Sh A0 l0.length l0.length) (fun w h => f_sh (dk := (Kd.int .i64)) h (fun w h => R0.now Z h)) (fun hq14 => o_q rfl rfl (q_ix Tryz.underlying25 Z3 rfl rfl hq14 hr6.get) (o_q rfl rfl (q_lde (off := 0) Y3 rfl rfl (fun w h => R0.now Z h) hr6.get (fun _ _ h => h) rfl) (o_q rfl rfl (q_asg rfl) (o_q rfl rfl (q_asg rfl) (o_end ?_)))))))))
  refine za1 (za6 h (fun o19 hl20 hR21 => ?_) rfl)
  clear h
  refine c_cutJ (σ := ByteArray) (fun s18 => some s18 = some o19) [3, 13, 14, 15, 16] (fun s18 => [(3, .string s18)]) (fun s18 => []) ?_ ?_
  ·skip
   have h := hl20; clear hl20
   clear hR21
   refine c_seq (za0 (o_q rfl rfl (za3 rfl) (o_q rfl rfl (q_gtr rfl rfl) (o_end (za1 (zas _ rfl (fun hb24 => ?_) (fun hb24 => ?_)))))))
   ·skip
    replace h := br_t hb24 h
    refine za0 (o_q rfl rfl (za3 rfl) (za6 h (fun s26 hs25 h => ?_) rfl))
    refine o_q rfl rfl (q_sap rfl rfl hs25) (o_q rfl rfl (q_asg rfl) (o_end (zam s26 h ⟨rfl, trivial⟩ (fun w h => za8 [] dc_ rfl w h) ?_)))
    exact of_
   ·skip
    replace h := br_f hb24 h
    refine zal (zam s1 h ⟨rfl, trivial⟩ (fun w h => za8 [] dc_ rfl w h) ?_)
    exact of_
  ·skip
   refine (fun s18 => fun U22 hJ23 => ?_)
   have e_ := si_ hJ23; have h := hR21; rw [← e_] at h; clear e_ hJ23 hR21 hl20
   refine za0 (o_q rfl rfl (za3 rfl) (o_q rfl rfl (za3 rfl) (za6 h (fun s28 hx27 h => ?_) rfl)))
   refine o_e rfl (za7 0 Z Tryz.func86 N86 rfl rfl rfl (fun w P1 hF hB hS hT => spec_l1Num.calls k y3 hB hF _ hx27)) (fun _ => za6 h (fun s30 hs29 h => ?_) rfl)
   refine o_q rfl rfl (q_sap rfl rfl hs29) (o_q rfl rfl (q_asg rfl) (o_end (zak (za1 (za0 (o_q rfl rfl (q_up rfl rfl (hr6.up hm7)) (o_q rfl rfl (za3 rfl) (o_end (zaj ys4.length (ys4, s30, i2 + 1) (by rw [← hk12]; exact Nat.lt_succ_self _) ⟨hr6.step, rfl, h⟩ ⟨rfl, rfl, trivial⟩ (fun w h => za8 [] dc_ rfl w h) ?_)))))))))
   exact of_

def spec_reText.l0 (k : Nat) : (List SRegOp) → ByteArray → Int → Option ByteArray
 | [], s3, i4 => some s3
 | y5 :: ys6, s3, i4 => (if 0 < i4 then ((sap s3 (⟨#[44]⟩ : ByteArray)).bind fun s55 => some s55) else (some s3)).bind fun s47 => (spec_l1Num.f k y5.f0).bind fun s57 => (sap s57 (⟨#[61]⟩ : ByteArray)).bind fun s59 => (spec_l1Num.f k y5.f1).bind fun s61 => (sap s59 s61).bind fun s63 => (sap s63 (⟨#[42]⟩ : ByteArray)).bind fun s65 => (spec_l1Num.f k y5.f2).bind fun s67 => (sap s65 s67).bind fun s69 => (sap s47 s69).bind fun s71 => spec_reText.l0 k ys6 s71 (i4 + 1)
def spec_reText.f (k : Nat) (a0_0 : Int) (l0_1 : List Int) (l0_2 : List SRegOp) (l0_3 : List Int) : Option ByteArray := (spec_reText.l0 k l0_2 (⟨#[]⟩ : ByteArray) 0).bind fun s3 => (if s3 = (⟨#[]⟩ : ByteArray) then (some (⟨#[45]⟩ : ByteArray)) else (some s3)).bind fun s16 => (spec_l1Num.f k a0_0).bind fun s24 => (sap s24 (⟨#[58]⟩ : ByteArray)).bind fun s26 => (spec_reList.f k l0_1).bind fun s28 => (sap s26 s28).bind fun s30 => (sap s30 (⟨#[58]⟩ : ByteArray)).bind fun s32 => (sap s32 s16).bind fun s34 => (sap s34 (⟨#[58]⟩ : ByteArray)).bind fun s36 => (spec_reList.f k l0_3).bind fun s38 => (sap s36 s38).bind fun s40 => some s40
theorem spec_reText.calls (k : Nat) {w0 ws : World} {P0 : Nat → Prop} (a0_0 : Int) (A0_1 : Option Addr) (c0_1 : Nat) (n0_1 : Nat) (l0_1 : List Int) (A0_2 : Option Addr) (c0_2 : Nat) (n0_2 : Nat) (l0_2 : List SRegOp) (A0_3 : Option Addr) (c0_3 : Nat) (n0_3 : Nat) (l0_3 : List Int) (Z : Below w0.heap.size w0 ws) (hF : Fr w0 ws P0 [] ws) (R0_1 : Stable ws P0 (fun w => Kd.C (Kd.int .i64) w A0_1 n0_1 l0_1)) (hc0_1 : n0_1 ≤ c0_1) (R0_2 : Stable ws P0 (fun w => Kd.C zaq w A0_2 n0_2 l0_2)) (hc0_2 : n0_2 ≤ c0_2) (R0_3 : Stable ws P0 (fun w => Kd.C (Kd.int .i64) w A0_3 n0_3 l0_3)) (hc0_3 : n0_3 ≤ c0_3) (r_1 : ByteArray) (h : spec_reText.f k a0_0 l0_1 l0_2 l0_3 = some r_1) :
  Calls Tryz.prog 57 #[.agg #[.int .i64 a0_0, .slice A0_1 n0_1 c0_1, .slice A0_2 n0_2 c0_2, .slice A0_3 n0_3 c0_3]] ws (Post1 w0 ws P0 (fun (_ : Unit) => .string r_1) (fun (_ : Unit) => [])) := by
 unfold spec_reText.f at h
 obtain rfl := (R0_1 ws (KeptB.refl _ _)).1
 obtain rfl := (R0_2 ws (KeptB.refl _ _)).1
 obtain rfl := (R0_3 ws (KeptB.refl _ _)).1
 refine enter Tryz.func57 rfl Tryz.ntmps57 rfl hF (c_seq (za0 (o_e rfl (e_box rfl) (fun g1 => o_q rfl rfl (q_asg rfl) (o_end (za1 (c_seq (za0 (o_q rfl rfl (q_asg rfl) ?_)))))))))
 refine o_end (za1 (c_seq (c_seq (za0 (o_q rfl rfl (q_f F38_2 rfl) (o_q rfl rfl (q_ldb Y36 rfl (fun w h => h.zac (i := 0) rfl) rfl) (o_q rfl rfl (q_len Tryz.underlying36 rfl) (o_q rfl rfl (za3 rfl) (o_end ?_)))))))))
 refine za1 (zah (za6 h (fun o12 hl11 hR10 => ?_) rfl))
 clear h
 refine c_fact (p := l0_2.length ≤ 9223372036854775807) (fun w h => (R0_2.now Z h).2.1) (fun hm9 => zax (σ := (List SRegOp) × ByteArray × Int) (fun k7 ((ys6, s3, i4) : (List SRegOp) × ByteArray × Int) => Rg l0_2 i4 ys6 ∧ ys6.length = k7 ∧ spec_reText.l0 k ys6 s3 i4 = some o12) [3, 4, 5, 9, 10, 11, 12, 13, 14, 15, 16, 17, 18, 19, 20, 21, 22, 23, 24, 25, 26, 27, 28, 29, 30, 31, 32, 33] (fun ((ys6, s3, i4) : (List SRegOp) × ByteArray × Int) => [(3, .string s3), (9, .int .i64 i4)]) (fun ((ys6, s3, i4) : (List SRegOp) × ByteArray × Int) => [box g1 38 #[.int .i64 a0_0, .slice A0_1 l0_1.length c0_1, .slice A0_2 l0_2.length c0_2, .slice A0_3 l0_3.length c0_3]]) l0_2.length (l0_2, (⟨#[]⟩ : ByteArray), 0) ⟨Rg.start _, rfl, hl11⟩ ⟨rfl, rfl, trivial⟩ (fun w h => h) (fun k7 => cur3 (listC (fun s3 i4 U13 hJ_ => ?_) (fun y5 ys6 s3 i4 U13 hJ_ => ?_))))
 ·skip
  clear hl11
  have hr8 := hJ_.1; have hk14 := hJ_.2.1; have h := hJ_.2.2; clear hJ_
  replace h : spec_reText.l0 k [] s3 i4 = some o12 := h
  rw [spec_reText.l0] at h
  refine c_seq (za0 (o_q rfl rfl (q_lss rfl rfl) (o_end (za1 (c_seq (zb1 (vb_ hr8.ge) (zb2 (zab (zab ?_)))))))))
  have e_ := si_ h; replace h := hR10; rw [← e_] at h; clear e_
  refine x_hit (za1 (za6 h (fun o17 hl18 hR19 => ?_) rfl))
  clear h
  refine c_cutJ (σ := ByteArray) (fun s16 => some s16 = some o17) [3, 34, 35] (fun s16 => [(3, .string s16)]) (fun s16 => [box g1 38 #[.int .i64 a0_0, .slice A0_1 l0_1.length c0_1, .slice A0_2 l0_2.length c0_2, .slice A0_3 l0_3.length c0_3]]) ?_ ?_
  ·skip
   have h := hl18; clear hl18
   clear hR19
   refine c_seq (za0 (o_q rfl rfl (za3 rfl) (o_q rfl rfl (q_seql rfl rfl) (o_end (za1 (zas _ rfl (fun hb22 => ?_) (fun hb22 => ?_)))))))
   ·skip
    replace h := br_t hb22 h
    refine za0 (o_q rfl rfl (q_asg rfl) (o_end (zam (⟨#[45]⟩ : ByteArray) h ⟨rfl, trivial⟩ (fun w h => za8 [0] dc_ rfl w h) ?_)))
    exact of_
   ·skip
    replace h := br_f hb22 h
    refine zal (zam s3 h ⟨rfl, trivial⟩ (fun w h => za8 [0] dc_ rfl w h) ?_)
    exact of_
  ·skip
   refine (fun s16 => fun U20 hJ21 => ?_)
   have e_ := si_ hJ21; have h := hR19; rw [← e_] at h; clear e_ hJ21 hR19 hl18
   refine c_seq (a_start (ds := []) MO rfl (zaa 0 rfl rfl rfl kr_ (fun _ _ _ h => h) (q_f F38_0 rfl) (zau 1 rfl rfl rfl kr_ (fun _ _ _ h => h) (fun w h => h) (q_ldb Y3 rfl (fun w h => h.zac (i := 0) rfl) rfl) (zaa 4 rfl rfl rfl kr_ (fun _ _ _ h => h) (q_f F38_1 rfl) (zau 5 rfl rfl rfl kr_ (fun _ _ _ h => h) (fun w h => h) (q_ldb Y25 rfl (fun w h => h.zac (i := 0) rfl) rfl) (zaa 9 rfl rfl rfl kr_ (fun _ _ _ h => h) (za3 rfl) (zaa 12 rfl rfl rfl kr_ (fun _ _ _ h => h) (q_f F38_3 rfl) (zau 13 rfl rfl rfl kr_ (fun _ _ _ h => h) (fun w h => h) (q_ldb Y25 rfl (fun w h => h.zac (i := 0) rfl) rfl) (za6 h (fun s24 hx23 h => ?_) rfl)))))))))
   refine a_one 2 rfl rfl kr_ rfl (za7 0 Z Tryz.func86 N86 rfl rfl rfl (fun w P1 hF hB hS hT => spec_l1Num.calls k a0_0 hB hF _ hx23)) (fun s w h => h) (fun _ => za6 h (fun s26 hs25 h => ?_) rfl)
   refine zaa 3 rfl rfl rfl kr_ (fun _ _ _ h => h) (q_sap rfl rfl hs25) (za6 h (fun s28 hx27 h => ?_) rfl)
   refine a_one 6 rfl rfl kr_ rfl (za7 0 Z Tryz.func98 N98 rfl rfl rfl (fun w P1 hF hB hS hT => spec_reList.calls k A0_1 c0_1 l0_1.length l0_1 hB hF (hS _ R0_1) hc0_1 _ hx27)) (fun s w h => h) (fun _ => za6 h (fun s30 hs29 h => ?_) rfl)
   refine zaa 7 rfl rfl rfl kr_ (fun _ _ _ h => h) (q_sap rfl rfl hs29) (za6 h (fun s32 hs31 h => ?_) rfl)
   refine zaa 8 rfl rfl rfl kr_ (fun _ _ _ h => h) (q_sap rfl rfl hs31) (za6 h (fun s34 hs33 h => ?_) rfl)
   refine zaa 10 rfl rfl rfl kr_ (fun _ _ _ h => h) (q_sap rfl rfl hs33) (za6 h (fun s36 hs35 h => ?_) rfl)
   refine zaa 11 rfl rfl rfl kr_ (fun _ _ _ h => h) (q_sap rfl rfl hs35) (za6 h (fun s38 hx37 h => ?_) rfl)
   refine a_one 14 rfl rfl kr_ rfl (za7 0 Z Tryz.func98 N98 rfl rfl rfl (fun w P1 hF hB hS hT => spec_reList.calls k A0_3 c0_3 l0_3.length l0_3 hB hF (hS _ R0_3) hc0_3 _ hx37)) (fun s w h => h) (fun _ => za6 h (fun s40 hs39 h => ?_) rfl)
   refine zaa 15 rfl rfl rfl kr_ (fun _ _ _ h => h) (q_sap rfl rfl hs39) (zaa 16 rfl rfl rfl kr_ (fun _ _ _ h => h) (q_asg rfl) (zar kr_ (za1 (c_ret ?_))))
   have e0_ := si_ h; clear h
   subst e0_
   exact x_r1 () Tryz.results57 (zad rfl) rfl (fun w h => za8 [] dc_ rfl w h)
 ·skip
  clear hl11
  have hr8 := hJ_.1; have hk14 := hJ_.2.1; have h := hJ_.2.2; clear hJ_
  replace h : spec_reText.l0 k (y5 :: ys6) s3 i4 = some o12 := h
  rw [spec_reText.l0] at h
  refine c_seq (za0 (o_q rfl rfl (q_lss rfl rfl) (o_end (za1 (c_seq (zay (vb_ hr8.lt) (zal (za1 (c_seq ?_)))))))))
  refine zah (c_seq (za0 (o_q rfl rfl (za3 rfl) (zb0 (p := Sh A0_2 l0_2.length l0_2.length) (fun w h => f_sh (dk := zaq) h (fun w h => R0_2.now Z h)) (fun hq41 => o_q rfl rfl (q_ix Tryz.underlying36 Z84 rfl rfl hq41 hr8.get) (o_q rfl rfl (q_ldE G84 Z84 rfl rfl (fun w h => R0_2.now Z h) hr8.get (fun _ _ h => h) rfl) (o_e rfl (zao V84 rfl) (fun g42 => o_q rfl rfl (q_asg rfl) (o_e rfl (zae (i := 0) rfl rfl rfl Z84 rfl rfl) (fun _ => ?_))))))))))
  refine o_end (za1 (za6 h (fun o48 hl49 hR50 => ?_) rfl))
  clear h
  refine c_cutJ (σ := ByteArray) (fun s47 => some s47 = some o48) [3, 14, 15, 16, 17] (fun s47 => [(3, .string s47)]) (fun s47 => [box g1 38 #[.int .i64 a0_0, .slice A0_1 l0_1.length c0_1, .slice A0_2 l0_2.length c0_2, .slice A0_3 l0_3.length c0_3], box g42 84 #[.int .i64 y5.f0, .int .i64 y5.f1, .int .i64 y5.f2]]) ?_ ?_
  ·skip
   have h := hl49; clear hl49
   clear hR50
   refine c_seq (za0 (o_q rfl rfl (za3 rfl) (o_q rfl rfl (q_gtr rfl rfl) (o_end (za1 (zas _ rfl (fun hb53 => ?_) (fun hb53 => ?_)))))))
   ·skip
    replace h := br_t hb53 h
    refine za0 (o_q rfl rfl (za3 rfl) (za6 h (fun s55 hs54 h => ?_) rfl))
    refine o_q rfl rfl (q_sap rfl rfl hs54) (o_q rfl rfl (q_asg rfl) (o_end (zam s55 h ⟨rfl, trivial⟩ (fun w h => za8 [1, 0] dc_ rfl w h) ?_)))
    exact of_
   ·skip
    replace h := br_f hb53 h
    refine zal (zam s3 h ⟨rfl, trivial⟩ (fun w h => za8 [1, 0] dc_ rfl w h) ?_)
    exact of_
  ·skip
   refine (fun s47 => fun U51 hJ52 => ?_)
   have e_ := si_ hJ52; have h := hR50; rw [← e_] at h; clear e_ hJ52 hR50 hl49
   refine a_start (ds := []) MO rfl (zaa 0 rfl rfl rfl kr_ (fun _ _ _ h => h) (za3 rfl) (zaa 1 rfl rfl rfl kr_ (fun _ _ _ h => h) (q_f F84_0 rfl) (zau 2 rfl rfl rfl kr_ (fun _ _ _ h => h) (fun w h => h) (q_ldb Y3 rfl (fun w h => h.zac (i := 1) rfl) rfl) (zaa 5 rfl rfl rfl kr_ (fun _ _ _ h => h) (q_f F84_1 rfl) (zau 6 rfl rfl rfl kr_ (fun _ _ _ h => h) (fun w h => h) (q_ldb Y3 rfl (fun w h => h.zac (i := 1) rfl) rfl) (zaa 10 rfl rfl rfl kr_ (fun _ _ _ h => h) (q_f F84_2 rfl) (zau 11 rfl rfl rfl kr_ (fun _ _ _ h => h) (fun w h => h) (q_ldb Y3 rfl (fun w h => h.zac (i := 1) rfl) rfl) (za6 h (fun s57 hx56 h => ?_) rfl))))))))
   refine a_one 3 rfl rfl kr_ rfl (za7 0 Z Tryz.func86 N86 rfl rfl rfl (fun w P1 hF hB hS hT => spec_l1Num.calls k y5.f0 hB hF _ hx56)) (fun s w h => h) (fun _ => za6 h (fun s59 hs58 h => ?_) rfl)
   refine zaa 4 rfl rfl rfl kr_ (fun _ _ _ h => h) (q_sap rfl rfl hs58) (za6 h (fun s61 hx60 h => ?_) rfl)
   refine a_one 7 rfl rfl kr_ rfl (za7 0 Z Tryz.func86 N86 rfl rfl rfl (fun w P1 hF hB hS hT => spec_l1Num.calls k y5.f1 hB hF _ hx60)) (fun s w h => h) (fun _ => za6 h (fun s63 hs62 h => ?_) rfl)
   refine zaa 8 rfl rfl rfl kr_ (fun _ _ _ h => h) (q_sap rfl rfl hs62) (za6 h (fun s65 hs64 h => ?_) rfl)
   refine zaa 9 rfl rfl rfl kr_ (fun _ _ _ h => h) (q_sap rfl rfl hs64) (za6 h (fun s67 hx66 h => ?_) rfl)
   refine a_one 12 rfl rfl kr_ rfl (za7 0 Z Tryz.func86 N86 rfl rfl rfl (fun w P1 hF hB hS hT => spec_l1Num.calls k y5.f2 hB hF _ hx66)) (fun s w h => h) (fun _ => za6 h (fun s69 hs68 h => ?_) rfl)
   refine zaa 13 rfl rfl rfl kr_ (fun _ _ _ h => h) (q_sap rfl rfl hs68) (za6 h (fun s71 hs70 h => ?_) rfl)
   refine zaa 14 rfl rfl rfl kr_ (fun _ _ _ h => h) (q_sap rfl rfl hs70) (zaa 15 rfl rfl rfl kr_ (fun _ _ _ h => h) (q_asg rfl) (zar kr_ (zak (za1 (za0 (o_q rfl rfl (q_up rfl rfl (hr8.up hm9)) (o_q rfl rfl (za3 rfl) (o_end (zaj ys6.length (ys6, s71, i4 + 1) (by rw [← hk14]; exact Nat.lt_succ_self _) ⟨hr8.step, rfl, h⟩ ⟨rfl, rfl, trivial⟩ (fun w h => za8 [0] dc_ rfl w h) ?_)))))))))
   exact of_

def spec_l1Cur_spoilt.l0 (l0_0 : List Int) (a2 : ByteArray) : Nat → Int → Int → ByteArray → Int → Option (ByteArray × Int × Int)
 | 0, _, _, _, _ => none
 | k11 + 1, i5, i6, s7, i8 => if 0 < i8 then (if 0 < (s7.size : Int) then ((spec_l1Cur_pick.f l0_0 i5 i6 (s7.size : Int)).bind fun (i22, i23, i24) => (spec_l1Cur_pick.f l0_0 i23 i24 (a2.size : Int)).bind fun (i26, i27, i28) => (gts a2 i26).bind fun y29 => (spec_l1Cur_pick.f l0_0 i27 i28 3).bind fun (i35, i36, i37) => if i35 = 0 then ((cts s7 (0 : Int) i22).bind fun s39 => (sap s39 (strOfNums ([y29] : List Int))).bind fun s42 => (cts s7 i22 (s7.size : Int)).bind fun s43 => (sap s42 s43).bind fun s46 => spec_l1Cur_spoilt.l0 l0_0 a2 k11 i36 i37 s46 (w64 (i8 - 1))) else (if i35 = 1 then ((cts s7 (0 : Int) i22).bind fun s48 => (sap s48 (strOfNums ([y29] : List Int))).bind fun s51 => (cts s7 (w64 (i22 + 1)) (s7.size : Int)).bind fun s52 => (sap s51 s52).bind fun s55 => spec_l1Cur_spoilt.l0 l0_0 a2 k11 i36 i37 s55 (w64 (i8 - 1))) else ((cts s7 (0 : Int) i22).bind fun s56 => (cts s7 (w64 (i22 + 1)) (s7.size : Int)).bind fun s58 => (sap s56 s58).bind fun s61 => spec_l1Cur_spoilt.l0 l0_0 a2 k11 i36 i37 s61 (w64 (i8 - 1))))) else (some (s7, i5, i6))) else (some (s7, i5, i6))
def spec_l1Cur_spoilt.f (k : Nat) (l0_0 : List Int) (a0_1 : Int) (a0_2 : Int) (a1 : ByteArray) (a2 : ByteArray) : Option (ByteArray × Int × Int) := (spec_l1Cur_pick.f l0_0 a0_1 a0_2 2).bind fun (i2, i3, i4) => (spec_l1Cur_spoilt.l0 l0_0 a2 k i3 i4 a1 (w64 (1 + i2)))
theorem spec_l1Cur_spoilt.calls (k : Nat) {w0 ws : World} {P0 : Nat → Prop} (g0 : Nat) (A0_0 : Option Addr) (c0_0 : Nat) (n0_0 : Nat) (l0_0 : List Int) (a0_1 : Int) (a0_2 : Int) (a1 : ByteArray) (a2 : ByteArray) (Z : Below w0.heap.size w0 ws) (hF : Fr w0 ws P0 [box g0 54 #[.slice A0_0 n0_0 c0_0, .int .i64 a0_1, .int .u64 a0_2]] ws) (R0_0 : Stable ws P0 (fun w => Kd.C (Kd.int .u8) w A0_0 n0_0 l0_0)) (hc0_0 : n0_0 ≤ c0_0) (r_1 : ByteArray) (r_2 : Int) (r_3 : Int) (h : spec_l1Cur_spoilt.f k l0_0 a0_1 a0_2 a1 a2 = some (r_1, r_2, r_3)) :
  Calls Tryz.prog 49 #[.pointer (some ⟨g0, 0, none⟩), .string a1, .string a2] ws (Post1 w0 ws P0 (fun (_ : Unit) => .string r_1) (fun (_ : Unit) => [box g0 54 #[.slice A0_0 n0_0 c0_0, .int .i64 r_2, .int .u64 r_3]])) := by
 unfold spec_l1Cur_spoilt.f at h
 obtain rfl := (R0_0 ws (KeptB.refl _ _)).1
 refine enter Tryz.func49 rfl Tryz.ntmps49 rfl hF (c_seq (za0 (o_q rfl rfl (q_asg rfl) (o_end (za1 (c_seq (c_seq (za0 (o_q rfl rfl (za3 rfl) ?_)))))))))
 refine bindE3 h (fun i2 i3 i4 hx1 h => ?_) rfl
 refine o_e rfl (za7 1 Z Tryz.func79 N79 rfl rfl rfl (fun w P1 hF hB hS hT => spec_l1Cur_pick.calls g0 A0_0 c0_0 l0_0.length l0_0 a0_1 a0_2 2 hB hF (hS _ R0_0) hc0_0 _ _ _ hx1)) (fun _ => o_q rfl rfl (zb5 rfl rfl) (o_q rfl rfl (q_asg rfl) (o_end (za1 (zah ?_)))))
 have hl15 := h; clear h
 refine zax (σ := Int × Int × ByteArray × Int) (fun k11 ((i5, i6, s7, i8) : Int × Int × ByteArray × Int) => spec_l1Cur_spoilt.l0 l0_0 a2 k11 i5 i6 s7 i8 = some (r_1, r_2, r_3)) [1, 7, 8, 9, 13, 14, 15, 16, 17, 18, 19, 20, 21, 22, 23, 24, 25, 26, 27, 28, 29, 30, 31, 32, 33, 34, 35, 36, 37, 38, 39, 40, 41, 42, 43, 44, 45, 46, 47, 48, 49, 50, 51, 52, 53, 54, 55, 56, 57, 58, 59, 60, 61, 62, 63, 64, 65, 66] (fun ((i5, i6, s7, i8) : Int × Int × ByteArray × Int) => [(1, .string s7), (7, .int .i64 i8)]) (fun ((i5, i6, s7, i8) : Int × Int × ByteArray × Int) => [box g0 54 #[.slice A0_0 l0_0.length c0_0, .int .i64 i5, .int .u64 i6]]) k (i3, i4, a1, w64 (1 + i2)) hl15 ⟨rfl, rfl, trivial⟩ (fun w h => h) (natC (cur4 (fun i5 i6 s7 i8 => fun U17 hJ_ => ?_)) (fun k11 => (cur4 (fun i5 i6 s7 i8 => fun U17 hJ_ => ?_))))
 ·skip
  replace hJ_ : spec_l1Cur_spoilt.l0 l0_0 a2 0 i5 i6 s7 i8 = some (r_1, r_2, r_3) := hJ_
  rw [spec_l1Cur_spoilt.l0] at hJ_
  exact noneE hJ_
 ·skip
  clear hl15
  have h := hJ_; clear hJ_
  replace h : spec_l1Cur_spoilt.l0 l0_0 a2 (k11 + 1) i5 i6 s7 i8 = some (r_1, r_2, r_3) := h
  rw [spec_l1Cur_spoilt.l0] at h
  refine c_seq (c_seq (za0 (o_q rfl rfl (za3 rfl) (o_q rfl rfl (q_gtr rfl rfl) (o_q rfl rfl (za3 rfl) (byB (decide (0 < i8)) (fun hb19 => ?_) (fun hb19 => ?_)))))))
  ·replace h := br_t hb19 h
   refine o_w (za4 rfl rfl rfl (vb_ hb19)) rfl (za3 rfl) (o_w (za4 rfl rfl rfl (vb_ hb19)) rfl (q_lens Tryz.underlying9 rfl) (o_w (za4 rfl rfl rfl (vb_ hb19)) rfl (q_gtr rfl rfl) (o_q rfl rfl (zai true (vb_ hb19) rfl) (o_end (za1 (zas _ rfl (fun hb20 => ?_) (fun hb20 => ?_)))))))
   ·skip
    replace h := br_t hb20 h
    refine zal (za1 (c_seq (zah (c_seq (za0 (o_q rfl rfl (za3 rfl) (o_q rfl rfl (za3 rfl) (o_q rfl rfl (q_lens Tryz.underlying9 rfl) (bindE3 h (fun i22 i23 i24 hx21 h => ?_) rfl)))))))))
    refine o_e rfl (za7 1 Z Tryz.func79 N79 rfl rfl rfl (fun w P1 hF hB hS hT => spec_l1Cur_pick.calls g0 A0_0 c0_0 l0_0.length l0_0 i5 i6 (s7.size : Int) hB hF (hS _ R0_0) hc0_0 _ _ _ hx21)) (fun _ => o_q rfl rfl (q_asg rfl) (o_end (za1 (c_seq (za0 (o_q rfl rfl (za3 rfl) (o_q rfl rfl (za3 rfl) (o_q rfl rfl (za3 rfl) (o_q rfl rfl (q_lens Tryz.underlying9 rfl) ?_)))))))))
    refine bindE3 h (fun i26 i27 i28 hx25 h => ?_) rfl
    refine o_e rfl (za7 1 Z Tryz.func79 N79 rfl rfl rfl (fun w P1 hF hB hS hT => spec_l1Cur_pick.calls g0 A0_0 c0_0 l0_0.length l0_0 i23 i24 (a2.size : Int) hB hF (hS _ R0_0) hc0_0 _ _ _ hx25)) (fun _ => za6 h (fun y29 hy30 h => ?_) rfl)
    refine o_q rfl rfl (q_idxs Tryz.underlying9 rfl ⟨_, rfl⟩ hy30) (o_e rfl (e_lit (vs := [(0, .int .u8 y29)]) (cs := [.int .u8 y29]) (Kd.int .u8) ([y29] : List Int) Tryz.underlying22 I5 dc_ rfl dc_ rfl rfl (fun _ _ => Kd.zaf _)) (cur2 (fun A31 c32 => o_q rfl rfl (q_bstr Tryz.underlying22 Tryz.underlying5 Tryz.underlying9 rfl (fun w h => h.zat (i := 0) rfl) (Nat.succ_pos _)) (o_q rfl rfl (q_asg rfl) (o_end (za1 (c_seq (za0 (o_q rfl rfl (za3 rfl) (o_pick [1, 0] dc_ rfl ?_))))))))))
    refine bindE3 h (fun i35 i36 i37 hx34 h => ?_) rfl
    refine o_e rfl (za7 1 Z Tryz.func79 N79 rfl rfl rfl (fun w P1 hF hB hS hT => spec_l1Cur_pick.calls g0 A0_0 c0_0 l0_0.length l0_0 i27 i28 3 hB hF (hS _ R0_0) hc0_0 _ _ _ hx34)) (fun _ => o_end (za1 (zah (c_seq (za0 (o_q rfl rfl (q_eql rfl rfl) (o_q rfl rfl (q_asg rfl) (o_end (za1 ?_)))))))))
    refine zas _ rfl (fun hb38 => ?_) (fun hb38 => ?_)
    ·skip
     replace h := br_t hb38 h
     refine a_start (ds := []) MO rfl (zaa 0 rfl rfl rfl kr_ (fun _ _ _ h => h) (za3 rfl) (zaa 1 rfl rfl rfl kr_ (fun _ _ _ h => h) (za3 rfl) (za6 h (fun s39 hz40 h => ?_) rfl)))
     refine zaa 2 rfl rfl rfl kr_ (fun _ _ _ h => h) (q_cts Tryz.underlying9 rfl rfl ⟨_, rfl⟩ hz40) (zaa 3 rfl rfl rfl kr_ (fun _ _ _ h => h) (za3 rfl) (za6 h (fun s42 hs41 h => ?_) rfl))
     refine zaa 4 rfl rfl rfl kr_ (fun _ _ _ h => h) (q_sap rfl rfl hs41) (zaa 5 rfl rfl rfl kr_ (fun _ _ _ h => h) (za3 rfl) (zaa 6 rfl rfl rfl kr_ (fun _ _ _ h => h) (za3 rfl) (za6 h (fun s43 hz44 h => ?_) rfl)))
     refine zaa 7 rfl rfl rfl kr_ (fun _ _ _ h => h) (q_cts Tryz.underlying9 rfl ⟨_, rfl⟩ rfl hz44) (za6 h (fun s46 hs45 h => ?_) rfl)
     refine zaa 8 rfl rfl rfl kr_ (fun _ _ _ h => h) (q_sap rfl rfl hs45) (zaa 9 rfl rfl rfl kr_ (fun _ _ _ h => h) (q_asg rfl) (zar kr_ (zak (zak (za1 (za0 (o_q rfl rfl (za3 rfl) (o_q rfl rfl (q_sub64 rfl rfl) (o_q rfl rfl (q_asg rfl) ?_)))))))))
     refine o_end (zaj k11 (i36, i37, s46, w64 (i8 - 1)) (Nat.lt_succ_self _) h ⟨rfl, rfl, trivial⟩ (fun w h => za8 [0] dc_ rfl w h) ?_)
     exact of_
    ·skip
     replace h := br_f hb38 h
     refine c_seq (za0 (o_q rfl rfl (q_eql rfl rfl) (o_q rfl rfl (q_asg rfl) (o_end (za1 (zas _ rfl (fun hb47 => ?_) (fun hb47 => ?_)))))))
     ·skip
      replace h := br_t hb47 h
      refine a_start (ds := []) MO rfl (zaa 0 rfl rfl rfl kr_ (fun _ _ _ h => h) (za3 rfl) (zaa 1 rfl rfl rfl kr_ (fun _ _ _ h => h) (za3 rfl) (za6 h (fun s48 hz49 h => ?_) rfl)))
      refine zaa 2 rfl rfl rfl kr_ (fun _ _ _ h => h) (q_cts Tryz.underlying9 rfl rfl ⟨_, rfl⟩ hz49) (zaa 3 rfl rfl rfl kr_ (fun _ _ _ h => h) (za3 rfl) (za6 h (fun s51 hs50 h => ?_) rfl))
      refine zaa 4 rfl rfl rfl kr_ (fun _ _ _ h => h) (q_sap rfl rfl hs50) (zaa 5 rfl rfl rfl kr_ (fun _ _ _ h => h) (za3 rfl) (zaa 6 rfl rfl rfl kr_ (fun _ _ _ h => h) (za3 rfl) (zaa 7 rfl rfl rfl kr_ (fun _ _ _ h => h) (zb5 rfl rfl) (za6 h (fun s52 hz53 h => ?_) rfl))))
      refine zaa 8 rfl rfl rfl kr_ (fun _ _ _ h => h) (q_cts Tryz.underlying9 rfl ⟨_, rfl⟩ rfl hz53) (za6 h (fun s55 hs54 h => ?_) rfl)
      refine zaa 9 rfl rfl rfl kr_ (fun _ _ _ h => h) (q_sap rfl rfl hs54) (zaa 10 rfl rfl rfl kr_ (fun _ _ _ h => h) (q_asg rfl) (zar kr_ (zak (zak (za1 (za0 (o_q rfl rfl (za3 rfl) (o_q rfl rfl (q_sub64 rfl rfl) (o_q rfl rfl (q_asg rfl) ?_)))))))))
      refine o_end (zaj k11 (i36, i37, s55, w64 (i8 - 1)) (Nat.lt_succ_self _) h ⟨rfl, rfl, trivial⟩ (fun w h => za8 [0] dc_ rfl w h) ?_)
      exact of_
     ·skip
      replace h := br_f hb47 h
      refine a_start (ds := []) MO rfl (zaa 0 rfl rfl rfl kr_ (fun _ _ _ h => h) (za3 rfl) (zaa 1 rfl rfl rfl kr_ (fun _ _ _ h => h) (za3 rfl) (za6 h (fun s56 hz57 h => ?_) rfl)))
      refine zaa 2 rfl rfl rfl kr_ (fun _ _ _ h => h) (q_cts Tryz.underlying9 rfl rfl ⟨_, rfl⟩ hz57) (zaa 3 rfl rfl rfl kr_ (fun _ _ _ h => h) (za3 rfl) (zaa 4 rfl rfl rfl kr_ (fun _ _ _ h => h) (za3 rfl) (zaa 5 rfl rfl rfl kr_ (fun _ _ _ h => h) (zb5 rfl rfl) (za6 h (fun s58 hz59 h => ?_) rfl))))
      refine zaa 6 rfl rfl rfl kr_ (fun _ _ _ h => h) (q_cts Tryz.underlying9 rfl ⟨_, rfl⟩ rfl hz59) (za6 h (fun s61 hs60 h => ?_) rfl)
      refine zaa 7 rfl rfl rfl kr_ (fun _ _ _ h => h) (q_sap rfl rfl hs60) (zaa 8 rfl rfl rfl kr_ (fun _ _ _ h => h) (q_asg rfl) (zar kr_ (zak (zak (za1 (za0 (o_q rfl rfl (za3 rfl) (o_q rfl rfl (q_sub64 rfl rfl) (o_q rfl rfl (q_asg rfl) ?_)))))))))
      refine o_end (zaj k11 (i36, i37, s61, w64 (i8 - 1)) (Nat.lt_succ_self _) h ⟨rfl, rfl, trivial⟩ (fun w h => za8 [0] dc_ rfl w h) ?_)
      exact of_
   ·skip
    replace h := br_f hb20 h
    refine zb2 (zab (zab (x_hit (za1 (c_seq (za0 (o_q rfl rfl (za3 rfl) (o_q rfl rfl (q_asg rfl) (o_end ?_)))))))))
    refine za1 (c_ret ?_)
    have e0_ := si_ h; clear h
    obtain ⟨rfl, e1_⟩ := Prod.mk.inj e0_
    obtain ⟨rfl, e2_⟩ := Prod.mk.inj e1_
    subst e2_
    exact x_r1 () Tryz.results49 (zad rfl) rfl (fun w h => za8 [0] dc_ rfl w h)
  ·replace h := br_f hb19 h
   refine o_n (d := 16) (za2 rfl rfl rfl (vb_ hb19) rfl) (Eq.refl (some 16)) (o_n (d := 17) (za2 rfl rfl rfl (vb_ hb19) rfl) (Eq.refl (some 17)) (o_n (d := 18) (za2 rfl rfl rfl (vb_ hb19) rfl) (Eq.refl (some 18)) (o_q rfl rfl (zai false (vb_ hb19) rfl) (o_end (za1 (zb1 rfl (zb2 (zab (zab ?_)))))))))
   refine x_hit (za1 (c_seq (za0 (o_q rfl rfl (za3 rfl) (o_q rfl rfl (q_asg rfl) (o_end (za1 (c_ret ?_))))))))
   have e0_ := si_ h; clear h
   obtain ⟨rfl, e1_⟩ := Prod.mk.inj e0_
   obtain ⟨rfl, e2_⟩ := Prod.mk.inj e1_
   subst e2_
   exact x_r1 () Tryz.results49 (zad rfl) rfl (fun w h => za8 [0] dc_ rfl w h)

def spec_DrawParseRegCode.f (k : Nat) (l0 : List Int) : Option ByteArray := (spec_l1Cur_code9.f k l0 0 0).bind fun (i4, l5, l6, l7, i8, i9) => ((spec_reCode.f k i4 l5 l6 l7).bind fun b30 => if b30 = true then ((spec_reText.f k i4 l5 l6 l7).bind fun s33 => some s33) else (some (⟨#[49, 58, 48, 58, 45, 58, 48]⟩ : ByteArray))).bind fun s23 => (spec_l1Cur_one.f l0 i8 i9 3).bind fun (b35, i36, i37) => if b35 = true then ((spec_l1Cur_spoilt.f k l0 i36 i37 s23 (⟨#[48, 49, 50, 51, 58, 44, 61, 42, 45]⟩ : ByteArray)).bind fun (s40, i41, i42) => some s40) else (some s23)
theorem spec_DrawParseRegCode.calls (k : Nat) {w0 ws : World} {P0 : Nat → Prop} (A0 : Option Addr) (c0 : Nat) (n0 : Nat) (l0 : List Int) (Z : Below w0.heap.size w0 ws) (hF : Fr w0 ws P0 [] ws) (R0 : Stable ws P0 (fun w => Kd.C (Kd.int .u8) w A0 n0 l0)) (hc0 : n0 ≤ c0) (r_1 : ByteArray) (h : spec_DrawParseRegCode.f k l0 = some r_1) :
  Calls Tryz.prog 30 #[.slice A0 n0 c0] ws (Post1 w0 ws P0 (fun (_ : Unit) => .string r_1) (fun (_ : Unit) => [])) := by
 unfold spec_DrawParseRegCode.f at h
 obtain rfl := (R0 ws (KeptB.refl _ _)).1
 refine enter Tryz.func30 rfl Tryz.ntmps30 rfl hF (c_seq (za0 (o_q rfl rfl (q_asg rfl) (o_end (za1 (c_seq (za0 (o_q rfl rfl (za3 rfl) (o_q rfl rfl (zaw (vs := [(0, .slice A0 l0.length c0)]) (cs := [.slice A0 l0.length c0, .int .i64 0, .int .u64 0]) rfl rfl) ?_)))))))))
 refine o_e rfl (e_box rfl) (fun g1 => o_q rfl rfl (q_asg rfl) (o_end (za1 (c_seq (za0 (o_q rfl rfl (za3 rfl) (bindE6 h (fun i4 l5 l6 l7 i8 i9 hx3 h => ?_) rfl)))))))
 refine o_e rfl (za7 1 Z Tryz.func65 N65 rfl rfl rfl (fun w P1 hF hB hS hT => spec_l1Cur_code9.calls k g1 A0 c0 l0.length l0 0 0 hB hF (hS _ R0) hc0 _ _ _ _ _ _ hx3)) (cur6 (fun A10 c11 A12 c13 A14 c15 => o_e rfl (zao V38 rfl) (fun g16 => o_e rfl (zae (i := 0) rfl rfl rfl Z38 rfl rfl) (fun _ => o_end (za1 (c_seq (za0 (o_q rfl rfl (q_asg rfl) (o_end (za1 ?_))))))))))
 refine za6 h (fun o24 hl25 hR26 => ?_) rfl
 clear h
 refine c_cutJ (σ := ByteArray) (fun s23 => some s23 = some o24) [5, 11, 12, 13, 14] (fun s23 => [(5, .string s23)]) (fun s23 => [box g1 54 #[.slice A0 l0.length c0, .int .i64 i8, .int .u64 i9], box g16 38 #[.int .i64 i4, .slice A10 l5.length c11, .slice A12 l6.length c13, .slice A14 l7.length c15], row (Kd.int .i64) 3 (.slice A10 l5.length c11) l5, row zaq 84 (.slice A12 l6.length c13) l6, row (Kd.int .i64) 3 (.slice A14 l7.length c15) l7]) ?_ ?_
 ·skip
  have h := hl25; clear hl25
  clear hR26
  refine c_seq (za0 (o_q rfl rfl (q_ldB G38 Z38 rfl (fun w h => h.zac (i := 0) rfl) rfl) (za6 h (fun b30 hx29 h => ?_) rfl)))
  refine o_e rfl (za7 0 Z Tryz.func56 N56 rfl rfl rfl (fun w P1 hF hB hS hT => spec_reCode.calls k i4 A10 c11 l5.length l5 A12 c13 l6.length l6 A14 c15 l7.length l7 hB hF (hT 1 _ rfl).row (hT 1 _ rfl).cap (hT 2 _ rfl).row (hT 2 _ rfl).cap (hT 3 _ rfl).row (hT 3 _ rfl).cap _ hx29)) (fun _ => o_end (za1 (zas _ rfl (fun hb31 => ?_) (fun hb31 => ?_))))
  ·skip
   replace h := bb_t hb31 h
   refine za0 (o_q rfl rfl (q_ldB G38 Z38 rfl (fun w h => h.zac (i := 0) rfl) rfl) (za6 h (fun s33 hx32 h => ?_) rfl))
   refine o_e rfl (za7 0 Z Tryz.func57 N57 rfl rfl rfl (fun w P1 hF hB hS hT => spec_reText.calls k i4 A10 c11 l5.length l5 A12 c13 l6.length l6 A14 c15 l7.length l7 hB hF (hT 1 _ rfl).row (hT 1 _ rfl).cap (hT 2 _ rfl).row (hT 2 _ rfl).cap (hT 3 _ rfl).row (hT 3 _ rfl).cap _ hx32)) (fun _ => o_q rfl rfl (q_asg rfl) (o_end (zam s33 h ⟨rfl, trivial⟩ (fun w h => za8 [4, 0, 1, 2, 3] dc_ rfl w h) ?_)))
   exact of_
  ·skip
   replace h := bb_f hb31 h
   refine zal (zam (⟨#[49, 58, 48, 58, 45, 58, 48]⟩ : ByteArray) h ⟨rfl, trivial⟩ (fun w h => za8 [4, 0, 1, 2, 3] dc_ rfl w h) ?_)
   exact of_
 ·skip
  refine (fun s23 => fun U27 hJ28 => ?_)
  have e_ := si_ hJ28; have h := hR26; rw [← e_] at h; clear e_ hJ28 hR26 hl25
  refine c_seq (c_seq (za0 (o_q rfl rfl (za3 rfl) (bindE3 h (fun b35 i36 i37 hx34 h => ?_) rfl))))
  refine o_e rfl (za7 1 Z Tryz.func48 N48 rfl rfl rfl (fun w P1 hF hB hS hT => spec_l1Cur_one.calls g1 A0 c0 l0.length l0 i8 i9 3 hB hF (hS _ R0) hc0 _ _ _ hx34)) (fun _ => o_end (za1 (zas _ rfl (fun hb38 => ?_) (fun hb38 => ?_))))
  ·skip
   replace h := bb_t hb38 h
   refine c_seq (za0 (o_q rfl rfl (za3 rfl) (o_q rfl rfl (za3 rfl) (bindE3 h (fun s40 i41 i42 hx39 h => ?_) rfl))))
   refine o_e rfl (za7 1 Z Tryz.func49 N49 rfl rfl rfl (fun w P1 hF hB hS hT => spec_l1Cur_spoilt.calls k g1 A0 c0 l0.length l0 i36 i37 s23 (⟨#[48, 49, 50, 51, 58, 44, 61, 42, 45]⟩ : ByteArray) hB hF (hS _ R0) hc0 _ _ _ hx39)) (fun _ => o_q rfl rfl (q_asg rfl) (o_end (za1 (c_ret (za9 ?_)))))
   have e0_ := si_ h; clear h
   subst e0_
   exact x_r1 () Tryz.results30 (zad rfl) rfl (fun w h => za8 [] dc_ rfl w h)
  ·skip
   replace h := bb_f hb38 h
   refine zal (za1 (c_seq (za0 (o_q rfl rfl (za3 rfl) (o_q rfl rfl (q_asg rfl) (o_end (za1 (c_ret ?_))))))))
   have e0_ := si_ h; clear h
   subst e0_
   exact x_r1 () Tryz.results30 (zad rfl) rfl (fun w h => za8 [] dc_ rfl w h)

def spec_l1Split.l0 (a0 : ByteArray) (a1 : Int) : Nat → (List ByteArray) → Int → Int → Option ((List ByteArray) × Int)
 | 0, _, _, _ => none
 | k9 + 1, l2, i5, i6 => if i6 < (a0.size : Int) then ((gts a0 i6).bind fun y18 => if y18 = a1 then ((cts a0 i5 i6).bind fun s21 => (ap l2 ([s21] : List ByteArray)).bind fun l26 => spec_l1Split.l0 a0 a1 k9 l26 (w64 (i6 + 1)) (w64 (i6 + 1))) else (spec_l1Split.l0 a0 a1 k9 l2 i5 (w64 (i6 + 1)))) else (some (l2, i5))
def spec_l1Split.f (k : Nat) (a0 : ByteArray) (a1 : Int) : Option (List ByteArray) := (spec_l1Split.l0 a0 a1 k ([] : List ByteArray) 0 0).bind fun (l2, i5) => (cts a0 i5 (a0.size : Int)).bind fun s30 => (ap l2 ([s30] : List ByteArray)).bind fun l35 => some l35
theorem spec_l1Split.calls (k : Nat) {w0 ws : World} {P0 : Nat → Prop} (a0 : ByteArray) (a1 : Int) (Z : Below w0.heap.size w0 ws) (hF : Fr w0 ws P0 [] ws)  (r_1 : List ByteArray) (h : spec_l1Split.f k a0 a1 = some r_1) :
  Calls Tryz.prog 50 #[.string a0, .int .u8 a1] ws (Post1 w0 ws P0 (fun ((q_2, q_3) : (Option Addr) × Nat) => .slice q_2 r_1.length q_3) (fun ((q_2, q_3) : (Option Addr) × Nat) => [row Kd.string 9 (.slice q_2 r_1.length q_3) r_1])) := by
 unfold spec_l1Split.f at h
 refine enter Tryz.func50 rfl Tryz.ntmps50 rfl hF (c_seq (za0 (o_q rfl rfl (q_asg rfl) (o_end (za1 (c_seq (za0 (o_q rfl rfl (q_asg rfl) (o_end ?_)))))))))
 refine za1 (c_seq (za0 (o_q rfl rfl (q_asg rfl) (o_end (za1 (c_seq (c_seq (za0 (o_q rfl rfl (q_asg rfl) ?_)))))))))
 refine o_end (za1 (zah (c_nil Kd.string 9 (za6 h (fun o14 hl13 hR12 => ?_) rfl))))
 clear h
 refine zax (σ := (List ByteArray) × Int × Int × (Option Addr) × Nat) (fun k9 ((l2, i5, i6, A3, c4) : (List ByteArray) × Int × Int × (Option Addr) × Nat) => spec_l1Split.l0 a0 a1 k9 l2 i5 i6 = some o14) [5, 6, 7, 8, 9, 10, 11, 12, 13, 14, 15, 16, 17, 18, 19, 20, 21, 22, 23, 24, 25, 26, 27] (fun ((l2, i5, i6, A3, c4) : (List ByteArray) × Int × Int × (Option Addr) × Nat) => [(5, .slice A3 l2.length c4), (6, .int .i64 i5), (7, .int .i64 i6)]) (fun ((l2, i5, i6, A3, c4) : (List ByteArray) × Int × Int × (Option Addr) × Nat) => [row Kd.string 9 (.slice A3 l2.length c4) l2]) k (([] : List ByteArray), 0, 0, none, 0) hl13 ⟨rfl, rfl, rfl, trivial⟩ (fun w h => h) (natC (cur5 (fun l2 i5 i6 A3 c4 => fun U15 hJ_ => ?_)) (fun k9 => (cur5 (fun l2 i5 i6 A3 c4 => fun U15 hJ_ => ?_))))
 ·skip
  replace hJ_ : spec_l1Split.l0 a0 a1 0 l2 i5 i6 = some o14 := hJ_
  rw [spec_l1Split.l0] at hJ_
  exact noneE hJ_
 ·skip
  clear hl13
  have h := hJ_; clear hJ_
  replace h : spec_l1Split.l0 a0 a1 (k9 + 1) l2 i5 i6 = some o14 := h
  rw [spec_l1Split.l0] at h
  refine c_seq (c_seq (za0 (o_q rfl rfl (za3 rfl) (o_q rfl rfl (za3 rfl) (o_q rfl rfl (q_lens Tryz.underlying9 rfl) (o_q rfl rfl (q_lss rfl rfl) (o_end (za1 (zas _ rfl (fun hb17 => ?_) (fun hb17 => ?_))))))))))
  ·skip
   replace h := br_t hb17 h
   refine zal (za1 (c_seq (zah (c_seq (za0 (o_q rfl rfl (za3 rfl) (o_q rfl rfl (za3 rfl) (za6 h (fun y18 hy19 h => ?_) rfl))))))))
   refine o_q rfl rfl (q_idxs Tryz.underlying9 rfl ⟨_, rfl⟩ hy19) (o_q rfl rfl (za3 rfl) (o_q rfl rfl (q_eql rfl rfl) (o_end (za1 (zas _ rfl (fun hb20 => ?_) (fun hb20 => ?_))))))
   ·skip
    replace h := br_t hb20 h
    refine c_seq (za0 (o_q rfl rfl (za3 rfl) (o_q rfl rfl (za3 rfl) (o_q rfl rfl (za3 rfl) (o_q rfl rfl (za3 rfl) (za6 h (fun s21 hz22 h => ?_) rfl))))))
    refine o_q rfl rfl (q_cts Tryz.underlying9 rfl ⟨_, rfl⟩ ⟨_, rfl⟩ hz22) (o_e rfl (e_lit (vs := [(0, .string s21)]) (cs := [.string s21]) Kd.string ([s21] : List ByteArray) Tryz.underlying64 I9 dc_ rfl dc_ rfl rfl (fun _ _ => Kd.zaf _)) (cur2 (fun A23 c24 => za6 h (fun l26 ha27 h => ?_) rfl)))
    refine o_e rfl (e_app (i := 1) (j := 0) Tryz.underlying64 I9 rfl dc_ dc_ rfl rfl rfl rfl rfl ha27) (cur2 (fun A28 c29 => o_q rfl rfl (q_asg rfl) (o_end (za1 (za0 (o_q rfl rfl (za3 rfl) (o_q rfl rfl (zb5 rfl rfl) (o_q rfl rfl (q_asg rfl) (o_end (zak ?_))))))))))
    refine za1 (za0 (o_q rfl rfl (za3 rfl) (o_q rfl rfl (zb5 rfl rfl) (o_q rfl rfl (q_asg rfl) (o_end (zaj k9 (l26, w64 (i6 + 1), w64 (i6 + 1), A28, c29) (Nat.lt_succ_self _) h ⟨rfl, rfl, rfl, trivial⟩ (fun w h => za8 [1] dc_ rfl w h) ?_))))))
    exact of_
   ·skip
    replace h := br_f hb20 h
    refine zal (zak (za1 (za0 (o_q rfl rfl (za3 rfl) (o_q rfl rfl (zb5 rfl rfl) (o_q rfl rfl (q_asg rfl) (o_end (zaj k9 (l2, i5, w64 (i6 + 1), A3, c4) (Nat.lt_succ_self _) h ⟨rfl, rfl, rfl, trivial⟩ (fun w h => za8 [0] dc_ rfl w h) ?_))))))))
    exact of_
  ·skip
   replace h := br_f hb17 h
   refine zb2 (zab (zab ?_))
   have e_ := si_ h; replace h := hR12; rw [← e_] at h; clear e_
   refine x_hit (za1 (c_seq (za0 (o_q rfl rfl (za3 rfl) (o_q rfl rfl (za3 rfl) (o_q rfl rfl (za3 rfl) (za6 h (fun s30 hz31 h => ?_) rfl)))))))
   refine o_q rfl rfl (q_cts Tryz.underlying9 rfl ⟨_, rfl⟩ rfl hz31) (o_e rfl (e_lit (vs := [(0, .string s30)]) (cs := [.string s30]) Kd.string ([s30] : List ByteArray) Tryz.underlying64 I9 dc_ rfl dc_ rfl rfl (fun _ _ => Kd.zaf _)) (cur2 (fun A32 c33 => za6 h (fun l35 ha36 h => ?_) rfl)))
   refine o_e rfl (e_app (i := 1) (j := 0) Tryz.underlying64 I9 rfl dc_ dc_ rfl rfl rfl rfl rfl ha36) (cur2 (fun A37 c38 => o_q rfl rfl (q_asg rfl) (o_end (za1 (c_ret ?_)))))
   have e0_ := si_ h; clear h
   subst e0_
   exact x_r1 (A37, c38) Tryz.results50 (zad rfl) rfl (fun w h => za8 [1] dc_ rfl w h)

def spec_l1Read.l0 (a0 : ByteArray) : Nat → Int → Int → Option ((Int) ⊕ (Int))
 | 0, _, _ => none
 | k24 + 1, i20, i21 => if i21 < (a0.size : Int) then ((gts a0 i21).bind fun y33 => if y33 < 48 then (some (.inl (-1))) else ((gts a0 i21).bind fun y36 => if 57 < y36 then (some (.inl (-1))) else ((gts a0 i21).bind fun y39 => spec_l1Read.l0 a0 k24 (w64 (w64 (10 * i20) + (w64 (IntKind.u8.wrap (y39 - 48))))) (w64 (i21 + 1))))) else (some (.inr i20))
def spec_l1Read.f (k : Nat) (a0 : ByteArray) : Option Int := ((spec_l1In.f (a0.size : Int) 1 6).bind fun b14 => if b14 = true then ((gts a0 0).bind fun y16 => if y16 = 48 then (if 1 < (a0.size : Int) then (some (.inl (-1))) else (some (.inr ()))) else (some (.inr ()))) else (some (.inl (-1))) : Option ((Int) ⊕ (Unit))).bind fun o_ => match o_ with | .inl r_ => some r_ | .inr _ => (spec_l1Read.l0 a0 k 0 0).bind fun o_ => match o_ with | .inl r_ => some r_ | .inr i20 => some i20
theorem spec_l1Read.calls (k : Nat) {w0 ws : World} {P0 : Nat → Prop} (a0 : ByteArray) (Z : Below w0.heap.size w0 ws) (hF : Fr w0 ws P0 [] ws)  (r_1 : Int) (h : spec_l1Read.f k a0 = some r_1) :
  Calls Tryz.prog 51 #[.string a0] ws (Post1 w0 ws P0 (fun (_ : Unit) => .int .i64 r_1) (fun (_ : Unit) => [])) := by
 unfold spec_l1Read.f at h
 refine enter Tryz.func51 rfl Tryz.ntmps51 rfl hF (c_seq (za0 (o_q rfl rfl (q_asg rfl) (o_end (za1 (za6 h (fun o8 hl9 hR10 => ?_) rfl))))))
 clear h
 refine c_cutJ (σ := Unit) (fun _ => some (.inr ()) = some o8) [2, 5, 6, 7, 8, 9, 10, 11, 12, 13, 14, 15, 16, 17, 18] (fun _ => []) (fun _ => []) ?_ ?_
 ·skip
  have h := hl9; clear hl9
  refine c_seq (za0 (o_q rfl rfl (za3 rfl) (o_q rfl rfl (q_lens Tryz.underlying9 rfl) (za6 h (fun b14 hx13 h => ?_) rfl))))
  refine o_e rfl (za7 0 Z Tryz.func84 N84 rfl rfl rfl (fun w P1 hF hB hS hT => spec_l1In.calls (a0.size : Int) 1 6 hB hF _ hx13)) (fun _ => o_q rfl rfl (q_not rfl) (o_q rfl rfl (za3 rfl) (byB b14 (fun hb15 => ?_) (fun hb15 => ?_))))
  ·replace h := bb_t hb15 h
   refine o_w (za4 rfl rfl rfl (congrArg (fun b => Value.bool (!(b))) hb15)) rfl (za3 rfl) (za6 h (fun y16 hy17 h => ?_) rfl)
   refine o_w (za4 rfl rfl rfl (congrArg (fun b => Value.bool (!(b))) hb15)) rfl (q_idxs Tryz.underlying9 rfl ⟨_, rfl⟩ hy17) (o_w (za4 rfl rfl rfl (congrArg (fun b => Value.bool (!(b))) hb15)) rfl (q_eql rfl rfl) (o_w (za4 rfl rfl rfl (congrArg (fun b => Value.bool (!(b))) hb15)) rfl (za3 rfl) (byB (decide (y16 = 48)) (fun hb18 => ?_) (fun hb18 => ?_))))
   ·replace h := br_t hb18 h
    refine o_w (za4 rfl rfl rfl (vb_ hb18)) rfl (za3 rfl) (o_w (za4 rfl rfl rfl (vb_ hb18)) rfl (q_lens Tryz.underlying9 rfl) (o_w (za4 rfl rfl rfl (vb_ hb18)) rfl (q_gtr rfl rfl) (o_w (za4 rfl rfl rfl (congrArg (fun b => Value.bool (!(b))) hb15)) rfl (zai true (vb_ hb18) rfl) (o_q rfl rfl (zai false (congrArg (fun b => Value.bool (!(b))) hb15) rfl) (o_end (za1 (zas _ rfl (fun hb19 => ?_) (fun hb19 => ?_))))))))
    ·skip
     replace h := br_t hb19 h
     refine c_seq (za0 (o_q rfl rfl (q_asg rfl) (o_end (za1 (c_ret (za9 ?_))))))
     have e_ := si_ h; replace h := hR10; rw [← e_] at h; clear e_
     have e0_ := si_ h; clear h
     subst e0_
     exact x_r1 () Tryz.results51 (zad rfl) rfl (fun w h => za8 [] dc_ rfl w h)
    ·skip
     replace h := br_f hb19 h
     refine zal (zam () h trivial (fun w h => za8 [] dc_ rfl w h) ?_)
     exact of_
   ·replace h := br_f hb18 h
    refine o_n (d := 14) (za2 rfl rfl rfl (vb_ hb18) rfl) (Eq.refl (some 14)) (o_n (d := 15) (za2 rfl rfl rfl (vb_ hb18) rfl) (Eq.refl (some 15)) (o_n (d := 16) (za2 rfl rfl rfl (vb_ hb18) rfl) (Eq.refl (some 16)) (o_w (za4 rfl rfl rfl (congrArg (fun b => Value.bool (!(b))) hb15)) rfl (zai false (vb_ hb18) rfl) (o_q rfl rfl (zai false (congrArg (fun b => Value.bool (!(b))) hb15) rfl) (o_end (za1 (zb1 rfl (zal (zam () h trivial (fun w h => za8 [] dc_ rfl w h) ?_)))))))))
    exact of_
  ·replace h := bb_f hb15 h
   refine o_n (d := 10) (za2 rfl rfl rfl (congrArg (fun b => Value.bool (!(b))) hb15) rfl) (Eq.refl (some 10)) (o_n (d := 11) (za2 rfl rfl rfl (congrArg (fun b => Value.bool (!(b))) hb15) rfl) (Eq.refl (some 11)) (o_n (d := 12) (za2 rfl rfl rfl (congrArg (fun b => Value.bool (!(b))) hb15) rfl) (Eq.refl (some 12)) (o_n (d := 13) (za2 rfl rfl rfl (congrArg (fun b => Value.bool (!(b))) hb15) rfl) (Eq.refl (some 13)) (o_n (d := 14) (zb3 rfl rfl rfl rfl) (Eq.refl (some 14)) (o_n (d := 15) (zb3 rfl rfl rfl rfl) (Eq.refl (some 15)) (o_n (d := 16) (zb3 rfl rfl rfl rfl) (Eq.refl (some 16)) (o_n (d := 17) (za2 rfl rfl rfl (congrArg (fun b => Value.bool (!(b))) hb15) rfl) (Eq.refl (some 17)) (o_q rfl rfl (zai true (congrArg (fun b => Value.bool (!(b))) hb15) rfl) (o_end ?_)))))))))
   refine za1 (zay rfl (c_seq (za0 (o_q rfl rfl (q_asg rfl) (o_end (za1 (c_ret (za9 ?_))))))))
   have e_ := si_ h; replace h := hR10; rw [← e_] at h; clear e_
   have e0_ := si_ h; clear h
   subst e0_
   exact x_r1 () Tryz.results51 (zad rfl) rfl (fun w h => za8 [] dc_ rfl w h)
 ·skip
  refine (fun _ => fun U11 hJ12 => ?_)
  have e_ := si_ hJ12; have h := hR10; rw [← e_] at h; clear e_ hJ12 hR10 hl9
  refine c_seq (za0 (o_q rfl rfl (q_asg rfl) (o_end (za1 (c_seq (c_seq (za0 (o_q rfl rfl (q_asg rfl) (o_end ?_)))))))))
  refine za1 (zah (za6 h (fun o29 hl28 hR27 => ?_) rfl))
  clear h
  refine zax (σ := Int × Int) (fun k24 ((i20, i21) : Int × Int) => spec_l1Read.l0 a0 k24 i20 i21 = some o29) [2, 3, 4, 19, 20, 21, 22, 23, 24, 25, 26, 27, 28, 29, 30, 31, 32, 33, 34, 35, 36, 37, 38, 39, 40, 41, 42] (fun ((i20, i21) : Int × Int) => [(3, .int .i64 i20), (4, .int .i64 i21)]) (fun ((i20, i21) : Int × Int) => []) k (0, 0) hl28 ⟨rfl, rfl, trivial⟩ (fun w h => h) (natC (cur2 (fun i20 i21 => fun U30 hJ_ => ?_)) (fun k24 => (cur2 (fun i20 i21 => fun U30 hJ_ => ?_))))
  ·skip
   replace hJ_ : spec_l1Read.l0 a0 0 i20 i21 = some o29 := hJ_
   rw [spec_l1Read.l0] at hJ_
   exact noneE hJ_
  ·skip
   clear hl28
   have h := hJ_; clear hJ_
   replace h : spec_l1Read.l0 a0 (k24 + 1) i20 i21 = some o29 := h
   rw [spec_l1Read.l0] at h
   refine c_seq (c_seq (za0 (o_q rfl rfl (za3 rfl) (o_q rfl rfl (za3 rfl) (o_q rfl rfl (q_lens Tryz.underlying9 rfl) (o_q rfl rfl (q_lss rfl rfl) (o_end (za1 (zas _ rfl (fun hb32 => ?_) (fun hb32 => ?_))))))))))
   ·skip
    replace h := br_t hb32 h
    refine zal (za1 (c_seq (zah (c_seq (c_seq (za0 (o_q rfl rfl (za3 rfl) (o_q rfl rfl (za3 rfl) (za6 h (fun y33 hy34 h => ?_) rfl)))))))))
    refine o_q rfl rfl (q_idxs Tryz.underlying9 rfl ⟨_, rfl⟩ hy34) (o_q rfl rfl (q_lss rfl rfl) (o_q rfl rfl (za3 rfl) (byB (decide (y33 < 48)) (fun hb35 => ?_) (fun hb35 => ?_))))
    ·replace h := br_t hb35 h
     refine o_n (d := 30) (za2 rfl rfl rfl (vb_ hb35) rfl) (Eq.refl (some 30)) (o_n (d := 31) (za2 rfl rfl rfl (vb_ hb35) rfl) (Eq.refl (some 31)) (o_n (d := 32) (za2 rfl rfl rfl (vb_ hb35) rfl) (Eq.refl (some 32)) (o_n (d := 33) (za2 rfl rfl rfl (vb_ hb35) rfl) (Eq.refl (some 33)) (o_q rfl rfl (zai true (vb_ hb35) rfl) (o_end (za1 (zay rfl (c_seq (za0 ?_)))))))))
     refine o_q rfl rfl (q_asg rfl) (o_end (za1 (c_ret (za9 (zan (za9 (za9 ?_)))))))
     have e_ := si_ h; replace h := hR27; rw [← e_] at h; clear e_
     refine zan (za9 ?_)
     have e0_ := si_ h; clear h
     subst e0_
     exact x_r1 () Tryz.results51 (zad rfl) rfl (fun w h => za8 [] dc_ rfl w h)
    ·replace h := br_f hb35 h
     refine o_w (za4 rfl rfl rfl (vb_ hb35)) rfl (za3 rfl) (o_w (za4 rfl rfl rfl (vb_ hb35)) rfl (za3 rfl) (za6 h (fun y36 hy37 h => ?_) rfl))
     refine o_w (za4 rfl rfl rfl (vb_ hb35)) rfl (q_idxs Tryz.underlying9 rfl ⟨_, rfl⟩ hy37) (o_w (za4 rfl rfl rfl (vb_ hb35)) rfl (q_gtr rfl rfl) (o_q rfl rfl (zai false (vb_ hb35) rfl) (o_end (za1 (zas _ rfl (fun hb38 => ?_) (fun hb38 => ?_))))))
     ·skip
      replace h := br_t hb38 h
      refine c_seq (za0 (o_q rfl rfl (q_asg rfl) (o_end (za1 (c_ret (za9 (zan (za9 (za9 ?_)))))))))
      have e_ := si_ h; replace h := hR27; rw [← e_] at h; clear e_
      refine zan (za9 ?_)
      have e0_ := si_ h; clear h
      subst e0_
      exact x_r1 () Tryz.results51 (zad rfl) rfl (fun w h => za8 [] dc_ rfl w h)
     ·skip
      replace h := br_f hb38 h
      refine zal (za1 (za0 (o_q rfl rfl (za3 rfl) (o_q rfl rfl (q_mul64 rfl rfl) (o_q rfl rfl (za3 rfl) (o_q rfl rfl (za3 rfl) (za6 h (fun y39 hy40 h => ?_) rfl)))))))
      refine o_q rfl rfl (q_idxs Tryz.underlying9 rfl ⟨_, rfl⟩ hy40) (o_q rfl rfl (q_sub rfl rfl) (o_q rfl rfl (q_conv (by rw [Tryz.underlying5]; rfl) Tryz.underlying3 rfl) (o_q rfl rfl (zb5 rfl rfl) (o_q rfl rfl (q_asg rfl) (o_end (zak (za1 (za0 (o_q rfl rfl (za3 rfl) ?_)))))))))
      refine o_q rfl rfl (zb5 rfl rfl) (o_q rfl rfl (q_asg rfl) (o_end (zaj k24 (w64 (w64 (10 * i20) + (w64 (IntKind.u8.wrap (y39 - 48)))), w64 (i21 + 1)) (Nat.lt_succ_self _) h ⟨rfl, rfl, trivial⟩ (fun w h => za8 [] dc_ rfl w h) ?_)))
      exact of_
   ·skip
    replace h := br_f hb32 h
    refine zb2 (zab (zab ?_))
    have e_ := si_ h; replace h := hR27; rw [← e_] at h; clear e_
    refine x_hit (za1 (c_seq (za0 (o_q rfl rfl (za3 rfl) (o_q rfl rfl (q_asg rfl) (o_end (za1 (c_ret ?_))))))))
    have e0_ := si_ h; clear h
    subst e0_
    exact x_r1 () Tryz.results51 (zad rfl) rfl (fun w h => za8 [] dc_ rfl w h)

def spec_reOps.l0 (k : Nat) : (List ByteArray) → (List SRegOp) → Int → Option (((List SRegOp) × Bool) ⊕ ((List SRegOp)))
 | [], l7, i10 => some (.inr l7)
 | y11 :: ys12, l7, i10 => (spec_l1Split.f k y11 61).bind fun l23 => if (l23.length : Int) ≠ 2 then (some (.inl (([] : List SRegOp), false))) else ((gt l23 1).bind fun y29 => (spec_l1Split.f k y29 42).bind fun l31 => if (l31.length : Int) ≠ 2 then (some (.inl (([] : List SRegOp), false))) else ((gt l23 0).bind fun y36 => (gt l31 0).bind fun y39 => (gt l31 1).bind fun y41 => (spec_l1Read.f k y36).bind fun i43 => (spec_l1Read.f k y39).bind fun i45 => (spec_l1Read.f k y41).bind fun i47 => (ap l7 ([(⟨i43, i45, i47⟩ : SRegOp)] : List SRegOp)).bind fun l51 => spec_reOps.l0 k ys12 l51 (i10 + 1)))
def spec_reOps.f (k : Nat) (a0 : ByteArray) : Option ((List SRegOp) × Bool) := if a0 = (⟨#[45]⟩ : ByteArray) then (some (([] : List SRegOp), true)) else ((spec_l1Split.f k a0 44).bind fun l3 => (spec_reOps.l0 k l3 ([] : List SRegOp) 0).bind fun o_ => match o_ with | .inl r_ => some r_ | .inr l7 => some (l7, true))
theorem spec_reOps.calls (k : Nat) {w0 ws : World} {P0 : Nat → Prop} (a0 : ByteArray) (Z : Below w0.heap.size w0 ws) (hF : Fr w0 ws P0 [] ws)  (r_1 : List SRegOp) (r_4 : Bool) (h : spec_reOps.f k a0 = some (r_1, r_4)) :
  Calls Tryz.prog 54 #[.string a0] ws (Post1 w0 ws P0 (fun ((q_2, q_3) : (Option Addr) × Nat) => .tuple #[.slice q_2 r_1.length q_3, .bool r_4]) (fun ((q_2, q_3) : (Option Addr) × Nat) => [row zaq 84 (.slice q_2 r_1.length q_3) r_1])) := by
 unfold spec_reOps.f at h
 refine enter Tryz.func54 rfl Tryz.ntmps54 rfl hF (c_seq (za0 (o_q rfl rfl (q_asg rfl) (o_q rfl rfl (q_asg rfl) (o_end (za1 (c_seq (c_seq (za0 ?_)))))))))
 refine o_q rfl rfl (za3 rfl) (o_q rfl rfl (q_seql rfl rfl) (o_end (za1 (zas _ rfl (fun hb1 => ?_) (fun hb1 => ?_)))))
 ·skip
  replace h := br_t hb1 h
  refine c_seq (za0 (o_q rfl rfl (q_asg rfl) (o_q rfl rfl (q_asg rfl) (o_end (za1 (c_ret (za9 (x_nil zaq 84 ?_))))))))
  have e0_ := si_ h; clear h
  obtain ⟨rfl, e1_⟩ := Prod.mk.inj e0_
  subst e1_
  exact x_r2 (none, 0) Tryz.results54 (zad rfl) (zad rfl) rfl (fun w h => za8 [0] dc_ rfl w h)
 ·skip
  replace h := br_f hb1 h
  refine zal (za1 (c_seq (za0 (o_q rfl rfl (q_asg rfl) (o_end (za1 (c_seq (c_seq (za0 ?_)))))))))
  refine o_q rfl rfl (za3 rfl) (za6 h (fun l3 hx2 h => ?_) rfl)
  refine o_e rfl (za7 0 Z Tryz.func50 N50 rfl rfl rfl (fun w P1 hF hB hS hT => spec_l1Split.calls k a0 44 hB hF _ hx2)) (cur2 (fun A4 c5 => o_q rfl rfl (q_len Tryz.underlying64 rfl) (o_q rfl rfl (za3 rfl) (o_end (za1 (zah (c_nil zaq 84 (za6 h (fun o18 hl17 hR16 => ?_) rfl))))))))
  clear h
  refine c_fact (p := l3.length ≤ 9223372036854775807) (fun w h => (h.zat (i := 1) rfl).2.1) (fun hm15 => zax (σ := (List ByteArray) × (List SRegOp) × Int × (Option Addr) × Nat) (fun k13 ((ys12, l7, i10, A8, c9) : (List ByteArray) × (List SRegOp) × Int × (Option Addr) × Nat) => Rg l3 i10 ys12 ∧ ys12.length = k13 ∧ spec_reOps.l0 k ys12 l7 i10 = some o18) [2, 3, 4, 6, 7, 8, 14, 15, 16, 17, 18, 19, 20, 21, 22, 23, 24, 25, 26, 27, 28, 29, 30, 31, 32, 33, 34, 35, 36, 37, 38, 39, 40, 41, 42, 43, 44, 45, 46] (fun ((ys12, l7, i10, A8, c9) : (List ByteArray) × (List SRegOp) × Int × (Option Addr) × Nat) => [(4, .slice A8 l7.length c9), (14, .int .i64 i10)]) (fun ((ys12, l7, i10, A8, c9) : (List ByteArray) × (List SRegOp) × Int × (Option Addr) × Nat) => [row zaq 84 (.slice A8 l7.length c9) l7, row Kd.string 9 (.slice A4 l3.length c5) l3]) l3.length (l3, ([] : List SRegOp), 0, none, 0) ⟨Rg.start _, rfl, hl17⟩ ⟨rfl, rfl, trivial⟩ (fun w h => h) (fun k13 => cur5 (listC (fun l7 i10 A8 c9 U19 hJ_ => ?_) (fun y11 ys12 l7 i10 A8 c9 U19 hJ_ => ?_))))
  ·skip
   clear hl17
   have hr14 := hJ_.1; have hk20 := hJ_.2.1; have h := hJ_.2.2; clear hJ_
   replace h : spec_reOps.l0 k [] l7 i10 = some o18 := h
   rw [spec_reOps.l0] at h
   refine c_seq (za0 (o_q rfl rfl (q_lss rfl rfl) (o_end (za1 (c_seq (zb1 (vb_ hr14.ge) (zb2 (zab (zab ?_)))))))))
   have e_ := si_ h; replace h := hR16; rw [← e_] at h; clear e_
   refine x_hit (za1 (c_seq (za0 (o_q rfl rfl (za3 rfl) (o_q rfl rfl (q_asg rfl) (o_q rfl rfl (q_asg rfl) (o_end (za1 (c_ret ?_)))))))))
   have e0_ := si_ h; clear h
   obtain ⟨rfl, e1_⟩ := Prod.mk.inj e0_
   subst e1_
   exact x_r2 (A8, c9) Tryz.results54 (zad rfl) (zad rfl) rfl (fun w h => za8 [0] dc_ rfl w h)
  ·skip
   clear hl17
   have hr14 := hJ_.1; have hk20 := hJ_.2.1; have h := hJ_.2.2; clear hJ_
   replace h : spec_reOps.l0 k (y11 :: ys12) l7 i10 = some o18 := h
   rw [spec_reOps.l0] at h
   refine c_seq (za0 (o_q rfl rfl (q_lss rfl rfl) (o_end (za1 (c_seq (zay (vb_ hr14.lt) (zal (za1 (c_seq ?_)))))))))
   refine zah (c_seq (za0 (zb0 (p := Sh A4 l3.length l3.length) (fun w h => f_sh (dk := Kd.string) h (fun w h => h.zat (i := 1) rfl)) (fun hq21 => o_q rfl rfl (q_ix Tryz.underlying64 Z9 rfl rfl hq21 hr14.get) (o_q rfl rfl (q_lde (off := 0) Y9 rfl rfl (fun w h => h.zat (i := 1) rfl) hr14.get (fun _ _ h => h) rfl) (o_q rfl rfl (q_asg rfl) (o_end (za1 (c_seq ?_)))))))))
   refine za0 (o_q rfl rfl (za3 rfl) (za6 h (fun l23 hx22 h => ?_) rfl))
   refine o_e rfl (za7 0 Z Tryz.func50 N50 rfl rfl rfl (fun w P1 hF hB hS hT => spec_l1Split.calls k y11 61 hB hF _ hx22)) (cur2 (fun A24 c25 => o_q rfl rfl (q_asg rfl) (o_end (za1 (c_seq (c_seq (za0 (o_q rfl rfl (za3 rfl) (o_q rfl rfl (q_len Tryz.underlying64 rfl) (o_q rfl rfl (q_neq rfl rfl) ?_))))))))))
   refine o_end (za1 (zas _ rfl (fun hb26 => ?_) (fun hb26 => ?_)))
   ·skip
    replace h := br_t hb26 h
    refine c_seq (za0 (o_q rfl rfl (q_asg rfl) (o_q rfl rfl (q_asg rfl) (o_end (za1 (c_ret (za9 (zan (za9 ?_)))))))))
    refine za9 ?_
    have e_ := si_ h; replace h := hR16; rw [← e_] at h; clear e_
    refine zan (za9 (x_nil zaq 84 ?_))
    have e0_ := si_ h; clear h
    obtain ⟨rfl, e1_⟩ := Prod.mk.inj e0_
    subst e1_
    exact x_r2 (none, 0) Tryz.results54 (zad rfl) (zad rfl) rfl (fun w h => za8 [0] dc_ rfl w h)
   ·skip
    replace h := br_f hb26 h
    refine zal (za1 (c_seq (za0 (o_q rfl rfl (za3 rfl) (zb0 (p := Sh A24 l23.length l23.length) (fun w h => f_sh (dk := Kd.string) h (fun w h => h.zat (i := 0) rfl)) (fun hq27 => za6 h (fun y29 hg28 h => ?_) rfl))))))
    refine o_q rfl rfl (q_ix Tryz.underlying64 Z9 rfl rfl hq27 hg28) (o_q rfl rfl (q_lde (off := 0) Y9 rfl rfl (fun w h => h.zat (i := 0) rfl) hg28 (fun _ _ h => h) rfl) (za6 h (fun l31 hx30 h => ?_) rfl))
    refine o_e rfl (za7 0 Z Tryz.func50 N50 rfl rfl rfl (fun w P1 hF hB hS hT => spec_l1Split.calls k y29 42 hB hF _ hx30)) (cur2 (fun A32 c33 => o_q rfl rfl (q_asg rfl) (o_end (za1 (c_seq (c_seq (za0 (o_q rfl rfl (za3 rfl) (o_q rfl rfl (q_len Tryz.underlying64 rfl) (o_q rfl rfl (q_neq rfl rfl) ?_))))))))))
    refine o_end (za1 (zas _ rfl (fun hb34 => ?_) (fun hb34 => ?_)))
    ·skip
     replace h := br_t hb34 h
     refine c_seq (za0 (o_q rfl rfl (q_asg rfl) (o_q rfl rfl (q_asg rfl) (o_end (za1 (c_ret (za9 (zan (za9 ?_)))))))))
     refine za9 ?_
     have e_ := si_ h; replace h := hR16; rw [← e_] at h; clear e_
     refine zan (za9 (x_nil zaq 84 ?_))
     have e0_ := si_ h; clear h
     obtain ⟨rfl, e1_⟩ := Prod.mk.inj e0_
     subst e1_
     exact x_r2 (none, 0) Tryz.results54 (zad rfl) (zad rfl) rfl (fun w h => za8 [0] dc_ rfl w h)
    ·skip
     replace h := br_f hb34 h
     refine zal (za1 (a_startS (ds := []) [some 0, some 1, none, some 3] MO rfl (zaa 0 rfl rfl rfl kr_ (fun _ _ _ h => h) (za3 rfl) (zaa 1 rfl rfl rfl kr_ (fun _ _ _ h => h) (za3 rfl) (za6 h (fun y36 hg35 h => ?_) rfl)))))
     refine zaa 2 rfl rfl rfl kr_ (fun _ _ _ h => h) (q_ix Tryz.underlying64 Z9 rfl rfl hq27 hg35) (zau 3 rfl rfl rfl kr_ (fun _ _ _ h => h) (fun w h => za5 [some 0, some 1, none, some 3] dc_ w h rfl) (q_lde (off := 0) Y9 rfl rfl (fun w h => h.zat (i := 1) rfl) hg35 (fun _ _ h => h) rfl) (zaa 5 rfl rfl rfl kr_ (fun _ _ _ h => h) (za3 rfl) (a_fact (p := Sh A32 l31.length l31.length) (fun w h => f_sh (dk := Kd.string) h (fun w h => h.zat (i := 0) rfl)) (fun hq37 => za6 h (fun y39 hg38 h => ?_) rfl))))
     refine zaa 6 rfl rfl rfl kr_ (fun _ _ _ h => h) (q_ix Tryz.underlying64 Z9 rfl rfl hq37 hg38) (zau 7 rfl rfl rfl kr_ (fun _ _ _ h => h) (fun w h => za5 [some 0, some 1, none, some 3] dc_ w h rfl) (q_lde (off := 0) Y9 rfl rfl (fun w h => h.zat (i := 0) rfl) hg38 (fun _ _ h => h) rfl) (zaa 9 rfl rfl rfl kr_ (fun _ _ _ h => h) (za3 rfl) (za6 h (fun y41 hg40 h => ?_) rfl)))
     refine zaa 10 rfl rfl rfl kr_ (fun _ _ _ h => h) (q_ix Tryz.underlying64 Z9 rfl rfl hq37 hg40) (zau 11 rfl rfl rfl kr_ (fun _ _ _ h => h) (fun w h => za5 [some 0, some 1, none, some 3] dc_ w h rfl) (q_lde (off := 0) Y9 rfl rfl (fun w h => h.zat (i := 0) rfl) hg40 (fun _ _ h => h) rfl) (za6 h (fun i43 hx42 h => ?_) rfl))
     refine a_one 4 rfl rfl kr_ rfl (za7 0 Z Tryz.func51 N51 rfl rfl rfl (fun w P1 hF hB hS hT => spec_l1Read.calls k y36 hB hF _ hx42)) (fun s w h => za5 [some 0, some 1, none, some 3] dc_ w h rfl) (fun _ => za6 h (fun i45 hx44 h => ?_) rfl)
     refine a_one 8 rfl rfl kr_ rfl (za7 0 Z Tryz.func51 N51 rfl rfl rfl (fun w P1 hF hB hS hT => spec_l1Read.calls k y39 hB hF _ hx44)) (fun s w h => za5 [some 0, some 1, none, some 3] dc_ w h rfl) (fun _ => za6 h (fun i47 hx46 h => ?_) rfl)
     refine a_one 12 rfl rfl kr_ rfl (za7 0 Z Tryz.func51 N51 rfl rfl rfl (fun w P1 hF hB hS hT => spec_l1Read.calls k y41 hB hF _ hx46)) (fun s w h => za5 [some 0, some 1, none, some 3] dc_ w h rfl) (fun _ => zaa 13 rfl rfl rfl kr_ (fun _ _ _ h => h) (zaw (vs := [(0, .int .i64 i43), (1, .int .i64 i45), (2, .int .i64 i47)]) (cs := [.int .i64 i43, .int .i64 i45, .int .i64 i47]) rfl rfl) (a_one 14 rfl rfl kr_ rfl (e_lit (vs := [(0, .agg #[.int .i64 i43, .int .i64 i45, .int .i64 i47])]) (cs := [.int .i64 i43, .int .i64 i45, .int .i64 i47]) zaq ([(⟨i43, i45, i47⟩ : SRegOp)] : List SRegOp) Tryz.underlying36 I84 dc_ rfl dc_ rfl rfl (fun _ _ => zb4 _)) (fun s w h => za5 [some 1, some 2, none, some 4] dc_ w h rfl) (cur2 (fun A48 c49 => za6 h (fun l51 ha52 h => ?_) rfl))))
     refine a_one 15 rfl rfl kr_ rfl (e_app (i := 3) (j := 0) Tryz.underlying36 I84 rfl dc_ dc_ rfl rfl rfl rfl rfl ha52) (fun s w h => za5 [some 1, some 2, none, some 4] dc_ w h rfl) (cur2 (fun A53 c54 => zaa 16 rfl rfl rfl kr_ (fun _ _ _ h => h) (q_asg rfl) (zar kr_ (zak (za1 (za0 (o_q rfl rfl (q_up rfl rfl (hr14.up hm15)) (o_q rfl rfl (za3 rfl) (o_end (zaj ys12.length (ys12, l51, i10 + 1, A53, c54) (by rw [← hk20]; exact Nat.lt_succ_self _) ⟨hr14.step, rfl, h⟩ ⟨rfl, rfl, trivial⟩ (fun w h => za8 [3, 4] dc_ rfl w h) ?_))))))))))
     exact of_

def spec_reNumbers.l0 (k : Nat) : (List ByteArray) → (List Int) → Int → Option (List Int)
 | [], l7, i10 => some l7
 | y11 :: ys12, l7, i10 => (spec_l1Read.f k y11).bind fun i23 => (ap l7 ([i23] : List Int)).bind fun l27 => spec_reNumbers.l0 k ys12 l27 (i10 + 1)
def spec_reNumbers.f (k : Nat) (a0 : ByteArray) : Option (List Int) := if a0 = (⟨#[45]⟩ : ByteArray) then (some ([] : List Int)) else ((spec_l1Split.f k a0 44).bind fun l3 => (spec_reNumbers.l0 k l3 ([] : List Int) 0).bind fun l7 => some l7)
theorem spec_reNumbers.calls (k : Nat) {w0 ws : World} {P0 : Nat → Prop} (a0 : ByteArray) (Z : Below w0.heap.size w0 ws) (hF : Fr w0 ws P0 [] ws)  (r_1 : List Int) (h : spec_reNumbers.f k a0 = some r_1) :
  Calls Tryz.prog 55 #[.string a0] ws (Post1 w0 ws P0 (fun ((q_2, q_3) : (Option Addr) × Nat) => .slice q_2 r_1.length q_3) (fun ((q_2, q_3) : (Option Addr) × Nat) => [row (Kd.int .i64) 3 (.slice q_2 r_1.length q_3) r_1])) := by
 unfold spec_reNumbers.f at h
 refine enter Tryz.func55 rfl Tryz.ntmps55 rfl hF (c_seq (za0 (o_q rfl rfl (q_asg rfl) (o_end (za1 (c_seq (c_seq (za0 (o_q rfl rfl (za3 rfl) ?_)))))))))
 refine o_q rfl rfl (q_seql rfl rfl) (o_end (za1 (zas _ rfl (fun hb1 => ?_) (fun hb1 => ?_))))
 ·skip
  replace h := br_t hb1 h
  refine c_seq (za0 (o_q rfl rfl (q_asg rfl) (o_end (za1 (c_ret (za9 (x_nil (Kd.int .i64) 3 ?_)))))))
  have e0_ := si_ h; clear h
  subst e0_
  exact x_r1 (none, 0) Tryz.results55 (zad rfl) rfl (fun w h => za8 [0] dc_ rfl w h)
 ·skip
  replace h := br_f hb1 h
  refine zal (za1 (c_seq (za0 (o_q rfl rfl (q_asg rfl) (o_end (za1 (c_seq (c_seq (za0 ?_)))))))))
  refine o_q rfl rfl (za3 rfl) (za6 h (fun l3 hx2 h => ?_) rfl)
  refine o_e rfl (za7 0 Z Tryz.func50 N50 rfl rfl rfl (fun w P1 hF hB hS hT => spec_l1Split.calls k a0 44 hB hF _ hx2)) (cur2 (fun A4 c5 => o_q rfl rfl (q_len Tryz.underlying64 rfl) (o_q rfl rfl (za3 rfl) (o_end (za1 (zah (c_nil (Kd.int .i64) 3 (za6 h (fun o18 hl17 hR16 => ?_) rfl))))))))
  clear h
  refine c_fact (p := l3.length ≤ 9223372036854775807) (fun w h => (h.zat (i := 1) rfl).2.1) (fun hm15 => zax (σ := (List ByteArray) × (List Int) × Int × (Option Addr) × Nat) (fun k13 ((ys12, l7, i10, A8, c9) : (List ByteArray) × (List Int) × Int × (Option Addr) × Nat) => Rg l3 i10 ys12 ∧ ys12.length = k13 ∧ spec_reNumbers.l0 k ys12 l7 i10 = some o18) [3, 5, 11, 12, 13, 14, 15, 16, 17, 18, 19, 20] (fun ((ys12, l7, i10, A8, c9) : (List ByteArray) × (List Int) × Int × (Option Addr) × Nat) => [(3, .slice A8 l7.length c9), (11, .int .i64 i10)]) (fun ((ys12, l7, i10, A8, c9) : (List ByteArray) × (List Int) × Int × (Option Addr) × Nat) => [row (Kd.int .i64) 3 (.slice A8 l7.length c9) l7, row Kd.string 9 (.slice A4 l3.length c5) l3]) l3.length (l3, ([] : List Int), 0, none, 0) ⟨Rg.start _, rfl, hl17⟩ ⟨rfl, rfl, trivial⟩ (fun w h => h) (fun k13 => cur5 (listC (fun l7 i10 A8 c9 U19 hJ_ => ?_) (fun y11 ys12 l7 i10 A8 c9 U19 hJ_ => ?_))))
  ·skip
   clear hl17
   have hr14 := hJ_.1; have hk20 := hJ_.2.1; have h := hJ_.2.2; clear hJ_
   replace h : spec_reNumbers.l0 k [] l7 i10 = some o18 := h
   rw [spec_reNumbers.l0] at h
   refine c_seq (za0 (o_q rfl rfl (q_lss rfl rfl) (o_end (za1 (c_seq (zb1 (vb_ hr14.ge) (zb2 (zab (zab ?_)))))))))
   have e_ := si_ h; replace h := hR16; rw [← e_] at h; clear e_
   refine x_hit (za1 (c_seq (za0 (o_q rfl rfl (za3 rfl) (o_q rfl rfl (q_asg rfl) (o_end (za1 (c_ret ?_))))))))
   have e0_ := si_ h; clear h
   subst e0_
   exact x_r1 (A8, c9) Tryz.results55 (zad rfl) rfl (fun w h => za8 [0] dc_ rfl w h)
  ·skip
   clear hl17
   have hr14 := hJ_.1; have hk20 := hJ_.2.1; have h := hJ_.2.2; clear hJ_
   replace h : spec_reNumbers.l0 k (y11 :: ys12) l7 i10 = some o18 := h
   rw [spec_reNumbers.l0] at h
   refine c_seq (za0 (o_q rfl rfl (q_lss rfl rfl) (o_end (za1 (c_seq (zay (vb_ hr14.lt) (zal (za1 (c_seq ?_)))))))))
   refine zah (c_seq (za0 (zb0 (p := Sh A4 l3.length l3.length) (fun w h => f_sh (dk := Kd.string) h (fun w h => h.zat (i := 1) rfl)) (fun hq21 => o_q rfl rfl (q_ix Tryz.underlying64 Z9 rfl rfl hq21 hr14.get) (o_q rfl rfl (q_lde (off := 0) Y9 rfl rfl (fun w h => h.zat (i := 1) rfl) hr14.get (fun _ _ h => h) rfl) (o_q rfl rfl (q_asg rfl) (o_end (za1 (za0 ?_)))))))))
   refine o_q rfl rfl (za3 rfl) (o_q rfl rfl (za3 rfl) (za6 h (fun i23 hx22 h => ?_) rfl))
   refine o_e rfl (za7 0 Z Tryz.func51 N51 rfl rfl rfl (fun w P1 hF hB hS hT => spec_l1Read.calls k y11 hB hF _ hx22)) (fun _ => o_e rfl (e_lit (vs := [(0, .int .i64 i23)]) (cs := [.int .i64 i23]) (Kd.int .i64) ([i23] : List Int) Tryz.underlying25 I3 dc_ rfl dc_ rfl rfl (fun _ _ => Kd.zaf _)) (cur2 (fun A24 c25 => za6 h (fun l27 ha28 h => ?_) rfl)))
   refine o_e rfl (e_app (i := 1) (j := 0) Tryz.underlying25 I3 rfl dc_ dc_ rfl rfl rfl rfl rfl ha28) (cur2 (fun A29 c30 => o_q rfl rfl (q_asg rfl) (o_end (zak (za1 (za0 (o_q rfl rfl (q_up rfl rfl (hr14.up hm15)) (o_q rfl rfl (za3 rfl) (o_end (zaj ys12.length (ys12, l27, i10 + 1, A29, c30) (by rw [← hk20]; exact Nat.lt_succ_self _) ⟨hr14.step, rfl, h⟩ ⟨rfl, rfl, trivial⟩ (fun w h => za8 [1, 2] dc_ rfl w h) ?_))))))))))
   exact of_

def spec_ParseRegCode.f (k : Nat) (a0 : ByteArray) : Option (Int × (List Int) × (List SRegOp) × (List Int) × Bool) := (spec_l1Split.f k a0 58).bind fun l4 => if (l4.length : Int) ≠ 4 then (some (0, ([] : List Int), ([] : List SRegOp), ([] : List Int), false)) else ((gt l4 2).bind fun y10 => (spec_reOps.f k y10).bind fun (l12, b13) => ((gt l4 0).bind fun y1112 => (spec_l1Read.f k y1112).bind fun i1232 => (gt l4 1).bind fun y1352 => (spec_reNumbers.f k y1352).bind fun l1472 => (gt l4 3).bind fun y1652 => (spec_reNumbers.f k y1652).bind fun l1772 => some (i1232, l1472, l1772)).bind fun (i1038, l1039, l1042) => (if b13 = true then ((spec_reCode.f k i1038 l1039 l12 l1042).bind fun b2085 => if b2085 = true then ((spec_reText.f k i1038 l1039 l12 l1042).bind fun s2088 => some (decide (s2088 ≠ a0))) else (some true)) else (some true)).bind fun b2077 => if b2077 = true then (some (0, ([] : List Int), ([] : List SRegOp), ([] : List Int), false)) else (some (i1038, l1039, l12, l1042, true)))
theorem spec_ParseRegCode.calls (k : Nat) {w0 ws : World} {P0 : Nat → Prop} (a0 : ByteArray) (Z : Below w0.heap.size w0 ws) (hF : Fr w0 ws P0 [] ws)  (r_1 : Int) (r_2 : List Int) (r_5 : List SRegOp) (r_8 : List Int) (r_11 : Bool) (h : spec_ParseRegCode.f k a0 = some (r_1, r_2, r_5, r_8, r_11)) :
  Calls Tryz.prog 15 #[.string a0] ws (Post1 w0 ws P0 (fun ((q_3, q_4, q_6, q_7, q_9, q_10) : (Option Addr) × Nat × (Option Addr) × Nat × (Option Addr) × Nat) => .tuple #[.agg #[.int .i64 r_1, .slice q_3 r_2.length q_4, .slice q_6 r_5.length q_7, .slice q_9 r_8.length q_10], .bool r_11]) (fun ((q_3, q_4, q_6, q_7, q_9, q_10) : (Option Addr) × Nat × (Option Addr) × Nat × (Option Addr) × Nat) => [row (Kd.int .i64) 3 (.slice q_3 r_2.length q_4) r_2, row zaq 84 (.slice q_6 r_5.length q_7) r_5, row (Kd.int .i64) 3 (.slice q_9 r_8.length q_10) r_8])) := by
 unfold spec_ParseRegCode.f at h
 refine enter Tryz.func15 rfl Tryz.ntmps15 rfl hF (c_seq (za0 (o_e rfl (zao V38 rfl) (fun g1 => o_q rfl rfl (q_asg rfl) (o_end (za1 (c_seq (za0 (o_q rfl rfl (za3 rfl) ?_)))))))))
 refine za6 h (fun l4 hx3 h => ?_) rfl
 refine o_e rfl (za7 0 Z Tryz.func50 N50 rfl rfl rfl (fun w P1 hF hB hS hT => spec_l1Split.calls k a0 58 hB hF _ hx3)) (cur2 (fun A5 c6 => o_q rfl rfl (q_asg rfl) (o_end (za1 (c_seq (c_seq (za0 (o_q rfl rfl (za3 rfl) (o_q rfl rfl (q_len Tryz.underlying64 rfl) (o_q rfl rfl (q_neq rfl rfl) ?_))))))))))
 refine o_end (za1 (zas _ rfl (fun hb7 => ?_) (fun hb7 => ?_)))
 ·skip
  replace h := br_t hb7 h
  refine c_seq (za0 (o_q rfl rfl (zaw (vs := []) (cs := [.int .i64 0, .slice none 0 0, .slice none 0 0, .slice none 0 0]) rfl rfl) (o_e rfl (zae (i := 1) rfl rfl rfl Z38 rfl rfl) (fun _ => o_q rfl rfl (q_asg rfl) (o_end (za1 (c_ret (za9 (x_nil (Kd.int .i64) 3 ?_)))))))))
  refine x_nil zaq 84 (x_nil (Kd.int .i64) 3 ?_)
  have e0_ := si_ h; clear h
  obtain ⟨rfl, e1_⟩ := Prod.mk.inj e0_
  obtain ⟨rfl, e2_⟩ := Prod.mk.inj e1_
  obtain ⟨rfl, e3_⟩ := Prod.mk.inj e2_
  obtain ⟨rfl, e4_⟩ := Prod.mk.inj e3_
  subst e4_
  exact x_r2 (none, 0, none, 0, none, 0) Tryz.results15 (zb8 rfl G38 Z38 (fun w h => h.zac (i := 4) rfl) rfl) (zad rfl) rfl (fun w h => za8 [2, 1, 0] dc_ rfl w h)
 ·skip
  replace h := br_f hb7 h
  refine zal (za1 (c_seq (za0 (o_q rfl rfl (za3 rfl) (zb0 (p := Sh A5 l4.length l4.length) (fun w h => f_sh (dk := Kd.string) h (fun w h => h.zat (i := 0) rfl)) (fun hq8 => za6 h (fun y10 hg9 h => ?_) rfl))))))
  refine o_q rfl rfl (q_ix Tryz.underlying64 Z9 rfl rfl hq8 hg9) (o_q rfl rfl (q_lde (off := 0) Y9 rfl rfl (fun w h => h.zat (i := 0) rfl) hg9 (fun _ _ h => h) rfl) (bindE2 h (fun l12 b13 hx11 h => ?_) rfl))
  refine o_e rfl (za7 0 Z Tryz.func54 N54 rfl rfl rfl (fun w P1 hF hB hS hT => spec_reOps.calls k y10 hB hF _ _ hx11)) (cur2 (fun A14 c15 => o_q rfl rfl (za3 rfl) (o_q rfl rfl (q_ext rfl rfl) (o_q rfl rfl (q_ext rfl rfl) (o_q rfl rfl (q_asg rfl) (o_q rfl rfl (q_asg rfl) (o_end (za1 (za6 h (fun o1045 hl1046 hR1047 => ?_) rfl)))))))))
  clear h
  refine c_cutJ (σ := Int × (List Int) × (List Int) × Nat × (Option Addr) × Nat × (Option Addr) × Nat) (fun (i1038, l1039, l1042, g1037, A1040, c1041, A1043, c1044) => some (i1038, l1039, l1042) = some o1045) [7, 21, 22, 23, 24, 25, 26, 27, 28, 29, 30, 31, 32, 33, 34] (fun (i1038, l1039, l1042, g1037, A1040, c1041, A1043, c1044) => [(7, .pointer (some ⟨g1037, 0, none⟩))]) (fun (i1038, l1039, l1042, g1037, A1040, c1041, A1043, c1044) => [box g1 38 #[.int .i64 0, .slice none 0 0, .slice none 0 0, .slice none 0 0], box g1037 38 #[.int .i64 i1038, .slice A1040 l1039.length c1041, .slice A14 l12.length c15, .slice A1043 l1042.length c1044], row (Kd.int .i64) 3 (.slice A1040 l1039.length c1041) l1039, row zaq 84 (.slice A14 l12.length c15) l12, row (Kd.int .i64) 3 (.slice A1043 l1042.length c1044) l1042, row Kd.string 9 (.slice A5 l4.length c6) l4]) ?_ ?_
  ·skip
   have h := hl1046; clear hl1046
   clear hR1047
   refine za6 h (fun y1112 hg1111 h => ?_) rfl
   refine za6 h (fun i1232 hx1231 h => ?_) rfl
   refine za6 h (fun y1352 hg1351 h => ?_) rfl
   refine za6 h (fun l1472 hx1471 h => ?_) rfl
   refine za6 h (fun y1652 hg1651 h => ?_) rfl
   refine za6 h (fun l1772 hx1771 h => ?_) rfl
   refine a_start (ds := []) MO rfl (zaa 0 rfl rfl rfl kr_ (fun _ _ _ h => h) (za3 rfl) (zaa 1 rfl rfl rfl kr_ (fun _ _ _ h => h) (q_ix Tryz.underlying64 Z9 rfl rfl hq8 hg1111) (zau 2 rfl rfl rfl kr_ (fun _ _ _ h => h) (fun w h => h) (q_lde (off := 0) Y9 rfl rfl (fun w h => h.zat (i := 1) rfl) hg1111 (fun _ _ h => h) rfl) (zaa 4 rfl rfl rfl kr_ (fun _ _ _ h => h) (za3 rfl) (zaa 5 rfl rfl rfl kr_ (fun _ _ _ h => h) (q_ix Tryz.underlying64 Z9 rfl rfl hq8 hg1351) (zau 6 rfl rfl rfl kr_ (fun _ _ _ h => h) (fun w h => h) (q_lde (off := 0) Y9 rfl rfl (fun w h => h.zat (i := 1) rfl) hg1351 (fun _ _ h => h) rfl) (zaa 8 rfl rfl rfl kr_ (fun _ _ _ h => h) (za3 rfl) (zaa 9 rfl rfl rfl kr_ (fun _ _ _ h => h) (za3 rfl) (zaa 10 rfl rfl rfl kr_ (fun _ _ _ h => h) (q_ix Tryz.underlying64 Z9 rfl rfl hq8 hg1651) ?_)))))))))
   refine zau 11 rfl rfl rfl kr_ (fun _ _ _ h => h) (fun w h => h) (q_lde (off := 0) Y9 rfl rfl (fun w h => h.zat (i := 1) rfl) hg1651 (fun _ _ h => h) rfl) (a_two 3 14 rfl rfl rfl rfl kr_ rfl rfl (za7 0 Z Tryz.func51 N51 rfl rfl rfl (fun w P1 hF hB hS hT => spec_l1Read.calls k y1112 hB hF _ hx1231)) (fun s w h => h) (zao V38 rfl) (fun s w h => za5 [some 1, some 2, some 3] dc_ w h rfl) (fun _ => ?_) (fun g1891 => ?_))
   ·skip
    refine a_two 7 14 rfl rfl rfl rfl kr_ rfl rfl (za7 0 Z Tryz.func55 N55 rfl rfl rfl (fun w P1 hF hB hS hT => spec_reNumbers.calls k y1352 hB hF _ hx1471)) (fun s w h => za5 [some 1, some 2, some 3] dc_ w h rfl) (zao V38 rfl) (fun s w h => za5 [some 1, some 2, some 3] dc_ w h rfl) (cur2 (fun A1473 c1474 => ?_)) (fun g1891 => ?_)
    ·skip
     refine a_two 12 14 rfl rfl rfl rfl kr_ rfl rfl (za7 0 Z Tryz.func55 N55 rfl rfl rfl (fun w P1 hF hB hS hT => spec_reNumbers.calls k y1652 hB hF _ hx1771)) (fun s w h => za5 [some 2, some 3, some 4] dc_ w h rfl) (zao V38 rfl) (fun s w h => za5 [some 2, some 3, some 4] dc_ w h rfl) (cur2 (fun A1773 c1774 => ?_)) (fun g1891 => ?_)
     ·skip
      refine zaa 13 rfl rfl rfl kr_ (fun _ _ _ h => h) (zaw (vs := [(0, .int .i64 i1232), (1, .slice A1473 l1472.length c1474), (2, .slice A14 l12.length c15), (3, .slice A1773 l1772.length c1774)]) (cs := [.int .i64 i1232, .slice A1473 l1472.length c1474, .slice A14 l12.length c15, .slice A1773 l1772.length c1774]) rfl rfl) (a_one 14 rfl rfl kr_ rfl (zao V38 rfl) (fun s w h => za5 [some 3, some 4, some 5] dc_ w h rfl) (fun g1891 => a_one 15 rfl rfl kr_ rfl (zae (i := 0) rfl rfl rfl Z38 rfl rfl) (fun s w h => za5 [some 3, some 4, some 5] dc_ w h rfl) (fun _ => zar kr_ (zam (i1232, l1472, l1772, g1891, A1473, c1474, A1773, c1774) h ⟨rfl, trivial⟩ (fun w h => za8 [5, 0, 2, 3, 1, 4] dc_ rfl w h) ?_))))
      exact of_
     ·skip
      refine a_one 12 rfl rfl kr_ rfl (za7 0 Z Tryz.func55 N55 rfl rfl rfl (fun w P1 hF hB hS hT => spec_reNumbers.calls k y1652 hB hF _ hx1771)) (fun s w h => za5 [some 3, some 4, some 5] dc_ w h rfl) (cur2 (fun A1773 c1774 => zaa 13 rfl rfl rfl kr_ (fun _ _ _ h => h) (zaw (vs := [(0, .int .i64 i1232), (1, .slice A1473 l1472.length c1474), (2, .slice A14 l12.length c15), (3, .slice A1773 l1772.length c1774)]) (cs := [.int .i64 i1232, .slice A1473 l1472.length c1474, .slice A14 l12.length c15, .slice A1773 l1772.length c1774]) rfl rfl) (a_one 15 rfl rfl kr_ rfl (zae (i := 1) rfl rfl rfl Z38 rfl rfl) (fun s w h => za5 [some 3, some 4, some 5] dc_ w h rfl) (fun _ => zar kr_ (zam (i1232, l1472, l1772, g1891, A1473, c1474, A1773, c1774) h ⟨rfl, trivial⟩ (fun w h => za8 [5, 1, 2, 3, 0, 4] dc_ rfl w h) ?_)))))
      exact of_
    ·skip
     refine a_one 7 rfl rfl kr_ rfl (za7 0 Z Tryz.func55 N55 rfl rfl rfl (fun w P1 hF hB hS hT => spec_reNumbers.calls k y1352 hB hF _ hx1471)) (fun s w h => za5 [some 2, some 3, some 4] dc_ w h rfl) (cur2 (fun A1473 c1474 => a_one 12 rfl rfl kr_ rfl (za7 0 Z Tryz.func55 N55 rfl rfl rfl (fun w P1 hF hB hS hT => spec_reNumbers.calls k y1652 hB hF _ hx1771)) (fun s w h => za5 [some 3, some 4, some 5] dc_ w h rfl) (cur2 (fun A1773 c1774 => zaa 13 rfl rfl rfl kr_ (fun _ _ _ h => h) (zaw (vs := [(0, .int .i64 i1232), (1, .slice A1473 l1472.length c1474), (2, .slice A14 l12.length c15), (3, .slice A1773 l1772.length c1774)]) (cs := [.int .i64 i1232, .slice A1473 l1472.length c1474, .slice A14 l12.length c15, .slice A1773 l1772.length c1774]) rfl rfl) (a_one 15 rfl rfl kr_ rfl (zae (i := 2) rfl rfl rfl Z38 rfl rfl) (fun s w h => za5 [some 3, some 4, some 5] dc_ w h rfl) (fun _ => zar kr_ (zam (i1232, l1472, l1772, g1891, A1473, c1474, A1773, c1774) h ⟨rfl, trivial⟩ (fun w h => za8 [5, 2, 1, 3, 0, 4] dc_ rfl w h) ?_)))))))
     exact of_
   ·skip
    refine a_one 3 rfl rfl kr_ rfl (za7 0 Z Tryz.func51 N51 rfl rfl rfl (fun w P1 hF hB hS hT => spec_l1Read.calls k y1112 hB hF _ hx1231)) (fun s w h => za5 [some 1, some 2, some 3] dc_ w h rfl) (fun _ => a_one 7 rfl rfl kr_ rfl (za7 0 Z Tryz.func55 N55 rfl rfl rfl (fun w P1 hF hB hS hT => spec_reNumbers.calls k y1352 hB hF _ hx1471)) (fun s w h => za5 [some 2, some 3, some 4] dc_ w h rfl) (cur2 (fun A1473 c1474 => a_one 12 rfl rfl kr_ rfl (za7 0 Z Tryz.func55 N55 rfl rfl rfl (fun w P1 hF hB hS hT => spec_reNumbers.calls k y1652 hB hF _ hx1771)) (fun s w h => za5 [some 3, some 4, some 5] dc_ w h rfl) (cur2 (fun A1773 c1774 => zaa 13 rfl rfl rfl kr_ (fun _ _ _ h => h) (zaw (vs := [(0, .int .i64 i1232), (1, .slice A1473 l1472.length c1474), (2, .slice A14 l12.length c15), (3, .slice A1773 l1772.length c1774)]) (cs := [.int .i64 i1232, .slice A1473 l1472.length c1474, .slice A14 l12.length c15, .slice A1773 l1772.length c1774]) rfl rfl) (a_one 15 rfl rfl kr_ rfl (zae (i := 2) rfl rfl rfl Z38 rfl rfl) (fun s w h => za5 [some 3, some 4, some 5] dc_ w h rfl) (fun _ => zar kr_ (zam (i1232, l1472, l1772, g1891, A1473, c1474, A1773, c1774) h ⟨rfl, trivial⟩ (fun w h => za8 [5, 2, 1, 3, 0, 4] dc_ rfl w h) ?_))))))))
    exact of_
  ·skip
   refine (cur8 (fun i1038 l1039 l1042 g1037 A1040 c1041 A1043 c1044 => fun U1048 hJ1049 => ?_))
   have e_ := si_ hJ1049; have h := hR1047; rw [← e_] at h; clear e_ hJ1049 hR1047 hl1046
   refine c_seq (za6 h (fun o2078 hl2079 hR2080 => ?_) rfl)
   clear h
   refine c_cutJ (σ := Bool) (fun b2077 => some b2077 = some o2078) [35, 36, 37, 38, 39, 40, 41, 42, 43, 44, 45, 46, 47] (fun b2077 => [(47, .bool b2077)]) (fun b2077 => [box g1 38 #[.int .i64 0, .slice none 0 0, .slice none 0 0, .slice none 0 0], box g1037 38 #[.int .i64 i1038, .slice A1040 l1039.length c1041, .slice A14 l12.length c15, .slice A1043 l1042.length c1044], row (Kd.int .i64) 3 (.slice A1040 l1039.length c1041) l1039, row zaq 84 (.slice A14 l12.length c15) l12, row (Kd.int .i64) 3 (.slice A1043 l1042.length c1044) l1042, row Kd.string 9 (.slice A5 l4.length c6) l4]) ?_ ?_
   ·skip
    have h := hl2079; clear hl2079
    clear hR2080
    refine za0 (o_q rfl rfl (za3 rfl) (o_q rfl rfl (q_not rfl) (o_q rfl rfl (za3 rfl) (byB b13 (fun hb2083 => ?_) (fun hb2083 => ?_)))))
    ·replace h := bb_t hb2083 h
     refine o_w (za4 rfl rfl rfl (congrArg (fun b => Value.bool (!(b))) hb2083)) rfl (q_ldB G38 Z38 rfl (fun w h => h.zac (i := 1) rfl) rfl) (za6 h (fun b2085 hx2084 h => ?_) rfl)
     refine o_ew (za4 rfl rfl rfl (congrArg (fun b => Value.bool (!(b))) hb2083)) (za7 0 Z Tryz.func56 N56 rfl rfl rfl (fun w P1 hF hB hS hT => spec_reCode.calls k i1038 A1040 c1041 l1039.length l1039 A14 c15 l12.length l12 A1043 c1044 l1042.length l1042 hB hF (hT 2 _ rfl).row (hT 2 _ rfl).cap (hT 3 _ rfl).row (hT 3 _ rfl).cap (hT 4 _ rfl).row (hT 4 _ rfl).cap _ hx2084)) (fun _ => o_w (za4 rfl rfl rfl (congrArg (fun b => Value.bool (!(b))) hb2083)) rfl (q_not rfl) (o_q rfl rfl (zai false (congrArg (fun b => Value.bool (!(b))) hb2083) rfl) (o_q rfl rfl (za3 rfl) (byB b2085 (fun hb2086 => ?_) (fun hb2086 => ?_)))))
     ·replace h := bb_t hb2086 h
      refine o_w (za4 rfl rfl rfl (congrArg (fun b => Value.bool (!(b))) hb2086)) rfl (q_ldB G38 Z38 rfl (fun w h => h.zac (i := 1) rfl) rfl) (za6 h (fun s2088 hx2087 h => ?_) rfl)
      refine o_ew (za4 rfl rfl rfl (congrArg (fun b => Value.bool (!(b))) hb2086)) (za7 0 Z Tryz.func57 N57 rfl rfl rfl (fun w P1 hF hB hS hT => spec_reText.calls k i1038 A1040 c1041 l1039.length l1039 A14 c15 l12.length l12 A1043 c1044 l1042.length l1042 hB hF (hT 2 _ rfl).row (hT 2 _ rfl).cap (hT 3 _ rfl).row (hT 3 _ rfl).cap (hT 4 _ rfl).row (hT 4 _ rfl).cap _ hx2087)) (fun _ => o_w (za4 rfl rfl rfl (congrArg (fun b => Value.bool (!(b))) hb2086)) rfl (za3 rfl) (o_w (za4 rfl rfl rfl (congrArg (fun b => Value.bool (!(b))) hb2086)) rfl (q_sneq rfl rfl) (o_q rfl rfl (zai false (congrArg (fun b => Value.bool (!(b))) hb2086) rfl) (o_end (zam (decide (s2088 ≠ a0)) h ⟨rfl, trivial⟩ (fun w h => za8 [0, 1, 2, 3, 4, 5] dc_ rfl w h) ?_)))))
      exact of_
     ·replace h := bb_f hb2086 h
      refine o_n (d := 43) (za2 rfl rfl rfl (congrArg (fun b => Value.bool (!(b))) hb2086) rfl) (Eq.refl (some 43)) (o_n (d := 44) (za2 rfl rfl rfl (congrArg (fun b => Value.bool (!(b))) hb2086) rfl) (Eq.refl (some 44)) (o_n (d := 45) (za2 rfl rfl rfl (congrArg (fun b => Value.bool (!(b))) hb2086) rfl) (Eq.refl (some 45)) (o_n (d := 46) (za2 rfl rfl rfl (congrArg (fun b => Value.bool (!(b))) hb2086) rfl) (Eq.refl (some 46)) (o_q rfl rfl (zai true (congrArg (fun b => Value.bool (!(b))) hb2086) rfl) (o_end (zam true h ⟨rfl, trivial⟩ (fun w h => za8 [0, 1, 2, 3, 4, 5] dc_ rfl w h) ?_))))))
      exact of_
    ·replace h := bb_f hb2083 h
     refine o_n (d := 38) (za2 rfl rfl rfl (congrArg (fun b => Value.bool (!(b))) hb2083) rfl) (Eq.refl (some 38)) (o_n (d := 39) (za2 rfl rfl rfl (congrArg (fun b => Value.bool (!(b))) hb2083) rfl) (Eq.refl (some 39)) (o_n (d := 40) (za2 rfl rfl rfl (congrArg (fun b => Value.bool (!(b))) hb2083) rfl) (Eq.refl (some 40)) (o_q rfl rfl (zai true (congrArg (fun b => Value.bool (!(b))) hb2083) rfl) (o_q rfl rfl (za3 rfl) (o_n (d := 43) (za2 rfl rfl rfl rfl rfl) (Eq.refl (some 43)) (o_n (d := 44) (za2 rfl rfl rfl rfl rfl) (Eq.refl (some 44)) (o_n (d := 45) (za2 rfl rfl rfl rfl rfl) (Eq.refl (some 45)) (o_n (d := 46) (za2 rfl rfl rfl rfl rfl) (Eq.refl (some 46)) (o_q rfl rfl (zai true rfl rfl) ?_)))))))))
     refine o_end (zam true h ⟨rfl, trivial⟩ (fun w h => za8 [0, 1, 2, 3, 4, 5] dc_ rfl w h) ?_)
     exact of_
   ·skip
    refine (fun b2077 => fun U2081 hJ2082 => ?_)
    have e_ := si_ hJ2082; have h := hR2080; rw [← e_] at h; clear e_ hJ2082 hR2080 hl2079
    refine zas _ rfl (fun hb2089 => ?_) (fun hb2089 => ?_)
    ·skip
     replace h := bb_t hb2089 h
     refine c_seq (za0 (o_q rfl rfl (zaw (vs := []) (cs := [.int .i64 0, .slice none 0 0, .slice none 0 0, .slice none 0 0]) rfl rfl) (o_e rfl (zae (i := 0) rfl rfl rfl Z38 rfl rfl) (fun _ => o_q rfl rfl (q_asg rfl) (o_end (za1 (c_ret (za9 (x_nil (Kd.int .i64) 3 ?_)))))))))
     refine x_nil zaq 84 (x_nil (Kd.int .i64) 3 ?_)
     have e0_ := si_ h; clear h
     obtain ⟨rfl, e1_⟩ := Prod.mk.inj e0_
     obtain ⟨rfl, e2_⟩ := Prod.mk.inj e1_
     obtain ⟨rfl, e3_⟩ := Prod.mk.inj e2_
     obtain ⟨rfl, e4_⟩ := Prod.mk.inj e3_
     subst e4_
     exact x_r2 (none, 0, none, 0, none, 0) Tryz.results15 (zb8 rfl G38 Z38 (fun w h => h.zac (i := 3) rfl) rfl) (zad rfl) rfl (fun w h => za8 [2, 1, 0] dc_ rfl w h)
    ·skip
     replace h := bb_f hb2089 h
     refine zal (za1 (c_seq (za0 (o_q rfl rfl (q_ldB G38 Z38 rfl (fun w h => h.zac (i := 1) rfl) rfl) (o_e rfl (zae (i := 0) rfl rfl rfl Z38 rfl rfl) (fun _ => o_q rfl rfl (q_asg rfl) (o_end (za1 (c_ret ?_)))))))))
     have e0_ := si_ h; clear h
     obtain ⟨rfl, e1_⟩ := Prod.mk.inj e0_
     obtain ⟨rfl, e2_⟩ := Prod.mk.inj e1_
     obtain ⟨rfl, e3_⟩ := Prod.mk.inj e2_
     obtain ⟨rfl, e4_⟩ := Prod.mk.inj e3_
     subst e4_
     exact x_r2 (A1040, c1041, A14, c15, A1043, c1044) Tryz.results15 (zb8 rfl G38 Z38 (fun w h => h.zac (i := 0) rfl) rfl) (zad rfl) rfl (fun w h => za8 [2, 3, 4] dc_ rfl w h)

end Go.Proofs.YtnnlfipcoahcnaaGreatDoor.G3
