import Derived.Test.YtiaohjciddbpoaaKFnMethodsM5p1
namespace Go.Proofs.Ytiaohjciddbpoaa.M5
set_option maxHeartbeats 8000000
set_option maxRecDepth 100000
open Go.RowKit Go.Proofs.Ytiaohjciddbpoaa.Frame Go.Proofs.YtiaohjciddbpoaaW.PrintLast Go.Proofs.Ytiaohjciddbpoaa.Hand
open Go.Proofs.YtiaohjciddbpoaaW.PrintWords hiding mn mx
set_option linter.unusedVariables false
def spec_l1Cur_next.f (l0_0 : List Int) (a0_1 : Int) (a0_2 : Int) : Option (Int × Int) := (if a0_1 < (l0_0.length : Int) then ((gt l0_0 a0_1).bind fun y14 => some (w64 y14)) else (some 0)).bind fun i5 => if w64 (a0_1 + 1) ≤ (l0_0.length : Int) then (some (i5, IntKind.u64.wrap (IntKind.u64.wrap (IntKind.u64.wrap (a0_2 * 6364136223846793005) + (IntKind.u64.wrap i5)) + 1442695040888963407))) else (some (w64 (Go.bits .and .u64 ((IntKind.u64.wrap (IntKind.u64.wrap (IntKind.u64.wrap (a0_2 * 6364136223846793005) + (IntKind.u64.wrap i5)) + 1442695040888963407)) / 2 ^ min (40 : Int).toNat IntKind.u64.bits) 255), IntKind.u64.wrap (IntKind.u64.wrap (IntKind.u64.wrap (a0_2 * 6364136223846793005) + (IntKind.u64.wrap i5)) + 1442695040888963407)))
theorem spec_l1Cur_next.calls {w0 ws : World} {P0 : Nat → Prop} (g0 : Nat) (A0_0 : Option Addr) (c0_0 : Nat) (n0_0 : Nat) (l0_0 : List Int) (a0_1 : Int) (a0_2 : Int) (Z : Below w0.heap.size w0 ws) (hF : Fr w0 ws P0 [box g0 84 #[.slice A0_0 n0_0 c0_0, .int .i64 a0_1, .int .u64 a0_2]] ws) (R0_0 : Stable ws P0 (fun w => Kd.C (Kd.int .u8) w A0_0 n0_0 l0_0)) (hc0_0 : n0_0 ≤ c0_0) (r_1 : Int) (r_2 : Int) (h : spec_l1Cur_next.f l0_0 a0_1 a0_2 = some (r_1, r_2)) :
  Calls Try.prog 152 #[.pointer (some ⟨g0, 0, none⟩)] ws (Post1 w0 ws P0 (fun (_ : Unit) => .int .i64 r_1) (fun (_ : Unit) => [box g0 84 #[.slice A0_0 n0_0 c0_0, .int .i64 (w64 (a0_1 + 1)), .int .u64 r_2]])) := by
 unfold spec_l1Cur_next.f at h
 obtain rfl := (R0_0 ws (KeptB.refl _ _)).1
 refine enter Try.func152 rfl Try.ntmps152 rfl hF (c_seq (za0 (oq_ (q_asg rfl) (o_end (za1 (c_seq (za0 (oq_ (q_asg rfl) (o_end ?_)))))))))
 refine za1 (za6 h (fun o6 hl7 hR8 => ?_) rfl)
 clear h
 refine c_cutJ (σ := Int) (fun i5 => some i5 = some o6) [3, 4, 5, 6, 7, 8, 9, 10, 11, 12, 13, 14, 15, 16, 17, 18, 19, 20, 21, 22, 23, 24] (fun i5 => [(3, .int .i64 i5)]) (fun i5 => [box g0 84 #[.slice A0_0 l0_0.length c0_0, .int .i64 a0_1, .int .u64 a0_2]]) ?_ ?_
 ·have h := hl7; clear hl7
  clear hR8
  refine c_seq (a_start (ds := []) MO rfl (ap_ 0 rfl (za2 rfl) (ap_ 1 rfl (q_nil rfl) (ap_ 2 rfl (q_f F84_1 rfl) (at_2 3 rfl (fun w h => h) (q_ldb Y3 rfl (bx_ 0 rfl) rfl) (ap_ 4 rfl (za2 rfl) (ap_ 5 rfl (q_nil rfl) (ap_ 6 rfl (q_f F84_0 rfl) (at_2 7 rfl (fun w h => h) (q_ldb Y36 rfl (bx_ 0 rfl) rfl) ?_)))))))))
  refine ap_ 8 rfl (q_len Try.underlying36 rfl) (ap_ 9 rfl (q_lss rfl rfl) (zaj kr_ (za1 (zan _ rfl (fun hb11 => ?_) (fun hb11 => ?_)))))
  ·replace h := br_t hb11 h
   refine a_start (ds := []) MO rfl (ap_ 0 rfl (za2 rfl) (ap_ 1 rfl (q_nil rfl) (ap_ 2 rfl (q_f F84_0 rfl) (at_2 3 rfl (fun w h => h) (q_ldb Y36 rfl (bx_ 0 rfl) rfl) (ap_ 4 rfl (za2 rfl) (ap_ 5 rfl (q_nil rfl) (ap_ 6 rfl (q_f F84_1 rfl) (at_2 7 rfl (fun w h => h) (q_ldb Y3 rfl (bx_ 0 rfl) rfl) (a_fact (p := Sh A0_0 l0_0.length l0_0.length) (fun w h => f_sh (dk := (Kd.int .u8)) h (fun w h => R0_0.now Z h)) (fun hq12 => ?_))))))))))
   refine za6 h (fun y14 hg13 h => ?_) rfl
   refine ap_ 8 rfl (q_ix Try.underlying36 Z5 rfl rfl hq12 hg13) (at_2 9 rfl (fun w h => h) (q_lde (off := 0) Y5 rfl rfl (fun w h => R0_0.now Z h) hg13 (fun _ _ h => h) rfl) (ap_ 10 rfl (q_conv (by rw [Try.underlying5]; rfl) Try.underlying3 rfl) (ap_ 11 rfl (q_asg rfl) (zaj kr_ (zah (w64 y14) h ⟨rfl, trivial⟩ (pk_ [0]) ?_)))))
   exact of_
  ·replace h := br_f hb11 h
   refine zai (zah 0 h ⟨rfl, trivial⟩ (pk_ [0]) ?_)
   exact of_
 ·refine (fun i5 => fun U9 hJ10 => ?_)
  have e_ := si_ hJ10; have h := hR8; rw [← e_] at h; clear e_ hJ10 hR8 hl7
  refine c_seq (za0 (oq_ (za2 rfl) (oq_ (q_nil rfl) (oq_ (q_f F84_1 rfl) (oq_ (q_ldb Y3 rfl (bx_ 0 rfl) rfl) (oq_ (zay rfl rfl) (oq_ (q_nil rfl) (oq_ (q_f F84_1 rfl) (o_e rfl (za9 (i := 0) rfl rfl rfl rfl Z3 rfl rfl) (fun _ => ?_))))))))))
  refine o_end (za1 (c_seq (za0 (oq_ (za2 rfl) (oq_ (za2 rfl) (oq_ (q_nil rfl) (oq_ (q_f F84_2 rfl) (oq_ (q_ldb Y82 rfl (bx_ 0 rfl) rfl) (oq_ (q_mul rfl rfl) ?_)))))))))
  refine oq_ (za2 rfl) (oq_ (q_conv (by rw [Try.underlying3]; rfl) Try.underlying82 rfl) (oq_ (q_add rfl rfl) (oq_ (q_add rfl rfl) (oq_ (q_nil rfl) (oq_ (q_f F84_2 rfl) (o_e rfl (za9 (i := 0) rfl rfl rfl rfl Z82 rfl rfl) (fun _ => o_end (za1 (c_seq ?_)))))))))
  refine c_seq (a_start (ds := []) MO rfl (ap_ 0 rfl (za2 rfl) (ap_ 1 rfl (q_nil rfl) (ap_ 2 rfl (q_f F84_1 rfl) (at_2 3 rfl (fun w h => h) (q_ldb Y3 rfl (bx_ 0 rfl) rfl) (ap_ 4 rfl (za2 rfl) (ap_ 5 rfl (q_nil rfl) (ap_ 6 rfl (q_f F84_0 rfl) (at_2 7 rfl (fun w h => h) (q_ldb Y36 rfl (bx_ 0 rfl) rfl) ?_)))))))))
  refine ap_ 8 rfl (q_len Try.underlying36 rfl) (ap_ 9 rfl (q_leq rfl rfl) (zaj kr_ (za1 (zan _ rfl (fun hb15 => ?_) (fun hb15 => ?_)))))
  ·replace h := br_t hb15 h
   refine c_seq (za0 (oq_ (za2 rfl) (oq_ (q_asg rfl) (o_end (za1 (c_ret (zaa ?_)))))))
   have e0_ := si_ h; clear h
   obtain ⟨rfl, e1_⟩ := Prod.mk.inj e0_
   subst e1_
   exact x_r1 () Try.results152 (zad rfl) rfl (pk_ [0])
  ·replace h := br_f hb15 h
   refine zai (za1 (c_seq (za0 (oq_ (za2 rfl) (oq_ (q_nil rfl) (oq_ (q_f F84_2 rfl) (oq_ (q_ldb Y82 rfl (bx_ 0 rfl) rfl) (oq_ (q_shr rfl rfl dc_) (oq_ (q_and rfl rfl) ?_)))))))))
   refine oq_ (q_conv (by rw [Try.underlying82]; rfl) Try.underlying3 rfl) (oq_ (q_asg rfl) (o_end (za1 (c_ret ?_))))
   have e0_ := si_ h; clear h
   obtain ⟨rfl, e1_⟩ := Prod.mk.inj e0_
   subst e1_
   exact x_r1 () Try.results152 (zad rfl) rfl (pk_ [0])

def spec_l1Cur_pick.f (l0_0 : List Int) (a0_1 : Int) (a0_2 : Int) (a1 : Int) : Option (Int × Int × Int) := if a1 ≤ 1 then (some (0, a0_1, a0_2)) else ((spec_l1Cur_next.f l0_0 a0_1 a0_2).bind fun (i3, i4) => if 200 < a1 then ((spec_l1Cur_next.f l0_0 (w64 (a0_1 + 1)) i4).bind fun (i7, i8) => (nz a1).bind fun _ => some ((w64 (w64 (i3 * 256) + i7)).tmod a1, w64 ((w64 (a0_1 + 1)) + 1), i8)) else ((nz a1).bind fun _ => some (i3.tmod a1, w64 (a0_1 + 1), i4)))
theorem spec_l1Cur_pick.calls {w0 ws : World} {P0 : Nat → Prop} (g0 : Nat) (A0_0 : Option Addr) (c0_0 : Nat) (n0_0 : Nat) (l0_0 : List Int) (a0_1 : Int) (a0_2 : Int) (a1 : Int) (Z : Below w0.heap.size w0 ws) (hF : Fr w0 ws P0 [box g0 84 #[.slice A0_0 n0_0 c0_0, .int .i64 a0_1, .int .u64 a0_2]] ws) (R0_0 : Stable ws P0 (fun w => Kd.C (Kd.int .u8) w A0_0 n0_0 l0_0)) (hc0_0 : n0_0 ≤ c0_0) (r_1 : Int) (r_2 : Int) (r_3 : Int) (h : spec_l1Cur_pick.f l0_0 a0_1 a0_2 a1 = some (r_1, r_2, r_3)) :
  Calls Try.prog 123 #[.pointer (some ⟨g0, 0, none⟩), .int .i64 a1] ws (Post1 w0 ws P0 (fun (_ : Unit) => .int .i64 r_1) (fun (_ : Unit) => [box g0 84 #[.slice A0_0 n0_0 c0_0, .int .i64 r_2, .int .u64 r_3]])) := by
 unfold spec_l1Cur_pick.f at h
 obtain rfl := (R0_0 ws (KeptB.refl _ _)).1
 refine enter Try.func123 rfl Try.ntmps123 rfl hF (c_seq (za0 (oq_ (q_asg rfl) (o_end (za1 (c_seq (c_seq (za0 (oq_ (za2 rfl) ?_)))))))))
 refine oq_ (q_leq rfl rfl) (o_end (za1 (zan _ rfl (fun hb1 => ?_) (fun hb1 => ?_))))
 ·replace h := br_t hb1 h
  refine c_seq (za0 (oq_ (q_asg rfl) (o_end (za1 (c_ret (zaa ?_))))))
  have e0_ := si_ h; clear h
  obtain ⟨rfl, e1_⟩ := Prod.mk.inj e0_
  obtain ⟨rfl, e2_⟩ := Prod.mk.inj e1_
  subst e2_
  exact x_r1 () Try.results123 (zad rfl) rfl (pk_ [0])
 ·replace h := br_f hb1 h
  refine zai (za1 (c_seq (za0 (oq_ (za2 rfl) (bindE2 h (fun i3 i4 hx2 h => ?_) rfl)))))
  refine o_e rfl (za5 1 Z Try.func152 N152 rfl rfl rfl (fun w P1 hF hB hS hT => spec_l1Cur_next.calls g0 A0_0 c0_0 l0_0.length l0_0 a0_1 a0_2 hB hF (hS _ R0_0) hc0_0 _ _ hx2)) (fun _ => oq_ (q_asg rfl) (o_end (za1 (c_seq (c_seq (za0 (oq_ (za2 rfl) (oq_ (q_gtr rfl rfl) (o_end ?_)))))))))
  refine za1 (zan _ rfl (fun hb5 => ?_) (fun hb5 => ?_))
  ·replace h := br_t hb5 h
   refine za0 (oq_ (za2 rfl) (oq_ (q_mul64 rfl rfl) (oq_ (za2 rfl) (bindE2 h (fun i7 i8 hx6 h => ?_) rfl))))
   refine o_e rfl (za5 1 Z Try.func152 N152 rfl rfl rfl (fun w P1 hF hB hS hT => spec_l1Cur_next.calls g0 A0_0 c0_0 l0_0.length l0_0 (w64 (a0_1 + 1)) i4 hB hF (hS _ R0_0) hc0_0 _ _ hx6)) (fun _ => oq_ (zay rfl rfl) (oq_ (q_asg rfl) (o_end (za1 (c_seq (za0 (oq_ (za2 rfl) (oq_ (za2 rfl) (za6 h (fun _ hz9 h => ?_) rfl)))))))))
   refine oq_ (q_rem rfl rfl (nz_ne hz9)) (oq_ (q_asg rfl) (o_end (za1 (c_ret ?_))))
   have e0_ := si_ h; clear h
   obtain ⟨rfl, e1_⟩ := Prod.mk.inj e0_
   obtain ⟨rfl, e2_⟩ := Prod.mk.inj e1_
   subst e2_
   exact x_r1 () Try.results123 (zad rfl) rfl (pk_ [0])
  ·replace h := br_f hb5 h
   refine zai (za1 (c_seq (za0 (oq_ (za2 rfl) (oq_ (za2 rfl) (za6 h (fun _ hz10 h => ?_) rfl))))))
   refine oq_ (q_rem rfl rfl (nz_ne hz10)) (oq_ (q_asg rfl) (o_end (za1 (c_ret ?_))))
   have e0_ := si_ h; clear h
   obtain ⟨rfl, e1_⟩ := Prod.mk.inj e0_
   obtain ⟨rfl, e2_⟩ := Prod.mk.inj e1_
   subst e2_
   exact x_r1 () Try.results123 (zad rfl) rfl (pk_ [0])

def spec_l1Cur_among.f (l0_0 : List Int) (a0_1 : Int) (a0_2 : Int) (l1 : List Int) : Option (Int × Int × Int) := (spec_l1Cur_pick.f l0_0 a0_1 a0_2 (l1.length : Int)).bind fun (i2, i3, i4) => (gt l1 i2).bind fun y7 => some (y7, i3, i4)
theorem spec_l1Cur_among.calls {w0 ws : World} {P0 : Nat → Prop} (g0 : Nat) (A0_0 : Option Addr) (c0_0 : Nat) (n0_0 : Nat) (l0_0 : List Int) (a0_1 : Int) (a0_2 : Int) (A1 : Option Addr) (c1 : Nat) (n1 : Nat) (l1 : List Int) (Z : Below w0.heap.size w0 ws) (hF : Fr w0 ws P0 [box g0 84 #[.slice A0_0 n0_0 c0_0, .int .i64 a0_1, .int .u64 a0_2]] ws) (R0_0 : Stable ws P0 (fun w => Kd.C (Kd.int .u8) w A0_0 n0_0 l0_0)) (hc0_0 : n0_0 ≤ c0_0) (R1 : Stable ws P0 (fun w => Kd.C (Kd.int .i64) w A1 n1 l1)) (hc1 : n1 ≤ c1) (r_1 : Int) (r_2 : Int) (r_3 : Int) (h : spec_l1Cur_among.f l0_0 a0_1 a0_2 l1 = some (r_1, r_2, r_3)) :
  Calls Try.prog 86 #[.pointer (some ⟨g0, 0, none⟩), .slice A1 n1 c1] ws (Post1 w0 ws P0 (fun (_ : Unit) => .int .i64 r_1) (fun (_ : Unit) => [box g0 84 #[.slice A0_0 n0_0 c0_0, .int .i64 r_2, .int .u64 r_3]])) := by
 unfold spec_l1Cur_among.f at h
 obtain rfl := (R0_0 ws (KeptB.refl _ _)).1
 obtain rfl := (R1 ws (KeptB.refl _ _)).1
 refine enter Try.func86 rfl Try.ntmps86 rfl hF (c_seq (za0 (oq_ (q_asg rfl) (o_end (za1 (c_seq (za0 (oq_ (za2 rfl) (oq_ (za2 rfl) ?_)))))))))
 refine oq_ (za2 rfl) (oq_ (q_len Try.underlying23 rfl) (bindE3 h (fun i2 i3 i4 hx1 h => ?_) rfl))
 refine o_e rfl (za5 1 Z Try.func123 N123 rfl rfl rfl (fun w P1 hF hB hS hT => spec_l1Cur_pick.calls g0 A0_0 c0_0 l0_0.length l0_0 a0_1 a0_2 (l1.length : Int) hB hF (hS _ R0_0) hc0_0 _ _ _ hx1)) (fun _ => zaw (p := Sh A1 l1.length l1.length) (fun w h => f_sh (dk := (Kd.int .i64)) h (fun w h => R1.now Z h)) (fun hq5 => za6 h (fun y7 hg6 h => ?_) rfl))
 refine oq_ (q_ix Try.underlying23 Z3 rfl rfl hq5 hg6) (oq_ (q_lde (off := 0) Y3 rfl rfl (fun w h => R1.now Z h) hg6 (fun _ _ h => h) rfl) (oq_ (q_asg rfl) (o_end (za1 (c_ret ?_)))))
 have e0_ := si_ h; clear h
 obtain ⟨rfl, e1_⟩ := Prod.mk.inj e0_
 obtain ⟨rfl, e2_⟩ := Prod.mk.inj e1_
 subst e2_
 exact x_r1 () Try.results86 (zad rfl) rfl (pk_ [0])

def spec_l1Cur_number.f (l0_0 : List Int) (a0_1 : Int) (a0_2 : Int) : Option (Int × Int × Int) := (spec_l1Cur_pick.f l0_0 a0_1 a0_2 8).bind fun (i2, i3, i4) => if i2 = 0 then ((spec_l1Cur_among.f l0_0 i3 i4 ([(-1), 0, 1, 2, 1000000, 1000001] : List Int)).bind fun (i10, i11, i12) => some (i10, i11, i12)) else (if i2 = 1 then ((spec_l1Cur_pick.f l0_0 i3 i4 1000000).bind fun (i15, i16, i17) => some (w64 (1 + i15), i16, i17)) else ((spec_l1Cur_pick.f l0_0 i3 i4 120).bind fun (i19, i20, i21) => some (w64 (1 + i19), i20, i21)))
theorem spec_l1Cur_number.calls {w0 ws : World} {P0 : Nat → Prop} (g0 : Nat) (A0_0 : Option Addr) (c0_0 : Nat) (n0_0 : Nat) (l0_0 : List Int) (a0_1 : Int) (a0_2 : Int) (Z : Below w0.heap.size w0 ws) (hF : Fr w0 ws P0 [box g0 84 #[.slice A0_0 n0_0 c0_0, .int .i64 a0_1, .int .u64 a0_2]] ws) (R0_0 : Stable ws P0 (fun w => Kd.C (Kd.int .u8) w A0_0 n0_0 l0_0)) (hc0_0 : n0_0 ≤ c0_0) (r_1 : Int) (r_2 : Int) (r_3 : Int) (h : spec_l1Cur_number.f l0_0 a0_1 a0_2 = some (r_1, r_2, r_3)) :
  Calls Try.prog 70 #[.pointer (some ⟨g0, 0, none⟩)] ws (Post1 w0 ws P0 (fun (_ : Unit) => .int .i64 r_1) (fun (_ : Unit) => [box g0 84 #[.slice A0_0 n0_0 c0_0, .int .i64 r_2, .int .u64 r_3]])) := by
 unfold spec_l1Cur_number.f at h
 obtain rfl := (R0_0 ws (KeptB.refl _ _)).1
 refine enter Try.func70 rfl Try.ntmps70 rfl hF (c_seq (za0 (oq_ (q_asg rfl) (o_end (za1 (c_seq (c_seq (za0 (oq_ (za2 rfl) ?_)))))))))
 refine bindE3 h (fun i2 i3 i4 hx1 h => ?_) rfl
 refine o_e rfl (za5 1 Z Try.func123 N123 rfl rfl rfl (fun w P1 hF hB hS hT => spec_l1Cur_pick.calls g0 A0_0 c0_0 l0_0.length l0_0 a0_1 a0_2 8 hB hF (hS _ R0_0) hc0_0 _ _ _ hx1)) (fun _ => o_end (za1 (zae (c_seq (za0 (oq_ (q_eql rfl rfl) (oq_ (q_asg rfl) (o_end (za1 ?_)))))))))
 refine zan _ rfl (fun hb5 => ?_) (fun hb5 => ?_)
 ·replace h := br_t hb5 h
  refine c_seq (za0 (oq_ (za2 rfl) (o_e rfl (e_lit (vs := [(0, .int .i64 (-1)), (1, .int .i64 0), (2, .int .i64 1), (3, .int .i64 2), (4, .int .i64 1000000), (5, .int .i64 1000001)]) (cs := [.int .i64 (-1), .int .i64 0, .int .i64 1, .int .i64 2, .int .i64 1000000, .int .i64 1000001]) (Kd.int .i64) ([(-1), 0, 1, 2, 1000000, 1000001] : List Int) Try.underlying23 I3 dc_ rfl dc_ rfl rfl (fun _ _ => Kd.za8 _)) (cur2 (fun A6 c7 => o_pick [1, 0] dc_ rfl (bindE3 h (fun i10 i11 i12 hx9 h => ?_) rfl))))))
  refine o_e rfl (za5 1 Z Try.func86 N86 rfl rfl rfl (fun w P1 hF hB hS hT => spec_l1Cur_among.calls g0 A0_0 c0_0 l0_0.length l0_0 i3 i4 A6 c7 (([(-1), 0, 1, 2, 1000000, 1000001] : List Int).length) ([(-1), 0, 1, 2, 1000000, 1000001] : List Int) hB hF (hS _ R0_0) hc0_0 (hT 0 _ rfl).row (hT 0 _ rfl).cap _ _ _ hx9)) (fun _ => oq_ (q_asg rfl) (o_end (za1 (c_ret (zao (zaa ?_))))))
  have e0_ := si_ h; clear h
  obtain ⟨rfl, e1_⟩ := Prod.mk.inj e0_
  obtain ⟨rfl, e2_⟩ := Prod.mk.inj e1_
  subst e2_
  exact x_r1 () Try.results70 (zad rfl) rfl (pk_ [0])
 ·replace h := br_f hb5 h
  refine c_seq (za0 (oq_ (q_eql rfl rfl) (oq_ (q_asg rfl) (o_end (za1 (zan _ rfl (fun hb13 => ?_) (fun hb13 => ?_)))))))
  ·replace h := br_t hb13 h
   refine c_seq (za0 (oq_ (za2 rfl) (bindE3 h (fun i15 i16 i17 hx14 h => ?_) rfl)))
   refine o_e rfl (za5 1 Z Try.func123 N123 rfl rfl rfl (fun w P1 hF hB hS hT => spec_l1Cur_pick.calls g0 A0_0 c0_0 l0_0.length l0_0 i3 i4 1000000 hB hF (hS _ R0_0) hc0_0 _ _ _ hx14)) (fun _ => oq_ (zay rfl rfl) (oq_ (q_asg rfl) (o_end (za1 (c_ret (zao (zaa ?_)))))))
   have e0_ := si_ h; clear h
   obtain ⟨rfl, e1_⟩ := Prod.mk.inj e0_
   obtain ⟨rfl, e2_⟩ := Prod.mk.inj e1_
   subst e2_
   exact x_r1 () Try.results70 (zad rfl) rfl (pk_ [0])
  ·replace h := br_f hb13 h
   refine zai (zaf (za1 (c_seq (za0 (oq_ (za2 rfl) (bindE3 h (fun i19 i20 i21 hx18 h => ?_) rfl))))))
   refine o_e rfl (za5 1 Z Try.func123 N123 rfl rfl rfl (fun w P1 hF hB hS hT => spec_l1Cur_pick.calls g0 A0_0 c0_0 l0_0.length l0_0 i3 i4 120 hB hF (hS _ R0_0) hc0_0 _ _ _ hx18)) (fun _ => oq_ (zay rfl rfl) (oq_ (q_asg rfl) (o_end (za1 (c_ret ?_)))))
   have e0_ := si_ h; clear h
   obtain ⟨rfl, e1_⟩ := Prod.mk.inj e0_
   obtain ⟨rfl, e2_⟩ := Prod.mk.inj e1_
   subst e2_
   exact x_r1 () Try.results70 (zad rfl) rfl (pk_ [0])

def spec_DrawMethodCosts.f (l0 : List Int) : Option Int := (spec_l1Cur_number.f l0 0 0).bind fun (i4, i5, i6) => some i4
theorem spec_DrawMethodCosts.calls {w0 ws : World} {P0 : Nat → Prop} (A0 : Option Addr) (c0 : Nat) (n0 : Nat) (l0 : List Int) (Z : Below w0.heap.size w0 ws) (hF : Fr w0 ws P0 [] ws) (R0 : Stable ws P0 (fun w => Kd.C (Kd.int .u8) w A0 n0 l0)) (hc0 : n0 ≤ c0) (r_1 : Int) (h : spec_DrawMethodCosts.f l0 = some r_1) :
  Calls Try.prog 31 #[.slice A0 n0 c0] ws (Post1 w0 ws P0 (fun (_ : Unit) => .int .i64 r_1) (fun (_ : Unit) => [])) := by
 unfold spec_DrawMethodCosts.f at h
 obtain rfl := (R0 ws (KeptB.refl _ _)).1
 refine enter Try.func31 rfl Try.ntmps31 rfl hF ?_
 refine c_seq ?_
 refine za0 ?_
 refine o_q rfl rfl (q_asg rfl) ?_
 refine o_end ?_
 refine za1 ?_
 refine c_seq ?_
 refine za0 ?_
 refine o_q rfl rfl (za2 rfl) ?_
 refine o_q rfl rfl (q_build (vs := [(0, .slice A0 l0.length c0)]) (cs := [.slice A0 l0.length c0, .int .i64 0, .int .u64 0]) rfl rfl) ?_
 refine o_e rfl (e_box rfl) (fun g1 => ?_)
 refine o_q rfl rfl (q_asg rfl) ?_
 refine o_end ?_
 refine za1 ?_
 refine c_seq ?_
 refine za0 ?_
 refine o_q rfl rfl (za2 rfl) ?_
 refine bindE3 h (fun i4 i5 i6 hx3 h => ?_) rfl
 refine o_e rfl (za5 1 Z Try.func70 N70 rfl rfl rfl (fun w P1 hF hB hS hT => spec_l1Cur_number.calls g1 A0 c0 l0.length l0 0 0 hB hF (hS _ R0) hc0 _ _ _ hx3)) (fun _ => ?_)
 refine o_q rfl rfl (q_asg rfl) ?_
 refine o_end ?_
 refine za1 ?_
 refine c_ret ?_
 have e0_ := Option.some.inj h; clear h
 subst e0_
 exact x_r1 () Try.results31 (zad rfl) rfl (fun w h => f_pick [] (by decide) rfl w h)

def impl_isNumber.f (a0 : Int) : Option Bool := (impl_in.f a0 1 1000000).bind fun b2 => some b2
theorem impl_isNumber.calls {w0 ws : World} {P0 : Nat → Prop} (a0 : Int) (Z : Below w0.heap.size w0 ws) (hF : Fr w0 ws P0 [] ws)  (r_1 : Bool) (h : impl_isNumber.f a0 = some r_1) :
  Calls Try.prog 74 #[.int .i64 a0] ws (Post1 w0 ws P0 (fun (_ : Unit) => .bool r_1) (fun (_ : Unit) => [])) := by
 unfold impl_isNumber.f at h
 refine enter Try.func74 rfl Try.ntmps74 rfl hF (c_seq (za0 (oq_ (q_asg rfl) (o_end (za1 (c_seq (za0 (oq_ (za2 rfl) (za6 h (fun b2 hx1 h => ?_) rfl)))))))))
 refine o_e rfl (za5 0 Z Try.func113 N113 rfl rfl rfl (fun w P1 hF hB hS hT => impl_in.calls a0 1 1000000 hB hF _ hx1)) (fun _ => oq_ (q_asg rfl) (o_end (za1 (c_ret ?_))))
 have e0_ := si_ h; clear h
 subst e0_
 exact x_r1 () Try.results74 (zad rfl) rfl (pk_ [])

def impl_newMaker.f (a0 : Int) : Option Unit := some ()
theorem impl_newMaker.calls {w0 ws : World} {P0 : Nat → Prop} (a0 : Int) (Z : Below w0.heap.size w0 ws) (hF : Fr w0 ws P0 [] ws)   (h : impl_newMaker.f a0 = some ()) :
  Calls Try.prog 54 #[.int .i64 a0] ws (Post1 w0 ws P0 (fun (q_1 : Nat) => .pointer (some ⟨q_1, 0, none⟩)) (fun (q_1 : Nat) => [box q_1 94 #[.int .i64 a0, .slice none 0 0, .slice none 0 0], row kStep 107 (.slice none 0 0) [], row (Kd.int .i64) 3 (.slice none 0 0) []])) := by
 unfold impl_newMaker.f at h
 refine enter Try.func54 rfl Try.ntmps54 rfl hF (c_seq (za0 (oq_ (q_asg rfl) (o_end (za1 (c_seq (za0 (oq_ (za2 rfl) (oq_ (q_build (vs := [(0, .int .i64 a0)]) (cs := [.int .i64 a0, .slice none 0 0, .slice none 0 0]) rfl rfl) ?_)))))))))
 refine oq_ (q_build (vs := [(0, .agg #[.int .i64 a0, .slice none 0 0, .slice none 0 0])]) (cs := [.int .i64 a0, .slice none 0 0, .slice none 0 0]) rfl rfl) (o_e rfl (e_box rfl) (fun g1 => oq_ (q_asg rfl) (o_end (za1 (c_ret (x_nil kStep 107 (x_nil (Kd.int .i64) 3 ?_)))))))
 exact x_r1 g1 Try.results54 (zad rfl) rfl (pk_ [2, 1, 0])

def impl_digits.l0 (a1 : Int) : Nat → (List Int) → Int → Option (List Int)
 | 0, _, _ => none
 | k10 + 1, l4, i7 => if 0 < i7 then ((nz a1).bind fun _ => (ap l4 ([i7.tmod a1] : List Int)).bind fun l23 => (nz a1).bind fun _ => impl_digits.l0 a1 k10 l23 (w64 (i7.tdiv a1))) else (some l4)
def impl_digits.f (k : Nat) (a0 : Int) (a1 : Int) : Option (List Int) := (impl_digits.l0 a1 k ([] : List Int) a0).bind fun l4 => some l4
theorem impl_digits.calls (k : Nat) {w0 ws : World} {P0 : Nat → Prop} (a0 : Int) (a1 : Int) (Z : Below w0.heap.size w0 ws) (hF : Fr w0 ws P0 [] ws)  (r_1 : List Int) (h : impl_digits.f k a0 a1 = some r_1) :
  Calls Try.prog 55 #[.int .i64 a0, .int .i64 a1] ws (Post1 w0 ws P0 (fun ((q_2, q_3) : (Option Addr) × Nat) => .slice q_2 r_1.length q_3) (fun ((q_2, q_3) : (Option Addr) × Nat) => [row (Kd.int .i64) 3 (.slice q_2 r_1.length q_3) r_1])) := by
 unfold impl_digits.f at h
 refine enter Try.func55 rfl Try.ntmps55 rfl hF (c_seq (za0 (oq_ (q_asg rfl) (o_end (za1 (c_seq (za0 (o_e rfl (e_lit0 (Kd.int .i64) Try.underlying23 I3) (cur2 (fun A1 c2 => oq_ (q_asg rfl) ?_))))))))))
 refine o_end (za1 (c_seq (zae (za6 h (fun o15 hl14 hR13 => ?_) rfl))))
 clear h
 refine zas (σ := (List Int) × Int × (Option Addr) × Nat) (fun k10 ((l4, i7, A5, c6) : (List Int) × Int × (Option Addr) × Nat) => impl_digits.l0 a1 k10 l4 i7 = some o15) [0, 5, 7, 8, 9, 10, 11, 12, 13, 14, 15, 16, 17] (fun ((l4, i7, A5, c6) : (List Int) × Int × (Option Addr) × Nat) => [(0, .int .i64 i7), (5, .slice A5 l4.length c6)]) (fun ((l4, i7, A5, c6) : (List Int) × Int × (Option Addr) × Nat) => [row (Kd.int .i64) 3 (.slice A5 l4.length c6) l4]) k (([] : List Int), a0, A1, c2) hl14 ⟨rfl, rfl, trivial⟩ (fun w h => h) (natC (cur4 (fun l4 i7 A5 c6 => fun U16 hJ_ => ?_)) (fun k10 => (cur4 (fun l4 i7 A5 c6 => fun U16 hJ_ => ?_))))
 ·replace hJ_ : impl_digits.l0 a1 0 l4 i7 = some o15 := hJ_
  rw [impl_digits.l0] at hJ_
  exact noneE hJ_
 ·clear hl14
  have h := hJ_; clear hJ_
  replace h : impl_digits.l0 a1 (k10 + 1) l4 i7 = some o15 := h
  rw [impl_digits.l0] at h
  refine c_seq (c_seq (za0 (oq_ (za2 rfl) (oq_ (q_gtr rfl rfl) (o_end (za1 (zan _ rfl (fun hb18 => ?_) (fun hb18 => ?_))))))))
  ·replace h := br_t hb18 h
   refine zai (za1 (c_seq (zae (za0 (oq_ (za2 rfl) (oq_ (za2 rfl) (oq_ (za2 rfl) (za6 h (fun _ hz19 h => ?_) rfl))))))))
   refine oq_ (q_rem rfl rfl (nz_ne hz19)) (o_e rfl (e_lit (vs := [(0, .int .i64 (i7.tmod a1))]) (cs := [.int .i64 (i7.tmod a1)]) (Kd.int .i64) ([i7.tmod a1] : List Int) Try.underlying23 I3 dc_ rfl dc_ rfl rfl (fun _ _ => Kd.za8 _)) (cur2 (fun A20 c21 => za6 h (fun l23 ha24 h => ?_) rfl)))
   refine o_e rfl (e_app (i := 1) (j := 0) Try.underlying23 I3 rfl dc_ dc_ rfl rfl rfl rfl rfl ha24) (cur2 (fun A25 c26 => oq_ (q_asg rfl) (o_end (zaf (za1 (za0 (oq_ (za2 rfl) (oq_ (za2 rfl) (za6 h (fun _ hz27 h => ?_) rfl)))))))))
   refine oq_ (q_quo64 rfl rfl (nz_ne hz27)) (oq_ (q_asg rfl) (o_end (zal k10 (l23, w64 (i7.tdiv a1), A25, c26) (Nat.lt_succ_self _) h ⟨rfl, rfl, trivial⟩ (pk_ [1]) ?_)))
   exact of_
  ·replace h := br_f hb18 h
   refine zax (za7 (za7 ?_))
   have e_ := si_ h; replace h := hR13; rw [← e_] at h; clear e_
   refine x_hit (za1 (c_seq (za0 (oq_ (za2 rfl) (oq_ (q_asg rfl) (o_end (za1 (c_ret ?_))))))))
   have e0_ := si_ h; clear h
   subst e0_
   exact x_r1 (A5, c6) Try.results55 (zad rfl) rfl (pk_ [0])

theorem bk_int {w : World} {P1 : Nat → Prop} (Bs : Nat) (A : Option Addr) (cap : Nat) (zs : List Int) (hR : Stable w P1 (fun W => Kd.C (Kd.int .i64) W A zs.length zs)) (hB : Stable w P1 (fun W => W.heap[Bs]? = some (.cells #[.slice A zs.length cap] 23 (0, 0)))) :
  SeqStopsK Fence.wide 2 Try.prog 116 #[.pointer (some ⟨Bs, 0, none⟩)] (fun x : BackT zs => #[Value.int .i64 x.1.1, .int .i64 x.1.2]) (KpS w P1) (fun ys => ys.map Subtype.val = bwL zs) (fun _ => True) zs.length w := by
 intro l J Jx W hW hJ hJx hY h0
 have hk0 : KeptB w W P1 := ⟨⟨hW.size, fun i hi _ => hW.block i hi⟩, hW.os, hW.tape, hW.output⟩
 have hlen : zs.length ≤ 9223372036854775807 := (hR w (KeptB.refl _ _)).2.1
 refine enterG (m := 19) Try.func116 rfl Try.ntmps116 rfl (wpIn_seq (wpIn_region_list (g_q (fun c hc => by cases hc) rfl rfl (q_ldb (bt := 23) Y23 rfl (fun w' h' => by subst h'; exact hB _ hk0) rfl) (g_q (fun c hc => by cases hc) rfl rfl (q_len Try.underlying23 rfl) (g_q (fun c hc => by cases hc) rfl rfl (zat rfl rfl) (g_q (fun c hc => by cases hc) rfl rfl (q_asg rfl) (wpListIn_nil (wpIn_block (wpIn_loop_ghost (fun m a W' => ∃ (e : Nat → Value) (pre : List (BackT zs)), m ≤ zs.length ∧ a = act ⟨19, [], none⟩ e ∧ e 0 = .func (.yield l) #[] #[] ∧ e 1 = .pointer (some ⟨Bs, 0, none⟩) ∧ e 3 = .int .i64 ((m : Int) - 1) ∧ pre.map Subtype.val = (bwL zs).take (zs.length - m) ∧ J pre W' ∧ KeptB w W' P1) zs.length ⟨_, [], Nat.le_refl _, rfl, rfl, rfl, ?_, by simp, h0, hk0⟩ ?_)))))))))
 ·show Value.int .i64 (w64 ((zs.length : Int) - 1)) = _
  rw [zam (by omega)]
 rintro m a W' ⟨e, pre, hm, rfl, he0, he1, he3, hpre, hJp, hk⟩
 have hpl : pre.length = zs.length - m := by
  have := congrArg List.length hpre
  rw [List.length_map, List.length_take, bwL_len] at this
  omega
 refine wpIn_seq (wpIn_seq (wpIn_region_list (g_q (fun c hc => by cases hc) rfl rfl (za2 he3) (g_q (fun c hc => by cases hc) rfl rfl (q_geq rfl rfl) (wpListIn_nil ?_)))))
 cases m with
 | zero =>
  refine wpIn_cond_false rfl (wpIn_exit (exth (exth (inblk (⟨rfl, _, results_none rfl _ _ _, ⟨_, rfl⟩, .inl ⟨pre, ?_, hJp⟩⟩)))))
  show pre.map Subtype.val = _
  rw [hpre, Nat.sub_zero, List.take_of_length_le (by rw [bwL_len]; exact Nat.le_refl _)]
 | succ m =>
  refine wpIn_cond_true ?_ (wpIn_skip ?_)
  ·rw [act_eval]
   show Value.bool (decide ((0 : Int) ≤ ((m + 1 : Nat) : Int) - 1)) = _
   rw [decide_eq_true (by omega)]
  refine wpIn_seq (wpIn_block (wpIn_seq (wpIn_region_list ?_)))
  have e3 : e 3 = .int .i64 (m : Int) := by rw [he3]; congr 1; omega
  have hml : m < zs.length := hm
  have hC := hR W' hk
  refine g_q (fun c hc => by cases hc) rfl rfl (za2 he0) (g_q (fun c hc => by cases hc) rfl rfl (za2 e3) (g_q (fun c hc => by cases hc) rfl rfl (q_ldb (bt := 23) Y23 he1 (fun w' h' => by subst h'; exact hB _ hk) rfl) (g_q (fun c hc => by cases hc) rfl rfl (za2 e3) (g_q (fun c hc => by cases hc) rfl rfl (q_ix (xs := zs) Try.underlying23 Z3 rfl rfl (C_sh hC) (gt_at hml)) (g_q (fun c hc => by cases hc) rfl rfl (q_lde (off := 0) Y3 rfl rfl (fun w' h' => by subst h'; exact hC) (gt_at hml) (fun _ _ h => h) rfl) ?_)))))
  have hx : ∃ j : Nat, ((m : Int), zs[m]).1 = (j : Int) ∧ zs[j]? = some ((m : Int), zs[m]).2 := ⟨m, rfl, List.getElem?_eq_getElem hml⟩
  refine g_yield rfl rfl rfl rfl (hY pre ⟨((m : Int), zs[m]), hx⟩ W' hJp (by omega)) (fun e w' h => by rcases h with ⟨rfl, _⟩ | ⟨rfl, _⟩ <;> exact ⟨_, rfl⟩) ?_
  rintro v W3 (⟨hv, hJ3, hk3⟩ | ⟨hv, hJx3⟩)
  ·obtain rfl := Ending.returned.inj hv
   refine g_q (fun c hc => by cases hc) rfl rfl (q_not rfl) (wpListIn_nil (wpIn_cond_false rfl (wpIn_skip (wpIn_region_list (g_q (fun c hc => by cases hc) rfl rfl (za2 e3) (g_q (fun c hc => by cases hc) rfl rfl (zat rfl rfl) (g_q (fun c hc => by cases hc) rfl rfl (q_asg rfl) (wpListIn_nil (⟨m, Nat.lt_succ_self m, _, pre ++ [⟨((m : Int), zs[m]), hx⟩], by omega, rfl, he0, he1, ?_, ?_, hJ3, hk3 hk⟩)))))))))
   ·show Value.int .i64 (w64 ((m : Int) - 1)) = _
    rw [zam (by omega)]
   ·rw [List.map_append, hpre]
    have ht := bwL_take zs (zs.length - (m + 1)) (by omega)
    have ei : zs.length - 1 - (zs.length - (m + 1)) = m := by omega
    rw [show zs.length - (m + 1) + 1 = zs.length - m by omega] at ht
    rw [ht]
    congr 1
    simp only [ei, List.map_cons, List.map_nil]
  ·obtain rfl := Ending.returned.inj hv
   refine g_q (fun c hc => by cases hc) rfl rfl (q_not rfl) (wpListIn_nil (wpIn_cond_true rfl (wpIn_ret ?_)))
   exact ⟨rfl, _, results_none rfl _ _ _, ⟨_, rfl⟩, .inr ⟨_, trivial, hJx3⟩⟩
theorem bkc_int.calls {w0 ws : World} {P0 : Nat → Prop} (A : Option Addr) (n c : Nat) (hF : Fr w0 ws P0 [] ws) : Calls Try.prog 58 #[.slice A n c] ws (Post1 w0 ws P0 (fun (q : Nat) => .func (.func 116) #[] #[.pointer (some ⟨q, 0, none⟩)]) (fun (q : Nat) => [box q 23 #[.slice A n c]])) := by
 refine enter Try.func58 rfl Try.ntmps58 rfl hF (c_seq (za0 (o_e rfl (e_box rfl) (fun g1 => oq_ (q_asg rfl) (o_end (za1 (c_seq (za0 (oq_ (q_func (f := .func 116) (a := []) (b := [.tmp 1]) rfl rfl) ?_)))))))))
 refine oq_ (q_asg rfl) (o_end (za1 (c_ret ?_)))
 exact x_r1 g1 Try.results58 (zad rfl) rfl (fun w h => h)

def bw_int.f (l0 : List Int) : Option Unit := some ()
theorem bw_int.calls {w0 ws : World} {P0 : Nat → Prop} (A0 : Option Addr) (c0 : Nat) (n0 : Nat) (l0 : List Int) (Z : Below w0.heap.size w0 ws) (hF : Fr w0 ws P0 [] ws) (R0 : Stable ws P0 (fun w => Kd.C (Kd.int .i64) w A0 n0 l0)) (hc0 : n0 ≤ c0) (h : bw_int.f l0 = some ()) :
  Calls Try.prog 58 #[.slice A0 n0 c0] ws (Post1 w0 ws P0 (fun (q : Nat) => .func (.func 116) #[] #[.pointer (some ⟨q, 0, none⟩)]) (fun (q : Nat) => [box q 23 #[.slice A0 n0 c0]])) := bkc_int.calls A0 n0 c0 hF

def impl_step.f (a0 : Int) (a1 : Int) : Option Unit := some ()
theorem impl_step.calls {w0 ws : World} {P0 : Nat → Prop} (a0 : Int) (a1 : Int) (Z : Below w0.heap.size w0 ws) (hF : Fr w0 ws P0 [] ws)   (h : impl_step.f a0 a1 = some ()) :
  Calls Try.prog 114 #[.int .i64 a0, .int .i64 a1] ws (Post1 w0 ws P0 (fun (_ : Unit) => .agg #[.int .i64 (mn a0 a1), .int .i64 (mx a0 a1)]) (fun (_ : Unit) => [])) := by
 unfold impl_step.f at h
 refine enter Try.func114 rfl Try.ntmps114 rfl hF (c_seq (za0 (o_e rfl (zab V107 rfl) (fun g1 => o_end (za1 (c_seq (za0 (oq_ (za2 rfl) (oq_ (za2 rfl) ?_)))))))))
 refine oq_ (q_min rfl rfl) (oq_ (za2 rfl) (oq_ (za2 rfl) (oq_ (q_max rfl rfl) (oq_ (q_build (vs := [(0, .int .i64 (mn a0 a1)), (1, .int .i64 (mx a0 a1))]) (cs := [.int .i64 (mn a0 a1), .int .i64 (mx a0 a1)]) rfl rfl) (o_e rfl (zac (i := 0) rfl rfl rfl Z107 rfl rfl) (fun _ => o_end (za1 (c_ret ?_))))))))
 exact x_r1 () Try.results114 (zb0 rfl G107 Z107 (bx_ 0 rfl) rfl) rfl (pk_ [])

def impl_Plan_many_2.f (a0_0 : Int) (l0_1 : List SStep) (l0_2 : List Int) : Option Unit := some ()
theorem impl_Plan_many_2.calls {w0 ws : World} {P0 : Nat → Prop} (g0 : Nat) (a0_0 : Int) (A0_1 : Option Addr) (c0_1 : Nat) (n0_1 : Nat) (l0_1 : List SStep) (A0_2 : Option Addr) (c0_2 : Nat) (n0_2 : Nat) (l0_2 : List Int) (Z : Below w0.heap.size w0 ws) (hF : Fr w0 ws P0 [] ws) (R0_1 : Stable ws P0 (fun w => Kd.C kStep w A0_1 n0_1 l0_1)) (hc0_1 : n0_1 ≤ c0_1) (R0_2 : Stable ws P0 (fun w => Kd.C (Kd.int .i64) w A0_2 n0_2 l0_2)) (hc0_2 : n0_2 ≤ c0_2) (B0 : Stable ws P0 (fun w => w.heap[g0]? = some (.cells #[.int .i64 a0_0, .slice A0_1 n0_1 c0_1, .slice A0_2 n0_2 c0_2] 94 (0, 0))))  (h : impl_Plan_many_2.f a0_0 l0_1 l0_2 = some ()) :
  Calls Try.prog 115 #[.pointer (some ⟨g0, 0, none⟩)] ws (Post1 w0 ws P0 (fun (_ : Unit) => .int .i64 (w64 (a0_0 + (l0_1.length : Int)))) (fun (_ : Unit) => [])) := by
 unfold impl_Plan_many_2.f at h
 obtain rfl := (R0_1 ws (KeptB.refl _ _)).1
 obtain rfl := (R0_2 ws (KeptB.refl _ _)).1
 refine enter Try.func115 rfl Try.ntmps115 rfl hF (c_seq (za0 (oq_ (q_asg rfl) (o_end (za1 (c_seq (a_start (ds := []) MO rfl (ap_ 0 rfl (za2 rfl) (ap_ 1 rfl (q_nil rfl) ?_)))))))))
 refine ap_ 2 rfl (q_f F25_0 rfl) (at_2 3 rfl (fun w h => h) (q_ldb Y3 rfl (fun w h => B0.now Z h) rfl) (ap_ 4 rfl (za2 rfl) (ap_ 5 rfl (q_nil rfl) (ap_ 6 rfl (q_f F25_1 rfl) (at_2 7 rfl (fun w h => h) (q_ldb Y22 rfl (fun w h => B0.now Z h) rfl) (ap_ 8 rfl (q_len Try.underlying22 rfl) (ap_ 9 rfl (zay rfl rfl) (ap_ 10 rfl (q_asg rfl) (zaj kr_ ?_)))))))))
 refine za1 (c_ret ?_)
 exact x_r1 () Try.results115 (zad rfl) rfl (pk_ [])

def impl_maker_multiply.f (a0_0 : Int) (l0_1 : List SStep) (l0_2 : List Int) (a1 : Int) (a2 : Int) : Option (Int × (List SStep)) := ((impl_step.f a1 a2).bind fun _ => (ap l0_1 ([(⟨mn a1 a2, mx a1 a2⟩ : SStep)] : List SStep)).bind fun l1571 => some l1571).bind fun l962 => (impl_Plan_many_2.f a0_0 l962 l0_2).bind fun _ => some (w64 (w64 (a0_0 + (l962.length : Int)) - 1), l962)
theorem impl_maker_multiply.calls {w0 ws : World} {P0 : Nat → Prop} (g0 : Nat) (a0_0 : Int) (A0_1 : Option Addr) (c0_1 : Nat) (n0_1 : Nat) (l0_1 : List SStep) (A0_2 : Option Addr) (c0_2 : Nat) (n0_2 : Nat) (l0_2 : List Int) (a1 : Int) (a2 : Int) (Z : Below w0.heap.size w0 ws) (hF : Fr w0 ws P0 [box g0 94 #[.int .i64 a0_0, .slice A0_1 n0_1 c0_1, .slice A0_2 n0_2 c0_2], row kStep 107 (.slice A0_1 n0_1 c0_1) l0_1] ws) (R0_2 : Stable ws P0 (fun w => Kd.C (Kd.int .i64) w A0_2 n0_2 l0_2)) (hc0_2 : n0_2 ≤ c0_2) (r_1 : Int) (r_2 : List SStep) (h : impl_maker_multiply.f a0_0 l0_1 l0_2 a1 a2 = some (r_1, r_2)) :
  Calls Try.prog 57 #[.pointer (some ⟨g0, 0, none⟩), .int .i64 a1, .int .i64 a2] ws (Post1 w0 ws P0 (fun ((q_3, q_4) : (Option Addr) × Nat) => .int .i64 r_1) (fun ((q_3, q_4) : (Option Addr) × Nat) => [box g0 94 #[.int .i64 a0_0, .slice q_3 r_2.length q_4, .slice A0_2 n0_2 c0_2], row kStep 107 (.slice q_3 r_2.length q_4) r_2])) := by
 unfold impl_maker_multiply.f at h
 obtain rfl := (hF.row_C (i := 1) rfl).2.1
 obtain rfl := (R0_2 ws (KeptB.refl _ _)).1
 refine enter Try.func57 rfl Try.ntmps57 rfl hF (c_seq (za0 (oq_ (q_asg rfl) (o_end (za1 (za6 h (fun o965 hl966 hR967 => ?_) rfl))))))
 clear h
 refine c_cutJ (σ := (List SStep) × (Option Addr) × Nat) (fun (l962, A963, c964) => some l962 = some o965) [7, 8, 9, 10, 11, 12, 13, 14, 15, 16, 17, 18, 19, 20] (fun (l962, A963, c964) => []) (fun (l962, A963, c964) => [box g0 94 #[.int .i64 a0_0, .slice A963 l962.length c964, .slice A0_2 l0_2.length c0_2], row kStep 107 (.slice A963 l962.length c964) l962]) ?_ ?_
 ·have h := hl966; clear hl966
  clear hR967
  refine za6 h (fun _ hx1451 h => ?_) rfl
  refine za6 h (fun l1571 ha1572 h => ?_) rfl
  refine a_startS (ds := []) [none, none] MO rfl (ap_ 0 rfl (za2 rfl) (ap_ 1 rfl (za2 rfl) (ap_ 2 rfl (q_nil rfl) (ap_ 3 rfl (q_f F94_0 rfl) (ap_ 4 rfl (q_f F25_1 rfl) (ap_ 6 rfl (za2 rfl) (ap_ 7 rfl (za2 rfl) (a_two 5 8 rfl rfl rfl rfl kr_ rfl rfl (ev_q rfl (q_ldb Y22 rfl (bx_ 0 rfl) rfl)) (sl_ [none, none]) (za5 0 Z Try.func114 N114 rfl rfl rfl (fun w P1 hF hB hS hT => impl_step.calls a1 a2 hB hF hx1451)) (sl_ [none, none]) (fun _ => ?_) (fun _ => ?_)))))))))
  ·refine a1_ 8 rfl (za5 0 Z Try.func114 N114 rfl rfl rfl (fun w P1 hF hB hS hT => impl_step.calls a1 a2 hB hF hx1451)) (sl_ [none, none]) (fun _ => a1_ 9 rfl (e_lit (vs := [(0, .agg #[.int .i64 (mn a1 a2), .int .i64 (mx a1 a2)])]) (cs := [.int .i64 (mn a1 a2), .int .i64 (mx a1 a2)]) kStep ([(⟨mn a1 a2, mx a1 a2⟩ : SStep)] : List SStep) Try.underlying22 I107 dc_ rfl dc_ rfl rfl (fun _ _ => reps_flat _)) (sl_ [none, none]) (cur2 (fun A1511 c1512 => a1_ 10 rfl (e_app (i := 2) (j := 0) Try.underlying22 I107 rfl dc_ dc_ rfl rfl rfl rfl rfl ha1572) (sl_ [none, none]) (cur2 (fun A1573 c1574 => ap_ 11 rfl (q_nil rfl) (ap_ 12 rfl (q_f F94_0 rfl) (ap_ 13 rfl (q_f F25_1 rfl) (a1_ 14 rfl (za9 (i := 1) rfl rfl rfl rfl Z22 rfl rfl) (sl_ [none, none]) (fun _ => zaj kr_ (zah (l1571, A1573, c1574) h trivial (pk_ [1, 2]) ?_))))))))))
   exact of_
  ·refine a_two 5 9 rfl rfl rfl rfl kr_ rfl rfl (ev_q rfl (q_ldb Y22 rfl (bx_ 0 rfl) rfl)) (sl_ [none, none]) (e_lit (vs := [(0, .agg #[.int .i64 (mn a1 a2), .int .i64 (mx a1 a2)])]) (cs := [.int .i64 (mn a1 a2), .int .i64 (mx a1 a2)]) kStep ([(⟨mn a1 a2, mx a1 a2⟩ : SStep)] : List SStep) Try.underlying22 I107 dc_ rfl dc_ rfl rfl (fun _ _ => reps_flat _)) (sl_ [none, none]) (fun _ => ?_) (cur2 (fun A1511 c1512 => ?_))
   ·refine a1_ 9 rfl (e_lit (vs := [(0, .agg #[.int .i64 (mn a1 a2), .int .i64 (mx a1 a2)])]) (cs := [.int .i64 (mn a1 a2), .int .i64 (mx a1 a2)]) kStep ([(⟨mn a1 a2, mx a1 a2⟩ : SStep)] : List SStep) Try.underlying22 I107 dc_ rfl dc_ rfl rfl (fun _ _ => reps_flat _)) (sl_ [none, none]) (cur2 (fun A1511 c1512 => a1_ 10 rfl (e_app (i := 2) (j := 0) Try.underlying22 I107 rfl dc_ dc_ rfl rfl rfl rfl rfl ha1572) (sl_ [none, none]) (cur2 (fun A1573 c1574 => ap_ 11 rfl (q_nil rfl) (ap_ 12 rfl (q_f F94_0 rfl) (ap_ 13 rfl (q_f F25_1 rfl) (a1_ 14 rfl (za9 (i := 1) rfl rfl rfl rfl Z22 rfl rfl) (sl_ [none, none]) (fun _ => zaj kr_ (zah (l1571, A1573, c1574) h trivial (pk_ [1, 2]) ?_)))))))))
    exact of_
   ·refine a1_ 5 rfl (ev_q rfl (q_ldb Y22 rfl (bx_ 1 rfl) rfl)) (sl_ [none, none]) (fun _ => a1_ 10 rfl (e_app (i := 2) (j := 0) Try.underlying22 I107 rfl dc_ dc_ rfl rfl rfl rfl rfl ha1572) (sl_ [none, none]) (cur2 (fun A1573 c1574 => ap_ 11 rfl (q_nil rfl) (ap_ 12 rfl (q_f F94_0 rfl) (ap_ 13 rfl (q_f F25_1 rfl) (a1_ 14 rfl (za9 (i := 1) rfl rfl rfl rfl Z22 rfl rfl) (sl_ [none, none]) (fun _ => zaj kr_ (zah (l1571, A1573, c1574) h trivial (pk_ [1, 2]) ?_))))))))
    exact of_
 ·refine (cur3 (fun l962 A963 c964 => fun U968 hJ969 => ?_))
  have e_ := si_ hJ969; have h := hR967; rw [← e_] at h; clear e_ hJ969 hR967 hl966
  refine c_seq (za0 (oq_ (za2 rfl) (oq_ (q_nil rfl) (oq_ (q_f F94_0 rfl) (za6 h (fun _ hx1931 h => ?_) rfl)))))
  refine o_e rfl (za5 0 Z Try.func115 N115 rfl rfl rfl (fun w P1 hF hB hS hT => impl_Plan_many_2.calls g0 a0_0 A963 c964 l962.length l962 A0_2 c0_2 l0_2.length l0_2 hB hF (hT 1 _ rfl).row (hT 1 _ rfl).cap (hS _ R0_2) hc0_2 (hT 0 _ rfl).box hx1931)) (fun _ => oq_ (zat rfl rfl) (oq_ (q_asg rfl) (o_end (za1 (c_ret ?_)))))
  have e0_ := si_ h; clear h
  obtain ⟨rfl, e1_⟩ := Prod.mk.inj e0_
  subst e1_
  exact x_r1 (A963, c964) Try.results57 (zad rfl) rfl (pk_ [0, 1])

def impl_maker_plan.f (a0_0 : Int) (l0_1 : List SStep) (l0_2 : List Int) (l1 : List Int) : Option Unit := some ()
theorem impl_maker_plan.calls {w0 ws : World} {P0 : Nat → Prop} (g0 : Nat) (a0_0 : Int) (A0_1 : Option Addr) (c0_1 : Nat) (n0_1 : Nat) (l0_1 : List SStep) (A0_2 : Option Addr) (c0_2 : Nat) (n0_2 : Nat) (l0_2 : List Int) (A1 : Option Addr) (c1 : Nat) (n1 : Nat) (l1 : List Int) (Z : Below w0.heap.size w0 ws) (hF : Fr w0 ws P0 [box g0 94 #[.int .i64 a0_0, .slice A0_1 n0_1 c0_1, .slice A0_2 n0_2 c0_2], row kStep 107 (.slice A0_1 n0_1 c0_1) l0_1, row (Kd.int .i64) 3 (.slice A1 n1 c1) l1] ws) (R0_2 : Stable ws P0 (fun w => Kd.C (Kd.int .i64) w A0_2 n0_2 l0_2)) (hc0_2 : n0_2 ≤ c0_2)  (h : impl_maker_plan.f a0_0 l0_1 l0_2 l1 = some ()) :
  Calls Try.prog 60 #[.pointer (some ⟨g0, 0, none⟩), .slice A1 n1 c1] ws (Post1 w0 ws P0 (fun (_ : Unit) => .agg #[.int .i64 a0_0, .slice A0_1 n0_1 c0_1, .slice A1 n1 c1]) (fun (_ : Unit) => [row kStep 107 (.slice A0_1 n0_1 c0_1) l0_1, row (Kd.int .i64) 3 (.slice A1 n1 c1) l1, box g0 94 #[.int .i64 a0_0, .slice A0_1 n0_1 c0_1, .slice A1 n1 c1]])) := by
 unfold impl_maker_plan.f at h
 obtain rfl := (hF.row_C (i := 1) rfl).2.1
 obtain rfl := (hF.row_C (i := 2) rfl).2.1
 obtain rfl := (R0_2 ws (KeptB.refl _ _)).1
 refine enter Try.func60 rfl Try.ntmps60 rfl hF (c_seq (za0 (o_e rfl (zab V25 rfl) (fun g1 => o_end (za1 (c_seq (za0 (oq_ (za2 rfl) (oq_ (za2 rfl) ?_)))))))))
 refine oq_ (q_nil rfl) (oq_ (q_f F94_0 rfl) (oq_ (q_f F25_2 rfl) (o_e rfl (za9 (i := 1) rfl rfl rfl rfl Z23 rfl rfl) (fun _ => o_end (za1 (c_seq (za0 (oq_ (za2 rfl) (oq_ (q_nil rfl) ?_)))))))))
 refine oq_ (q_f F94_0 rfl) (oq_ (q_ldB G25 Z25 rfl (bx_ 1 rfl) rfl) (o_e rfl (zac (i := 0) rfl rfl rfl Z25 rfl rfl) (fun _ => o_end (za1 (c_ret ?_)))))
 exact x_r1 () Try.results60 (zb0 rfl G25 Z25 (bx_ 0 rfl) rfl) rfl (pk_ [2, 3, 1])

def impl_told.f (k : Nat) (a0_0 : Int) (l0_1 : List SStep) (l0_2 : List Int) : Option (Int × (List SStep) × (List Int) × Bool) := (impl_IsPlan.f k a0_0 l0_1 l0_2).bind fun b6 => if b6 = true then (some (a0_0, l0_1, l0_2, true)) else (some (0, ([] : List SStep), ([] : List Int), false))
theorem impl_told.calls (k : Nat) {w0 ws : World} {P0 : Nat → Prop} (a0_0 : Int) (A0_1 : Option Addr) (c0_1 : Nat) (n0_1 : Nat) (l0_1 : List SStep) (A0_2 : Option Addr) (c0_2 : Nat) (n0_2 : Nat) (l0_2 : List Int) (Z : Below w0.heap.size w0 ws) (hF : Fr w0 ws P0 [row kStep 107 (.slice A0_1 n0_1 c0_1) l0_1, row (Kd.int .i64) 3 (.slice A0_2 n0_2 c0_2) l0_2] ws)  (r_1 : Int) (r_2 : List SStep) (r_5 : List Int) (r_8 : Bool) (h : impl_told.f k a0_0 l0_1 l0_2 = some (r_1, r_2, r_5, r_8)) :
  Calls Try.prog 61 #[.agg #[.int .i64 a0_0, .slice A0_1 n0_1 c0_1, .slice A0_2 n0_2 c0_2]] ws (Post1 w0 ws P0 (fun ((q_3, q_4, q_6, q_7) : (Option Addr) × Nat × (Option Addr) × Nat) => .tuple #[.agg #[.int .i64 r_1, .slice q_3 r_2.length q_4, .slice q_6 r_5.length q_7], .bool r_8]) (fun ((q_3, q_4, q_6, q_7) : (Option Addr) × Nat × (Option Addr) × Nat) => [row kStep 107 (.slice q_3 r_2.length q_4) r_2, row (Kd.int .i64) 3 (.slice q_6 r_5.length q_7) r_5])) := by
 unfold impl_told.f at h
 obtain rfl := (hF.row_C (i := 0) rfl).2.1
 obtain rfl := (hF.row_C (i := 1) rfl).2.1
 refine enter Try.func61 rfl Try.ntmps61 rfl hF (c_seq (za0 (o_e rfl (e_box rfl) (fun g1 => o_e rfl (zab V25 rfl) (fun g3 => oq_ (q_asg rfl) (o_end (za1 (c_seq (c_seq ?_)))))))))
 refine za0 (oq_ (q_ldB G25 Z25 rfl (bx_ 1 rfl) rfl) (za6 h (fun b6 hx5 h => ?_) rfl))
 refine o_e rfl (za5 0 Z Try.func90 N90 rfl rfl rfl (fun w P1 hF hB hS hT => impl_IsPlan.calls k a0_0 A0_1 c0_1 l0_1.length l0_1 A0_2 c0_2 l0_2.length l0_2 hB hF (hT 2 _ rfl).row (hT 2 _ rfl).cap (hT 3 _ rfl).row (hT 3 _ rfl).cap _ hx5)) (fun _ => oq_ (q_not rfl) (o_end (za1 (zan _ rfl (fun hb7 => ?_) (fun hb7 => ?_)))))
 ·replace hb7 := nt_t hb7
  replace h := bb_f hb7 h
  refine c_seq (za0 (oq_ (q_build (vs := []) (cs := [.int .i64 0, .slice none 0 0, .slice none 0 0]) rfl rfl) (o_e rfl (zac (i := 0) rfl rfl rfl Z25 rfl rfl) (fun _ => oq_ (q_asg rfl) (o_end (za1 (c_ret (zaa (x_nil kStep 107 ?_)))))))))
  refine x_nil (Kd.int .i64) 3 ?_
  have e0_ := si_ h; clear h
  obtain ⟨rfl, e1_⟩ := Prod.mk.inj e0_
  obtain ⟨rfl, e2_⟩ := Prod.mk.inj e1_
  obtain ⟨rfl, e3_⟩ := Prod.mk.inj e2_
  subst e3_
  exact x_r2 (none, 0, none, 0) Try.results61 (zb0 rfl G25 Z25 (bx_ 2 rfl) rfl) (zad rfl) rfl (pk_ [1, 0])
 ·replace hb7 := nt_f hb7
  replace h := bb_t hb7 h
  refine zai (za1 (c_seq (za0 (oq_ (q_ldB G25 Z25 rfl (bx_ 1 rfl) rfl) (o_e rfl (zac (i := 0) rfl rfl rfl Z25 rfl rfl) (fun _ => oq_ (q_asg rfl) (o_end (za1 (c_ret ?_)))))))))
  have e0_ := si_ h; clear h
  obtain ⟨rfl, e1_⟩ := Prod.mk.inj e0_
  obtain ⟨rfl, e2_⟩ := Prod.mk.inj e1_
  obtain ⟨rfl, e3_⟩ := Prod.mk.inj e2_
  subst e3_
  exact x_r2 (A0_1, c0_1, A0_2, c0_2) Try.results61 (zb0 rfl G25 Z25 (bx_ 0 rfl) rfl) (zad rfl) rfl (pk_ [2, 3])

def impl_BinaryPlan.r0 : Int × Int → ((List SStep) × Int) → Option ((List SStep) × Int)
 | (ix_, y_), (l21, i24) => (impl_maker_multiply.f 1 l21 [] i24 i24).bind fun (i29, l30) => if y_ = 1 then ((impl_maker_multiply.f 1 l30 [] i29 0).bind fun (i35, l36) => some (l36, i35)) else (some (l30, i29))
def impl_BinaryPlan.f (k : Nat) (a0 : Int) : Option (Int × (List SStep) × (List Int) × Bool) := (impl_isNumber.f a0).bind fun b4 => if b4 = true then ((impl_newMaker.f 1).bind fun _ => (impl_digits.f k a0 2).bind fun l13 => (ct l13 (0 : Int) (w64 ((l13.length : Int) - 1))).bind fun l16 => (bw_int.f l16).bind fun _ => (rngB l16 (impl_BinaryPlan.r0) ([], 0)).bind fun (l26, i27) => (impl_maker_plan.f 1 l26 [] ([i27] : List Int)).bind fun _ => (impl_told.f k 1 l26 ([i27] : List Int)).bind fun (i44, l45, l46, b47) => some (i44, l45, l46, b47)) else (some (0, ([] : List SStep), ([] : List Int), false))
theorem impl_BinaryPlan.calls (k : Nat) {w0 ws : World} {P0 : Nat → Prop} (a0 : Int) (Z : Below w0.heap.size w0 ws) (hF : Fr w0 ws P0 [] ws)  (r_1 : Int) (r_2 : List SStep) (r_5 : List Int) (r_8 : Bool) (h : impl_BinaryPlan.f k a0 = some (r_1, r_2, r_5, r_8)) :
  Calls Try.prog 32 #[.int .i64 a0] ws (Post1 w0 ws P0 (fun ((q_3, q_4, q_6, q_7) : (Option Addr) × Nat × (Option Addr) × Nat) => .tuple #[.agg #[.int .i64 r_1, .slice q_3 r_2.length q_4, .slice q_6 r_5.length q_7], .bool r_8]) (fun ((q_3, q_4, q_6, q_7) : (Option Addr) × Nat × (Option Addr) × Nat) => [row kStep 107 (.slice q_3 r_2.length q_4) r_2, row (Kd.int .i64) 3 (.slice q_6 r_5.length q_7) r_5])) := by
 unfold impl_BinaryPlan.f at h
 refine enterM Try.func32 rfl Try.ntmps32 rfl hF (c_seq (za0 (o_e rfl (zab V25 rfl) (fun g1 => oq_ (q_asg rfl) (o_end (za1 (c_seq (c_seq (za0 ?_)))))))))
 refine oq_ (za2 rfl) (za6 h (fun b4 hx3 h => ?_) rfl)
 refine o_e rfl (za5 0 Z Try.func74 N74 rfl rfl rfl (fun w P1 hF hB hS hT => impl_isNumber.calls a0 hB hF _ hx3)) (fun _ => oq_ (q_not rfl) (o_end (za1 (zan _ rfl (fun hb5 => ?_) (fun hb5 => ?_)))))
 ·replace hb5 := nt_t hb5
  replace h := bb_f hb5 h
  refine c_seq (za0 (oq_ (q_build (vs := []) (cs := [.int .i64 0, .slice none 0 0, .slice none 0 0]) rfl rfl) (o_e rfl (zac (i := 0) rfl rfl rfl Z25 rfl rfl) (fun _ => oq_ (q_asg rfl) (o_end (za1 (c_ret (zaa (x_nil kStep 107 ?_)))))))))
  refine x_nil (Kd.int .i64) 3 ?_
  have e0_ := si_ h; clear h
  obtain ⟨rfl, e1_⟩ := Prod.mk.inj e0_
  obtain ⟨rfl, e2_⟩ := Prod.mk.inj e1_
  obtain ⟨rfl, e3_⟩ := Prod.mk.inj e2_
  subst e3_
  refine x_plainM (.inl rfl) ?_
  exact x_r2 (none, 0, none, 0) Try.results32 (zb0 rfl G25 Z25 (bx_ 2 rfl) rfl) (zad rfl) rfl (pk_ [1, 0])
 ·replace hb5 := nt_f hb5
  replace h := bb_t hb5 h
  refine zai (za1 (c_seq (za0 (za6 h (fun _ hx6 h => ?_) rfl))))
  refine o_e rfl (za5 0 Z Try.func54 N54 rfl rfl rfl (fun w P1 hF hB hS hT => impl_newMaker.calls 1 hB hF hx6)) (fun c7 => o_e rfl (zab V60 rfl) (fun g8 => o_e rfl (zab V3 rfl) (fun g10 => o_e rfl (za9 (i := 1) rfl rfl rfl rfl Z60 rfl rfl) (fun _ => o_e rfl (za9 (i := 0) rfl rfl rfl rfl Z3 rfl rfl) (fun _ => o_end (za1 (c_seq (za0 (oq_ (za2 rfl) ?_)))))))))
  refine za6 h (fun l13 hx12 h => ?_) rfl
  refine o_e rfl (za5 0 Z Try.func55 N55 rfl rfl rfl (fun w P1 hF hB hS hT => impl_digits.calls k a0 2 hB hF _ hx12)) (cur2 (fun A14 c15 => oq_ (q_asg rfl) (o_end (za1 (c_seq (c_seq (za0 (oq_ (za2 rfl) (oq_ (za2 rfl) (oq_ (q_len Try.underlying23 rfl) ?_))))))))))
  refine oq_ (zat rfl rfl) (za6 h (fun l16 hz17 h => ?_) rfl)
  refine zaw (p := l13.length = l13.length ∧ l13.length ≤ c15) (fun w h => h.row_nc (i := 0) rfl) (fun hk18 => oq_ (q_ctv Try.underlying23 Z3 rfl rfl ⟨_, rfl⟩ hk18.1 hk18.2 hz17) (za6 h (fun _ hx19 h => ?_) rfl))
  refine o_e rfl (za5 0 Z Try.func58 N58 rfl rfl rfl (fun w P1 hF hB hS hT => bw_int.calls (cutA A14 c15 (0 : Int).toNat 1) (c15 - (0 : Int).toNat) l16.length l16 hB hF (stab_cut (dk := (Kd.int .i64)) rfl hz17 hk18.2 (hT 0 _ rfl).row) (ct_cap hz17 hk18.1 hk18.2) hx19)) (fun c20 => o_end (za1 (zae (bindE2 h (fun l26 i27 hrg25 h => ?_) rfl))))
  intro w_ hw_
  have hw1_ : Fr w0 _ _ ([box g10 3 #[.int .i64 0], box g8 60 #[.pointer (some ⟨c7, 0, none⟩)], box c7 94 #[.int .i64 1, .slice none 0 0, .slice none 0 0], row kStep 107 (.slice none 0 0) [], row (Kd.int .i64) 3 (.slice none 0 0) [], box g1 25 #[.int .i64 0, .slice none 0 0, .slice none 0 0]] ++ [box c20 23 #[.slice (cutA A14 c15 (0 : Int).toNat 1) l16.length (c15 - (0 : Int).toNat)], row (Kd.int .i64) 3 (.slice A14 l13.length c15) l13]) w_ := f_pick [2, 3, 4, 5, 6, 7, 0, 1] dc_ rfl w_ hw_
  obtain ⟨P2_, hF2_, hst_, hT_, hc2_, hback_⟩ := hw1_.here Z
  have Z2_ := hF2_.bel
  refine wpIn_any (N := ⟨40, [], none⟩) (n := 3) (wp_rangeE (σ := (List SStep) × Int) (τ := (Option Addr) × Nat) (α := BackT l16) (fun x => #[Value.int .i64 x.1.1, .int .i64 x.1.2]) (fun _ => rfl) ([], 0) (none, 0) (fun s x => stB (impl_BinaryPlan.r0) s x.1) (fun ((l21, i24) : (List SStep) × Int) ((A22, c23) : (Option Addr) × Nat) => [box g10 3 #[.int .i64 i24], box g8 60 #[.pointer (some ⟨c7, 0, none⟩)], box c7 94 #[.int .i64 1, .slice A22 l21.length c23, .slice none 0 0], row kStep 107 (.slice A22 l21.length c23) l21, row (Kd.int .i64) 3 (.slice none 0 0) [], box g1 25 #[.int .i64 0, .slice none 0 0, .slice none 0 0]]) (fun x => [(23, .int .i64 x.1.2), (22, .int .i64 x.1.1)]) (fun x => [(8, .int .i64 x.1.2), (23, .int .i64 x.1.2), (22, .int .i64 x.1.1)]) rfl (enters9 Try.func116 N116 rfl) hF2_ (bk_int c20 (cutA A14 c15 (0 : Int).toNat 1) (c15 - (0 : Int).toNat) l16 (stab_cut (dk := (Kd.int .i64)) rfl hz17 hk18.2 (hT_ 1 _ rfl).row) (Own.box (hT_ 0 _ rfl))) (fun x => act_zip2) ?_ ?_ ?_ ?_)
  ·rintro ⟨l21, i24⟩ ⟨l21', i24'⟩ ⟨A22, c23⟩ ⟨A22', c23'⟩ W_ h1_ h2_
   have e_ := box_det h1_ h2_ (i := 0) (i' := 0) rfl rfl
   have d_ := congrArg (fun a : Array Value => a.getD 0 (.bool false)) e_
   injection d_ with d1_ d2_; subst d2_
   have e_ := box_det h1_ h2_ (i := 2) (i' := 2) rfl rfl
   have d_ := congrArg (fun a : Array Value => a.getD 1 (.bool false)) e_
   injection d_ with d1_ d2_ d3_
   subst d1_; subst d3_
   have d4_ : l21 = l21' := C_det (fun _ x y cs a b => by have e_ := (show cs = _ from a).symm.trans (show cs = _ from b); cases x; cases y; simpa using e_) d2_ (h1_.row_C (i := 3) rfl).1 (h2_.row_C (i := 3) rfl).1; subst d4_
   rfl
  ·intro l_ s_ t_ x_ W_ P_ Z_ hst2_
   refine za0 (oq_ (q_asg rfl) (o_end ?_))
   intro w3_ hw3_
   exact ⟨rfl, hw3_⟩
  ·intro l_ pre_ x_ t_ W_ P_ Z_ hst2_ hlen_ s_ hs_ s2_ hs2_
   obtain ⟨z_, h, hz_⟩ := rng_round hrg25 pre_ x_ hlen_
   rw [← hs_] at h hz_
   obtain rfl : z_ = s2_ := hz_.symm.trans hs2_
   clear hs_ hs2_ hz_ hlen_ pre_ hrg25
   obtain ⟨⟨ix_, y_⟩, hx_⟩ := x_
   obtain ⟨A22, c23⟩ := t_
   obtain ⟨l21, i24⟩ := s_; obtain ⟨l21_, i24_⟩ := z_
   have Z := Z_
   replace h : ((impl_maker_multiply.f 1 l21 [] i24 i24).bind fun (i29, l30) => if y_ = 1 then ((impl_maker_multiply.f 1 l30 [] i29 0).bind fun (i35, l36) => some (l36, i35)) else (some (l30, i29))) = some (l21_, i24_) := h
   refine zae (c_seq (za0 (oq_ (q_ldb Y60 rfl (bx_ 1 rfl) rfl) (oq_ (q_ldb Y3 rfl (bx_ 0 rfl) rfl) (oq_ (q_ldb Y3 rfl (bx_ 0 rfl) rfl) (o_pick [2, 3, 0, 1, 4, 5] dc_ rfl (bindE2 h (fun i29 l30 hx28 h => ?_) rfl)))))))
   refine o_e rfl (za5 2 Z Try.func57 N57 rfl rfl rfl (fun w P1 hF hB hS hT => impl_maker_multiply.calls c7 1 A22 c23 l21.length l21 none 0 0 [] i24 i24 hB hF (hT 2 _ rfl).row (hT 2 _ rfl).cap _ _ hx28)) (cur2 (fun A31 c32 => o_e rfl (za9 (i := 2) rfl rfl rfl rfl Z3 rfl rfl) (fun _ => o_end (za1 (c_seq (za0 (oq_ (za2 rfl) (oq_ (q_eql rfl rfl) (o_end (za1 ?_))))))))))
   refine zan _ rfl (fun hb33 => ?_) (fun hb33 => ?_)
   ·replace h := br_t hb33 h
    refine za0 (oq_ (q_ldb Y60 rfl (bx_ 3 rfl) rfl) (oq_ (q_ldb Y3 rfl (bx_ 2 rfl) rfl) (bindE2 h (fun i35 l36 hx34 h => ?_) rfl)))
    refine o_e rfl (za5 2 Z Try.func57 N57 rfl rfl rfl (fun w P1 hF hB hS hT => impl_maker_multiply.calls c7 1 A31 c32 l30.length l30 none 0 0 [] i29 0 hB hF (hT 2 _ rfl).row (hT 2 _ rfl).cap _ _ hx34)) (cur2 (fun A37 c38 => o_e rfl (za9 (i := 2) rfl rfl rfl rfl Z3 rfl rfl) (fun _ => o_end (zaf ?_))))
    have e0_ := si_ h; clear h
    obtain ⟨rfl, e1_⟩ := Prod.mk.inj e0_
    subst e1_
    intro w3_ hw3_
    exact ⟨(A37, c38), (pk_ [2, 3, 0, 1, 4, 5]) w3_ hw3_⟩
   ·replace h := br_f hb33 h
    refine zai (zaf ?_)
    have e0_ := si_ h; clear h
    obtain ⟨rfl, e1_⟩ := Prod.mk.inj e0_
    subst e1_
    intro w3_ hw3_
    exact ⟨(A31, c32), (pk_ [2, 3, 0, 1, 4, 5]) w3_ hw3_⟩
  ·intro D_ xs_ W_ t_ s_ hs_ hD_ hS_ hFW_ hdf_
   obtain rfl : s_ = (l26, i27) := hs_.trans (rng_done hrg25 hS_)
   clear hs_ hS_
   obtain ⟨A22o, c23o⟩ := t_
   obtain ⟨P4_, hF4_, hst4_, _, hc4_, hback4_⟩ := (show Fr w0 w_ P2_ ([box g10 3 #[.int .i64 i27], box g8 60 #[.pointer (some ⟨c7, 0, none⟩)], box c7 94 #[.int .i64 1, .slice A22o l26.length c23o, .slice none 0 0], row kStep 107 (.slice A22o l26.length c23o) l26, row (Kd.int .i64) 3 (.slice none 0 0) [], box g1 25 #[.int .i64 0, .slice none 0 0, .slice none 0 0]] ++ []) W_ from hFW_).here Z2_
   have hmk_ := mark_stab hc4_ hdf_
   have hws_ : ws.heap.size ≤ D_ := Nat.le_trans (hw_.keptB Z).kept.1 hD_
   have hbk_ : ∀ (Ts : List (Thing w0.heap.size)) w, Fr w0 W_ P4_ Ts w → Fr w0 ws P0 Ts w := fun Ts w h => hback_ _ _ (hback4_ _ _ h)
   refine (show X ⟨40, [{ target := .collected D_, args := #[] }], none⟩ w0 W_ P4_ .normal _ _ _ from ?_) W_ hF4_
   have Zo_ := Z; have Z := hF4_.bel
   refine zaf (za1 (c_seq (za0 (oq_ (q_ldb Y60 rfl (bx_ 1 rfl) rfl) (oq_ (q_ldb Y3 rfl (bx_ 0 rfl) rfl) (o_e rfl (e_lit (vs := [(0, .int .i64 i27)]) (cs := [.int .i64 i27]) (Kd.int .i64) ([i27] : List Int) Try.underlying23 I3 dc_ rfl dc_ rfl rfl (fun _ _ => Kd.za8 _)) (cur2 (fun A39 c40 => o_pick [3, 4, 0, 1, 2, 5, 6] dc_ rfl (za6 h (fun _ hx42 h => ?_) rfl)))))))))
   refine o_e rfl (za5 3 Z Try.func60 N60 rfl rfl rfl (fun w P1 hF hB hS hT => impl_maker_plan.calls c7 1 A22o c23o l26.length l26 none 0 0 [] A39 c40 (([i27] : List Int).length) ([i27] : List Int) hB hF (hT 2 _ rfl).row (hT 2 _ rfl).cap hx42)) (fun _ => bindE4 h (fun i44 l45 l46 b47 hx43 h => ?_) rfl)
   refine o_e rfl (za5 2 Z Try.func61 N61 rfl rfl rfl (fun w P1 hF hB hS hT => impl_told.calls k 1 A22o c23o l26.length l26 A39 c40 (([i27] : List Int).length) ([i27] : List Int) hB hF _ _ _ _ hx43)) (cur4 (fun A48 c49 A50 c51 => oq_ (q_ext rfl rfl) (oq_ (q_ext rfl rfl) (o_e rfl (zac (i := 6) rfl rfl rfl Z25 rfl rfl) (fun _ => oq_ (q_asg rfl) (o_end (za1 (c_ret ?_))))))))
   have e0_ := si_ h; clear h
   obtain ⟨rfl, e1_⟩ := Prod.mk.inj e0_
   obtain ⟨rfl, e2_⟩ := Prod.mk.inj e1_
   obtain ⟨rfl, e3_⟩ := Prod.mk.inj e2_
   subst e3_
   refine x_mark (D := D_) Zo_ hws_ hmk_ Z hbk_ ?_
   exact x_r2 (A48, c49, A50, c51) Try.results32 (zb0 rfl G25 Z25 (bx_ 6 rfl) rfl) (zad rfl) rfl (pk_ [0, 1])

def impl_maker_times.f (a0_0 : Int) (l0_1 : List SStep) (l0_2 : List Int) (a1 : Int) (a2 : Int) : Option (Int × (List SStep)) := if a1 < 0 then (some (a2, l0_1)) else ((impl_maker_multiply.f a0_0 l0_1 l0_2 a1 a2).bind fun (i3, l4) => some (i3, l4))
theorem impl_maker_times.calls {w0 ws : World} {P0 : Nat → Prop} (g0 : Nat) (a0_0 : Int) (A0_1 : Option Addr) (c0_1 : Nat) (n0_1 : Nat) (l0_1 : List SStep) (A0_2 : Option Addr) (c0_2 : Nat) (n0_2 : Nat) (l0_2 : List Int) (a1 : Int) (a2 : Int) (Z : Below w0.heap.size w0 ws) (hF : Fr w0 ws P0 [box g0 94 #[.int .i64 a0_0, .slice A0_1 n0_1 c0_1, .slice A0_2 n0_2 c0_2], row kStep 107 (.slice A0_1 n0_1 c0_1) l0_1] ws) (R0_2 : Stable ws P0 (fun w => Kd.C (Kd.int .i64) w A0_2 n0_2 l0_2)) (hc0_2 : n0_2 ≤ c0_2) (r_1 : Int) (r_2 : List SStep) (h : impl_maker_times.f a0_0 l0_1 l0_2 a1 a2 = some (r_1, r_2)) :
  Calls Try.prog 76 #[.pointer (some ⟨g0, 0, none⟩), .int .i64 a1, .int .i64 a2] ws (Post1 w0 ws P0 (fun ((q_3, q_4) : (Option Addr) × Nat) => .int .i64 r_1) (fun ((q_3, q_4) : (Option Addr) × Nat) => [box g0 94 #[.int .i64 a0_0, .slice q_3 r_2.length q_4, .slice A0_2 n0_2 c0_2], row kStep 107 (.slice q_3 r_2.length q_4) r_2])) := by
 unfold impl_maker_times.f at h
 obtain rfl := (hF.row_C (i := 1) rfl).2.1
 obtain rfl := (R0_2 ws (KeptB.refl _ _)).1
 refine enter Try.func76 rfl Try.ntmps76 rfl hF (c_seq (za0 (oq_ (q_asg rfl) (o_end (za1 (c_seq (c_seq (za0 (oq_ (za2 rfl) ?_)))))))))
 refine oq_ (q_lss rfl rfl) (o_end (za1 (zan _ rfl (fun hb1 => ?_) (fun hb1 => ?_))))
 ·replace h := br_t hb1 h
  refine c_seq (za0 (oq_ (za2 rfl) (oq_ (q_asg rfl) (o_end (za1 (c_ret (zaa ?_)))))))
  have e0_ := si_ h; clear h
  obtain ⟨rfl, e1_⟩ := Prod.mk.inj e0_
  subst e1_
  exact x_r1 (A0_1, c0_1) Try.results76 (zad rfl) rfl (pk_ [0, 1])
 ·replace h := br_f hb1 h
  refine zai (za1 (c_seq (za0 (oq_ (za2 rfl) (oq_ (za2 rfl) (oq_ (za2 rfl) (bindE2 h (fun i3 l4 hx2 h => ?_) rfl)))))))
  refine o_e rfl (za5 2 Z Try.func57 N57 rfl rfl rfl (fun w P1 hF hB hS hT => impl_maker_multiply.calls g0 a0_0 A0_1 c0_1 l0_1.length l0_1 A0_2 c0_2 l0_2.length l0_2 a1 a2 hB hF (hS _ R0_2) hc0_2 _ _ hx2)) (cur2 (fun A5 c6 => oq_ (q_asg rfl) (o_end (za1 (c_ret ?_)))))
  have e0_ := si_ h; clear h
  obtain ⟨rfl, e1_⟩ := Prod.mk.inj e0_
  subst e1_
  exact x_r1 (A5, c6) Try.results76 (zad rfl) rfl (pk_ [0, 1])

def impl_RightPlan.l0 (l9 : List Int) : (List Int) → (List SStep) → Int → Int → Int → Option ((List SStep) × Int)
 | [], l12, i15, i16, i17 => some (l12, i17)
 | y18 :: ys19, l12, i15, i16, i17 => (if y18 = 1 then ((impl_maker_times.f 1 l12 [] i17 i16).bind fun (i59, l60) => some (l60, i59)) else (some (l12, i17))).bind fun (l48, i51) => if i15 < w64 ((l9.length : Int) - 1) then ((impl_maker_multiply.f 1 l48 [] i16 i16).bind fun (i65, l66) => impl_RightPlan.l0 l9 ys19 l66 (i15 + 1) i65 i51) else (impl_RightPlan.l0 l9 ys19 l48 (i15 + 1) i16 i51)
def impl_RightPlan.f (k : Nat) (a0 : Int) : Option (Int × (List SStep) × (List Int) × Bool) := (impl_isNumber.f a0).bind fun b4 => if b4 = true then ((impl_newMaker.f 1).bind fun _ => (impl_digits.f k a0 2).bind fun l9 => (impl_RightPlan.l0 l9 l9 [] 0 0 (-1)).bind fun (l12, i17) => (impl_maker_plan.f 1 l12 [] ([i17] : List Int)).bind fun _ => (impl_told.f k 1 l12 ([i17] : List Int)).bind fun (i33, l34, l35, b36) => some (i33, l34, l35, b36)) else (some (0, ([] : List SStep), ([] : List Int), false))
theorem impl_RightPlan.calls (k : Nat) {w0 ws : World} {P0 : Nat → Prop} (a0 : Int) (Z : Below w0.heap.size w0 ws) (hF : Fr w0 ws P0 [] ws)  (r_1 : Int) (r_2 : List SStep) (r_5 : List Int) (r_8 : Bool) (h : impl_RightPlan.f k a0 = some (r_1, r_2, r_5, r_8)) :
  Calls Try.prog 33 #[.int .i64 a0] ws (Post1 w0 ws P0 (fun ((q_3, q_4, q_6, q_7) : (Option Addr) × Nat × (Option Addr) × Nat) => .tuple #[.agg #[.int .i64 r_1, .slice q_3 r_2.length q_4, .slice q_6 r_5.length q_7], .bool r_8]) (fun ((q_3, q_4, q_6, q_7) : (Option Addr) × Nat × (Option Addr) × Nat) => [row kStep 107 (.slice q_3 r_2.length q_4) r_2, row (Kd.int .i64) 3 (.slice q_6 r_5.length q_7) r_5])) := by
 unfold impl_RightPlan.f at h
 refine enter Try.func33 rfl Try.ntmps33 rfl hF (c_seq (za0 (o_e rfl (zab V25 rfl) (fun g1 => oq_ (q_asg rfl) (o_end (za1 (c_seq (c_seq (za0 ?_)))))))))
 refine oq_ (za2 rfl) (za6 h (fun b4 hx3 h => ?_) rfl)
 refine o_e rfl (za5 0 Z Try.func74 N74 rfl rfl rfl (fun w P1 hF hB hS hT => impl_isNumber.calls a0 hB hF _ hx3)) (fun _ => oq_ (q_not rfl) (o_end (za1 (zan _ rfl (fun hb5 => ?_) (fun hb5 => ?_)))))
 ·replace hb5 := nt_t hb5
  replace h := bb_f hb5 h
  refine c_seq (za0 (oq_ (q_build (vs := []) (cs := [.int .i64 0, .slice none 0 0, .slice none 0 0]) rfl rfl) (o_e rfl (zac (i := 0) rfl rfl rfl Z25 rfl rfl) (fun _ => oq_ (q_asg rfl) (o_end (za1 (c_ret (zaa (x_nil kStep 107 ?_)))))))))
  refine x_nil (Kd.int .i64) 3 ?_
  have e0_ := si_ h; clear h
  obtain ⟨rfl, e1_⟩ := Prod.mk.inj e0_
  obtain ⟨rfl, e2_⟩ := Prod.mk.inj e1_
  obtain ⟨rfl, e3_⟩ := Prod.mk.inj e2_
  subst e3_
  exact x_r2 (none, 0, none, 0) Try.results33 (zb0 rfl G25 Z25 (bx_ 2 rfl) rfl) (zad rfl) rfl (pk_ [1, 0])
 ·replace hb5 := nt_f hb5
  replace h := bb_t hb5 h
  refine zai (za1 (c_seq (za0 (za6 h (fun _ hx6 h => ?_) rfl))))
  refine o_e rfl (za5 0 Z Try.func54 N54 rfl rfl rfl (fun w P1 hF hB hS hT => impl_newMaker.calls 1 hB hF hx6)) (fun c7 => oq_ (q_asg rfl) (oq_ (q_asg rfl) (oq_ (q_asg rfl) (o_end (za1 (c_seq (za0 (oq_ (za2 rfl) (za6 h (fun l9 hx8 h => ?_) rfl)))))))))
  refine o_e rfl (za5 0 Z Try.func55 N55 rfl rfl rfl (fun w P1 hF hB hS hT => impl_digits.calls k a0 2 hB hF _ hx8)) (cur2 (fun A10 c11 => oq_ (q_asg rfl) (o_end (za1 (c_seq (c_seq (za0 (oq_ (za2 rfl) (oq_ (q_len Try.underlying23 rfl) (oq_ (za2 rfl) ?_))))))))))
  refine o_end (za1 (zae (za6 h (fun o25 hl24 hR23 => ?_) rfl)))
  clear h
  refine c_fact (p := l9.length ≤ 9223372036854775807) (fun w h => (h.row_Cn (i := 0) rfl).2.1) (fun hm22 => zas (σ := (List Int) × (List SStep) × Int × Int × Int × (Option Addr) × Nat) (fun k20 ((ys19, l12, i15, i16, i17, A13, c14) : (List Int) × (List SStep) × Int × Int × Int × (Option Addr) × Nat) => Rg l9 i15 ys19 ∧ ys19.length = k20 ∧ impl_RightPlan.l0 l9 ys19 l12 i15 i16 i17 = some o25) [5, 6, 8, 9, 19, 20, 21, 22, 23, 24, 25, 26, 27, 28, 29, 30, 31, 32, 33, 34, 35, 36, 37, 38, 39] (fun ((ys19, l12, i15, i16, i17, A13, c14) : (List Int) × (List SStep) × Int × Int × Int × (Option Addr) × Nat) => [(5, .int .i64 i16), (6, .int .i64 i17), (19, .int .i64 i15)]) (fun ((ys19, l12, i15, i16, i17, A13, c14) : (List Int) × (List SStep) × Int × Int × Int × (Option Addr) × Nat) => [row (Kd.int .i64) 3 (.slice A10 l9.length c11) l9, box c7 94 #[.int .i64 1, .slice A13 l12.length c14, .slice none 0 0], row kStep 107 (.slice A13 l12.length c14) l12, row (Kd.int .i64) 3 (.slice none 0 0) [], box g1 25 #[.int .i64 0, .slice none 0 0, .slice none 0 0]]) l9.length (l9, [], 0, 0, (-1), none, 0) ⟨Rg.start _, rfl, hl24⟩ ⟨rfl, rfl, rfl, trivial⟩ (fun w h => h) (fun k20 => cur7 (listC (fun l12 i15 i16 i17 A13 c14 U26 hJ_ => ?_) (fun y18 ys19 l12 i15 i16 i17 A13 c14 U26 hJ_ => ?_))))
  ·clear hl24
   have hr21 := hJ_.1; have hk27 := hJ_.2.1; have h := hJ_.2.2; clear hJ_
   replace h : impl_RightPlan.l0 l9 [] l12 i15 i16 i17 = some o25 := h
   rw [impl_RightPlan.l0] at h
   refine c_seq (za0 (oq_ (q_lss rfl rfl) (o_end (za1 (c_seq (zaz (vb_ hr21.ge) (zax (za7 (za7 ?_)))))))))
   have e_ := si_ h; replace h := hR23; rw [← e_] at h; clear e_
   refine x_hit (za1 (c_seq (za0 (oq_ (za2 rfl) (oq_ (za2 rfl) (o_e rfl (e_lit (vs := [(0, .int .i64 i17)]) (cs := [.int .i64 i17]) (Kd.int .i64) ([i17] : List Int) Try.underlying23 I3 dc_ rfl dc_ rfl rfl (fun _ _ => Kd.za8 _)) (cur2 (fun A28 c29 => o_pick [2, 3, 0, 1, 4, 5] dc_ rfl (za6 h (fun _ hx31 h => ?_) rfl)))))))))
   refine o_e rfl (za5 3 Z Try.func60 N60 rfl rfl rfl (fun w P1 hF hB hS hT => impl_maker_plan.calls c7 1 A13 c14 l12.length l12 none 0 0 [] A28 c29 (([i17] : List Int).length) ([i17] : List Int) hB hF (hT 1 _ rfl).row (hT 1 _ rfl).cap hx31)) (fun _ => bindE4 h (fun i33 l34 l35 b36 hx32 h => ?_) rfl)
   refine o_e rfl (za5 2 Z Try.func61 N61 rfl rfl rfl (fun w P1 hF hB hS hT => impl_told.calls k 1 A13 c14 l12.length l12 A28 c29 (([i17] : List Int).length) ([i17] : List Int) hB hF _ _ _ _ hx32)) (cur4 (fun A37 c38 A39 c40 => oq_ (q_ext rfl rfl) (oq_ (q_ext rfl rfl) (o_e rfl (zac (i := 5) rfl rfl rfl Z25 rfl rfl) (fun _ => oq_ (q_asg rfl) (o_end (za1 (c_ret ?_))))))))
   have e0_ := si_ h; clear h
   obtain ⟨rfl, e1_⟩ := Prod.mk.inj e0_
   obtain ⟨rfl, e2_⟩ := Prod.mk.inj e1_
   obtain ⟨rfl, e3_⟩ := Prod.mk.inj e2_
   subst e3_
   exact x_r2 (A37, c38, A39, c40) Try.results33 (zb0 rfl G25 Z25 (bx_ 5 rfl) rfl) (zad rfl) rfl (pk_ [0, 1])
  ·clear hl24
   have hr21 := hJ_.1; have hk27 := hJ_.2.1; have h := hJ_.2.2; clear hJ_
   replace h : impl_RightPlan.l0 l9 (y18 :: ys19) l12 i15 i16 i17 = some o25 := h
   rw [impl_RightPlan.l0] at h
   refine c_seq (za0 (oq_ (q_lss rfl rfl) (o_end (za1 (c_seq (zar (vb_ hr21.lt) (zai (za1 (c_seq ?_)))))))))
   refine zae (c_seq (za0 (oq_ (za2 rfl) (zaw (p := Sh A10 l9.length l9.length) (fun w h => f_sh (dk := (Kd.int .i64)) h (rc_ 0 rfl)) (fun hq41 => oq_ (q_ix Try.underlying23 Z3 rfl rfl hq41 hr21.get) (oq_ (q_lde (off := 0) Y3 rfl rfl (rc_ 0 rfl) hr21.get (fun _ _ h => h) rfl) (oq_ (q_asg rfl) (oq_ (q_asg rfl) (o_end ?_)))))))))
   refine za1 (za6 h (fun o52 hl53 hR54 => ?_) rfl)
   clear h
   refine c_cutJ (σ := (List SStep) × Int × (Option Addr) × Nat) (fun (l48, i51, A49, c50) => some (l48, i51) = some o52) [6, 24, 25, 26, 27, 28, 29] (fun (l48, i51, A49, c50) => [(6, .int .i64 i51)]) (fun (l48, i51, A49, c50) => [box g1 25 #[.int .i64 0, .slice none 0 0, .slice none 0 0], box c7 94 #[.int .i64 1, .slice A49 l48.length c50, .slice none 0 0], row kStep 107 (.slice A49 l48.length c50) l48, row (Kd.int .i64) 3 (.slice none 0 0) [], row (Kd.int .i64) 3 (.slice A10 l9.length c11) l9]) ?_ ?_
   ·have h := hl53; clear hl53
    clear hR54
    refine c_seq (za0 (oq_ (za2 rfl) (oq_ (q_eql rfl rfl) (o_end (za1 (zan _ rfl (fun hb57 => ?_) (fun hb57 => ?_)))))))
    ·replace h := br_t hb57 h
     refine za0 (oq_ (za2 rfl) (oq_ (za2 rfl) (oq_ (za2 rfl) (o_pick [1, 2, 0, 3, 4] dc_ rfl (bindE2 h (fun i59 l60 hx58 h => ?_) rfl)))))
     refine o_e rfl (za5 2 Z Try.func76 N76 rfl rfl rfl (fun w P1 hF hB hS hT => impl_maker_times.calls c7 1 A13 c14 l12.length l12 none 0 0 [] i17 i16 hB hF (hT 1 _ rfl).row (hT 1 _ rfl).cap _ _ hx58)) (cur2 (fun A61 c62 => oq_ (q_asg rfl) (o_end (zah (l60, i59, A61, c62) h ⟨rfl, trivial⟩ (pk_ [4, 0, 1, 3, 2]) ?_))))
     exact of_
    ·replace h := br_f hb57 h
     refine zai (zah (l12, i17, A13, c14) h ⟨rfl, trivial⟩ (pk_ [4, 1, 2, 3, 0]) ?_)
     exact of_
   ·refine (cur4 (fun l48 i51 A49 c50 => fun U55 hJ56 => ?_))
    have e_ := si_ hJ56; have h := hR54; rw [← e_] at h; clear e_ hJ56 hR54 hl53
    refine c_seq (za0 (oq_ (za2 rfl) (oq_ (za2 rfl) (oq_ (q_len Try.underlying23 rfl) (oq_ (zat rfl rfl) (oq_ (q_lss rfl rfl) (o_end (za1 (zan _ rfl (fun hb63 => ?_) (fun hb63 => ?_))))))))))
    ·replace h := br_t hb63 h
     refine za0 (oq_ (za2 rfl) (oq_ (za2 rfl) (oq_ (za2 rfl) (o_pick [1, 2, 0, 3, 4] dc_ rfl (bindE2 h (fun i65 l66 hx64 h => ?_) rfl)))))
     refine o_e rfl (za5 2 Z Try.func57 N57 rfl rfl rfl (fun w P1 hF hB hS hT => impl_maker_multiply.calls c7 1 A49 c50 l48.length l48 none 0 0 [] i16 i16 hB hF (hT 1 _ rfl).row (hT 1 _ rfl).cap _ _ hx64)) (cur2 (fun A67 c68 => oq_ (q_asg rfl) (o_end (zaf (za1 (za0 (oq_ (q_up rfl rfl (hr21.up hm22)) (oq_ (za2 rfl) (o_end (zal ys19.length (ys19, l66, i15 + 1, i65, i51, A67, c68) (by rw [← hk27]; exact Nat.lt_succ_self _) ⟨hr21.step, rfl, h⟩ ⟨rfl, rfl, rfl, trivial⟩ (pk_ [4, 0, 1, 3, 2]) ?_))))))))))
     exact of_
    ·replace h := br_f hb63 h
     refine zai (zaf (za1 (za0 (oq_ (q_up rfl rfl (hr21.up hm22)) (oq_ (za2 rfl) (o_end (zal ys19.length (ys19, l48, i15 + 1, i16, i51, A49, c50) (by rw [← hk27]; exact Nat.lt_succ_self _) ⟨hr21.step, rfl, h⟩ ⟨rfl, rfl, rfl, trivial⟩ (pk_ [4, 1, 2, 3, 0]) ?_)))))))
     exact of_

def impl_windowOk.f (a0 : Int) (a1 : Int) : Option Bool := (impl_isNumber.f a0).bind fun b2 => if b2 = true then ((impl_in.f a1 1 5).bind fun b5 => some b5) else (some false)
theorem impl_windowOk.calls {w0 ws : World} {P0 : Nat → Prop} (a0 : Int) (a1 : Int) (Z : Below w0.heap.size w0 ws) (hF : Fr w0 ws P0 [] ws)  (r_1 : Bool) (h : impl_windowOk.f a0 a1 = some r_1) :
  Calls Try.prog 53 #[.int .i64 a0, .int .i64 a1] ws (Post1 w0 ws P0 (fun (_ : Unit) => .bool r_1) (fun (_ : Unit) => [])) := by
 unfold impl_windowOk.f at h
 refine enter Try.func53 rfl Try.ntmps53 rfl hF (c_seq (za0 (oq_ (q_asg rfl) (o_end (za1 (c_seq (za0 (oq_ (za2 rfl) (za6 h (fun b2 hx1 h => ?_) rfl)))))))))
 refine o_e rfl (za5 0 Z Try.func74 N74 rfl rfl rfl (fun w P1 hF hB hS hT => impl_isNumber.calls a0 hB hF _ hx1)) (fun _ => oq_ (za2 rfl) (byB b2 (fun hb3 => ?_) (fun hb3 => ?_)))
 ·replace h := bb_t hb3 h
  refine o_w (za4 rfl rfl rfl (vb_ hb3)) rfl (za2 rfl) (za6 h (fun b5 hx4 h => ?_) rfl)
  refine o_ew (za4 rfl rfl rfl (vb_ hb3)) (za5 0 Z Try.func113 N113 rfl rfl rfl (fun w P1 hF hB hS hT => impl_in.calls a1 1 5 hB hF _ hx4)) (fun _ => oq_ (zak true (vb_ hb3) rfl) (oq_ (q_asg rfl) (o_end (za1 (c_ret ?_)))))
  have e0_ := si_ h; clear h
  subst e0_
  exact x_r1 () Try.results53 (zad rfl) rfl (pk_ [])
 ·replace h := bb_f hb3 h
  refine o_n (d := 8) (za3 rfl rfl rfl (vb_ hb3) rfl) (Eq.refl (some 8)) (o_n (d := 9) (za3 rfl rfl rfl (vb_ hb3) rfl) (Eq.refl (some 9)) (oq_ (zak false (vb_ hb3) rfl) (oq_ (q_asg rfl) (o_end (za1 (c_ret ?_))))))
  have e0_ := si_ h; clear h
  subst e0_
  exact x_r1 () Try.results53 (zad rfl) rfl (pk_ [])

def impl_maker_squared.l0 (a0_0 : Int) (l0_2 : List Int) : Nat → (List SStep) → Int → Int → Option ((List SStep) × Int)
 | 0, l1, i4, i5 => some (l1, i4)
 | k8 + 1, l1, i4, i5 => (impl_maker_multiply.f a0_0 l1 l0_2 i4 i4).bind fun (i18, l19) => impl_maker_squared.l0 a0_0 l0_2 k8 l19 i18 (i5 + 1)
def impl_maker_squared.f (a0_0 : Int) (l0_1 : List SStep) (l0_2 : List Int) (a1 : Int) (a2 : Int) : Option (Int × (List SStep)) := (bd a2).bind fun _ => (impl_maker_squared.l0 a0_0 l0_2 ((a2).toNat) l0_1 a1 0).bind fun (l1, i4) => some (i4, l1)
theorem impl_maker_squared.calls {w0 ws : World} {P0 : Nat → Prop} (g0 : Nat) (a0_0 : Int) (A0_1 : Option Addr) (c0_1 : Nat) (n0_1 : Nat) (l0_1 : List SStep) (A0_2 : Option Addr) (c0_2 : Nat) (n0_2 : Nat) (l0_2 : List Int) (a1 : Int) (a2 : Int) (Z : Below w0.heap.size w0 ws) (hF : Fr w0 ws P0 [box g0 94 #[.int .i64 a0_0, .slice A0_1 n0_1 c0_1, .slice A0_2 n0_2 c0_2], row kStep 107 (.slice A0_1 n0_1 c0_1) l0_1] ws) (R0_2 : Stable ws P0 (fun w => Kd.C (Kd.int .i64) w A0_2 n0_2 l0_2)) (hc0_2 : n0_2 ≤ c0_2) (r_1 : Int) (r_2 : List SStep) (h : impl_maker_squared.f a0_0 l0_1 l0_2 a1 a2 = some (r_1, r_2)) :
  Calls Try.prog 59 #[.pointer (some ⟨g0, 0, none⟩), .int .i64 a1, .int .i64 a2] ws (Post1 w0 ws P0 (fun ((q_3, q_4) : (Option Addr) × Nat) => .int .i64 r_1) (fun ((q_3, q_4) : (Option Addr) × Nat) => [box g0 94 #[.int .i64 a0_0, .slice q_3 r_2.length q_4, .slice A0_2 n0_2 c0_2], row kStep 107 (.slice q_3 r_2.length q_4) r_2])) := by
 unfold impl_maker_squared.f at h
 obtain rfl := (hF.row_C (i := 1) rfl).2.1
 obtain rfl := (R0_2 ws (KeptB.refl _ _)).1
 refine enter Try.func59 rfl Try.ntmps59 rfl hF (c_seq (za0 (oq_ (q_asg rfl) (o_end (za1 (c_seq (c_seq (za0 (oq_ (za2 rfl) ?_)))))))))
 refine oq_ (za2 rfl) (o_end (za1 (zae (za6 h (fun _ hbd14 h => ?_) rfl))))
 refine za6 h (fun o13 hl12 hR11 => ?_) rfl
 clear h
 have hm10 : a2 ≤ 9223372036854775807 := bd_le hbd14
 refine zas (σ := (List SStep) × Int × Int × (Option Addr) × Nat) (fun k8 ((l1, i4, i5, A2, c3) : (List SStep) × Int × Int × (Option Addr) × Nat) => Cn a2 i5 k8 ∧ impl_maker_squared.l0 a0_0 l0_2 k8 l1 i4 i5 = some o13) [1, 8, 9, 10, 11, 12, 13, 14] (fun ((l1, i4, i5, A2, c3) : (List SStep) × Int × Int × (Option Addr) × Nat) => [(1, .int .i64 i4), (8, .int .i64 i5)]) (fun ((l1, i4, i5, A2, c3) : (List SStep) × Int × Int × (Option Addr) × Nat) => [box g0 94 #[.int .i64 a0_0, .slice A2 l1.length c3, .slice A0_2 l0_2.length c0_2], row kStep 107 (.slice A2 l1.length c3) l1]) (a2).toNat (l0_1, a1, 0, A0_1, c0_1) ⟨Cn.start hm10, hl12⟩ ⟨rfl, rfl, trivial⟩ (fun w h => h) (natC (cur5 (fun l1 i4 i5 A2 c3 => fun U15 hJ_ => ?_)) (fun k8 => (cur5 (fun l1 i4 i5 A2 c3 => fun U15 hJ_ => ?_))))
 ·clear hl12
  have hr9 := hJ_.1; have h := hJ_.2; clear hJ_
  replace h : impl_maker_squared.l0 a0_0 l0_2 0 l1 i4 i5 = some o13 := h
  rw [impl_maker_squared.l0] at h
  refine c_seq (za0 (oq_ (q_lss rfl rfl) (o_end (za1 (c_seq (zaz (vb_ hr9.ge) (zax (za7 (za7 ?_)))))))))
  have e_ := si_ h; replace h := hR11; rw [← e_] at h; clear e_
  refine x_hit (za1 (c_seq (za0 (oq_ (za2 rfl) (oq_ (q_asg rfl) (o_end (za1 (c_ret ?_))))))))
  have e0_ := si_ h; clear h
  obtain ⟨rfl, e1_⟩ := Prod.mk.inj e0_
  subst e1_
  exact x_r1 (A2, c3) Try.results59 (zad rfl) rfl (pk_ [0, 1])
 ·clear hl12
  have hr9 := hJ_.1; have h := hJ_.2; clear hJ_
  replace h : impl_maker_squared.l0 a0_0 l0_2 (k8 + 1) l1 i4 i5 = some o13 := h
  rw [impl_maker_squared.l0] at h
  refine c_seq (za0 (oq_ (q_lss rfl rfl) (o_end (za1 (c_seq (zar (vb_ hr9.lt) (zai (za1 (c_seq ?_)))))))))
  refine zae (za0 (oq_ (za2 rfl) (oq_ (za2 rfl) (oq_ (za2 rfl) (bindE2 h (fun i18 l19 hx17 h => ?_) rfl)))))
  refine o_e rfl (za5 2 Z Try.func57 N57 rfl rfl rfl (fun w P1 hF hB hS hT => impl_maker_multiply.calls g0 a0_0 A2 c3 l1.length l1 A0_2 c0_2 l0_2.length l0_2 i4 i4 hB hF (hS _ R0_2) hc0_2 _ _ hx17)) (cur2 (fun A20 c21 => oq_ (q_asg rfl) (o_end (zaf (za1 (za0 (oq_ (q_up rfl rfl hr9.up) (oq_ (za2 rfl) (o_end (zal k8 (l19, i18, i5 + 1, A20, c21) (Nat.lt_succ_self _) ⟨hr9.step, h⟩ ⟨rfl, rfl, trivial⟩ (pk_ [0, 1]) ?_))))))))))
  exact of_

theorem bk_Step {w : World} {P1 : Nat → Prop} (Bs : Nat) (A : Option Addr) (cap : Nat) (zs : List SStep) (hR : Stable w P1 (fun W => Kd.C kStep W A zs.length zs)) (hB : Stable w P1 (fun W => W.heap[Bs]? = some (.cells #[.slice A zs.length cap] 22 (0, 0)))) :
  SeqStopsK Fence.wide 2 Try.prog 163 #[.pointer (some ⟨Bs, 0, none⟩)] (fun x : BackT zs => #[Value.int .i64 x.1.1, .agg #[.int .i64 x.1.2.f0, .int .i64 x.1.2.f1]]) (KpS w P1) (fun ys => ys.map Subtype.val = bwL zs) (fun _ => True) zs.length w := by
 intro l J Jx W hW hJ hJx hY h0
 have hk0 : KeptB w W P1 := ⟨⟨hW.size, fun i hi _ => hW.block i hi⟩, hW.os, hW.tape, hW.output⟩
 have hlen : zs.length ≤ 9223372036854775807 := (hR w (KeptB.refl _ _)).2.1
 refine enterG (m := 19) Try.func163 rfl Try.ntmps163 rfl (wpIn_seq (wpIn_region_list (g_q (fun c hc => by cases hc) rfl rfl (q_ldb (bt := 22) Y22 rfl (fun w' h' => by subst h'; exact hB _ hk0) rfl) (g_q (fun c hc => by cases hc) rfl rfl (q_len Try.underlying22 rfl) (g_q (fun c hc => by cases hc) rfl rfl (zat rfl rfl) (g_q (fun c hc => by cases hc) rfl rfl (q_asg rfl) (wpListIn_nil (wpIn_block (wpIn_loop_ghost (fun m a W' => ∃ (e : Nat → Value) (pre : List (BackT zs)), m ≤ zs.length ∧ a = act ⟨19, [], none⟩ e ∧ e 0 = .func (.yield l) #[] #[] ∧ e 1 = .pointer (some ⟨Bs, 0, none⟩) ∧ e 3 = .int .i64 ((m : Int) - 1) ∧ pre.map Subtype.val = (bwL zs).take (zs.length - m) ∧ J pre W' ∧ KeptB w W' P1) zs.length ⟨_, [], Nat.le_refl _, rfl, rfl, rfl, ?_, by simp, h0, hk0⟩ ?_)))))))))
 ·show Value.int .i64 (w64 ((zs.length : Int) - 1)) = _
  rw [zam (by omega)]
 rintro m a W' ⟨e, pre, hm, rfl, he0, he1, he3, hpre, hJp, hk⟩
 have hpl : pre.length = zs.length - m := by
  have := congrArg List.length hpre
  rw [List.length_map, List.length_take, bwL_len] at this
  omega
 refine wpIn_seq (wpIn_seq (wpIn_region_list (g_q (fun c hc => by cases hc) rfl rfl (za2 he3) (g_q (fun c hc => by cases hc) rfl rfl (q_geq rfl rfl) (wpListIn_nil ?_)))))
 cases m with
 | zero =>
  refine wpIn_cond_false rfl (wpIn_exit (exth (exth (inblk (⟨rfl, _, results_none rfl _ _ _, ⟨_, rfl⟩, .inl ⟨pre, ?_, hJp⟩⟩)))))
  show pre.map Subtype.val = _
  rw [hpre, Nat.sub_zero, List.take_of_length_le (by rw [bwL_len]; exact Nat.le_refl _)]
 | succ m =>
  refine wpIn_cond_true ?_ (wpIn_skip ?_)
  ·rw [act_eval]
   show Value.bool (decide ((0 : Int) ≤ ((m + 1 : Nat) : Int) - 1)) = _
   rw [decide_eq_true (by omega)]
  refine wpIn_seq (wpIn_block (wpIn_seq (wpIn_region_list ?_)))
  have e3 : e 3 = .int .i64 (m : Int) := by rw [he3]; congr 1; omega
  have hml : m < zs.length := hm
  have hC := hR W' hk
  refine g_q (fun c hc => by cases hc) rfl rfl (za2 he0) (g_q (fun c hc => by cases hc) rfl rfl (za2 e3) (g_q (fun c hc => by cases hc) rfl rfl (q_ldb (bt := 22) Y22 he1 (fun w' h' => by subst h'; exact hB _ hk) rfl) (g_q (fun c hc => by cases hc) rfl rfl (za2 e3) (g_q (fun c hc => by cases hc) rfl rfl (q_ix (xs := zs) Try.underlying22 Z107 rfl rfl (C_sh hC) (gt_at hml)) (g_q (fun c hc => by cases hc) rfl rfl (q_ldE G107 Z107 rfl rfl (fun w' h' => by subst h'; exact hC) (gt_at hml) (fun _ _ h => h) rfl) ?_)))))
  have hx : ∃ j : Nat, ((m : Int), zs[m]).1 = (j : Int) ∧ zs[j]? = some ((m : Int), zs[m]).2 := ⟨m, rfl, List.getElem?_eq_getElem hml⟩
  refine g_yield rfl rfl rfl rfl (hY pre ⟨((m : Int), zs[m]), hx⟩ W' hJp (by omega)) (fun e w' h => by rcases h with ⟨rfl, _⟩ | ⟨rfl, _⟩ <;> exact ⟨_, rfl⟩) ?_
  rintro v W3 (⟨hv, hJ3, hk3⟩ | ⟨hv, hJx3⟩)
  ·obtain rfl := Ending.returned.inj hv
   refine g_q (fun c hc => by cases hc) rfl rfl (q_not rfl) (wpListIn_nil (wpIn_cond_false rfl (wpIn_skip (wpIn_region_list (g_q (fun c hc => by cases hc) rfl rfl (za2 e3) (g_q (fun c hc => by cases hc) rfl rfl (zat rfl rfl) (g_q (fun c hc => by cases hc) rfl rfl (q_asg rfl) (wpListIn_nil (⟨m, Nat.lt_succ_self m, _, pre ++ [⟨((m : Int), zs[m]), hx⟩], by omega, rfl, he0, he1, ?_, ?_, hJ3, hk3 hk⟩)))))))))
   ·show Value.int .i64 (w64 ((m : Int) - 1)) = _
    rw [zam (by omega)]
   ·rw [List.map_append, hpre]
    have ht := bwL_take zs (zs.length - (m + 1)) (by omega)
    have ei : zs.length - 1 - (zs.length - (m + 1)) = m := by omega
    rw [show zs.length - (m + 1) + 1 = zs.length - m by omega] at ht
    rw [ht]
    congr 1
    simp only [ei, List.map_cons, List.map_nil]
  ·obtain rfl := Ending.returned.inj hv
   refine g_q (fun c hc => by cases hc) rfl rfl (q_not rfl) (wpListIn_nil (wpIn_cond_true rfl (wpIn_ret ?_)))
   exact ⟨rfl, _, results_none rfl _ _ _, ⟨_, rfl⟩, .inr ⟨_, trivial, hJx3⟩⟩
theorem bkc_Step.calls {w0 ws : World} {P0 : Nat → Prop} (A : Option Addr) (n c : Nat) (hF : Fr w0 ws P0 [] ws) : Calls Try.prog 149 #[.slice A n c] ws (Post1 w0 ws P0 (fun (q : Nat) => .func (.func 163) #[] #[.pointer (some ⟨q, 0, none⟩)]) (fun (q : Nat) => [box q 22 #[.slice A n c]])) := by
 refine enter Try.func149 rfl Try.ntmps149 rfl hF (c_seq (za0 (o_e rfl (e_box rfl) (fun g1 => oq_ (q_asg rfl) (o_end (za1 (c_seq (za0 (oq_ (q_func (f := .func 163) (a := []) (b := [.tmp 1]) rfl rfl) ?_)))))))))
 refine oq_ (q_asg rfl) (o_end (za1 (c_ret ?_)))
 exact x_r1 g1 Try.results149 (zad rfl) rfl (fun w h => h)

/-- A round: the factors of a used step are used. -/
def impl_Plan_used.b (I : Int) (s : List Bool) (x : Int × SStep) : List Bool := if s.getD (I + x.1).toNat false = true then (s.set x.2.f0.toNat true).set x.2.f1.toNat true else s
def impl_Plan_used.l0 : (List Int) → (List Bool) → Int → Option (List Bool)
 | [], l11, i12 => some l11
 | y13 :: ys14, l11, i12 => (gt l11 y13).bind fun y46 => (st l11 y13 true).bind fun l47 => impl_Plan_used.l0 ys14 l47 (i12 + 1)
/-- As the rounds may come in any order: all steps must be right. -/
def impl_Plan_used.f (a0_0 : Int) (l0_1 : List SStep) (l0_2 : List Int) : Option (List Bool) := (impl_Plan_many.f a0_0 l0_1 l0_2).bind fun _ => (mk0 (w64 (a0_0 + (l0_1.length : Int))) false).bind fun l4 => (impl_Plan_used.l0 l0_2 l4 0).bind fun l11 =>
 if (0 ≤ a0_0 ∧ a0_0 ≤ 1000 ∧ l0_1.length ≤ 1000 ∧ l4.length = (a0_0 + (l0_1.length : Int)).toNat ∧ l11.length = (a0_0 + (l0_1.length : Int)).toNat) ∧ ∀ y ∈ l0_1, (0 ≤ y.f0 ∧ y.f0 < a0_0 + (l0_1.length : Int)) ∧ (0 ≤ y.f1 ∧ y.f1 < a0_0 + (l0_1.length : Int)) then some ((bwL l0_1).foldl (impl_Plan_used.b a0_0) l11) else none
theorem impl_Plan_used.blen (I : Int) (s : List Bool) (x : Int × SStep) : (impl_Plan_used.b I s x).length = s.length := by
 unfold impl_Plan_used.b
 split <;> simp
theorem impl_Plan_used.flen {zs : List SStep} (I : Int) (pre : List (BackT zs)) (s : List Bool) : (pre.foldl (fun s x => impl_Plan_used.b I s x.1) s).length = s.length := by
 induction pre generalizing s with
 | nil => rfl
 | cons x pre ih => rw [List.foldl_cons, ih, impl_Plan_used.blen]
theorem gt_getD {s : List Bool} {i : Int} (h0 : 0 ≤ i) (h1 : i < (s.length : Int)) : gt s i = some (s.getD i.toNat false) := by
 unfold gt
 rw [if_pos h0, List.getD_eq_getElem?_getD, List.getElem?_eq_getElem (by omega)]
 rfl
theorem st_ok {s : List Bool} {i : Int} (h0 : 0 ≤ i) (h1 : i < (s.length : Int)) : st s i true = some (s.set i.toNat true) := by
 unfold st
 rw [if_pos ⟨h0, h1⟩]
theorem impl_Plan_used.calls {w0 ws : World} {P0 : Nat → Prop} (g0 : Nat) (a0_0 : Int) (A0_1 : Option Addr) (c0_1 : Nat) (n0_1 : Nat) (l0_1 : List SStep) (A0_2 : Option Addr) (c0_2 : Nat) (n0_2 : Nat) (l0_2 : List Int) (Z : Below w0.heap.size w0 ws) (hF : Fr w0 ws P0 [] ws) (R0_1 : Stable ws P0 (fun w => Kd.C kStep w A0_1 n0_1 l0_1)) (hc0_1 : n0_1 ≤ c0_1) (R0_2 : Stable ws P0 (fun w => Kd.C (Kd.int .i64) w A0_2 n0_2 l0_2)) (hc0_2 : n0_2 ≤ c0_2) (B0 : Stable ws P0 (fun w => w.heap[g0]? = some (.cells #[.int .i64 a0_0, .slice A0_1 n0_1 c0_1, .slice A0_2 n0_2 c0_2] 25 (0, 0)))) (r_1 : List Bool) (h : impl_Plan_used.f a0_0 l0_1 l0_2 = some r_1) :
  Calls Try.prog 117 #[.pointer (some ⟨g0, 0, none⟩)] ws (Post1 w0 ws P0 (fun ((q_2, q_3) : (Option Addr) × Nat) => .slice q_2 r_1.length q_3) (fun ((q_2, q_3) : (Option Addr) × Nat) => [row Kd.bool 4 (.slice q_2 r_1.length q_3) r_1])) := by
 unfold impl_Plan_used.f at h
 obtain rfl := (R0_1 ws (KeptB.refl _ _)).1
 obtain rfl := (R0_2 ws (KeptB.refl _ _)).1
 refine enterM Try.func117 rfl Try.ntmps117 rfl hF (c_seq (za0 (o_e rfl (e_box rfl) (fun g1 => oq_ (q_asg rfl) (o_end (za1 (c_seq (za0 (oq_ (q_ldb Y102 rfl (bx_ 0 rfl) rfl) ?_)))))))))
 refine za6 h (fun _ hx3 h => ?_) rfl
 refine o_e rfl (za5 0 Z Try.func115 N115 rfl rfl rfl (fun w P1 hF hB hS hT => impl_Plan_many.calls g0 a0_0 A0_1 c0_1 l0_1.length l0_1 A0_2 c0_2 l0_2.length l0_2 hB hF (hS _ R0_1) hc0_1 (hS _ R0_2) hc0_2 (hS _ B0) hx3)) (fun _ => za6 h (fun l4 hm5 h => ?_) rfl)
 refine o_e rfl (e_make Kd.bool false Try.underlying117 I4 rfl dc_ dc_ (fun _ _ => rfl) rfl rfl hm5) (cur2 (fun A6 c7 => o_e rfl (zab V117 rfl) (fun g9 => o_e rfl (za9 (i := 0) rfl rfl rfl rfl Z117 rfl rfl) (fun _ => o_end (za1 (c_seq (c_seq (za0 (oq_ (q_ldb Y102 rfl (bx_ 2 rfl) rfl) (oq_ (q_nil rfl) ?_))))))))))
 refine oq_ (q_f F25_2 rfl) (oq_ (q_ldb Y23 rfl (fun w h => B0.now Z h) rfl) (oq_ (q_len Try.underlying23 rfl) (oq_ (za2 rfl) (o_end (za1 (zae (za6 h (fun o20 hl19 hR18 => ?_) rfl)))))))
 clear h
 refine c_fact (p := l0_2.length ≤ 9223372036854775807) (fun w h => (R0_2.now Z h).2.1) (fun hm17 => zas (σ := (List Int) × (List Bool) × Int) (fun k15 ((ys14, l11, i12) : (List Int) × (List Bool) × Int) => Rg l0_2 i12 ys14 ∧ ys14.length = k15 ∧ impl_Plan_used.l0 ys14 l11 i12 = some o20) [5, 16, 17, 18, 19, 20, 21, 22, 23] (fun ((ys14, l11, i12) : (List Int) × (List Bool) × Int) => [(16, .int .i64 i12)]) (fun ((ys14, l11, i12) : (List Int) × (List Bool) × Int) => [box g9 117 #[.slice A6 l4.length c7], row Kd.bool 4 (.slice A6 l4.length c7) l11, box g1 102 #[.pointer (some ⟨g0, 0, none⟩)]]) l0_2.length (l0_2, l4, 0) ⟨Rg.start _, rfl, hl19⟩ ⟨rfl, trivial⟩ (fun w h => h) (fun k15 => cur3 (listC (fun l11 i12 U21 hJ_ => ?_) (fun y13 ys14 l11 i12 U21 hJ_ => ?_))))
 ·clear hl19
  have hr16 := hJ_.1; have hk22 := hJ_.2.1; have h := hJ_.2.2; clear hJ_
  replace h : impl_Plan_used.l0 [] l11 i12 = some o20 := h
  rw [impl_Plan_used.l0] at h
  refine c_seq (za0 (oq_ (q_lss rfl rfl) (o_end (za1 (c_seq (zaz (vb_ hr16.ge) (zax (za7 (za7 ?_)))))))))
  have e_ := si_ h; replace h := hR18; rw [← e_] at h; clear e_
  refine x_hit (za1 (c_seq (c_seq (za0 (oq_ (q_ldb Y102 rfl (bx_ 2 rfl) rfl) (oq_ (q_nil rfl) (oq_ (q_f F25_1 rfl) (oq_ (q_ldb Y22 rfl (fun w h => B0.now Z h) rfl) (o_e rfl (za5 0 Z Try.func149 N149 rfl rfl rfl (fun w P1 hF hB hS hT => bkc_Step.calls A0_1 l0_1.length c0_1 hF)) (fun Bs => ?_))))))))))
  refine o_end (za1 (zae ?_))
  split at h
  rotate_left
  ·cases h
  next hok =>
  obtain ⟨⟨o1, o2, o3, o4, o5⟩, o6⟩ := hok
  have e0_ := si_ h; clear h
  -- the range
  intro w hw
  have hw1 : Fr w0 ws P0 ([box g9 117 #[.slice A6 l4.length c7], row Kd.bool 4 (.slice A6 l4.length c7) l11, box g1 102 #[.pointer (some ⟨g0, 0, none⟩)]] ++ [box Bs 22 #[.slice A0_1 l0_1.length c0_1]]) w := f_pick [1, 2, 3, 0] dc_ rfl w hw
  obtain ⟨P2, hF2, hst, hbx, hc2, hback⟩ := hw1.here Z
  have hZ2 : Below w0.heap.size w0 w := hF2.bel
  have hBs := Own.box (hbx 0 _ rfl)
  refine wpIn_any (N := ⟨49, [], none⟩) (n := 3) ?_
  refine wp_range (σ := List Bool) (α := BackT l0_1) (fun x => #[Value.int .i64 x.1.1, .agg #[.int .i64 x.1.2.f0, .int .i64 x.1.2.f1]]) (fun _ => rfl) l11 (fun s x => impl_Plan_used.b a0_0 s x.1)
   (fun s => [box g9 117 #[.slice A6 l4.length c7], row Kd.bool 4 (.slice A6 l4.length c7) s, box g1 102 #[.pointer (some ⟨g0, 0, none⟩)]])
   (fun s x q => [box q 107 #[.int .i64 x.1.2.f0, .int .i64 x.1.2.f1], box g9 117 #[.slice A6 l4.length c7], row Kd.bool 4 (.slice A6 l4.length c7) s, box g1 102 #[.pointer (some ⟨g0, 0, none⟩)]])
   (fun x => [(30, .agg #[.int .i64 x.1.2.f0, .int .i64 x.1.2.f1]), (29, .int .i64 x.1.1)]) (fun x q => [(7, .pointer (some ⟨q, 0, none⟩)), (6, .int .i64 x.1.1), (30, .agg #[.int .i64 x.1.2.f0, .int .i64 x.1.2.f1]), (29, .int .i64 x.1.1)])
   rfl (enters9 Try.func163 N163 rfl) hF2 (bk_Step Bs A0_1 c0_1 l0_1 (hst _ R0_1) hBs) ?_ ?_ (fun s x q W P3 W' h => f_pick [1, 2, 3] dc_ rfl _ h) ?_ ?_ ?_
  ·intro x
   exact act_zip2
  ·intro s s' W h1 h2
   have e1 := h1.row_C (i := 1) rfl
   have e2 := h2.row_C (i := 1) rfl
   exact bool_det (by omega) e1.1 e2.1
  ·-- the loop's variables
   intro l s x W P3 Z3 hst3
   refine c_seq (za0 (oq_ (q_asg rfl) (o_end (za1 (za0 (o_e rfl (zab V107 rfl) (fun g26 => o_e rfl (zac (i := 0) rfl rfl rfl Z107 rfl rfl) (fun _ => o_end ?_))))))))
   intro w' hw'
   exact ⟨g26, rfl, hw'⟩
  ·-- a round
   intro l pre x g26 W P3 Z3 hst3 hlen
   have B0' := hst3 _ (hst _ B0)
   obtain ⟨j, hj1, hj2⟩ := x.2
   have hjl := (List.getElem?_eq_some_iff.1 hj2).1
   have hfl := impl_Plan_used.flen a0_0 pre l11
   obtain ⟨⟨q0, q1⟩, ⟨q2, q3⟩⟩ := o6 x.1.2 (List.mem_of_getElem? hj2)
   generalize pre.foldl (fun s x => impl_Plan_used.b a0_0 s x.1) l11 = s at hfl ⊢
   have hsl : (s.length : Int) = a0_0 + (l0_1.length : Int) := by omega
   have hww : w64 (a0_0 + x.1.1) = a0_0 + x.1.1 := zam (by omega)
   have hg29 : gt s (w64 (a0_0 + x.1.1)) = some (s.getD (a0_0 + x.1.1).toNat false) := by rw [hww]; exact gt_getD (by omega) (by omega)
   refine zae (c_seq (a_start (ds := []) MO rfl (at_2 0 rfl (fun w h => h) (q_ldb Y117 rfl (bx_ 1 rfl) rfl) (at_2 1 rfl (fun w h => h) (q_ldb Y102 rfl (bx_ 3 rfl) rfl) (ap_ 2 rfl (q_nil rfl) (ap_ 3 rfl (q_f F25_0 rfl) (at_2 4 rfl (fun w h => h) (q_ldb Y3 rfl (fun w h => B0'.now Z3 h) rfl) (ap_ 5 rfl (za2 rfl) (ap_ 6 rfl (zay rfl rfl) ?_)))))))))
   refine a_fact (p := Sh A6 l4.length s.length) (fun w h => f_sh (dk := Kd.bool) h (rc_ 2 rfl)) (fun hq28 => ap_ 7 rfl (q_ix Try.underlying117 Z4 rfl rfl hq28 hg29) (at_2 8 rfl (fun w h => h) (q_lde (off := 0) Y4 rfl rfl (rc_ 2 rfl) hg29 (fun _ _ h => h) rfl) (zaj kr_ (za1 (zan _ rfl (fun hb31 => ?_) (fun hb31 => ?_))))))
   ·have hg32 := gt_getD q0 (show x.1.2.f0 < (s.length : Int) by omega)
    have hs35 := st_ok q0 (show x.1.2.f0 < (s.length : Int) by omega)
    have hg37 := gt_getD (s := s.set x.1.2.f0.toNat true) q2 (by rw [List.length_set]; omega)
    have hs40 := st_ok (s := s.set x.1.2.f0.toNat true) q2 (by rw [List.length_set]; omega)
    refine a_startS (ds := []) [some 0, some 1, none, some 3] MO rfl (at_2 0 rfl (sm_ [some 0, some 1, none, some 3]) (q_ldb Y117 rfl (bx_ 1 rfl) rfl) (ap_ 1 rfl (q_f F107_0 rfl) (at_2 2 rfl (sm_ [some 0, some 1, none, some 3]) (q_ldb Y3 rfl (bx_ 0 rfl) rfl) (at_2 3 rfl (sm_ [some 0, some 1, none, some 3]) (q_ldb Y117 rfl (bx_ 1 rfl) rfl) (ap_ 4 rfl (q_f F107_1 rfl) (at_2 5 rfl (sm_ [some 0, some 1, none, some 3]) (q_ldb Y3 rfl (bx_ 0 rfl) rfl) (ap_ 6 rfl (q_ix Try.underlying117 Z4 rfl rfl hq28 hg32) (a1_ 7 rfl (e_set (i := 2) rfl rfl rfl Z4 hs35) (sl_ [some 0, some 1, none, some 3]) (fun _ => a_fact (p := Sh A6 l4.length (s.set x.1.2.f0.toNat true).length) (fun w h => f_sh (dk := Kd.bool) h (rc_ 2 rfl)) (fun hq36 => ?_))))))))))
    refine ap_ 8 rfl (q_ix Try.underlying117 Z4 rfl rfl hq36 hg37) (a1_ 9 rfl (e_set (i := 2) rfl rfl rfl Z4 hs40) (sl_ [some 0, some 1, none, some 3]) (fun _ => zaj kr_ (zaf ?_)))
    intro w' hw'
    have ht := f_pick [1, 2, 3] dc_ rfl _ hw'
    have eb : impl_Plan_used.b a0_0 s x.1 = (s.set x.1.2.f0.toNat true).set x.1.2.f1.toNat true := if_pos hb31
    show Fr w0 W P3 _ w'
    rw [eb]
    exact ht
   ·refine zai (zaf ?_)
    intro w' hw'
    have ht := f_pick [1, 2, 3] dc_ rfl _ hw'
    have eb : impl_Plan_used.b a0_0 s x.1 = s := if_neg (by rw [hb31]; simp)
    show Fr w0 W P3 _ w'
    rw [eb]
    exact ht
  ·-- behind the range
   intro D xs W hD hS hFW hdf
   have hmap : xs.foldl (fun s x => impl_Plan_used.b a0_0 s x.1) l11 = r_1 := by
    rw [← e0_, ← hS, List.foldl_map]
   rw [hmap] at hFW
   obtain ⟨P4, hF4, hst4, _, hc4, hback4⟩ := ((show Fr w0 w P2 ([box g9 117 #[.slice A6 l4.length c7], row Kd.bool 4 (.slice A6 l4.length c7) r_1, box g1 102 #[.pointer (some ⟨g0, 0, none⟩)]] ++ []) W from hFW)).here hZ2
   have hmk : Stable W P4 (fun w => w.heap[D]? = some (.deferred (some []))) := fun W' hk => by
    show W'.heap[D]? = _
    rw [hk.kept.2 D (Array.getElem?_eq_some_iff.1 hdf).1 (fun hp => by
     obtain ⟨cs, q, hcc⟩ := hc4 D hp
     rw [hdf] at hcc
     cases hcc)]
    exact hdf
   have hrl : l4.length = r_1.length := by
    rw [← hmap, impl_Plan_used.flen]
    omega
   have hws : ws.heap.size ≤ D := Nat.le_trans (hw.keptB Z).kept.1 hD
   refine (show X ⟨49, [{ target := .collected D, args := #[] }], none⟩ w0 W P4 .normal _ _ _ from ?_) W hF4
   refine zaf (za1 (c_seq (za0 (oq_ (q_ldb Y117 rfl (bx_ 0 rfl) rfl) (oq_ (q_asg rfl) (o_end (za1 (c_ret (x_mark (D := D) Z hws hmk hF4.bel (fun Ts w' h => hback _ _ (hback4 _ _ h)) ?_)))))))))
   exact x_r1 (A6, c7) Try.results117 (zad (v := .slice A6 l4.length c7) rfl) (by (try rw [hrl]); first | done | rfl) (f_pickE (L1 := [box g9 117 #[.slice A6 l4.length c7], row Kd.bool 4 (.slice A6 l4.length c7) r_1, box g1 102 #[.pointer (some ⟨g0, 0, none⟩)]]) rfl [1] dc_ rfl (by (try rw [hrl]); first | done | rfl))
 ·clear hl19
  have hr16 := hJ_.1; have hk22 := hJ_.2.1; have h := hJ_.2.2; clear hJ_
  replace h : impl_Plan_used.l0 (y13 :: ys14) l11 i12 = some o20 := h
  rw [impl_Plan_used.l0] at h
  refine c_seq (za0 (oq_ (q_lss rfl rfl) (o_end (za1 (c_seq (zar (vb_ hr16.lt) (zai (za1 (c_seq ?_)))))))))
  refine zae (c_seq (za0 (zaw (p := Sh A0_2 l0_2.length l0_2.length) (fun w h => f_sh (dk := (Kd.int .i64)) h (fun w h => R0_2.now Z h)) (fun hq43 => oq_ (q_ix Try.underlying23 Z3 rfl rfl hq43 hr16.get) (oq_ (q_lde (off := 0) Y3 rfl rfl (fun w h => R0_2.now Z h) hr16.get (fun _ _ h => h) rfl) (oq_ (q_asg rfl) (o_end (za1 (za0 ?_)))))))))
  refine oq_ (q_ldb Y117 rfl (bx_ 0 rfl) rfl) (oq_ (za2 rfl) (zaw (p := Sh A6 l4.length l11.length) (fun w h => f_sh (dk := Kd.bool) h (rc_ 1 rfl)) (fun hq44 => za6 h (fun y46 hg45 h => ?_) rfl)))
  refine oq_ (q_ix Try.underlying117 Z4 rfl rfl hq44 hg45) (za6 h (fun l47 hs48 h => ?_) rfl)
  refine o_e rfl (e_set (i := 1) rfl rfl rfl Z4 hs48) (fun _ => o_end (zaf (za1 (za0 (oq_ (q_up rfl rfl (hr16.up hm17)) (oq_ (za2 rfl) (o_end (zal ys14.length (ys14, l47, i12 + 1) (by rw [← hk22]; exact Nat.lt_succ_self _) ⟨hr16.step, rfl, h⟩ ⟨rfl, trivial⟩ (pk_ [0, 1, 2]) ?_))))))))
  exact of_

def impl_firsts.l0 : Nat → (List Int) → Int → Option (List Int)
 | 0, l4, i7 => some l4
 | k10 + 1, l4, i7 => (ap l4 ([i7] : List Int)).bind fun l22 => impl_firsts.l0 k10 l22 (i7 + 1)
def impl_firsts.f (a0 : Int) : Option (List Int) := (bd a0).bind fun _ => (impl_firsts.l0 ((a0).toNat) ([] : List Int) 0).bind fun l4 => some l4
theorem impl_firsts.calls {w0 ws : World} {P0 : Nat → Prop} (a0 : Int) (Z : Below w0.heap.size w0 ws) (hF : Fr w0 ws P0 [] ws)  (r_1 : List Int) (h : impl_firsts.f a0 = some r_1) :
  Calls Try.prog 106 #[.int .i64 a0] ws (Post1 w0 ws P0 (fun ((q_2, q_3) : (Option Addr) × Nat) => .slice q_2 r_1.length q_3) (fun ((q_2, q_3) : (Option Addr) × Nat) => [row (Kd.int .i64) 3 (.slice q_2 r_1.length q_3) r_1])) := by
 unfold impl_firsts.f at h
 refine enter Try.func106 rfl Try.ntmps106 rfl hF (c_seq (za0 (oq_ (q_asg rfl) (o_end (za1 (c_seq (za0 (o_e rfl (e_lit0 (Kd.int .i64) Try.underlying23 I3) (cur2 (fun A1 c2 => oq_ (q_asg rfl) ?_))))))))))
 refine o_end (za1 (c_seq (c_seq (za0 (oq_ (za2 rfl) (oq_ (za2 rfl) (o_end (za1 (zae ?_)))))))))
 refine za6 h (fun _ hbd16 h => ?_) rfl
 refine za6 h (fun o15 hl14 hR13 => ?_) rfl
 clear h
 have hm12 : a0 ≤ 9223372036854775807 := bd_le hbd16
 refine zas (σ := (List Int) × Int × (Option Addr) × Nat) (fun k10 ((l4, i7, A5, c6) : (List Int) × Int × (Option Addr) × Nat) => Cn a0 i7 k10 ∧ impl_firsts.l0 k10 l4 i7 = some o15) [3, 4, 7, 8, 9, 10, 11, 12, 13, 14] (fun ((l4, i7, A5, c6) : (List Int) × Int × (Option Addr) × Nat) => [(3, .slice A5 l4.length c6), (7, .int .i64 i7)]) (fun ((l4, i7, A5, c6) : (List Int) × Int × (Option Addr) × Nat) => [row (Kd.int .i64) 3 (.slice A5 l4.length c6) l4]) (a0).toNat (([] : List Int), 0, A1, c2) ⟨Cn.start hm12, hl14⟩ ⟨rfl, rfl, trivial⟩ (fun w h => h) (natC (cur4 (fun l4 i7 A5 c6 => fun U17 hJ_ => ?_)) (fun k10 => (cur4 (fun l4 i7 A5 c6 => fun U17 hJ_ => ?_))))
 ·clear hl14
  have hr11 := hJ_.1; have h := hJ_.2; clear hJ_
  replace h : impl_firsts.l0 0 l4 i7 = some o15 := h
  rw [impl_firsts.l0] at h
  refine c_seq (za0 (oq_ (q_lss rfl rfl) (o_end (za1 (c_seq (zaz (vb_ hr11.ge) (zax (za7 (za7 ?_)))))))))
  have e_ := si_ h; replace h := hR13; rw [← e_] at h; clear e_
  refine x_hit (za1 (c_seq (za0 (oq_ (za2 rfl) (oq_ (q_asg rfl) (o_end (za1 (c_ret ?_))))))))
  have e0_ := si_ h; clear h
  subst e0_
  exact x_r1 (A5, c6) Try.results106 (zad rfl) rfl (pk_ [0])
 ·clear hl14
  have hr11 := hJ_.1; have h := hJ_.2; clear hJ_
  replace h : impl_firsts.l0 (k10 + 1) l4 i7 = some o15 := h
  rw [impl_firsts.l0] at h
  refine c_seq (za0 (oq_ (q_lss rfl rfl) (o_end (za1 (c_seq (zar (vb_ hr11.lt) (zai (za1 (c_seq ?_)))))))))
  refine zae (c_seq (za0 (oq_ (za2 rfl) (oq_ (q_asg rfl) (o_end (za1 (za0 (oq_ (za2 rfl) (oq_ (za2 rfl) ?_)))))))))
  refine o_e rfl (e_lit (vs := [(0, .int .i64 i7)]) (cs := [.int .i64 i7]) (Kd.int .i64) ([i7] : List Int) Try.underlying23 I3 dc_ rfl dc_ rfl rfl (fun _ _ => Kd.za8 _)) (cur2 (fun A19 c20 => za6 h (fun l22 ha23 h => ?_) rfl))
  refine o_e rfl (e_app (i := 1) (j := 0) Try.underlying23 I3 rfl dc_ dc_ rfl rfl rfl rfl rfl ha23) (cur2 (fun A24 c25 => oq_ (q_asg rfl) (o_end (zaf (za1 (za0 (oq_ (q_up rfl rfl hr11.up) (oq_ (za2 rfl) (o_end (zal k10 (l22, i7 + 1, A24, c25) (Nat.lt_succ_self _) ⟨hr11.step, h⟩ ⟨rfl, rfl, trivial⟩ (pk_ [1]) ?_))))))))))
  exact of_

def impl_renamed.l0 (l1 : List Int) : (List Int) → (List Int) → Int → Option (List Int)
 | [], l5, i8 => some l5
 | y9 :: ys10, l5, i8 => (gt l1 y9).bind fun y22 => (ap l5 ([y22] : List Int)).bind fun l26 => impl_renamed.l0 l1 ys10 l26 (i8 + 1)
def impl_renamed.f (l0 : List Int) (l1 : List Int) : Option (List Int) := (impl_renamed.l0 l1 l0 ([] : List Int) 0).bind fun l5 => some l5
theorem impl_renamed.calls {w0 ws : World} {P0 : Nat → Prop} (A0 : Option Addr) (c0 : Nat) (n0 : Nat) (l0 : List Int) (A1 : Option Addr) (c1 : Nat) (n1 : Nat) (l1 : List Int) (Z : Below w0.heap.size w0 ws) (hF : Fr w0 ws P0 [] ws) (R0 : Stable ws P0 (fun w => Kd.C (Kd.int .i64) w A0 n0 l0)) (hc0 : n0 ≤ c0) (R1 : Stable ws P0 (fun w => Kd.C (Kd.int .i64) w A1 n1 l1)) (hc1 : n1 ≤ c1) (r_1 : List Int) (h : impl_renamed.f l0 l1 = some r_1) :
  Calls Try.prog 118 #[.slice A0 n0 c0, .slice A1 n1 c1] ws (Post1 w0 ws P0 (fun ((q_2, q_3) : (Option Addr) × Nat) => .slice q_2 r_1.length q_3) (fun ((q_2, q_3) : (Option Addr) × Nat) => [row (Kd.int .i64) 3 (.slice q_2 r_1.length q_3) r_1])) := by
 unfold impl_renamed.f at h
 obtain rfl := (R0 ws (KeptB.refl _ _)).1
 obtain rfl := (R1 ws (KeptB.refl _ _)).1
 refine enter Try.func118 rfl Try.ntmps118 rfl hF (c_seq (za0 (oq_ (q_asg rfl) (o_end (za1 (c_seq (za0 (o_e rfl (e_lit0 (Kd.int .i64) Try.underlying23 I3) (cur2 (fun A2 c3 => oq_ (q_asg rfl) ?_))))))))))
 refine o_end (za1 (c_seq (c_seq (za0 (oq_ (za2 rfl) (oq_ (q_len Try.underlying23 rfl) (oq_ (za2 rfl) (o_end (za1 ?_)))))))))
 refine zae (za6 h (fun o16 hl15 hR14 => ?_) rfl)
 clear h
 refine c_fact (p := l0.length ≤ 9223372036854775807) (fun w h => (R0.now Z h).2.1) (fun hm13 => zas (σ := (List Int) × (List Int) × Int × (Option Addr) × Nat) (fun k11 ((ys10, l5, i8, A6, c7) : (List Int) × (List Int) × Int × (Option Addr) × Nat) => Rg l0 i8 ys10 ∧ ys10.length = k11 ∧ impl_renamed.l0 l1 ys10 l5 i8 = some o16) [5, 7, 11, 12, 13, 14, 15, 16, 17, 18, 19, 20, 21, 22] (fun ((ys10, l5, i8, A6, c7) : (List Int) × (List Int) × Int × (Option Addr) × Nat) => [(5, .slice A6 l5.length c7), (11, .int .i64 i8)]) (fun ((ys10, l5, i8, A6, c7) : (List Int) × (List Int) × Int × (Option Addr) × Nat) => [row (Kd.int .i64) 3 (.slice A6 l5.length c7) l5]) l0.length (l0, ([] : List Int), 0, A2, c3) ⟨Rg.start _, rfl, hl15⟩ ⟨rfl, rfl, trivial⟩ (fun w h => h) (fun k11 => cur5 (listC (fun l5 i8 A6 c7 U17 hJ_ => ?_) (fun y9 ys10 l5 i8 A6 c7 U17 hJ_ => ?_))))
 ·clear hl15
  have hr12 := hJ_.1; have hk18 := hJ_.2.1; have h := hJ_.2.2; clear hJ_
  replace h : impl_renamed.l0 l1 [] l5 i8 = some o16 := h
  rw [impl_renamed.l0] at h
  refine c_seq (za0 (oq_ (q_lss rfl rfl) (o_end (za1 (c_seq (zaz (vb_ hr12.ge) (zax (za7 (za7 ?_)))))))))
  have e_ := si_ h; replace h := hR14; rw [← e_] at h; clear e_
  refine x_hit (za1 (c_seq (za0 (oq_ (za2 rfl) (oq_ (q_asg rfl) (o_end (za1 (c_ret ?_))))))))
  have e0_ := si_ h; clear h
  subst e0_
  exact x_r1 (A6, c7) Try.results118 (zad rfl) rfl (pk_ [0])
 ·clear hl15
  have hr12 := hJ_.1; have hk18 := hJ_.2.1; have h := hJ_.2.2; clear hJ_
  replace h : impl_renamed.l0 l1 (y9 :: ys10) l5 i8 = some o16 := h
  rw [impl_renamed.l0] at h
  refine c_seq (za0 (oq_ (q_lss rfl rfl) (o_end (za1 (c_seq (zar (vb_ hr12.lt) (zai (za1 (c_seq ?_)))))))))
  refine zae (c_seq (za0 (zaw (p := Sh A0 l0.length l0.length) (fun w h => f_sh (dk := (Kd.int .i64)) h (fun w h => R0.now Z h)) (fun hq19 => oq_ (q_ix Try.underlying23 Z3 rfl rfl hq19 hr12.get) (oq_ (q_lde (off := 0) Y3 rfl rfl (fun w h => R0.now Z h) hr12.get (fun _ _ h => h) rfl) (oq_ (q_asg rfl) (o_end (za1 (za0 ?_)))))))))
  refine oq_ (za2 rfl) (oq_ (za2 rfl) (oq_ (za2 rfl) (zaw (p := Sh A1 l1.length l1.length) (fun w h => f_sh (dk := (Kd.int .i64)) h (fun w h => R1.now Z h)) (fun hq20 => za6 h (fun y22 hg21 h => ?_) rfl))))
  refine oq_ (q_ix Try.underlying23 Z3 rfl rfl hq20 hg21) (oq_ (q_lde (off := 0) Y3 rfl rfl (fun w h => R1.now Z h) hg21 (fun _ _ h => h) rfl) (o_e rfl (e_lit (vs := [(0, .int .i64 y22)]) (cs := [.int .i64 y22]) (Kd.int .i64) ([y22] : List Int) Try.underlying23 I3 dc_ rfl dc_ rfl rfl (fun _ _ => Kd.za8 _)) (cur2 (fun A23 c24 => za6 h (fun l26 ha27 h => ?_) rfl))))
  refine o_e rfl (e_app (i := 1) (j := 0) Try.underlying23 I3 rfl dc_ dc_ rfl rfl rfl rfl rfl ha27) (cur2 (fun A28 c29 => oq_ (q_asg rfl) (o_end (zaf (za1 (za0 (oq_ (q_up rfl rfl (hr12.up hm13)) (oq_ (za2 rfl) (o_end (zal ys10.length (ys10, l26, i8 + 1, A28, c29) (by rw [← hk18]; exact Nat.lt_succ_self _) ⟨hr12.step, rfl, h⟩ ⟨rfl, rfl, trivial⟩ (pk_ [1]) ?_))))))))))
  exact of_

def impl_Plan_trimmed.l0 (a0_0 : Int) (l1024 : List Bool) : (List SStep) → (List Int) → (List SStep) → Int → Option ((List Int) × (List SStep))
 | [], l2058, l2061, i2064 => some (l2058, l2061)
 | y2065 :: ys2066, l2058, l2061, i2064 => (impl_Plan_many.f a0_0 l2061 []).bind fun _ => (ap l2058 ([w64 (a0_0 + (l2061.length : Int))] : List Int)).bind fun l2086 => (gt l1024 (w64 (a0_0 + i2064))).bind fun y2092 => if y2092 = true then ((gt l2086 y2065.f0).bind fun y2397 => (gt l2086 y2065.f1).bind fun y2696 => (impl_step.f y2397 y2696).bind fun _ => (ap l2061 ([(⟨mn y2397 y2696, mx y2397 y2696⟩ : SStep)] : List SStep)).bind fun l2935 => impl_Plan_trimmed.l0 a0_0 l1024 ys2066 l2086 l2935 (i2064 + 1)) else (impl_Plan_trimmed.l0 a0_0 l1024 ys2066 l2086 l2061 (i2064 + 1))
def impl_Plan_trimmed.f (a0_0 : Int) (l0_1 : List SStep) (l0_2 : List Int) : Option ((List SStep) × (List Int)) := ((impl_Plan_used.f a0_0 l0_1 l0_2).bind fun l1098 => (impl_firsts.f a0_0).bind fun l1698 => some (l1098, l1698)).bind fun (l1024, l1028) => (impl_Plan_trimmed.l0 a0_0 l1024 l0_1 l1028 ([] : List SStep) 0).bind fun (l2058, l2061) => (impl_renamed.f l0_2 l2058).bind fun l2076 => some (l2061, l2076)
theorem impl_Plan_trimmed.calls {w0 ws : World} {P0 : Nat → Prop} (g0 : Nat) (a0_0 : Int) (A0_1 : Option Addr) (c0_1 : Nat) (n0_1 : Nat) (l0_1 : List SStep) (A0_2 : Option Addr) (c0_2 : Nat) (n0_2 : Nat) (l0_2 : List Int) (Z : Below w0.heap.size w0 ws) (hF : Fr w0 ws P0 [] ws) (R0_1 : Stable ws P0 (fun w => Kd.C kStep w A0_1 n0_1 l0_1)) (hc0_1 : n0_1 ≤ c0_1) (R0_2 : Stable ws P0 (fun w => Kd.C (Kd.int .i64) w A0_2 n0_2 l0_2)) (hc0_2 : n0_2 ≤ c0_2) (B0 : Stable ws P0 (fun w => w.heap[g0]? = some (.cells #[.int .i64 a0_0, .slice A0_1 n0_1 c0_1, .slice A0_2 n0_2 c0_2] 25 (0, 0)))) (r_1 : List SStep) (r_4 : List Int) (h : impl_Plan_trimmed.f a0_0 l0_1 l0_2 = some (r_1, r_4)) :
  Calls Try.prog 62 #[.pointer (some ⟨g0, 0, none⟩)] ws (Post1 w0 ws P0 (fun ((q_2, q_3, q_5, q_6) : (Option Addr) × Nat × (Option Addr) × Nat) => .agg #[.int .i64 a0_0, .slice q_2 r_1.length q_3, .slice q_5 r_4.length q_6]) (fun ((q_2, q_3, q_5, q_6) : (Option Addr) × Nat × (Option Addr) × Nat) => [row kStep 107 (.slice q_2 r_1.length q_3) r_1, row (Kd.int .i64) 3 (.slice q_5 r_4.length q_6) r_4])) := by
 unfold impl_Plan_trimmed.f at h
 obtain rfl := (R0_1 ws (KeptB.refl _ _)).1
 obtain rfl := (R0_2 ws (KeptB.refl _ _)).1
 refine enter Try.func62 rfl Try.ntmps62 rfl hF (c_seq (za0 (o_e rfl (zab V25 rfl) (fun g1 => o_end (za1 (za6 h (fun o1031 hl1032 hR1033 => ?_) rfl))))))
 clear h
 refine c_cutJ (σ := (List Bool) × (List Int) × (Option Addr) × Nat × Nat × (Option Addr) × Nat) (fun (l1024, l1028, A1025, c1026, g1027, A1029, c1030) => some (l1024, l1028) = some o1031) [3, 4, 5, 8, 9, 10, 11, 12, 13, 14, 15, 16, 17, 18, 19] (fun (l1024, l1028, A1025, c1026, g1027, A1029, c1030) => [(3, .slice A1025 l1024.length c1026), (4, .pointer (some ⟨g1027, 0, none⟩)), (5, .slice A1029 l1028.length c1030)]) (fun (l1024, l1028, A1025, c1026, g1027, A1029, c1030) => [box g1 25 #[.int .i64 0, .slice none 0 0, .slice none 0 0], row Kd.bool 4 (.slice A1025 l1024.length c1026) l1024, box g1027 25 #[.int .i64 a0_0, .slice none 0 0, .slice none 0 0], row (Kd.int .i64) 3 (.slice A1029 l1028.length c1030) l1028]) ?_ ?_
 ·have h := hl1032; clear hl1032
  clear hR1033
  refine za6 h (fun l1098 hx1097 h => ?_) rfl
  refine za6 h (fun l1698 hx1697 h => ?_) rfl
  refine a_start (ds := []) MO rfl (ap_ 0 rfl (za2 rfl) (ap_ 2 rfl (za2 rfl) (ap_ 3 rfl (q_nil rfl) (ap_ 4 rfl (q_f F25_0 rfl) (at_2 5 rfl (fun w h => h) (q_ldb Y3 rfl (fun w h => B0.now Z h) rfl) (ap_ 6 rfl (q_build (vs := [(0, .int .i64 a0_0)]) (cs := [.int .i64 a0_0, .slice none 0 0, .slice none 0 0]) rfl rfl) (ap_ 7 rfl (za2 rfl) (ap_ 8 rfl (q_nil rfl) (ap_ 9 rfl (q_f F25_0 rfl) ?_)))))))))
  refine at_2 10 rfl (fun w h => h) (q_ldb Y3 rfl (fun w h => B0.now Z h) rfl) (a_two 1 12 rfl rfl rfl rfl kr_ rfl rfl (za5 0 Z Try.func117 N117 rfl rfl rfl (fun w P1 hF hB hS hT => impl_Plan_used.calls g0 a0_0 A0_1 c0_1 l0_1.length l0_1 A0_2 c0_2 l0_2.length l0_2 hB hF (hS _ R0_1) hc0_1 (hS _ R0_2) hc0_2 (hS _ B0) _ hx1097)) (sl_ [some 1]) (zab V25 rfl) (sl_ [some 1]) (cur2 (fun A1099 c1100 => ?_)) (fun g1757 => ?_))
  ·refine a_two 11 12 rfl rfl rfl rfl kr_ rfl rfl (za5 0 Z Try.func106 N106 rfl rfl rfl (fun w P1 hF hB hS hT => impl_firsts.calls a0_0 hB hF _ hx1697)) (sl_ [some 2]) (zab V25 rfl) (sl_ [some 2]) (cur2 (fun A1699 c1700 => ?_)) (fun g1757 => ?_)
   ·refine a1_ 12 rfl (zab V25 rfl) (sl_ [some 3]) (fun g1757 => ap_ 13 rfl (q_asg rfl) (a1_ 14 rfl (zac (i := 0) rfl rfl rfl Z25 rfl rfl) (sl_ [some 3]) (fun _ => ap_ 15 rfl (q_asg rfl) (zaj kr_ (zah (l1098, l1698, A1099, c1100, g1757, A1699, c1700) h ⟨rfl, rfl, rfl, trivial⟩ (pk_ [3, 2, 0, 1]) ?_)))))
    exact of_
   ·refine a1_ 11 rfl (za5 0 Z Try.func106 N106 rfl rfl rfl (fun w P1 hF hB hS hT => impl_firsts.calls a0_0 hB hF _ hx1697)) (sl_ [some 3]) (cur2 (fun A1699 c1700 => ap_ 13 rfl (q_asg rfl) (a1_ 14 rfl (zac (i := 1) rfl rfl rfl Z25 rfl rfl) (sl_ [some 3]) (fun _ => ap_ 15 rfl (q_asg rfl) (zaj kr_ (zah (l1098, l1698, A1099, c1100, g1757, A1699, c1700) h ⟨rfl, rfl, rfl, trivial⟩ (pk_ [3, 2, 1, 0]) ?_))))))
    exact of_
  ·refine a1_ 1 rfl (za5 0 Z Try.func117 N117 rfl rfl rfl (fun w P1 hF hB hS hT => impl_Plan_used.calls g0 a0_0 A0_1 c0_1 l0_1.length l0_1 A0_2 c0_2 l0_2.length l0_2 hB hF (hS _ R0_1) hc0_1 (hS _ R0_2) hc0_2 (hS _ B0) _ hx1097)) (sl_ [some 2]) (cur2 (fun A1099 c1100 => a1_ 11 rfl (za5 0 Z Try.func106 N106 rfl rfl rfl (fun w P1 hF hB hS hT => impl_firsts.calls a0_0 hB hF _ hx1697)) (sl_ [some 3]) (cur2 (fun A1699 c1700 => ap_ 13 rfl (q_asg rfl) (a1_ 14 rfl (zac (i := 2) rfl rfl rfl Z25 rfl rfl) (sl_ [some 3]) (fun _ => ap_ 15 rfl (q_asg rfl) (zaj kr_ (zah (l1098, l1698, A1099, c1100, g1757, A1699, c1700) h ⟨rfl, rfl, rfl, trivial⟩ (pk_ [3, 1, 2, 0]) ?_))))))))
   exact of_
 ·refine (cur7 (fun l1024 l1028 A1025 c1026 g1027 A1029 c1030 => fun U1034 hJ1035 => ?_))
  have e_ := si_ hJ1035; have h := hR1033; rw [← e_] at h; clear e_ hJ1035 hR1033 hl1032
  refine c_seq (c_seq (za0 (oq_ (za2 rfl) (oq_ (q_nil rfl) (oq_ (q_f F25_1 rfl) (oq_ (q_ldb Y22 rfl (fun w h => B0.now Z h) rfl) (oq_ (q_len Try.underlying22 rfl) (oq_ (za2 rfl) (o_end ?_)))))))))
  refine za1 (zae (c_nil kStep 107 (za6 h (fun o2072 hl2071 hR2070 => ?_) rfl)))
  clear h
  refine c_fact (p := l0_1.length ≤ 9223372036854775807) (fun w h => (R0_1.now Z h).2.1) (fun hm2069 => zas (σ := (List SStep) × (List Int) × (List SStep) × Int × (Option Addr) × Nat × (Option Addr) × Nat) (fun k2067 ((ys2066, l2058, l2061, i2064, A2059, c2060, A2062, c2063) : (List SStep) × (List Int) × (List SStep) × Int × (Option Addr) × Nat × (Option Addr) × Nat) => Rg l0_1 i2064 ys2066 ∧ ys2066.length = k2067 ∧ impl_Plan_trimmed.l0 a0_0 l1024 ys2066 l2058 l2061 i2064 = some o2072) [5, 6, 7, 25, 26, 27, 28, 29, 30, 31, 32, 33, 34, 35, 36, 37, 38, 39, 40, 41, 42, 43, 44, 45, 46, 47, 48, 49, 50, 51, 52, 53, 54, 55, 56, 57, 58, 59] (fun ((ys2066, l2058, l2061, i2064, A2059, c2060, A2062, c2063) : (List SStep) × (List Int) × (List SStep) × Int × (Option Addr) × Nat × (Option Addr) × Nat) => [(5, .slice A2059 l2058.length c2060), (25, .int .i64 i2064)]) (fun ((ys2066, l2058, l2061, i2064, A2059, c2060, A2062, c2063) : (List SStep) × (List Int) × (List SStep) × Int × (Option Addr) × Nat × (Option Addr) × Nat) => [row kStep 107 (.slice A2062 l2061.length c2063) l2061, box g1 25 #[.int .i64 0, .slice none 0 0, .slice none 0 0], row Kd.bool 4 (.slice A1025 l1024.length c1026) l1024, box g1027 25 #[.int .i64 a0_0, .slice A2062 l2061.length c2063, .slice none 0 0], row (Kd.int .i64) 3 (.slice A2059 l2058.length c2060) l2058]) l0_1.length (l0_1, l1028, ([] : List SStep), 0, A1029, c1030, none, 0) ⟨Rg.start _, rfl, hl2071⟩ ⟨rfl, rfl, trivial⟩ (fun w h => h) (fun k2067 => cur8 (listC (fun l2058 l2061 i2064 A2059 c2060 A2062 c2063 U2073 hJ_ => ?_) (fun y2065 ys2066 l2058 l2061 i2064 A2059 c2060 A2062 c2063 U2073 hJ_ => ?_))))
  ·clear hl2071
   have hr2068 := hJ_.1; have hk2074 := hJ_.2.1; have h := hJ_.2.2; clear hJ_
   replace h : impl_Plan_trimmed.l0 a0_0 l1024 [] l2058 l2061 i2064 = some o2072 := h
   rw [impl_Plan_trimmed.l0] at h
   refine c_seq (za0 (oq_ (q_lss rfl rfl) (o_end (za1 (c_seq (zaz (vb_ hr2068.ge) (zax (za7 (za7 ?_)))))))))
   have e_ := si_ h; replace h := hR2070; rw [← e_] at h; clear e_
   refine x_hit (za1 (c_seq (za0 (oq_ (za2 rfl) (oq_ (q_nil rfl) (oq_ (q_f F25_2 rfl) (oq_ (q_ldb Y23 rfl (fun w h => B0.now Z h) rfl) (oq_ (za2 rfl) (za6 h (fun l2076 hx2075 h => ?_) rfl)))))))))
   refine o_e rfl (za5 0 Z Try.func118 N118 rfl rfl rfl (fun w P1 hF hB hS hT => impl_renamed.calls A0_2 c0_2 l0_2.length l0_2 A2059 c2060 l2058.length l2058 hB hF (hS _ R0_2) hc0_2 (hT 4 _ rfl).row (hT 4 _ rfl).cap _ hx2075)) (cur2 (fun A2077 c2078 => oq_ (q_f F25_2 rfl) (o_e rfl (za9 (i := 4) rfl rfl rfl rfl Z23 rfl rfl) (fun _ => o_end (za1 (c_seq (za0 (oq_ (q_ldB G25 Z25 rfl (bx_ 4 rfl) rfl) (o_e rfl (zac (i := 2) rfl rfl rfl Z25 rfl rfl) (fun _ => o_end ?_))))))))))
   refine za1 (c_ret ?_)
   have e0_ := si_ h; clear h
   obtain ⟨rfl, e1_⟩ := Prod.mk.inj e0_
   subst e1_
   exact x_r1 (A2062, c2063, A2077, c2078) Try.results62 (zb0 rfl G25 Z25 (bx_ 2 rfl) rfl) rfl (pk_ [1, 0])
  ·clear hl2071
   have hr2068 := hJ_.1; have hk2074 := hJ_.2.1; have h := hJ_.2.2; clear hJ_
   replace h : impl_Plan_trimmed.l0 a0_0 l1024 (y2065 :: ys2066) l2058 l2061 i2064 = some o2072 := h
   rw [impl_Plan_trimmed.l0] at h
   refine c_seq (za0 (oq_ (q_lss rfl rfl) (o_end (za1 (c_seq (zar (vb_ hr2068.lt) (zai (za1 (c_seq ?_)))))))))
   refine zae (c_seq (za0 (oq_ (za2 rfl) (zaw (p := Sh A0_1 l0_1.length l0_1.length) (fun w h => f_sh (dk := kStep) h (fun w h => R0_1.now Z h)) (fun hq2079 => oq_ (q_ix Try.underlying22 Z107 rfl rfl hq2079 hr2068.get) (oq_ (q_ldE G107 Z107 rfl rfl (fun w h => R0_1.now Z h) hr2068.get (fun _ _ h => h) rfl) (o_e rfl (zab V107 rfl) (fun g2080 => oq_ (q_asg rfl) (o_e rfl (zac (i := 0) rfl rfl rfl Z107 rfl rfl) (fun _ => ?_))))))))))
   refine o_end (za1 (c_seq (za0 (oq_ (za2 rfl) (za6 h (fun _ hx2082 h => ?_) rfl)))))
   refine o_e rfl (za5 0 Z Try.func115 N115 rfl rfl rfl (fun w P1 hF hB hS hT => impl_Plan_many.calls g1027 a0_0 A2062 c2063 l2061.length l2061 none 0 0 [] hB hF (hT 1 _ rfl).row (hT 1 _ rfl).cap (stab_nil _) (Nat.le_refl 0) (hT 4 _ rfl).box hx2082)) (fun _ => o_e rfl (e_lit (vs := [(0, .int .i64 (w64 (a0_0 + (l2061.length : Int))))]) (cs := [.int .i64 (w64 (a0_0 + (l2061.length : Int)))]) (Kd.int .i64) ([w64 (a0_0 + (l2061.length : Int))] : List Int) Try.underlying23 I3 dc_ rfl dc_ rfl rfl (fun _ _ => Kd.za8 _)) (cur2 (fun A2083 c2084 => za6 h (fun l2086 ha2087 h => ?_) rfl)))
   refine o_e rfl (e_app (i := 6) (j := 0) Try.underlying23 I3 rfl dc_ dc_ rfl rfl rfl rfl rfl ha2087) (cur2 (fun A2088 c2089 => oq_ (q_asg rfl) (o_end (za1 (c_seq (za0 (oq_ (za2 rfl) (oq_ (za2 rfl) (oq_ (q_nil rfl) (oq_ (q_f F25_0 rfl) ?_))))))))))
   refine oq_ (q_ldb Y3 rfl (fun w h => B0.now Z h) rfl) (oq_ (za2 rfl) (oq_ (zay rfl rfl) (zaw (p := Sh A1025 l1024.length l1024.length) (fun w h => f_sh (dk := Kd.bool) h (rc_ 4 rfl)) (fun hq2090 => za6 h (fun y2092 hg2091 h => ?_) rfl))))
   refine oq_ (q_ix Try.underlying117 Z4 rfl rfl hq2090 hg2091) (oq_ (q_lde (off := 0) Y4 rfl rfl (rc_ 4 rfl) hg2091 (fun _ _ h => h) rfl) (o_end (za1 (zan _ rfl (fun hb2093 => ?_) (fun hb2093 => ?_)))))
   ·replace h := bb_t hb2093 h
    refine za6 h (fun y2397 hg2396 h => ?_) rfl
    refine za6 h (fun y2696 hg2695 h => ?_) rfl
    refine za6 h (fun _ hx2815 h => ?_) rfl
    refine za6 h (fun l2935 ha2936 h => ?_) rfl
    refine a_startS (ds := []) [none, some 1, none, some 3, some 4, none, some 6] MO rfl (ap_ 0 rfl (q_f F25_1 rfl) (ap_ 2 rfl (za2 rfl) (ap_ 3 rfl (q_f F107_0 rfl) (at_2 4 rfl (sm_ [none, some 1, none, some 3, some 4, none, some 6]) (q_ldb Y3 rfl (bx_ 1 rfl) rfl) (a_fact (p := Sh A2088 l2086.length l2086.length) (fun w h => f_sh (dk := (Kd.int .i64)) h (rc_ 6 rfl)) (fun hq2395 => ap_ 5 rfl (q_ix Try.underlying23 Z3 rfl rfl hq2395 hg2396) (at_2 6 rfl (sm_ [none, some 1, none, some 3, some 4, none, some 6]) (q_lde (off := 0) Y3 rfl rfl (rc_ 6 rfl) hg2396 (fun _ _ h => h) rfl) (ap_ 7 rfl (za2 rfl) (ap_ 8 rfl (q_f F107_1 rfl) ?_)))))))))
    refine at_2 9 rfl (sm_ [none, some 1, none, some 3, some 4, none, some 6]) (q_ldb Y3 rfl (bx_ 1 rfl) rfl) (ap_ 10 rfl (q_ix Try.underlying23 Z3 rfl rfl hq2395 hg2695) (at_2 11 rfl (sm_ [none, some 1, none, some 3, some 4, none, some 6]) (q_lde (off := 0) Y3 rfl rfl (rc_ 6 rfl) hg2695 (fun _ _ h => h) rfl) (a_two 1 12 rfl rfl rfl rfl kr_ rfl rfl (ev_q rfl (q_ldb Y22 rfl (bx_ 5 rfl) rfl)) (sl_ [none, some 1, none, some 3, some 4, none, some 6]) (za5 0 Z Try.func114 N114 rfl rfl rfl (fun w P1 hF hB hS hT => impl_step.calls y2397 y2696 hB hF hx2815)) (sl_ [none, some 1, none, some 3, some 4, none, some 6]) (fun _ => ?_) (fun _ => ?_))))
    ·refine a1_ 12 rfl (za5 0 Z Try.func114 N114 rfl rfl rfl (fun w P1 hF hB hS hT => impl_step.calls y2397 y2696 hB hF hx2815)) (sl_ [none, some 1, none, some 3, some 4, none, some 6]) (fun _ => a1_ 13 rfl (e_lit (vs := [(0, .agg #[.int .i64 (mn y2397 y2696), .int .i64 (mx y2397 y2696)])]) (cs := [.int .i64 (mn y2397 y2696), .int .i64 (mx y2397 y2696)]) kStep ([(⟨mn y2397 y2696, mx y2397 y2696⟩ : SStep)] : List SStep) Try.underlying22 I107 dc_ rfl dc_ rfl rfl (fun _ _ => reps_flat _)) (sl_ [none, some 2, none, some 4, some 5, none, some 7]) (cur2 (fun A2875 c2876 => a1_ 14 rfl (e_app (i := 3) (j := 0) Try.underlying22 I107 rfl dc_ dc_ rfl rfl rfl rfl rfl ha2936) (sl_ [none, some 2, none, some 4, some 5, none, some 7]) (cur2 (fun A2937 c2938 => ap_ 15 rfl (q_f F25_1 rfl) (a1_ 16 rfl (za9 (i := 6) rfl rfl rfl rfl Z22 rfl rfl) (sl_ [none, some 2, none, some 4, some 5, none, some 7]) (fun _ => zaj kr_ (zaf (za1 (za0 (oq_ (q_up rfl rfl (hr2068.up hm2069)) ?_)))))))))))
     refine oq_ (za2 rfl) (o_end (zal ys2066.length (ys2066, l2086, l2935, i2064 + 1, A2088, c2089, A2937, c2938) (by rw [← hk2074]; exact Nat.lt_succ_self _) ⟨hr2068.step, rfl, h⟩ ⟨rfl, rfl, trivial⟩ (pk_ [3, 4, 5, 6, 7]) ?_))
     exact of_
    ·refine a_two 1 13 rfl rfl rfl rfl kr_ rfl rfl (ev_q rfl (q_ldb Y22 rfl (bx_ 5 rfl) rfl)) (sl_ [none, some 1, none, some 3, some 4, none, some 6]) (e_lit (vs := [(0, .agg #[.int .i64 (mn y2397 y2696), .int .i64 (mx y2397 y2696)])]) (cs := [.int .i64 (mn y2397 y2696), .int .i64 (mx y2397 y2696)]) kStep ([(⟨mn y2397 y2696, mx y2397 y2696⟩ : SStep)] : List SStep) Try.underlying22 I107 dc_ rfl dc_ rfl rfl (fun _ _ => reps_flat _)) (sl_ [none, some 2, none, some 4, some 5, none, some 7]) (fun _ => ?_) (cur2 (fun A2875 c2876 => ?_))
     ·refine a1_ 13 rfl (e_lit (vs := [(0, .agg #[.int .i64 (mn y2397 y2696), .int .i64 (mx y2397 y2696)])]) (cs := [.int .i64 (mn y2397 y2696), .int .i64 (mx y2397 y2696)]) kStep ([(⟨mn y2397 y2696, mx y2397 y2696⟩ : SStep)] : List SStep) Try.underlying22 I107 dc_ rfl dc_ rfl rfl (fun _ _ => reps_flat _)) (sl_ [none, some 2, none, some 4, some 5, none, some 7]) (cur2 (fun A2875 c2876 => a1_ 14 rfl (e_app (i := 3) (j := 0) Try.underlying22 I107 rfl dc_ dc_ rfl rfl rfl rfl rfl ha2936) (sl_ [none, some 2, none, some 4, some 5, none, some 7]) (cur2 (fun A2937 c2938 => ap_ 15 rfl (q_f F25_1 rfl) (a1_ 16 rfl (za9 (i := 6) rfl rfl rfl rfl Z22 rfl rfl) (sl_ [none, some 2, none, some 4, some 5, none, some 7]) (fun _ => zaj kr_ (zaf (za1 (za0 (oq_ (q_up rfl rfl (hr2068.up hm2069)) (oq_ (za2 rfl) ?_)))))))))))
      refine o_end (zal ys2066.length (ys2066, l2086, l2935, i2064 + 1, A2088, c2089, A2937, c2938) (by rw [← hk2074]; exact Nat.lt_succ_self _) ⟨hr2068.step, rfl, h⟩ ⟨rfl, rfl, trivial⟩ (pk_ [3, 4, 5, 6, 7]) ?_)
      exact of_
     ·refine a1_ 1 rfl (ev_q rfl (q_ldb Y22 rfl (bx_ 6 rfl) rfl)) (sl_ [none, some 2, none, some 4, some 5, none, some 7]) (fun _ => a1_ 14 rfl (e_app (i := 3) (j := 0) Try.underlying22 I107 rfl dc_ dc_ rfl rfl rfl rfl rfl ha2936) (sl_ [none, some 2, none, some 4, some 5, none, some 7]) (cur2 (fun A2937 c2938 => ap_ 15 rfl (q_f F25_1 rfl) (a1_ 16 rfl (za9 (i := 6) rfl rfl rfl rfl Z22 rfl rfl) (sl_ [none, some 2, none, some 4, some 5, none, some 7]) (fun _ => zaj kr_ (zaf (za1 (za0 (oq_ (q_up rfl rfl (hr2068.up hm2069)) (oq_ (za2 rfl) ?_))))))))))
      refine o_end (zal ys2066.length (ys2066, l2086, l2935, i2064 + 1, A2088, c2089, A2937, c2938) (by rw [← hk2074]; exact Nat.lt_succ_self _) ⟨hr2068.step, rfl, h⟩ ⟨rfl, rfl, trivial⟩ (pk_ [3, 4, 5, 6, 7]) ?_)
      exact of_
   ·replace h := bb_f hb2093 h
    refine zai (zaf (za1 (za0 (oq_ (q_up rfl rfl (hr2068.up hm2069)) (oq_ (za2 rfl) (o_end (zal ys2066.length (ys2066, l2086, l2061, i2064 + 1, A2088, c2089, A2062, c2063) (by rw [← hk2074]; exact Nat.lt_succ_self _) ⟨hr2068.step, rfl, h⟩ ⟨rfl, rfl, trivial⟩ (pk_ [2, 3, 4, 5, 6]) ?_)))))))
    exact of_

end Go.Proofs.Ytiaohjciddbpoaa.M5
