import Derived.Test.YtiaohjciddbpoaaKFnMethodsM5p3
namespace Go.Proofs.Ytiaohjciddbpoaa.M5
set_option maxHeartbeats 8000000
set_option maxRecDepth 100000
open Go.RowKit Go.Proofs.Ytiaohjciddbpoaa.Frame Go.Proofs.YtiaohjciddbpoaaW.PrintLast Go.Proofs.Ytiaohjciddbpoaa.Hand
open Go.Proofs.YtiaohjciddbpoaaW.PrintWords hiding mn mx
set_option linter.unusedVariables false
def math_bits_Len.f (a0 : Int) : Option Int := (math_bits_Len64.f a0).bind fun i2 => some i2
theorem math_bits_Len.calls {w0 ws : World} {P0 : Nat → Prop} (a0 : Int) (Z : Below w0.heap.size w0 ws) (hF : Fr w0 ws P0 [] ws)  (r_1 : Int) (h : math_bits_Len.f a0 = some r_1) :
  Calls Try.prog 82 #[.int .u64 a0] ws (Post1 w0 ws P0 (fun (_ : Unit) => .int .i64 r_1) (fun (_ : Unit) => [])) := by
 unfold math_bits_Len.f at h
 refine enter Try.func82 rfl Try.ntmps82 rfl hF (c_seq (za0 (oq_ (q_asg rfl) (o_end (za1 (c_seq (zaz rfl (zai (za1 ?_)))))))))
 refine c_seq (za0 (oq_ (za2 rfl) (za6 h (fun i2 hx1 h => ?_) rfl)))
 refine o_e rfl (za5 0 Z Try.func130 N130 rfl rfl rfl (fun w P1 hF hB hS hT => math_bits_Len64.calls a0 hB hF _ hx1)) (fun _ => oq_ (q_asg rfl) (o_end (za1 (c_ret ?_))))
 have e0_ := si_ h; clear h
 subst e0_
 exact x_r1 () Try.results82 (zad rfl) rfl (pk_ [])

def impl_windows.l1 (a0 : Int) : Nat → Int → Option Int
 | 0, _ => none
 | k33 + 1, i30 => (nn i30).bind fun _ => if Go.bits .and .i64 (a0 / 2 ^ min (i30 : Int).toNat IntKind.i64.bits) 1 = 0 then (impl_windows.l1 a0 k33 (w64 (i30 + 1))) else (some i30)
def impl_windows.l0 (k : Nat) (a0 : Int) (a1 : Int) : Nat → (List Swindow) → Int → Option (List Swindow)
 | 0, _, _ => none
 | k12 + 1, l6, i9 => if 0 ≤ i9 then ((nn i9).bind fun _ => if Go.bits .and .i64 (a0 / 2 ^ min (i9 : Int).toNat IntKind.i64.bits) 1 = 0 then ((ap l6 ([(⟨0, 1⟩ : Swindow)] : List Swindow)).bind fun l26 => impl_windows.l0 k a0 a1 k12 l26 (w64 (i9 - 1))) else ((impl_windows.l1 a0 k (mx (w64 (w64 (i9 - a1) + 1)) 0)).bind fun i30 => (nn i30).bind fun _ => (nn (w64 (w64 (i9 - i30) + 1))).bind fun _ => (ap l6 ([(⟨Go.bits .and .i64 (a0 / 2 ^ min (i30 : Int).toNat IntKind.i64.bits) (w64 (IntKind.i64.wrap (1 * 2 ^ min (w64 (w64 (i9 - i30) + 1) : Int).toNat IntKind.i64.bits) - 1)), w64 (w64 (i9 - i30) + 1)⟩ : Swindow)] : List Swindow)).bind fun l48 => impl_windows.l0 k a0 a1 k12 l48 (w64 (i30 - 1)))) else (some l6)
def impl_windows.f (k : Nat) (a0 : Int) (a1 : Int) : Option (List Swindow) := (math_bits_Len.f (IntKind.u64.wrap a0)).bind fun i5 => (impl_windows.l0 k a0 a1 k ([] : List Swindow) (w64 (i5 - 1))).bind fun l6 => some l6
theorem impl_windows.calls (k : Nat) {w0 ws : World} {P0 : Nat → Prop} (a0 : Int) (a1 : Int) (Z : Below w0.heap.size w0 ws) (hF : Fr w0 ws P0 [] ws)  (r_1 : List Swindow) (h : impl_windows.f k a0 a1 = some r_1) :
  Calls Try.prog 67 #[.int .i64 a0, .int .i64 a1] ws (Post1 w0 ws P0 (fun ((q_2, q_3) : (Option Addr) × Nat) => .slice q_2 r_1.length q_3) (fun ((q_2, q_3) : (Option Addr) × Nat) => [row kwindow 76 (.slice q_2 r_1.length q_3) r_1])) := by
 unfold impl_windows.f at h
 refine enter Try.func67 rfl Try.ntmps67 rfl hF (c_seq (za0 (oq_ (q_asg rfl) (o_end (za1 (c_seq (za0 (o_e rfl (e_lit0 kwindow Try.underlying73 I76) (cur2 (fun A1 c2 => oq_ (q_asg rfl) ?_))))))))))
 refine o_end (za1 (c_seq (c_seq (za0 (oq_ (za2 rfl) (oq_ (q_conv (by rw [Try.underlying3]; rfl) Try.underlying89 rfl) (za6 h (fun i5 hx4 h => ?_) rfl)))))))
 refine o_e rfl (za5 0 Z Try.func82 N82 rfl rfl rfl (fun w P1 hF hB hS hT => math_bits_Len.calls (IntKind.u64.wrap a0) hB hF _ hx4)) (fun _ => oq_ (zat rfl rfl) (oq_ (q_asg rfl) (o_end (za1 (zae (za6 h (fun o17 hl16 hR15 => ?_) rfl))))))
 clear h
 refine zas (σ := (List Swindow) × Int × (Option Addr) × Nat) (fun k12 ((l6, i9, A7, c8) : (List Swindow) × Int × (Option Addr) × Nat) => impl_windows.l0 k a0 a1 k12 l6 i9 = some o17) [5, 6, 7, 13, 14, 15, 16, 17, 18, 19, 20, 21, 22, 23, 24, 25, 26, 27, 28, 29, 30, 31, 32, 33, 34, 35, 36, 37, 38, 39, 40, 41, 42, 43, 44, 45, 46, 47, 48, 49, 50, 51, 52, 53, 54, 55, 56, 57] (fun ((l6, i9, A7, c8) : (List Swindow) × Int × (Option Addr) × Nat) => [(5, .slice A7 l6.length c8), (6, .int .i64 i9)]) (fun ((l6, i9, A7, c8) : (List Swindow) × Int × (Option Addr) × Nat) => [row kwindow 76 (.slice A7 l6.length c8) l6]) k (([] : List Swindow), w64 (i5 - 1), A1, c2) hl16 ⟨rfl, rfl, trivial⟩ (fun w h => h) (natC (cur4 (fun l6 i9 A7 c8 => fun U18 hJ_ => ?_)) (fun k12 => (cur4 (fun l6 i9 A7 c8 => fun U18 hJ_ => ?_))))
 ·replace hJ_ : impl_windows.l0 k a0 a1 0 l6 i9 = some o17 := hJ_
  rw [impl_windows.l0] at hJ_
  exact noneE hJ_
 ·clear hl16
  have h := hJ_; clear hJ_
  replace h : impl_windows.l0 k a0 a1 (k12 + 1) l6 i9 = some o17 := h
  rw [impl_windows.l0] at h
  refine c_seq (c_seq (za0 (oq_ (za2 rfl) (oq_ (q_geq rfl rfl) (o_end (za1 (zan _ rfl (fun hb20 => ?_) (fun hb20 => ?_))))))))
  ·replace h := br_t hb20 h
   refine zai (za1 (zae (c_seq (c_seq (za0 (oq_ (za2 rfl) (oq_ (za2 rfl) (za6 h (fun _ hz21 h => ?_) rfl))))))))
   refine oq_ (q_shr rfl rfl (nn_le hz21)) (oq_ (q_and rfl rfl) (oq_ (q_eql rfl rfl) (o_end (za1 (zan _ rfl (fun hb22 => ?_) (fun hb22 => ?_))))))
   ·replace h := br_t hb22 h
    refine c_seq (za0 (oq_ (za2 rfl) (oq_ (q_build (vs := [(0, .int .i64 0), (1, .int .i64 1)]) (cs := [.int .i64 0, .int .i64 1]) rfl rfl) (o_e rfl (e_lit (vs := [(0, .agg #[.int .i64 0, .int .i64 1])]) (cs := [.int .i64 0, .int .i64 1]) kwindow ([(⟨0, 1⟩ : Swindow)] : List Swindow) Try.underlying73 I76 dc_ rfl dc_ rfl rfl (fun _ _ => reps_flat _)) (cur2 (fun A23 c24 => za6 h (fun l26 ha27 h => ?_) rfl))))))
    refine o_e rfl (e_app (i := 1) (j := 0) Try.underlying73 I76 rfl dc_ dc_ rfl rfl rfl rfl rfl ha27) (cur2 (fun A28 c29 => oq_ (za2 rfl) (oq_ (zat rfl rfl) (oq_ (q_asg rfl) (oq_ (q_asg rfl) (o_end (za1 (zax (za7 (x_hit ?_))))))))))
    refine zal k12 (l26, w64 (i9 - 1), A28, c29) (Nat.lt_succ_self _) h ⟨rfl, rfl, trivial⟩ (pk_ [1]) ?_
    exact of_
   ·replace h := br_f hb22 h
    refine zai (za1 (c_seq (za0 (oq_ (za2 rfl) (oq_ (za2 rfl) (oq_ (zat rfl rfl) (oq_ (zay rfl rfl) (oq_ (q_max rfl rfl) (oq_ (q_asg rfl) ?_)))))))))
    refine o_end (za1 (c_seq (zae (za6 h (fun o38 hl37 hR36 => ?_) rfl))))
    clear h
    refine zas (σ := Int) (fun k33 (i30 : Int) => impl_windows.l1 a0 k33 i30 = some o38) [7, 31, 32, 33, 34, 35, 36, 37] (fun (i30 : Int) => [(7, .int .i64 i30)]) (fun (i30 : Int) => [row kwindow 76 (.slice A7 l6.length c8) l6]) k (mx (w64 (w64 (i9 - a1) + 1)) 0) hl37 ⟨rfl, trivial⟩ (fun w h => h) (natC (fun i30 => fun U39 hJ_ => ?_) (fun k33 => (fun i30 => fun U39 hJ_ => ?_)))
    ·replace hJ_ : impl_windows.l1 a0 0 i30 = some o38 := hJ_
     rw [impl_windows.l1] at hJ_
     exact noneE hJ_
    ·clear hl37
     have h := hJ_; clear hJ_
     replace h : impl_windows.l1 a0 (k33 + 1) i30 = some o38 := h
     rw [impl_windows.l1] at h
     refine c_seq (c_seq (za0 (oq_ (za2 rfl) (oq_ (za2 rfl) (za6 h (fun _ hz41 h => ?_) rfl)))))
     refine oq_ (q_shr rfl rfl (nn_le hz41)) (oq_ (q_and rfl rfl) (oq_ (q_eql rfl rfl) (o_end (za1 (zan _ rfl (fun hb42 => ?_) (fun hb42 => ?_))))))
     ·replace h := br_t hb42 h
      refine zai (za1 (zae (za0 (oq_ (za2 rfl) (oq_ (zay rfl rfl) (oq_ (q_asg rfl) (o_end (zaf (zal k33 (w64 (i30 + 1)) (Nat.lt_succ_self _) h ⟨rfl, trivial⟩ (pk_ [0]) ?_)))))))))
      exact of_
     ·replace h := br_f hb42 h
      refine zax (za7 (za7 ?_))
      have e_ := si_ h; replace h := hR36; rw [← e_] at h; clear e_
      refine x_hit (za1 (c_seq (a_startS (ds := []) [none] MO rfl (ap_ 0 rfl (za2 rfl) (ap_ 1 rfl (za2 rfl) (ap_ 2 rfl (za2 rfl) (za6 h (fun _ hz43 h => ?_) rfl)))))))
      refine ap_ 3 rfl (q_shr rfl rfl (nn_le hz43)) (ap_ 4 rfl (za2 rfl) (ap_ 5 rfl (za2 rfl) (ap_ 6 rfl (zat rfl rfl) (ap_ 7 rfl (zay rfl rfl) (za6 h (fun _ hz44 h => ?_) rfl)))))
      refine ap_ 8 rfl (q_shl rfl rfl (nn_le hz44)) (ap_ 9 rfl (zat rfl rfl) (ap_ 10 rfl (q_and rfl rfl) (ap_ 11 rfl (za2 rfl) (ap_ 12 rfl (za2 rfl) (ap_ 13 rfl (zat rfl rfl) (ap_ 14 rfl (zay rfl rfl) (ap_ 15 rfl (q_build (vs := [(0, .int .i64 (Go.bits .and .i64 (a0 / 2 ^ min (i30 : Int).toNat IntKind.i64.bits) (w64 (IntKind.i64.wrap (1 * 2 ^ min (w64 (w64 (i9 - i30) + 1) : Int).toNat IntKind.i64.bits) - 1)))), (1, .int .i64 (w64 (w64 (i9 - i30) + 1)))]) (cs := [.int .i64 (Go.bits .and .i64 (a0 / 2 ^ min (i30 : Int).toNat IntKind.i64.bits) (w64 (IntKind.i64.wrap (1 * 2 ^ min (w64 (w64 (i9 - i30) + 1) : Int).toNat IntKind.i64.bits) - 1))), .int .i64 (w64 (w64 (i9 - i30) + 1))]) rfl rfl) (a1_ 16 rfl (e_lit (vs := [(0, .agg #[.int .i64 (Go.bits .and .i64 (a0 / 2 ^ min (i30 : Int).toNat IntKind.i64.bits) (w64 (IntKind.i64.wrap (1 * 2 ^ min (w64 (w64 (i9 - i30) + 1) : Int).toNat IntKind.i64.bits) - 1))), .int .i64 (w64 (w64 (i9 - i30) + 1))])]) (cs := [.int .i64 (Go.bits .and .i64 (a0 / 2 ^ min (i30 : Int).toNat IntKind.i64.bits) (w64 (IntKind.i64.wrap (1 * 2 ^ min (w64 (w64 (i9 - i30) + 1) : Int).toNat IntKind.i64.bits) - 1))), .int .i64 (w64 (w64 (i9 - i30) + 1))]) kwindow ([(⟨Go.bits .and .i64 (a0 / 2 ^ min (i30 : Int).toNat IntKind.i64.bits) (w64 (IntKind.i64.wrap (1 * 2 ^ min (w64 (w64 (i9 - i30) + 1) : Int).toNat IntKind.i64.bits) - 1)), w64 (w64 (i9 - i30) + 1)⟩ : Swindow)] : List Swindow) Try.underlying73 I76 dc_ rfl dc_ rfl rfl (fun _ _ => reps_flat _)) (sl_ [none]) (cur2 (fun A45 c46 => za6 h (fun l48 ha49 h => ?_) rfl))))))))))
      refine a1_ 17 rfl (e_app (i := 1) (j := 0) Try.underlying73 I76 rfl dc_ dc_ rfl rfl rfl rfl rfl ha49) (sl_ [none]) (cur2 (fun A50 c51 => ap_ 18 rfl (q_asg rfl) (zaj kr_ (za1 (za0 (oq_ (za2 rfl) (oq_ (zat rfl rfl) (oq_ (q_asg rfl) (o_end (zaf ?_))))))))))
      refine zal k12 (l48, w64 (i30 - 1), A50, c51) (Nat.lt_succ_self _) h ⟨rfl, rfl, trivial⟩ (pk_ [1]) ?_
      exact of_
  ·replace h := br_f hb20 h
   refine zax (za7 (za7 ?_))
   have e_ := si_ h; replace h := hR15; rw [← e_] at h; clear e_
   refine x_hit (za1 (c_seq (za0 (oq_ (za2 rfl) (oq_ (q_asg rfl) (o_end (za1 (c_ret ?_))))))))
   have e0_ := si_ h; clear h
   subst e0_
   exact x_r1 (A7, c8) Try.results67 (zad rfl) rfl (pk_ [0])

def impl_WindowsOf.l0 : (List Swindow) → (List Int) → Int → Option (List Int)
 | [], l11, i14 => some l11
 | y15 :: ys16, l11, i14 => if 0 < y15.f0 then ((ap l11 ([y15.f0] : List Int)).bind fun l32 => impl_WindowsOf.l0 ys16 l32 (i14 + 1)) else (impl_WindowsOf.l0 ys16 l11 (i14 + 1))
def impl_WindowsOf.f (k : Nat) (a0 : Int) (a1 : Int) : Option ((List Int) × Bool) := (impl_windowOk.f a0 a1).bind fun b2 => if b2 = true then ((impl_windows.f k a0 a1).bind fun l8 => (impl_WindowsOf.l0 l8 ([] : List Int) 0).bind fun l11 => some (l11, true)) else (some (([] : List Int), false))
theorem impl_WindowsOf.calls (k : Nat) {w0 ws : World} {P0 : Nat → Prop} (a0 : Int) (a1 : Int) (Z : Below w0.heap.size w0 ws) (hF : Fr w0 ws P0 [] ws)  (r_1 : List Int) (r_4 : Bool) (h : impl_WindowsOf.f k a0 a1 = some (r_1, r_4)) :
  Calls Try.prog 26 #[.int .i64 a0, .int .i64 a1] ws (Post1 w0 ws P0 (fun ((q_2, q_3) : (Option Addr) × Nat) => .tuple #[.slice q_2 r_1.length q_3, .bool r_4]) (fun ((q_2, q_3) : (Option Addr) × Nat) => [row (Kd.int .i64) 3 (.slice q_2 r_1.length q_3) r_1])) := by
 unfold impl_WindowsOf.f at h
 refine enter Try.func26 rfl Try.ntmps26 rfl hF (c_seq (za0 (oq_ (q_asg rfl) (oq_ (q_asg rfl) (o_end (za1 (c_seq (c_seq (za0 ?_)))))))))
 refine oq_ (za2 rfl) (oq_ (za2 rfl) (za6 h (fun b2 hx1 h => ?_) rfl))
 refine o_e rfl (za5 0 Z Try.func53 N53 rfl rfl rfl (fun w P1 hF hB hS hT => impl_windowOk.calls a0 a1 hB hF _ hx1)) (fun _ => oq_ (q_not rfl) (o_end (za1 (zan _ rfl (fun hb3 => ?_) (fun hb3 => ?_)))))
 ·replace hb3 := nt_t hb3
  replace h := bb_f hb3 h
  refine c_seq (za0 (oq_ (q_asg rfl) (oq_ (q_asg rfl) (o_end (za1 (c_ret (zaa (x_nil (Kd.int .i64) 3 ?_))))))))
  have e0_ := si_ h; clear h
  obtain ⟨rfl, e1_⟩ := Prod.mk.inj e0_
  subst e1_
  exact x_r2 (none, 0) Try.results26 (zad rfl) (zad rfl) rfl (pk_ [0])
 ·replace hb3 := nt_f hb3
  replace h := bb_t hb3 h
  refine zai (za1 (c_seq (za0 (o_e rfl (e_lit0 (Kd.int .i64) Try.underlying23 I3) (cur2 (fun A4 c5 => oq_ (q_asg rfl) (o_end (za1 (c_seq (c_seq ?_))))))))))
  refine za0 (oq_ (za2 rfl) (oq_ (za2 rfl) (za6 h (fun l8 hx7 h => ?_) rfl)))
  refine o_e rfl (za5 0 Z Try.func67 N67 rfl rfl rfl (fun w P1 hF hB hS hT => impl_windows.calls k a0 a1 hB hF _ hx7)) (cur2 (fun A9 c10 => oq_ (q_len Try.underlying73 rfl) (oq_ (za2 rfl) (o_end (za1 (zae (za6 h (fun o22 hl21 hR20 => ?_) rfl)))))))
  clear h
  refine c_fact (p := l8.length ≤ 9223372036854775807) (fun w h => (h.row_Cn (i := 0) rfl).2.1) (fun hm19 => zas (σ := (List Swindow) × (List Int) × Int × (Option Addr) × Nat) (fun k17 ((ys16, l11, i14, A12, c13) : (List Swindow) × (List Int) × Int × (Option Addr) × Nat) => Rg l8 i14 ys16 ∧ ys16.length = k17 ∧ impl_WindowsOf.l0 ys16 l11 i14 = some o22) [6, 8, 18, 19, 20, 21, 22, 23, 24, 25, 26, 27, 28, 29, 30] (fun ((ys16, l11, i14, A12, c13) : (List Swindow) × (List Int) × Int × (Option Addr) × Nat) => [(6, .slice A12 l11.length c13), (18, .int .i64 i14)]) (fun ((ys16, l11, i14, A12, c13) : (List Swindow) × (List Int) × Int × (Option Addr) × Nat) => [row kwindow 76 (.slice A9 l8.length c10) l8, row (Kd.int .i64) 3 (.slice A12 l11.length c13) l11]) l8.length (l8, ([] : List Int), 0, A4, c5) ⟨Rg.start _, rfl, hl21⟩ ⟨rfl, rfl, trivial⟩ (fun w h => h) (fun k17 => cur5 (listC (fun l11 i14 A12 c13 U23 hJ_ => ?_) (fun y15 ys16 l11 i14 A12 c13 U23 hJ_ => ?_))))
  ·clear hl21
   have hr18 := hJ_.1; have hk24 := hJ_.2.1; have h := hJ_.2.2; clear hJ_
   replace h : impl_WindowsOf.l0 [] l11 i14 = some o22 := h
   rw [impl_WindowsOf.l0] at h
   refine c_seq (za0 (oq_ (q_lss rfl rfl) (o_end (za1 (c_seq (zaz (vb_ hr18.ge) (zax (za7 (za7 ?_)))))))))
   have e_ := si_ h; replace h := hR20; rw [← e_] at h; clear e_
   refine x_hit (za1 (c_seq (za0 (oq_ (za2 rfl) (oq_ (q_asg rfl) (oq_ (q_asg rfl) (o_end (za1 (c_ret ?_)))))))))
   have e0_ := si_ h; clear h
   obtain ⟨rfl, e1_⟩ := Prod.mk.inj e0_
   subst e1_
   exact x_r2 (A12, c13) Try.results26 (zad rfl) (zad rfl) rfl (pk_ [1])
  ·clear hl21
   have hr18 := hJ_.1; have hk24 := hJ_.2.1; have h := hJ_.2.2; clear hJ_
   replace h : impl_WindowsOf.l0 (y15 :: ys16) l11 i14 = some o22 := h
   rw [impl_WindowsOf.l0] at h
   refine c_seq (za0 (oq_ (q_lss rfl rfl) (o_end (za1 (c_seq (zar (vb_ hr18.lt) (zai (za1 (c_seq ?_)))))))))
   refine zae (c_seq (za0 (zaw (p := Sh A9 l8.length l8.length) (fun w h => f_sh (dk := kwindow) h (rc_ 0 rfl)) (fun hq25 => oq_ (q_ix Try.underlying73 Z76 rfl rfl hq25 hr18.get) (oq_ (q_ldE G76 Z76 rfl rfl (rc_ 0 rfl) hr18.get (fun _ _ h => h) rfl) (o_e rfl (zab V76 rfl) (fun g26 => o_e rfl (zac (i := 0) rfl rfl rfl Z76 rfl rfl) (fun _ => o_end (za1 ?_)))))))))
   refine c_seq (za0 (oq_ (q_f F76_0 rfl) (oq_ (q_ldb Y3 rfl (bx_ 0 rfl) rfl) (oq_ (q_gtr rfl rfl) (o_end (za1 (zan _ rfl (fun hb28 => ?_) (fun hb28 => ?_))))))))
   ·replace h := br_t hb28 h
    refine za0 (oq_ (za2 rfl) (oq_ (q_f F76_0 rfl) (oq_ (q_ldb Y3 rfl (bx_ 0 rfl) rfl) (o_e rfl (e_lit (vs := [(0, .int .i64 y15.f0)]) (cs := [.int .i64 y15.f0]) (Kd.int .i64) ([y15.f0] : List Int) Try.underlying23 I3 dc_ rfl dc_ rfl rfl (fun _ _ => Kd.za8 _)) (cur2 (fun A29 c30 => za6 h (fun l32 ha33 h => ?_) rfl))))))
    refine o_e rfl (e_app (i := 3) (j := 0) Try.underlying23 I3 rfl dc_ dc_ rfl rfl rfl rfl rfl ha33) (cur2 (fun A34 c35 => oq_ (q_asg rfl) (o_end (zaf (za1 (za0 (oq_ (q_up rfl rfl (hr18.up hm19)) (oq_ (za2 rfl) (o_end (zal ys16.length (ys16, l32, i14 + 1, A34, c35) (by rw [← hk24]; exact Nat.lt_succ_self _) ⟨hr18.step, rfl, h⟩ ⟨rfl, rfl, trivial⟩ (pk_ [2, 3]) ?_))))))))))
    exact of_
   ·replace h := br_f hb28 h
    refine zai (zaf (za1 (za0 (oq_ (q_up rfl rfl (hr18.up hm19)) (oq_ (za2 rfl) (o_end (zal ys16.length (ys16, l11, i14 + 1, A12, c13) (by rw [← hk24]; exact Nat.lt_succ_self _) ⟨hr18.step, rfl, h⟩ ⟨rfl, rfl, trivial⟩ (pk_ [1, 2]) ?_)))))))
    exact of_

def impl_SlidingPlan.l0 (i57 : Int) (i60 : Int) : Nat → (List SStep) → Int → (List (Int × Int)) → Option ((List SStep) × (List (Int × Int)))
 | 0, _, _, _ => none
 | k71 + 1, l64, i67, m68 => if i67 ≤ i57 then ((mget m68 (w64 (i67 - 2))).bind fun i80 => (impl_maker_multiply.f 1 l64 [] i80 i60).bind fun (i83, l84) => (mput m68 i67 i83).bind fun m87 => impl_SlidingPlan.l0 i57 i60 k71 l84 (w64 (i67 + 2)) m87) else (some (l64, m68))
def impl_SlidingPlan.l1 (m50 : List (Int × Int)) : (List Swindow) → (List SStep) → Int → Int → Option ((List SStep) × Int)
 | [], l102, i105, i106 => some (l102, i105)
 | y107 :: ys108, l102, i105, i106 => (impl_maker_squared.f 1 l102 [] i105 y107.f1).bind fun (i143, l144) => if 0 < y107.f0 then ((mget m50 y107.f0).bind fun i148 => (impl_maker_multiply.f 1 l144 [] i143 i148).bind fun (i151, l152) => impl_SlidingPlan.l1 m50 ys108 l152 i151 (i106 + 1)) else (impl_SlidingPlan.l1 m50 ys108 l144 i143 (i106 + 1))
def impl_SlidingPlan.f (k : Nat) (a0 : Int) (a1 : Int) : Option (Int × (List SStep) × (List Int) × Bool) := (impl_WindowsOf.f k a0 a1).bind fun (l4, b5) => if b5 = true then ((impl_newMaker.f 1).bind fun _ => (mput ([] : List (Int × Int)) 1 0).bind fun m12 => ((slices_Max_int_int.f k l4).bind fun i57 => if 3 ≤ i57 then ((impl_maker_multiply.f 1 [] [] 0 0).bind fun (i60, l61) => (impl_SlidingPlan.l0 i57 i60 k l61 3 m12).bind fun (l64, m68) => some (l64, m68)) else (some ([], m12))).bind fun (l47, m50) => (impl_windows.f k a0 a1).bind fun l91 => (gt l91 0).bind fun y96 => (mget m50 y96.f0).bind fun i97 => (ct l91 (1 : Int) (l91.length : Int)).bind fun l99 => (impl_SlidingPlan.l1 m50 l99 l47 i97 0).bind fun (l102, i105) => (impl_maker_plan.f 1 l102 [] ([i105] : List Int)).bind fun _ => (impl_Plan_trimmed.f 1 l102 ([i105] : List Int)).bind fun (l124, l125) => (impl_told.f k 1 l124 l125).bind fun (i131, l132, l133, b134) => some (i131, l132, l133, b134)) else (some (0, ([] : List SStep), ([] : List Int), false))
theorem impl_SlidingPlan.calls (k : Nat) {w0 ws : World} {P0 : Nat → Prop} (a0 : Int) (a1 : Int) (Z : Below w0.heap.size w0 ws) (hF : Fr w0 ws P0 [] ws)  (r_1 : Int) (r_2 : List SStep) (r_5 : List Int) (r_8 : Bool) (h : impl_SlidingPlan.f k a0 a1 = some (r_1, r_2, r_5, r_8)) :
  Calls Try.prog 16 #[.int .i64 a0, .int .i64 a1] ws (Post1 w0 ws P0 (fun ((q_3, q_4, q_6, q_7) : (Option Addr) × Nat × (Option Addr) × Nat) => .tuple #[.agg #[.int .i64 r_1, .slice q_3 r_2.length q_4, .slice q_6 r_5.length q_7], .bool r_8]) (fun ((q_3, q_4, q_6, q_7) : (Option Addr) × Nat × (Option Addr) × Nat) => [row kStep 107 (.slice q_3 r_2.length q_4) r_2, row (Kd.int .i64) 3 (.slice q_6 r_5.length q_7) r_5])) := by
 unfold impl_SlidingPlan.f at h
 refine enter Try.func16 rfl Try.ntmps16 rfl hF (c_seq (za0 (o_e rfl (zab V25 rfl) (fun g1 => oq_ (q_asg rfl) (o_end (za1 (c_seq (za0 (oq_ (za2 rfl) ?_)))))))))
 refine oq_ (za2 rfl) (bindE2 h (fun l4 b5 hx3 h => ?_) rfl)
 refine o_e rfl (za5 0 Z Try.func26 N26 rfl rfl rfl (fun w P1 hF hB hS hT => impl_WindowsOf.calls k a0 a1 hB hF _ _ hx3)) (cur2 (fun A6 c7 => oq_ (za2 rfl) (oq_ (q_ext rfl rfl) (oq_ (q_ext rfl rfl) (oq_ (q_asg rfl) (oq_ (q_asg rfl) (o_end (za1 (c_seq (c_seq ?_))))))))))
 refine za0 (oq_ (za2 rfl) (oq_ (q_not rfl) (o_end (za1 (zan _ rfl (fun hb8 => ?_) (fun hb8 => ?_))))))
 ·replace hb8 := nt_t hb8
  replace h := bb_f hb8 h
  refine c_seq (za0 (oq_ (q_build (vs := []) (cs := [.int .i64 0, .slice none 0 0, .slice none 0 0]) rfl rfl) (o_e rfl (zac (i := 1) rfl rfl rfl Z25 rfl rfl) (fun _ => oq_ (q_asg rfl) (o_end (za1 (c_ret (zaa (x_nil kStep 107 ?_)))))))))
  refine x_nil (Kd.int .i64) 3 ?_
  have e0_ := si_ h; clear h
  obtain ⟨rfl, e1_⟩ := Prod.mk.inj e0_
  obtain ⟨rfl, e2_⟩ := Prod.mk.inj e1_
  obtain ⟨rfl, e3_⟩ := Prod.mk.inj e2_
  subst e3_
  exact x_r2 (none, 0, none, 0) Try.results16 (zb0 rfl G25 Z25 (bx_ 3 rfl) rfl) (zad rfl) rfl (pk_ [1, 0])
 ·replace hb8 := nt_f hb8
  replace h := bb_t hb8 h
  refine zai (za1 (c_seq (za0 (za6 h (fun _ hx9 h => ?_) rfl))))
  refine o_e rfl (za5 0 Z Try.func54 N54 rfl rfl rfl (fun w P1 hF hB hS hT => impl_newMaker.calls 1 hB hF hx9)) (fun c10 => o_mkMap (k := 3) (e := 3) Cv.refl (fun b11 ws P0 hb_ hb0_ Z GM cv => za6 h (fun m12 hp13 h => ?_) rfl))
  refine o_mapUpd Try.underlying72 Try.underlying3 Try.underlying3 (.inr rfl) rfl rfl rfl hp13 Z GM cv hb_ hb0_ (fun ws P0 Z GM cv => oq_ (za2 rfl) (oq_ (q_asg rfl) (oq_ (q_asg rfl) (o_end (za1 (za6 h (fun o51 hl52 hR53 => ?_) rfl))))))
  clear h
  refine c_cutM (k := 3) (e := 3) (b := b11) (σ := (List SStep) × (List (Int × Int)) × (Option Addr) × Nat) (fun (l47, m50, A48, c49) => some (l47, m50) = some o51) [10, 11, 12, 30, 31, 32, 33, 34, 35, 36, 37, 38, 39, 40, 41, 42, 43, 44, 45, 46, 47, 48, 49] (fun (l47, m50, A48, c49) => []) (fun (l47, m50, A48, c49) => [box g1 25 #[.int .i64 0, .slice none 0 0, .slice none 0 0], box c10 94 #[.int .i64 1, .slice A48 l47.length c49, .slice none 0 0], row kStep 107 (.slice A48 l47.length c49) l47, row (Kd.int .i64) 3 (.slice none 0 0) [], row (Kd.int .i64) 3 (.slice A6 l4.length c7) l4]) (fun (l47, m50, A48, c49) => m50) cv ?_ ?_
  ·have h := hl52; clear hl52
   clear hR53
   refine c_seq (za0 (oq_ (za2 rfl) (za6 h (fun i57 hx56 h => ?_) rfl)))
   refine o_e rfl (za5 0 Z Try.func56 N56 rfl rfl rfl (fun w P1 hF hB hS hT => slices_Max_int_int.calls k A6 c7 l4.length l4 hB hF (hT 3 _ rfl).row (hT 3 _ rfl).cap _ hx56)) (fun _ => oq_ (q_asg rfl) (o_end (za1 (c_seq (za0 (oq_ (za2 rfl) (oq_ (q_geq rfl rfl) (o_end (za1 ?_)))))))))
   refine zan _ rfl (fun hb58 => ?_) (fun hb58 => ?_)
   ·replace h := br_t hb58 h
    refine c_seq (za0 (oq_ (za2 rfl) (bindE2 h (fun i60 l61 hx59 h => ?_) rfl)))
    refine o_e rfl (za5 2 Z Try.func57 N57 rfl rfl rfl (fun w P1 hF hB hS hT => impl_maker_multiply.calls c10 1 none 0 0 [] none 0 0 [] 0 0 hB hF (hT 0 _ rfl).row (hT 0 _ rfl).cap _ _ hx59)) (cur2 (fun A62 c63 => oq_ (q_asg rfl) (o_end (za1 (c_seq (za0 (oq_ (q_asg rfl) (o_end (za1 (zae ?_))))))))))
    refine za6 h (fun o76 hl75 hR74 => ?_) rfl
    clear h
    refine c_loopM (k := 3) (e := 3) (b := b11) (σ := (List SStep) × Int × (List (Int × Int)) × (Option Addr) × Nat) (fun k71 ((l64, i67, m68, A65, c66) : (List SStep) × Int × (List (Int × Int)) × (Option Addr) × Nat) => impl_SlidingPlan.l0 i57 i60 k71 l64 i67 m68 = some o76) [12, 36, 37, 38, 39, 40, 41, 42, 43, 44, 45, 46, 47, 48, 49] (fun ((l64, i67, m68, A65, c66) : (List SStep) × Int × (List (Int × Int)) × (Option Addr) × Nat) => [(12, .int .i64 i67)]) (fun ((l64, i67, m68, A65, c66) : (List SStep) × Int × (List (Int × Int)) × (Option Addr) × Nat) => [box c10 94 #[.int .i64 1, .slice A65 l64.length c66, .slice none 0 0], row kStep 107 (.slice A65 l64.length c66) l64, row (Kd.int .i64) 3 (.slice none 0 0) [], row (Kd.int .i64) 3 (.slice A6 l4.length c7) l4, box g1 25 #[.int .i64 0, .slice none 0 0, .slice none 0 0]]) (fun ((l64, i67, m68, A65, c66) : (List SStep) × Int × (List (Int × Int)) × (Option Addr) × Nat) => m68) k (l61, 3, m12, A62, c63) hl75 ⟨rfl, trivial⟩ (fun w h => h) Z GM cv (natC (cur5 (fun l64 i67 m68 A65 c66 => fun U77 hJ_ ws P0 Z GM cv => ?_)) (fun k71 => (cur5 (fun l64 i67 m68 A65 c66 => fun U77 hJ_ ws P0 Z GM cv => ?_))))
    ·replace hJ_ : impl_SlidingPlan.l0 i57 i60 0 l64 i67 m68 = some o76 := hJ_
     rw [impl_SlidingPlan.l0] at hJ_
     exact noneE hJ_
    ·clear hl75
     have h := hJ_; clear hJ_
     replace h : impl_SlidingPlan.l0 i57 i60 (k71 + 1) l64 i67 m68 = some o76 := h
     rw [impl_SlidingPlan.l0] at h
     refine c_seq (c_seq (za0 (oq_ (za2 rfl) (oq_ (za2 rfl) (oq_ (q_leq rfl rfl) (o_end (za1 (zan _ rfl (fun hb79 => ?_) (fun hb79 => ?_)))))))))
     ·replace h := br_t hb79 h
      refine zai (za1 (c_seq (zae (za0 (oq_ (za2 rfl) (oq_ (za2 rfl) (oq_ (za2 rfl) (oq_ (za2 rfl) (oq_ (za2 rfl) ?_)))))))))
      refine oq_ (zat rfl rfl) (za6 h (fun i80 hp81 h => ?_) rfl)
      refine oq_ (q_look Try.underlying72 Try.underlying3 Try.underlying3 V3 rfl rfl hp81 Z GM) (oq_ (za2 rfl) (bindE2 h (fun i83 l84 hx82 h => ?_) rfl))
      refine o_e rfl (za5 2 Z Try.func57 N57 rfl rfl rfl (fun w P1 hF hB hS hT => impl_maker_multiply.calls c10 1 A65 c66 l64.length l64 none 0 0 [] i80 i60 hB hF (hT 0 _ rfl).row (hT 0 _ rfl).cap _ _ hx82)) (cur2 (fun A85 c86 => za6 h (fun m87 hp88 h => ?_) rfl))
      refine o_mapUpd Try.underlying72 Try.underlying3 Try.underlying3 (.inl rfl) rfl rfl rfl hp88 Z GM cv hb_ hb0_ (fun ws P0 Z GM cv => o_end (zaf (za1 (za0 (oq_ (za2 rfl) (oq_ (zay rfl rfl) (oq_ (q_asg rfl) (o_end (x_roundM k71 (l84, w64 (i67 + 2), m87, A85, c86) (Nat.lt_succ_self _) h ⟨rfl, trivial⟩ (pk_ [0, 1, 2, 3, 4]) Z GM cv ?_)))))))))
      exact of_
     ·replace h := br_f hb79 h
      refine zax (za7 (za7 ?_))
      have e_ := si_ h; replace h := hR74; rw [← e_] at h; clear e_
      refine x_hit (x_meetM (l64, m68, A65, c66) h trivial (pk_ [4, 0, 1, 2, 3]) Z GM cv ?_)
      exact of_
   ·replace h := br_f hb58 h
    refine zai (x_fact (p := 0 = [].length) (fun w h => (h.row_C (i := 1) rfl).2.1) (fun hn89 => x_meetM ([], m12, none, 0) h trivial (f_pickE (L1 := [box c10 94 #[.int .i64 1, .slice none 0 0, .slice none 0 0], row kStep 107 (.slice none 0 0) [], row (Kd.int .i64) 3 (.slice none 0 0) [], row (Kd.int .i64) 3 (.slice A6 l4.length c7) l4, box g1 25 #[.int .i64 0, .slice none 0 0, .slice none 0 0]]) rfl [4, 0, 1, 2, 3] dc_ rfl (by (try rw [hn89]); first | done | rfl)) Z GM cv ?_))
    exact of_
  ·refine (cur4 (fun l47 m50 A48 c49 => fun U54 hJ55 ws P0 Z GM cv => ?_))
   have e_ := si_ hJ55; have h := hR53; rw [← e_] at h; clear e_ hJ55 hR53 hl52
   refine c_seq (za0 (oq_ (za2 rfl) (oq_ (za2 rfl) (za6 h (fun l91 hx90 h => ?_) rfl))))
   refine o_e rfl (za5 0 Z Try.func67 N67 rfl rfl rfl (fun w P1 hF hB hS hT => impl_windows.calls k a0 a1 hB hF _ hx90)) (cur2 (fun A92 c93 => oq_ (q_asg rfl) (o_end (za1 (c_seq (za0 (oq_ (za2 rfl) (oq_ (za2 rfl) (zaw (p := Sh A92 l91.length l91.length) (fun w h => f_sh (dk := kwindow) h (rc_ 0 rfl)) (fun hq94 => za6 h (fun y96 hg95 h => ?_) rfl))))))))))
   refine oq_ (q_ix Try.underlying73 Z76 rfl rfl hq94 hg95) (oq_ (q_fe F76_0 rfl) (oq_ (q_lde (off := 0) Y3 rfl rfl (rc_ 0 rfl) hg95 (fun _ _ h => h) rfl) (za6 h (fun i97 hp98 h => ?_) rfl)))
   refine oq_ (q_look Try.underlying72 Try.underlying3 Try.underlying3 V3 rfl rfl hp98 Z GM) (oq_ (q_asg rfl) (o_end (za1 (c_seq (c_seq (za0 (oq_ (za2 rfl) (za6 h (fun l99 hz100 h => ?_) rfl))))))))
   refine zaw (p := l91.length = l91.length ∧ l91.length ≤ c93) (fun w h => h.row_nc (i := 0) rfl) (fun hk101 => oq_ (q_ctv Try.underlying73 Z76 rfl ⟨_, rfl⟩ rfl hk101.1 hk101.2 hz100) (oq_ (q_len Try.underlying73 rfl) (oq_ (za2 rfl) (o_end (za1 (zae (za6 h (fun o114 hl113 hR112 => ?_) rfl)))))))
   clear h
   refine c_fact (p := l99.length ≤ 9223372036854775807) (fun w h => (C_cut (dk := kwindow) rfl hz100 hk101.2 (h.row_Cn (i := 0) rfl)).2.1) (fun hm111 => zas (σ := (List Swindow) × (List SStep) × Int × Int × (Option Addr) × Nat) (fun k109 ((ys108, l102, i105, i106, A103, c104) : (List Swindow) × (List SStep) × Int × Int × (Option Addr) × Nat) => Rg l99 i106 ys108 ∧ ys108.length = k109 ∧ impl_SlidingPlan.l1 m50 ys108 l102 i105 i106 = some o114) [14, 16, 62, 63, 64, 65, 66, 67, 68, 69, 70, 71, 72, 73, 74, 75, 76, 77, 78, 79, 80, 81] (fun ((ys108, l102, i105, i106, A103, c104) : (List Swindow) × (List SStep) × Int × Int × (Option Addr) × Nat) => [(14, .int .i64 i105), (62, .int .i64 i106)]) (fun ((ys108, l102, i105, i106, A103, c104) : (List Swindow) × (List SStep) × Int × Int × (Option Addr) × Nat) => [row kwindow 76 (.slice A92 l91.length c93) l91, box g1 25 #[.int .i64 0, .slice none 0 0, .slice none 0 0], box c10 94 #[.int .i64 1, .slice A103 l102.length c104, .slice none 0 0], row kStep 107 (.slice A103 l102.length c104) l102, row (Kd.int .i64) 3 (.slice none 0 0) [], row (Kd.int .i64) 3 (.slice A6 l4.length c7) l4]) l99.length (l99, l47, i97, 0, A48, c49) ⟨Rg.start _, rfl, hl113⟩ ⟨rfl, rfl, trivial⟩ (fun w h => h) (fun k109 => cur6 (listC (fun l102 i105 i106 A103 c104 U115 hJ_ => ?_) (fun y107 ys108 l102 i105 i106 A103 c104 U115 hJ_ => ?_))))
   ·clear hl113
    have hr110 := hJ_.1; have hk116 := hJ_.2.1; have h := hJ_.2.2; clear hJ_
    replace h : impl_SlidingPlan.l1 m50 [] l102 i105 i106 = some o114 := h
    rw [impl_SlidingPlan.l1] at h
    refine c_seq (za0 (oq_ (q_lss rfl rfl) (o_end (za1 (c_seq (zaz (vb_ hr110.ge) (zax (za7 (za7 ?_)))))))))
    have e_ := si_ h; replace h := hR112; rw [← e_] at h; clear e_
    refine x_hit (za1 (c_seq (za0 (oq_ (za2 rfl) (oq_ (za2 rfl) (o_e rfl (e_lit (vs := [(0, .int .i64 i105)]) (cs := [.int .i64 i105]) (Kd.int .i64) ([i105] : List Int) Try.underlying23 I3 dc_ rfl dc_ rfl rfl (fun _ _ => Kd.za8 _)) (cur2 (fun A117 c118 => o_pick [3, 4, 0, 1, 2, 5, 6] dc_ rfl (za6 h (fun _ hx120 h => ?_) rfl)))))))))
    refine o_e rfl (za5 3 Z Try.func60 N60 rfl rfl rfl (fun w P1 hF hB hS hT => impl_maker_plan.calls c10 1 A103 c104 l102.length l102 none 0 0 [] A117 c118 (([i105] : List Int).length) ([i105] : List Int) hB hF (hT 2 _ rfl).row (hT 2 _ rfl).cap hx120)) (fun _ => o_e rfl (zab V25 rfl) (fun g121 => o_e rfl (zac (i := 0) rfl rfl rfl Z25 rfl rfl) (fun _ => o_end (za1 (c_seq (za0 (bindE2 h (fun l124 l125 hx123 h => ?_) rfl)))))))
    refine o_e rfl (za5 0 Z Try.func62 N62 rfl rfl rfl (fun w P1 hF hB hS hT => impl_Plan_trimmed.calls g121 1 A103 c104 l102.length l102 A117 c118 (([i105] : List Int).length) ([i105] : List Int) hB hF (hT 1 _ rfl).row (hT 1 _ rfl).cap (hT 2 _ rfl).row (hT 2 _ rfl).cap (hT 0 _ rfl).box _ _ hx123)) (cur4 (fun A126 c127 A128 c129 => bindE4 h (fun i131 l132 l133 b134 hx130 h => ?_) rfl))
    refine o_e rfl (za5 2 Z Try.func61 N61 rfl rfl rfl (fun w P1 hF hB hS hT => impl_told.calls k 1 A126 c127 l124.length l124 A128 c129 l125.length l125 hB hF _ _ _ _ hx130)) (cur4 (fun A135 c136 A137 c138 => oq_ (q_ext rfl rfl) (oq_ (q_ext rfl rfl) (o_e rfl (zac (i := 7) rfl rfl rfl Z25 rfl rfl) (fun _ => oq_ (q_asg rfl) (o_end (za1 (c_ret (x_cv cv ?_)))))))))
    have e0_ := si_ h; clear h
    obtain ⟨rfl, e1_⟩ := Prod.mk.inj e0_
    obtain ⟨rfl, e2_⟩ := Prod.mk.inj e1_
    obtain ⟨rfl, e3_⟩ := Prod.mk.inj e2_
    subst e3_
    exact x_r2 (A135, c136, A137, c138) Try.results16 (zb0 rfl G25 Z25 (bx_ 7 rfl) rfl) (zad rfl) rfl (pk_ [0, 1])
   ·clear hl113
    have hr110 := hJ_.1; have hk116 := hJ_.2.1; have h := hJ_.2.2; clear hJ_
    replace h : impl_SlidingPlan.l1 m50 (y107 :: ys108) l102 i105 i106 = some o114 := h
    rw [impl_SlidingPlan.l1] at h
    refine c_seq (za0 (oq_ (q_lss rfl rfl) (o_end (za1 (c_seq (zar (vb_ hr110.lt) (zai (za1 (c_seq ?_)))))))))
    refine zae (c_seq (za0 (zaw (p := Sh (cutA A92 c93 (1 : Int).toNat 2) l99.length l99.length) (fun w h => f_sh (dk := kwindow) h (fun w h => C_cut (dk := kwindow) rfl hz100 hk101.2 (h.row_Cn (i := 0) rfl))) (fun hq139 => oq_ (q_ix Try.underlying73 Z76 rfl rfl hq139 hr110.get) (oq_ (q_ldE G76 Z76 rfl rfl (fun w h => C_cut (dk := kwindow) rfl hz100 hk101.2 (h.row_Cn (i := 0) rfl)) hr110.get (fun _ _ h => h) rfl) (o_e rfl (zab V76 rfl) (fun g140 => o_e rfl (zac (i := 0) rfl rfl rfl Z76 rfl rfl) (fun _ => o_end (za1 ?_)))))))))
    refine c_seq (za0 (oq_ (za2 rfl) (oq_ (za2 rfl) (oq_ (q_f F76_1 rfl) (oq_ (q_ldb Y3 rfl (bx_ 0 rfl) rfl) (o_pick [3, 4, 0, 1, 2, 5, 6] dc_ rfl (bindE2 h (fun i143 l144 hx142 h => ?_) rfl)))))))
    refine o_e rfl (za5 2 Z Try.func59 N59 rfl rfl rfl (fun w P1 hF hB hS hT => impl_maker_squared.calls c10 1 A103 c104 l102.length l102 none 0 0 [] i105 y107.f1 hB hF (hT 3 _ rfl).row (hT 3 _ rfl).cap _ _ hx142)) (cur2 (fun A145 c146 => oq_ (q_asg rfl) (o_end (za1 (c_seq (za0 (oq_ (q_f F76_0 rfl) (oq_ (q_ldb Y3 rfl (bx_ 2 rfl) rfl) (oq_ (q_gtr rfl rfl) (o_end ?_))))))))))
    refine za1 (zan _ rfl (fun hb147 => ?_) (fun hb147 => ?_))
    ·replace h := br_t hb147 h
     refine za0 (oq_ (za2 rfl) (oq_ (za2 rfl) (oq_ (za2 rfl) (oq_ (q_f F76_0 rfl) (oq_ (q_ldb Y3 rfl (bx_ 2 rfl) rfl) (za6 h (fun i148 hp149 h => ?_) rfl))))))
     refine oq_ (q_look Try.underlying72 Try.underlying3 Try.underlying3 V3 rfl rfl hp149 Z GM) (bindE2 h (fun i151 l152 hx150 h => ?_) rfl)
     refine o_e rfl (za5 2 Z Try.func57 N57 rfl rfl rfl (fun w P1 hF hB hS hT => impl_maker_multiply.calls c10 1 A145 c146 l144.length l144 none 0 0 [] i143 i148 hB hF (hT 3 _ rfl).row (hT 3 _ rfl).cap _ _ hx150)) (cur2 (fun A153 c154 => oq_ (q_asg rfl) (o_end (zaf (za1 (za0 (oq_ (q_up rfl rfl (hr110.up hm111)) (oq_ (za2 rfl) (o_end (zal ys108.length (ys108, l152, i151, i106 + 1, A153, c154) (by rw [← hk116]; exact Nat.lt_succ_self _) ⟨hr110.step, rfl, h⟩ ⟨rfl, rfl, trivial⟩ (pk_ [3, 4, 0, 1, 5, 6]) ?_))))))))))
     exact of_
    ·replace h := br_f hb147 h
     refine zai (zaf (za1 (za0 (oq_ (q_up rfl rfl (hr110.up hm111)) (oq_ (za2 rfl) (o_end (zal ys108.length (ys108, l144, i143, i106 + 1, A145, c146) (by rw [← hk116]; exact Nat.lt_succ_self _) ⟨hr110.step, rfl, h⟩ ⟨rfl, rfl, trivial⟩ (pk_ [3, 4, 0, 1, 5, 6]) ?_)))))))
     exact of_

def impl_leastFactor.l0 (a0 : Int) : Nat → Int → Option ((Int) ⊕ (Unit))
 | 0, _ => none
 | k4 + 1, i1 => if w64 (i1 * i1) ≤ a0 then ((nz i1).bind fun _ => if a0.tmod i1 = 0 then (some (.inl i1)) else (impl_leastFactor.l0 a0 k4 (w64 (i1 + 1)))) else (some (.inr ()))
def impl_leastFactor.f (k : Nat) (a0 : Int) : Option Int := (impl_leastFactor.l0 a0 k 2).bind fun o_ => match o_ with | .inl r_ => some r_ | .inr _ => some a0
theorem impl_leastFactor.calls (k : Nat) {w0 ws : World} {P0 : Nat → Prop} (a0 : Int) (Z : Below w0.heap.size w0 ws) (hF : Fr w0 ws P0 [] ws)  (r_1 : Int) (h : impl_leastFactor.f k a0 = some r_1) :
  Calls Try.prog 77 #[.int .i64 a0] ws (Post1 w0 ws P0 (fun (_ : Unit) => .int .i64 r_1) (fun (_ : Unit) => [])) := by
 unfold impl_leastFactor.f at h
 refine enter Try.func77 rfl Try.ntmps77 rfl hF (c_seq (za0 (oq_ (q_asg rfl) (o_end (za1 (c_seq (c_seq (za0 (oq_ (q_asg rfl) ?_)))))))))
 refine o_end (za1 (zae (za6 h (fun o9 hl8 hR7 => ?_) rfl)))
 clear h
 refine zas (σ := Int) (fun k4 (i1 : Int) => impl_leastFactor.l0 a0 k4 i1 = some o9) [2, 3, 4, 5, 6, 7, 8, 9, 10, 11, 12, 13, 14, 15] (fun (i1 : Int) => [(3, .int .i64 i1)]) (fun (i1 : Int) => []) k 2 hl8 ⟨rfl, trivial⟩ (fun w h => h) (natC (fun i1 => fun U10 hJ_ => ?_) (fun k4 => (fun i1 => fun U10 hJ_ => ?_)))
 ·replace hJ_ : impl_leastFactor.l0 a0 0 i1 = some o9 := hJ_
  rw [impl_leastFactor.l0] at hJ_
  exact noneE hJ_
 ·clear hl8
  have h := hJ_; clear hJ_
  replace h : impl_leastFactor.l0 a0 (k4 + 1) i1 = some o9 := h
  rw [impl_leastFactor.l0] at h
  refine c_seq (c_seq (za0 (oq_ (za2 rfl) (oq_ (za2 rfl) (oq_ (q_mul64 rfl rfl) (oq_ (za2 rfl) (oq_ (q_leq rfl rfl) (o_end (za1 ?_)))))))))
  refine zan _ rfl (fun hb12 => ?_) (fun hb12 => ?_)
  ·replace h := br_t hb12 h
   refine zai (za1 (c_seq (zae (c_seq (za0 (oq_ (za2 rfl) (oq_ (za2 rfl) (za6 h (fun _ hz13 h => ?_) rfl))))))))
   refine oq_ (q_rem rfl rfl (nz_ne hz13)) (oq_ (q_eql rfl rfl) (o_end (za1 (zan _ rfl (fun hb14 => ?_) (fun hb14 => ?_)))))
   ·replace h := br_t hb14 h
    refine c_seq (za0 (oq_ (za2 rfl) (oq_ (q_asg rfl) (o_end (za1 (c_ret (zao (zaa (zaa ?_)))))))))
    have e_ := si_ h; replace h := hR7; rw [← e_] at h; clear e_
    refine zao (zaa ?_)
    have e0_ := si_ h; clear h
    subst e0_
    exact x_r1 () Try.results77 (zad rfl) rfl (pk_ [])
   ·replace h := br_f hb14 h
    refine zai (zaf (za1 (za0 (oq_ (za2 rfl) (oq_ (zay rfl rfl) (oq_ (q_asg rfl) (o_end (zal k4 (w64 (i1 + 1)) (Nat.lt_succ_self _) h ⟨rfl, trivial⟩ (pk_ []) ?_))))))))
    exact of_
  ·replace h := br_f hb12 h
   refine zax (za7 (za7 ?_))
   have e_ := si_ h; replace h := hR7; rw [← e_] at h; clear e_
   refine x_hit (za1 (c_seq (za0 (oq_ (za2 rfl) (oq_ (q_asg rfl) (o_end (za1 (c_ret ?_))))))))
   have e0_ := si_ h; clear h
   subst e0_
   exact x_r1 () Try.results77 (zad rfl) rfl (pk_ [])

def slices_Clone_impl_Step_impl_Step.f (l0 : List SStep) : Option (List SStep) := (ap ([] : List SStep) l0).bind fun l5 => some l5
theorem slices_Clone_impl_Step_impl_Step.calls {w0 ws : World} {P0 : Nat → Prop} (A0 : Option Addr) (c0 : Nat) (n0 : Nat) (l0 : List SStep) (Z : Below w0.heap.size w0 ws) (hF : Fr w0 ws P0 [] ws) (R0 : Stable ws P0 (fun w => Kd.C kStep w A0 n0 l0)) (hc0 : n0 ≤ c0) (r_1 : List SStep) (h : slices_Clone_impl_Step_impl_Step.f l0 = some r_1) :
  Calls Try.prog 128 #[.slice A0 n0 c0] ws (Post1 w0 ws P0 (fun ((q_2, q_3) : (Option Addr) × Nat) => .slice q_2 r_1.length q_3) (fun ((q_2, q_3) : (Option Addr) × Nat) => [row kStep 107 (.slice q_2 r_1.length q_3) r_1])) := by
 unfold slices_Clone_impl_Step_impl_Step.f at h
 obtain rfl := (R0 ws (KeptB.refl _ _)).1
 refine enter Try.func128 rfl Try.ntmps128 rfl hF (c_seq (za0 (oq_ (q_asg rfl) (o_end (za1 (c_seq (c_seq (za0 (oq_ (za2 rfl) ?_)))))))))
 refine oq_ (q_snil Try.underlying22 rfl rfl) (o_end (za1 (zan _ rfl (fun hb1 => ?_) (fun hb1 => ?_))))
 ·have hl_ := nil_of hb1 (R0 ws (KeptB.refl _ _)); subst hl_
  replace h : some ([] : List SStep) = some r_1 := h
  refine c_seq (za0 (oq_ (q_asg rfl) (o_end (za1 (c_ret (zaa (x_nil kStep 107 ?_)))))))
  have e0_ := si_ h; clear h
  subst e0_
  exact x_r1 (none, 0) Try.results128 (zad rfl) rfl (pk_ [0])
 ·refine zai (za1 (c_seq (za0 (o_e rfl (e_lit0 kStep Try.underlying22 I107) (cur2 (fun A2 c3 => oq_ (za2 rfl) (za6 h (fun l5 ha6 h => ?_) rfl)))))))
  refine o_e rfl (e_appr (i := 0) Try.underlying22 I107 rfl dc_ dc_ (fun _ _ _ _ h => h) rfl (fun w h => R0.now Z h) rfl rfl ha6) (cur2 (fun A7 c8 => oq_ (q_asg rfl) (o_end (za1 (c_ret ?_)))))
  have e0_ := si_ h; clear h
  subst e0_
  exact x_r1 (A7, c8) Try.results128 (zad rfl) rfl (pk_ [0])

def slices_Clone_int_int.f (l0 : List Int) : Option (List Int) := (ap ([] : List Int) l0).bind fun l5 => some l5
theorem slices_Clone_int_int.calls {w0 ws : World} {P0 : Nat → Prop} (A0 : Option Addr) (c0 : Nat) (n0 : Nat) (l0 : List Int) (Z : Below w0.heap.size w0 ws) (hF : Fr w0 ws P0 [] ws) (R0 : Stable ws P0 (fun w => Kd.C (Kd.int .i64) w A0 n0 l0)) (hc0 : n0 ≤ c0) (r_1 : List Int) (h : slices_Clone_int_int.f l0 = some r_1) :
  Calls Try.prog 95 #[.slice A0 n0 c0] ws (Post1 w0 ws P0 (fun ((q_2, q_3) : (Option Addr) × Nat) => .slice q_2 r_1.length q_3) (fun ((q_2, q_3) : (Option Addr) × Nat) => [row (Kd.int .i64) 3 (.slice q_2 r_1.length q_3) r_1])) := by
 unfold slices_Clone_int_int.f at h
 obtain rfl := (R0 ws (KeptB.refl _ _)).1
 refine enter Try.func95 rfl Try.ntmps95 rfl hF (c_seq (za0 (oq_ (q_asg rfl) (o_end (za1 (c_seq (c_seq (za0 (oq_ (za2 rfl) ?_)))))))))
 refine oq_ (q_snil Try.underlying23 rfl rfl) (o_end (za1 (zan _ rfl (fun hb1 => ?_) (fun hb1 => ?_))))
 ·have hl_ := nil_of hb1 (R0 ws (KeptB.refl _ _)); subst hl_
  replace h : some ([] : List Int) = some r_1 := h
  refine c_seq (za0 (oq_ (q_asg rfl) (o_end (za1 (c_ret (zaa (x_nil (Kd.int .i64) 3 ?_)))))))
  have e0_ := si_ h; clear h
  subst e0_
  exact x_r1 (none, 0) Try.results95 (zad rfl) rfl (pk_ [0])
 ·refine zai (za1 (c_seq (za0 (o_e rfl (e_lit0 (Kd.int .i64) Try.underlying23 I3) (cur2 (fun A2 c3 => oq_ (za2 rfl) (za6 h (fun l5 ha6 h => ?_) rfl)))))))
  refine o_e rfl (e_appr (i := 0) Try.underlying23 I3 rfl dc_ dc_ (fun _ _ _ _ h => h) rfl (fun w h => R0.now Z h) rfl rfl ha6) (cur2 (fun A7 c8 => oq_ (q_asg rfl) (o_end (za1 (c_ret ?_)))))
  have e0_ := si_ h; clear h
  subst e0_
  exact x_r1 (A7, c8) Try.results95 (zad rfl) rfl (pk_ [0])

def impl_clonePlan.f (a0_0 : Int) (l0_1 : List SStep) (l0_2 : List Int) : Option ((List SStep) × (List Int)) := (slices_Clone_impl_Step_impl_Step.f l0_1).bind fun l6 => (slices_Clone_int_int.f l0_2).bind fun l10 => some (l6, l10)
theorem impl_clonePlan.calls {w0 ws : World} {P0 : Nat → Prop} (a0_0 : Int) (A0_1 : Option Addr) (c0_1 : Nat) (n0_1 : Nat) (l0_1 : List SStep) (A0_2 : Option Addr) (c0_2 : Nat) (n0_2 : Nat) (l0_2 : List Int) (Z : Below w0.heap.size w0 ws) (hF : Fr w0 ws P0 [] ws) (R0_1 : Stable ws P0 (fun w => Kd.C kStep w A0_1 n0_1 l0_1)) (hc0_1 : n0_1 ≤ c0_1) (R0_2 : Stable ws P0 (fun w => Kd.C (Kd.int .i64) w A0_2 n0_2 l0_2)) (hc0_2 : n0_2 ≤ c0_2) (r_1 : List SStep) (r_4 : List Int) (h : impl_clonePlan.f a0_0 l0_1 l0_2 = some (r_1, r_4)) :
  Calls Try.prog 79 #[.agg #[.int .i64 a0_0, .slice A0_1 n0_1 c0_1, .slice A0_2 n0_2 c0_2]] ws (Post1 w0 ws P0 (fun ((q_2, q_3, q_5, q_6) : (Option Addr) × Nat × (Option Addr) × Nat) => .agg #[.int .i64 a0_0, .slice q_2 r_1.length q_3, .slice q_5 r_4.length q_6]) (fun ((q_2, q_3, q_5, q_6) : (Option Addr) × Nat × (Option Addr) × Nat) => [row kStep 107 (.slice q_2 r_1.length q_3) r_1, row (Kd.int .i64) 3 (.slice q_5 r_4.length q_6) r_4])) := by
 unfold impl_clonePlan.f at h
 obtain rfl := (R0_1 ws (KeptB.refl _ _)).1
 obtain rfl := (R0_2 ws (KeptB.refl _ _)).1
 refine enter Try.func79 rfl Try.ntmps79 rfl hF (c_seq (za0 (o_e rfl (e_box rfl) (fun g1 => o_e rfl (zab V25 rfl) (fun g3 => o_end (za1 (c_seq (a_startS (ds := []) [none, some 1] MO rfl (ap_ 0 rfl (q_f F25_0 rfl) ?_)))))))))
 refine at_2 1 rfl (sm_ [none, some 1]) (q_ldb Y3 rfl (bx_ 1 rfl) rfl) (ap_ 2 rfl (q_f F25_1 rfl) (at_2 3 rfl (sm_ [none, some 1]) (q_ldb Y22 rfl (bx_ 1 rfl) rfl) (ap_ 5 rfl (q_f F25_2 rfl) (at_2 6 rfl (sm_ [none, some 1]) (q_ldb Y23 rfl (bx_ 1 rfl) rfl) (za6 h (fun l6 hx5 h => ?_) rfl)))))
 refine a1_ 4 rfl (za5 0 Z Try.func128 N128 rfl rfl rfl (fun w P1 hF hB hS hT => slices_Clone_impl_Step_impl_Step.calls A0_1 c0_1 l0_1.length l0_1 hB hF (hS _ R0_1) hc0_1 _ hx5)) (sl_ [none, some 2]) (cur2 (fun A7 c8 => za6 h (fun l10 hx9 h => ?_) rfl))
 refine a1_ 7 rfl (za5 0 Z Try.func95 N95 rfl rfl rfl (fun w P1 hF hB hS hT => slices_Clone_int_int.calls A0_2 c0_2 l0_2.length l0_2 hB hF (hS _ R0_2) hc0_2 _ hx9)) (sl_ [none, some 3]) (cur2 (fun A11 c12 => ap_ 8 rfl (q_build (vs := [(0, .int .i64 a0_0), (1, .slice A7 l6.length c8), (2, .slice A11 l10.length c12)]) (cs := [.int .i64 a0_0, .slice A7 l6.length c8, .slice A11 l10.length c12]) rfl rfl) (a1_ 9 rfl (zac (i := 2) rfl rfl rfl Z25 rfl rfl) (sl_ [none, some 3]) (fun _ => zaj kr_ (za1 (c_ret ?_))))))
 have e0_ := si_ h; clear h
 obtain ⟨rfl, e1_⟩ := Prod.mk.inj e0_
 subst e1_
 exact x_r1 (A7, c8, A11, c12) Try.results79 (zb0 rfl G25 Z25 (bx_ 2 rfl) rfl) rfl (pk_ [1, 0])

def impl_Plan_behind.l0 (a0_0 : Int) (l0_2 : List Int) : (List SStep) → (List Int) → (List SStep) → Int → Option ((List Int) × (List SStep))
 | [], l6, l9, i12 => some (l6, l9)
 | y13 :: ys14, l6, l9, i12 => (impl_Plan_many.f a0_0 l9 l0_2).bind fun _ => (ap l6 ([w64 (a0_0 + (l9.length : Int))] : List Int)).bind fun l30 => (gt l30 y13.f0).bind fun y517 => (gt l30 y13.f1).bind fun y816 => (impl_step.f y517 y816).bind fun _ => (ap l9 ([(⟨mn y517 y816, mx y517 y816⟩ : SStep)] : List SStep)).bind fun l1055 => impl_Plan_behind.l0 a0_0 l0_2 ys14 l30 l1055 (i12 + 1)
def impl_Plan_behind.f (a0_0 : Int) (l0_1 : List SStep) (l0_2 : List Int) (a1_0 : Int) (l1_1 : List SStep) (l1_2 : List Int) (l2 : List Int) : Option ((List Int) × (List SStep)) := (slices_Clone_int_int.f l2).bind fun l3 => (impl_Plan_behind.l0 a0_0 l0_2 l1_1 l3 l0_1 0).bind fun (l6, l9) => some (l6, l9)
theorem impl_Plan_behind.calls {w0 ws : World} {P0 : Nat → Prop} (g0 : Nat) (a0_0 : Int) (A0_1 : Option Addr) (c0_1 : Nat) (n0_1 : Nat) (l0_1 : List SStep) (A0_2 : Option Addr) (c0_2 : Nat) (n0_2 : Nat) (l0_2 : List Int) (g1 : Nat) (a1_0 : Int) (A1_1 : Option Addr) (c1_1 : Nat) (n1_1 : Nat) (l1_1 : List SStep) (A1_2 : Option Addr) (c1_2 : Nat) (n1_2 : Nat) (l1_2 : List Int) (A2 : Option Addr) (c2 : Nat) (n2 : Nat) (l2 : List Int) (Z : Below w0.heap.size w0 ws) (hF : Fr w0 ws P0 [box g0 25 #[.int .i64 a0_0, .slice A0_1 n0_1 c0_1, .slice A0_2 n0_2 c0_2], row kStep 107 (.slice A0_1 n0_1 c0_1) l0_1] ws) (R0_2 : Stable ws P0 (fun w => Kd.C (Kd.int .i64) w A0_2 n0_2 l0_2)) (hc0_2 : n0_2 ≤ c0_2) (R1_1 : Stable ws P0 (fun w => Kd.C kStep w A1_1 n1_1 l1_1)) (hc1_1 : n1_1 ≤ c1_1) (R1_2 : Stable ws P0 (fun w => Kd.C (Kd.int .i64) w A1_2 n1_2 l1_2)) (hc1_2 : n1_2 ≤ c1_2) (B1 : Stable ws P0 (fun w => w.heap[g1]? = some (.cells #[.int .i64 a1_0, .slice A1_1 n1_1 c1_1, .slice A1_2 n1_2 c1_2] 25 (0, 0)))) (R2 : Stable ws P0 (fun w => Kd.C (Kd.int .i64) w A2 n2 l2)) (hc2 : n2 ≤ c2) (r_1 : List Int) (r_4 : List SStep) (h : impl_Plan_behind.f a0_0 l0_1 l0_2 a1_0 l1_1 l1_2 l2 = some (r_1, r_4)) :
  Calls Try.prog 127 #[.pointer (some ⟨g0, 0, none⟩), .pointer (some ⟨g1, 0, none⟩), .slice A2 n2 c2] ws (Post1 w0 ws P0 (fun ((q_2, q_3, q_5, q_6) : (Option Addr) × Nat × (Option Addr) × Nat) => .slice q_2 r_1.length q_3) (fun ((q_2, q_3, q_5, q_6) : (Option Addr) × Nat × (Option Addr) × Nat) => [row (Kd.int .i64) 3 (.slice q_2 r_1.length q_3) r_1, box g0 25 #[.int .i64 a0_0, .slice q_5 r_4.length q_6, .slice A0_2 n0_2 c0_2], row kStep 107 (.slice q_5 r_4.length q_6) r_4])) := by
 unfold impl_Plan_behind.f at h
 obtain rfl := (hF.row_C (i := 1) rfl).2.1
 obtain rfl := (R0_2 ws (KeptB.refl _ _)).1
 obtain rfl := (R1_1 ws (KeptB.refl _ _)).1
 obtain rfl := (R1_2 ws (KeptB.refl _ _)).1
 obtain rfl := (R2 ws (KeptB.refl _ _)).1
 refine enter Try.func127 rfl Try.ntmps127 rfl hF (c_seq (za0 (oq_ (q_asg rfl) (o_end (za1 (c_seq (za0 (oq_ (za2 rfl) (za6 h (fun l3 hx1 h => ?_) rfl)))))))))
 refine o_e rfl (za5 0 Z Try.func95 N95 rfl rfl rfl (fun w P1 hF hB hS hT => slices_Clone_int_int.calls A2 c2 l2.length l2 hB hF (hS _ R2) hc2 _ hx1)) (cur2 (fun A4 c5 => oq_ (q_asg rfl) (o_end (za1 (c_seq (c_seq (za0 (oq_ (za2 rfl) (oq_ (q_nil rfl) (oq_ (q_f F25_1 rfl) ?_))))))))))
 refine oq_ (q_ldb Y22 rfl (fun w h => B1.now Z h) rfl) (oq_ (q_len Try.underlying22 rfl) (oq_ (za2 rfl) (o_end (za1 (zae (za6 h (fun o20 hl19 hR18 => ?_) rfl))))))
 clear h
 refine c_fact (p := l1_1.length ≤ 9223372036854775807) (fun w h => (R1_1.now Z h).2.1) (fun hm17 => zas (σ := (List SStep) × (List Int) × (List SStep) × Int × (Option Addr) × Nat × (Option Addr) × Nat) (fun k15 ((ys14, l6, l9, i12, A7, c8, A10, c11) : (List SStep) × (List Int) × (List SStep) × Int × (Option Addr) × Nat × (Option Addr) × Nat) => Rg l1_1 i12 ys14 ∧ ys14.length = k15 ∧ impl_Plan_behind.l0 a0_0 l0_2 ys14 l6 l9 i12 = some o20) [7, 9, 17, 18, 19, 20, 21, 22, 23, 24, 25, 26, 27, 28, 29, 30, 31, 32, 33, 34, 35, 36, 37, 38, 39, 40, 41, 42, 43, 44, 45, 46] (fun ((ys14, l6, l9, i12, A7, c8, A10, c11) : (List SStep) × (List Int) × (List SStep) × Int × (Option Addr) × Nat × (Option Addr) × Nat) => [(7, .slice A7 l6.length c8), (17, .int .i64 i12)]) (fun ((ys14, l6, l9, i12, A7, c8, A10, c11) : (List SStep) × (List Int) × (List SStep) × Int × (Option Addr) × Nat × (Option Addr) × Nat) => [row (Kd.int .i64) 3 (.slice A7 l6.length c8) l6, box g0 25 #[.int .i64 a0_0, .slice A10 l9.length c11, .slice A0_2 l0_2.length c0_2], row kStep 107 (.slice A10 l9.length c11) l9]) l1_1.length (l1_1, l3, l0_1, 0, A4, c5, A0_1, c0_1) ⟨Rg.start _, rfl, hl19⟩ ⟨rfl, rfl, trivial⟩ (fun w h => h) (fun k15 => cur8 (listC (fun l6 l9 i12 A7 c8 A10 c11 U21 hJ_ => ?_) (fun y13 ys14 l6 l9 i12 A7 c8 A10 c11 U21 hJ_ => ?_))))
 ·clear hl19
  have hr16 := hJ_.1; have hk22 := hJ_.2.1; have h := hJ_.2.2; clear hJ_
  replace h : impl_Plan_behind.l0 a0_0 l0_2 [] l6 l9 i12 = some o20 := h
  rw [impl_Plan_behind.l0] at h
  refine c_seq (za0 (oq_ (q_lss rfl rfl) (o_end (za1 (c_seq (zaz (vb_ hr16.ge) (zax (za7 (za7 ?_)))))))))
  have e_ := si_ h; replace h := hR18; rw [← e_] at h; clear e_
  refine x_hit (za1 (c_seq (za0 (oq_ (za2 rfl) (oq_ (q_asg rfl) (o_end (za1 (c_ret ?_))))))))
  have e0_ := si_ h; clear h
  obtain ⟨rfl, e1_⟩ := Prod.mk.inj e0_
  subst e1_
  exact x_r1 (A7, c8, A10, c11) Try.results127 (zad rfl) rfl (pk_ [0, 1, 2])
 ·clear hl19
  have hr16 := hJ_.1; have hk22 := hJ_.2.1; have h := hJ_.2.2; clear hJ_
  replace h : impl_Plan_behind.l0 a0_0 l0_2 (y13 :: ys14) l6 l9 i12 = some o20 := h
  rw [impl_Plan_behind.l0] at h
  refine c_seq (za0 (oq_ (q_lss rfl rfl) (o_end (za1 (c_seq (zar (vb_ hr16.lt) (zai (za1 (c_seq ?_)))))))))
  refine zae (c_seq (za0 (zaw (p := Sh A1_1 l1_1.length l1_1.length) (fun w h => f_sh (dk := kStep) h (fun w h => R1_1.now Z h)) (fun hq23 => oq_ (q_ix Try.underlying22 Z107 rfl rfl hq23 hr16.get) (oq_ (q_ldE G107 Z107 rfl rfl (fun w h => R1_1.now Z h) hr16.get (fun _ _ h => h) rfl) (o_e rfl (zab V107 rfl) (fun g24 => o_e rfl (zac (i := 0) rfl rfl rfl Z107 rfl rfl) (fun _ => o_end (za1 ?_)))))))))
  refine c_seq (za0 (oq_ (za2 rfl) (oq_ (za2 rfl) (za6 h (fun _ hx26 h => ?_) rfl))))
  refine o_e rfl (za5 0 Z Try.func115 N115 rfl rfl rfl (fun w P1 hF hB hS hT => impl_Plan_many.calls g0 a0_0 A10 c11 l9.length l9 A0_2 c0_2 l0_2.length l0_2 hB hF (hT 3 _ rfl).row (hT 3 _ rfl).cap (hS _ R0_2) hc0_2 (hT 2 _ rfl).box hx26)) (fun _ => o_e rfl (e_lit (vs := [(0, .int .i64 (w64 (a0_0 + (l9.length : Int))))]) (cs := [.int .i64 (w64 (a0_0 + (l9.length : Int)))]) (Kd.int .i64) ([w64 (a0_0 + (l9.length : Int))] : List Int) Try.underlying23 I3 dc_ rfl dc_ rfl rfl (fun _ _ => Kd.za8 _)) (cur2 (fun A27 c28 => za6 h (fun l30 ha31 h => ?_) rfl)))
  refine o_e rfl (e_app (i := 2) (j := 0) Try.underlying23 I3 rfl dc_ dc_ rfl rfl rfl rfl rfl ha31) (cur2 (fun A32 c33 => oq_ (q_asg rfl) (o_end (za1 (za6 h (fun y517 hg516 h => ?_) rfl)))))
  refine za6 h (fun y816 hg815 h => ?_) rfl
  refine za6 h (fun _ hx935 h => ?_) rfl
  refine za6 h (fun l1055 ha1056 h => ?_) rfl
  refine a_startS (ds := []) [none, some 1, some 2, none, none] MO rfl (ap_ 0 rfl (za2 rfl) (ap_ 1 rfl (za2 rfl) (ap_ 2 rfl (q_nil rfl) (ap_ 3 rfl (q_f F25_1 rfl) (ap_ 5 rfl (za2 rfl) (ap_ 6 rfl (q_f F107_0 rfl) (at_2 7 rfl (sm_ [none, some 1, some 2, none, none]) (q_ldb Y3 rfl (bx_ 1 rfl) rfl) (a_fact (p := Sh A32 l30.length l30.length) (fun w h => f_sh (dk := (Kd.int .i64)) h (rc_ 2 rfl)) (fun hq515 => ap_ 8 rfl (q_ix Try.underlying23 Z3 rfl rfl hq515 hg516) ?_)))))))))
  refine at_2 9 rfl (sm_ [none, some 1, some 2, none, none]) (q_lde (off := 0) Y3 rfl rfl (rc_ 2 rfl) hg516 (fun _ _ h => h) rfl) (ap_ 10 rfl (za2 rfl) (ap_ 11 rfl (q_f F107_1 rfl) (at_2 12 rfl (sm_ [none, some 1, some 2, none, none]) (q_ldb Y3 rfl (bx_ 1 rfl) rfl) (ap_ 13 rfl (q_ix Try.underlying23 Z3 rfl rfl hq515 hg815) (at_2 14 rfl (sm_ [none, some 1, some 2, none, none]) (q_lde (off := 0) Y3 rfl rfl (rc_ 2 rfl) hg815 (fun _ _ h => h) rfl) (a_two 4 15 rfl rfl rfl rfl kr_ rfl rfl (ev_q rfl (q_ldb Y22 rfl (bx_ 3 rfl) rfl)) (sl_ [none, some 1, some 2, none, none]) (za5 0 Z Try.func114 N114 rfl rfl rfl (fun w P1 hF hB hS hT => impl_step.calls y517 y816 hB hF hx935)) (sl_ [none, some 1, some 2, none, none]) (fun _ => ?_) (fun _ => ?_)))))))
  ·refine a1_ 15 rfl (za5 0 Z Try.func114 N114 rfl rfl rfl (fun w P1 hF hB hS hT => impl_step.calls y517 y816 hB hF hx935)) (sl_ [none, some 1, some 2, none, none]) (fun _ => a1_ 16 rfl (e_lit (vs := [(0, .agg #[.int .i64 (mn y517 y816), .int .i64 (mx y517 y816)])]) (cs := [.int .i64 (mn y517 y816), .int .i64 (mx y517 y816)]) kStep ([(⟨mn y517 y816, mx y517 y816⟩ : SStep)] : List SStep) Try.underlying22 I107 dc_ rfl dc_ rfl rfl (fun _ _ => reps_flat _)) (sl_ [none, some 2, some 3, none, none]) (cur2 (fun A995 c996 => a1_ 17 rfl (e_app (i := 5) (j := 0) Try.underlying22 I107 rfl dc_ dc_ rfl rfl rfl rfl rfl ha1056) (sl_ [none, some 2, some 3, none, none]) (cur2 (fun A1057 c1058 => ap_ 18 rfl (q_nil rfl) (ap_ 19 rfl (q_f F25_1 rfl) (a1_ 20 rfl (za9 (i := 4) rfl rfl rfl rfl Z22 rfl rfl) (sl_ [none, some 2, some 3, none, none]) (fun _ => zaj kr_ (zaf (za1 (za0 ?_)))))))))))
   refine oq_ (q_up rfl rfl (hr16.up hm17)) (oq_ (za2 rfl) (o_end (zal ys14.length (ys14, l30, l1055, i12 + 1, A32, c33, A1057, c1058) (by rw [← hk22]; exact Nat.lt_succ_self _) ⟨hr16.step, rfl, h⟩ ⟨rfl, rfl, trivial⟩ (pk_ [3, 4, 5]) ?_)))
   exact of_
  ·refine a_two 4 16 rfl rfl rfl rfl kr_ rfl rfl (ev_q rfl (q_ldb Y22 rfl (bx_ 3 rfl) rfl)) (sl_ [none, some 1, some 2, none, none]) (e_lit (vs := [(0, .agg #[.int .i64 (mn y517 y816), .int .i64 (mx y517 y816)])]) (cs := [.int .i64 (mn y517 y816), .int .i64 (mx y517 y816)]) kStep ([(⟨mn y517 y816, mx y517 y816⟩ : SStep)] : List SStep) Try.underlying22 I107 dc_ rfl dc_ rfl rfl (fun _ _ => reps_flat _)) (sl_ [none, some 2, some 3, none, none]) (fun _ => ?_) (cur2 (fun A995 c996 => ?_))
   ·refine a1_ 16 rfl (e_lit (vs := [(0, .agg #[.int .i64 (mn y517 y816), .int .i64 (mx y517 y816)])]) (cs := [.int .i64 (mn y517 y816), .int .i64 (mx y517 y816)]) kStep ([(⟨mn y517 y816, mx y517 y816⟩ : SStep)] : List SStep) Try.underlying22 I107 dc_ rfl dc_ rfl rfl (fun _ _ => reps_flat _)) (sl_ [none, some 2, some 3, none, none]) (cur2 (fun A995 c996 => a1_ 17 rfl (e_app (i := 5) (j := 0) Try.underlying22 I107 rfl dc_ dc_ rfl rfl rfl rfl rfl ha1056) (sl_ [none, some 2, some 3, none, none]) (cur2 (fun A1057 c1058 => ap_ 18 rfl (q_nil rfl) (ap_ 19 rfl (q_f F25_1 rfl) (a1_ 20 rfl (za9 (i := 4) rfl rfl rfl rfl Z22 rfl rfl) (sl_ [none, some 2, some 3, none, none]) (fun _ => zaj kr_ (zaf (za1 (za0 (oq_ (q_up rfl rfl (hr16.up hm17)) ?_)))))))))))
    refine oq_ (za2 rfl) (o_end (zal ys14.length (ys14, l30, l1055, i12 + 1, A32, c33, A1057, c1058) (by rw [← hk22]; exact Nat.lt_succ_self _) ⟨hr16.step, rfl, h⟩ ⟨rfl, rfl, trivial⟩ (pk_ [3, 4, 5]) ?_))
    exact of_
   ·refine a1_ 4 rfl (ev_q rfl (q_ldb Y22 rfl (bx_ 4 rfl) rfl)) (sl_ [none, some 2, some 3, none, none]) (fun _ => a1_ 17 rfl (e_app (i := 5) (j := 0) Try.underlying22 I107 rfl dc_ dc_ rfl rfl rfl rfl rfl ha1056) (sl_ [none, some 2, some 3, none, none]) (cur2 (fun A1057 c1058 => ap_ 18 rfl (q_nil rfl) (ap_ 19 rfl (q_f F25_1 rfl) (a1_ 20 rfl (za9 (i := 4) rfl rfl rfl rfl Z22 rfl rfl) (sl_ [none, some 2, some 3, none, none]) (fun _ => zaj kr_ (zaf (za1 (za0 (oq_ (q_up rfl rfl (hr16.up hm17)) ?_))))))))))
    refine oq_ (za2 rfl) (o_end (zal ys14.length (ys14, l30, l1055, i12 + 1, A32, c33, A1057, c1058) (by rw [← hk22]; exact Nat.lt_succ_self _) ⟨hr16.step, rfl, h⟩ ⟨rfl, rfl, trivial⟩ (pk_ [3, 4, 5]) ?_))
    exact of_

def impl_ComposePlans.f (k : Nat) (a0_0 : Int) (l0_1 : List SStep) (l0_2 : List Int) (a1_0 : Int) (l1_1 : List SStep) (l1_2 : List Int) : Option (Int × (List SStep) × (List Int) × Bool) := ((impl_IsPlan.f k a0_0 l0_1 l0_2).bind fun b20 => if b20 = true then ((impl_IsPlan.f k a1_0 l1_1 l1_2).bind fun b23 => if b23 = true then (some (decide ((l0_2.length : Int) ≠ a1_0))) else (some true)) else (some true)).bind fun b13 => if b13 = true then (some (0, ([] : List SStep), ([] : List Int), false)) else ((impl_clonePlan.f a0_0 l0_1 l0_2).bind fun (l27, l28) => (impl_Plan_behind.f a0_0 l27 l28 a1_0 l1_1 l1_2 l0_2).bind fun (l36, l37) => (impl_renamed.f l1_2 l36).bind fun l43 => (impl_told.f k a0_0 l37 l43).bind fun (i47, l48, l49, b50) => some (i47, l48, l49, b50))
theorem impl_ComposePlans.calls (k : Nat) {w0 ws : World} {P0 : Nat → Prop} (a0_0 : Int) (A0_1 : Option Addr) (c0_1 : Nat) (n0_1 : Nat) (l0_1 : List SStep) (A0_2 : Option Addr) (c0_2 : Nat) (n0_2 : Nat) (l0_2 : List Int) (a1_0 : Int) (A1_1 : Option Addr) (c1_1 : Nat) (n1_1 : Nat) (l1_1 : List SStep) (A1_2 : Option Addr) (c1_2 : Nat) (n1_2 : Nat) (l1_2 : List Int) (Z : Below w0.heap.size w0 ws) (hF : Fr w0 ws P0 [] ws) (R0_1 : Stable ws P0 (fun w => Kd.C kStep w A0_1 n0_1 l0_1)) (hc0_1 : n0_1 ≤ c0_1) (R0_2 : Stable ws P0 (fun w => Kd.C (Kd.int .i64) w A0_2 n0_2 l0_2)) (hc0_2 : n0_2 ≤ c0_2) (R1_1 : Stable ws P0 (fun w => Kd.C kStep w A1_1 n1_1 l1_1)) (hc1_1 : n1_1 ≤ c1_1) (R1_2 : Stable ws P0 (fun w => Kd.C (Kd.int .i64) w A1_2 n1_2 l1_2)) (hc1_2 : n1_2 ≤ c1_2) (r_1 : Int) (r_2 : List SStep) (r_5 : List Int) (r_8 : Bool) (h : impl_ComposePlans.f k a0_0 l0_1 l0_2 a1_0 l1_1 l1_2 = some (r_1, r_2, r_5, r_8)) :
  Calls Try.prog 78 #[.agg #[.int .i64 a0_0, .slice A0_1 n0_1 c0_1, .slice A0_2 n0_2 c0_2], .agg #[.int .i64 a1_0, .slice A1_1 n1_1 c1_1, .slice A1_2 n1_2 c1_2]] ws (Post1 w0 ws P0 (fun ((q_3, q_4, q_6, q_7) : (Option Addr) × Nat × (Option Addr) × Nat) => .tuple #[.agg #[.int .i64 r_1, .slice q_3 r_2.length q_4, .slice q_6 r_5.length q_7], .bool r_8]) (fun ((q_3, q_4, q_6, q_7) : (Option Addr) × Nat × (Option Addr) × Nat) => [row kStep 107 (.slice q_3 r_2.length q_4) r_2, row (Kd.int .i64) 3 (.slice q_6 r_5.length q_7) r_5])) := by
 unfold impl_ComposePlans.f at h
 obtain rfl := (R0_1 ws (KeptB.refl _ _)).1
 obtain rfl := (R0_2 ws (KeptB.refl _ _)).1
 obtain rfl := (R1_1 ws (KeptB.refl _ _)).1
 obtain rfl := (R1_2 ws (KeptB.refl _ _)).1
 refine enter Try.func78 rfl Try.ntmps78 rfl hF (c_seq (za0 (o_e rfl (e_box rfl) (fun g1 => o_e rfl (e_box rfl) (fun g3 => o_e rfl (zab V25 rfl) (fun g5 => oq_ (q_asg rfl) (o_end (za1 (c_seq ?_)))))))))
 refine za6 h (fun o14 hl15 hR16 => ?_) rfl
 clear h
 refine c_cutJ (σ := Bool) (fun b13 => some b13 = some o14) [7, 8, 9, 10, 11, 12, 13, 14, 15, 16, 17, 18, 19, 20, 21, 22] (fun b13 => [(22, .bool b13)]) (fun b13 => [box g1 25 #[.int .i64 a0_0, .slice A0_1 l0_1.length c0_1, .slice A0_2 l0_2.length c0_2], box g3 25 #[.int .i64 a1_0, .slice A1_1 l1_1.length c1_1, .slice A1_2 l1_2.length c1_2], box g5 25 #[.int .i64 0, .slice none 0 0, .slice none 0 0]]) ?_ ?_
 ·have h := hl15; clear hl15
  clear hR16
  refine za0 (oq_ (q_ldB G25 Z25 rfl (bx_ 2 rfl) rfl) (za6 h (fun b20 hx19 h => ?_) rfl))
  refine o_e rfl (za5 0 Z Try.func90 N90 rfl rfl rfl (fun w P1 hF hB hS hT => impl_IsPlan.calls k a0_0 A0_1 c0_1 l0_1.length l0_1 A0_2 c0_2 l0_2.length l0_2 hB hF (hS _ R0_1) hc0_1 (hS _ R0_2) hc0_2 _ hx19)) (fun _ => oq_ (q_not rfl) (oq_ (za2 rfl) (byB b20 (fun hb21 => ?_) (fun hb21 => ?_))))
  ·replace h := bb_t hb21 h
   refine o_w (za4 rfl rfl rfl (congrArg (fun b => Value.bool (!(b))) hb21)) rfl (q_ldB G25 Z25 rfl (bx_ 1 rfl) rfl) (za6 h (fun b23 hx22 h => ?_) rfl)
   refine o_ew (za4 rfl rfl rfl (congrArg (fun b => Value.bool (!(b))) hb21)) (za5 0 Z Try.func90 N90 rfl rfl rfl (fun w P1 hF hB hS hT => impl_IsPlan.calls k a1_0 A1_1 c1_1 l1_1.length l1_1 A1_2 c1_2 l1_2.length l1_2 hB hF (hS _ R1_1) hc1_1 (hS _ R1_2) hc1_2 _ hx22)) (fun _ => o_w (za4 rfl rfl rfl (congrArg (fun b => Value.bool (!(b))) hb21)) rfl (q_not rfl) (oq_ (zak false (congrArg (fun b => Value.bool (!(b))) hb21) rfl) (oq_ (za2 rfl) (byB b23 (fun hb24 => ?_) (fun hb24 => ?_)))))
   ·replace h := bb_t hb24 h
    refine o_w (za4 rfl rfl rfl (congrArg (fun b => Value.bool (!(b))) hb24)) rfl (q_f F25_2 rfl) (o_w (za4 rfl rfl rfl (congrArg (fun b => Value.bool (!(b))) hb24)) rfl (q_ldb Y23 rfl (bx_ 2 rfl) rfl) (o_w (za4 rfl rfl rfl (congrArg (fun b => Value.bool (!(b))) hb24)) rfl (q_len Try.underlying23 rfl) (o_w (za4 rfl rfl rfl (congrArg (fun b => Value.bool (!(b))) hb24)) rfl (q_f F25_0 rfl) (o_w (za4 rfl rfl rfl (congrArg (fun b => Value.bool (!(b))) hb24)) rfl (q_ldb Y3 rfl (bx_ 1 rfl) rfl) (o_w (za4 rfl rfl rfl (congrArg (fun b => Value.bool (!(b))) hb24)) rfl (q_neq rfl rfl) (oq_ (zak false (congrArg (fun b => Value.bool (!(b))) hb24) rfl) (o_end (zah (decide ((l0_2.length : Int) ≠ a1_0)) h ⟨rfl, trivial⟩ (pk_ [2, 1, 0]) ?_))))))))
    exact of_
   ·replace h := bb_f hb24 h
    refine o_n (d := 16) (za3 rfl rfl rfl (congrArg (fun b => Value.bool (!(b))) hb24) rfl) (Eq.refl (some 16)) (o_n (d := 17) (za3 rfl rfl rfl (congrArg (fun b => Value.bool (!(b))) hb24) rfl) (Eq.refl (some 17)) (o_n (d := 18) (za3 rfl rfl rfl (congrArg (fun b => Value.bool (!(b))) hb24) rfl) (Eq.refl (some 18)) (o_n (d := 19) (za3 rfl rfl rfl (congrArg (fun b => Value.bool (!(b))) hb24) rfl) (Eq.refl (some 19)) (o_n (d := 20) (za3 rfl rfl rfl (congrArg (fun b => Value.bool (!(b))) hb24) rfl) (Eq.refl (some 20)) (o_n (d := 21) (za3 rfl rfl rfl (congrArg (fun b => Value.bool (!(b))) hb24) rfl) (Eq.refl (some 21)) (oq_ (zak true (congrArg (fun b => Value.bool (!(b))) hb24) rfl) (o_end (zah true h ⟨rfl, trivial⟩ (pk_ [2, 1, 0]) ?_))))))))
    exact of_
  ·replace h := bb_f hb21 h
   refine o_n (d := 11) (za3 rfl rfl rfl (congrArg (fun b => Value.bool (!(b))) hb21) rfl) (Eq.refl (some 11)) (o_n (d := 12) (za3 rfl rfl rfl (congrArg (fun b => Value.bool (!(b))) hb21) rfl) (Eq.refl (some 12)) (o_n (d := 13) (za3 rfl rfl rfl (congrArg (fun b => Value.bool (!(b))) hb21) rfl) (Eq.refl (some 13)) (oq_ (zak true (congrArg (fun b => Value.bool (!(b))) hb21) rfl) (oq_ (za2 rfl) (o_n (d := 16) (za3 rfl rfl rfl rfl rfl) (Eq.refl (some 16)) (o_n (d := 17) (za3 rfl rfl rfl rfl rfl) (Eq.refl (some 17)) (o_n (d := 18) (za3 rfl rfl rfl rfl rfl) (Eq.refl (some 18)) (o_n (d := 19) (za3 rfl rfl rfl rfl rfl) (Eq.refl (some 19)) (o_n (d := 20) (za3 rfl rfl rfl rfl rfl) (Eq.refl (some 20)) ?_)))))))))
   refine o_n (d := 21) (za3 rfl rfl rfl rfl rfl) (Eq.refl (some 21)) (oq_ (zak true rfl rfl) (o_end (zah true h ⟨rfl, trivial⟩ (pk_ [2, 1, 0]) ?_)))
   exact of_
 ·refine (fun b13 => fun U17 hJ18 => ?_)
  have e_ := si_ hJ18; have h := hR16; rw [← e_] at h; clear e_ hJ18 hR16 hl15
  refine zan _ rfl (fun hb25 => ?_) (fun hb25 => ?_)
  ·replace h := bb_t hb25 h
   refine c_seq (za0 (oq_ (q_build (vs := []) (cs := [.int .i64 0, .slice none 0 0, .slice none 0 0]) rfl rfl) (o_e rfl (zac (i := 2) rfl rfl rfl Z25 rfl rfl) (fun _ => oq_ (q_asg rfl) (o_end (za1 (c_ret (zaa (x_nil kStep 107 ?_)))))))))
   refine x_nil (Kd.int .i64) 3 ?_
   have e0_ := si_ h; clear h
   obtain ⟨rfl, e1_⟩ := Prod.mk.inj e0_
   obtain ⟨rfl, e2_⟩ := Prod.mk.inj e1_
   obtain ⟨rfl, e3_⟩ := Prod.mk.inj e2_
   subst e3_
   exact x_r2 (none, 0, none, 0) Try.results78 (zb0 rfl G25 Z25 (bx_ 4 rfl) rfl) (zad rfl) rfl (pk_ [1, 0])
  ·replace h := bb_f hb25 h
   refine zai (za1 (c_seq (za0 (oq_ (q_ldB G25 Z25 rfl (bx_ 0 rfl) rfl) (bindE2 h (fun l27 l28 hx26 h => ?_) rfl)))))
   refine o_e rfl (za5 0 Z Try.func79 N79 rfl rfl rfl (fun w P1 hF hB hS hT => impl_clonePlan.calls a0_0 A0_1 c0_1 l0_1.length l0_1 A0_2 c0_2 l0_2.length l0_2 hB hF (hS _ R0_1) hc0_1 (hS _ R0_2) hc0_2 _ _ hx26)) (cur4 (fun A29 c30 A31 c32 => o_e rfl (zab V25 rfl) (fun g33 => o_e rfl (zac (i := 0) rfl rfl rfl Z25 rfl rfl) (fun _ => o_end (za1 (c_seq (a_startS (ds := []) [none, none, some 2, some 3, some 4, some 5] MO rfl (ap_ 0 rfl (q_f F25_2 rfl) (at_2 1 rfl (sm_ [none, none, some 2, some 3, some 4, some 5]) (q_ldb Y23 rfl (bx_ 4 rfl) rfl) (ap_ 2 rfl (q_f F25_2 rfl) ?_))))))))))
   refine at_2 3 rfl (sm_ [none, none, some 2, some 3, some 4, some 5]) (q_ldb Y23 rfl (bx_ 3 rfl) rfl) (bindE2 h (fun l36 l37 hx35 h => ?_) rfl)
   refine a1_ 4 rfl (za5 2 Z Try.func127 N127 rfl rfl rfl (fun w P1 hF hB hS hT => impl_Plan_behind.calls g33 a0_0 A29 c30 l27.length l27 A31 c32 l28.length l28 g3 a1_0 A1_1 c1_1 l1_1.length l1_1 A1_2 c1_2 l1_2.length l1_2 A0_2 c0_2 l0_2.length l0_2 hB hF (hT 0 _ rfl).row (hT 0 _ rfl).cap (hS _ R1_1) hc1_1 (hS _ R1_2) hc1_2 (hT 2 _ rfl).box (hS _ R0_2) hc0_2 _ _ hx35)) (sl_ [none, none, some 3, some 4, some 5, some 6]) (cur4 (fun A38 c39 A40 c41 => za6 h (fun l43 hx42 h => ?_) rfl))
   refine a1_ 5 rfl (za5 0 Z Try.func118 N118 rfl rfl rfl (fun w P1 hF hB hS hT => impl_renamed.calls A1_2 c1_2 l1_2.length l1_2 A38 c39 l36.length l36 hB hF (hS _ R1_2) hc1_2 (hT 0 _ rfl).row (hT 0 _ rfl).cap _ hx42)) (sl_ [none, none, some 4, some 5, some 6, some 7]) (cur2 (fun A44 c45 => ap_ 6 rfl (q_f F25_2 rfl) (a1_ 7 rfl (za9 (i := 2) rfl rfl rfl rfl Z23 rfl rfl) (sl_ [none, none, some 4, some 5, some 6, some 7]) (fun _ => zaj kr_ (za1 (c_seq (za0 (oq_ (q_ldB G25 Z25 rfl (bx_ 2 rfl) rfl) (o_pick [3, 0, 1, 2, 4, 5, 6, 7] dc_ rfl (bindE4 h (fun i47 l48 l49 b50 hx46 h => ?_) rfl))))))))))
   refine o_e rfl (za5 2 Z Try.func61 N61 rfl rfl rfl (fun w P1 hF hB hS hT => impl_told.calls k a0_0 A40 c41 l37.length l37 A44 c45 l43.length l43 hB hF _ _ _ _ hx46)) (cur4 (fun A51 c52 A53 c54 => oq_ (q_ext rfl rfl) (oq_ (q_ext rfl rfl) (o_e rfl (zac (i := 7) rfl rfl rfl Z25 rfl rfl) (fun _ => oq_ (q_asg rfl) (o_end (za1 (c_ret ?_))))))))
   have e0_ := si_ h; clear h
   obtain ⟨rfl, e1_⟩ := Prod.mk.inj e0_
   obtain ⟨rfl, e2_⟩ := Prod.mk.inj e1_
   obtain ⟨rfl, e3_⟩ := Prod.mk.inj e2_
   subst e3_
   exact x_r2 (A51, c52, A53, c54) Try.results78 (zb0 rfl G25 Z25 (bx_ 7 rfl) rfl) (zad rfl) rfl (pk_ [0, 1])

def impl_FactorPlan.f : Nat → Int → Option (Int × (List SStep) × (List Int) × Bool)
 | 0, _ => none
 | k + 1, a0 => (impl_isNumber.f a0).bind fun b4 => if b4 = true then (if a0 = 1 then (some (1, ([] : List SStep), ([0] : List Int), true)) else ((impl_leastFactor.f k a0).bind fun i11 => if i11 < a0 then (((impl_FactorPlan.f k) i11).bind fun (i14, l15, l16, b17) => (nz i11).bind fun _ => ((impl_FactorPlan.f k) (w64 (a0.tdiv i11))).bind fun (i26, l27, l28, b29) => (if b17 = true then (some (!b29)) else (some true)).bind fun b37 => if b37 = true then (some (0, ([] : List SStep), ([] : List Int), false)) else ((impl_ComposePlans.f k i14 l15 l16 i26 l27 l28).bind fun (i46, l47, l48, b49) => some (i46, l47, l48, b49))) else (((impl_FactorPlan.f k) (w64 (a0 - 1))).bind fun (i55, l56, l57, b58) => if b58 = true then ((impl_clonePlan.f i55 l56 l57).bind fun (l67, l68) => (gt l57 0).bind fun y77 => (impl_maker_multiply.f i55 l67 l68 y77 0).bind fun (i79, l80) => (impl_maker_plan.f i55 l80 l68 ([i79] : List Int)).bind fun _ => (impl_told.f k i55 l80 ([i79] : List Int)).bind fun (i88, l89, l90, b91) => some (i88, l89, l90, b91)) else (some (0, ([] : List SStep), ([] : List Int), false))))) else (some (0, ([] : List SStep), ([] : List Int), false))
theorem impl_FactorPlan.calls : ∀ (k : Nat) {w0 ws : World} {P0 : Nat → Prop} (a0 : Int) (Z : Below w0.heap.size w0 ws) (hF : Fr w0 ws P0 [] ws)  (r_1 : Int) (r_2 : List SStep) (r_5 : List Int) (r_8 : Bool) (h : impl_FactorPlan.f k a0 = some (r_1, r_2, r_5, r_8)),
  Calls Try.prog 34 #[.int .i64 a0] ws (Post1 w0 ws P0 (fun ((q_3, q_4, q_6, q_7) : (Option Addr) × Nat × (Option Addr) × Nat) => .tuple #[.agg #[.int .i64 r_1, .slice q_3 r_2.length q_4, .slice q_6 r_5.length q_7], .bool r_8]) (fun ((q_3, q_4, q_6, q_7) : (Option Addr) × Nat × (Option Addr) × Nat) => [row kStep 107 (.slice q_3 r_2.length q_4) r_2, row (Kd.int .i64) 3 (.slice q_6 r_5.length q_7) r_5])) := by
 intro k
 induction k with
 | zero =>
  intros
  rename_i h
  cases h
 | succ k ih =>
  intro w0 ws P0 a0 Z hF  r_1 r_2 r_5 r_8 h
  rw [impl_FactorPlan.f] at h
  refine enter Try.func34 rfl Try.ntmps34 rfl hF (c_seq (za0 (o_e rfl (zab V25 rfl) (fun g1 => oq_ (q_asg rfl) (o_end (za1 (c_seq (c_seq (za0 ?_)))))))))
  refine oq_ (za2 rfl) (za6 h (fun b4 hx3 h => ?_) rfl)
  refine o_e rfl (za5 0 Z Try.func74 N74 rfl rfl rfl (fun w P1 hF hB hS hT => impl_isNumber.calls a0 hB hF _ hx3)) (fun _ => oq_ (q_not rfl) (o_end (za1 (zan _ rfl (fun hb5 => ?_) (fun hb5 => ?_)))))
  ·replace hb5 := nt_t hb5
   replace h := bb_f hb5 h
   refine c_seq (za0 (oq_ (q_build (vs := []) (cs := [.int .i64 0, .slice none 0 0, .slice none 0 0]) rfl rfl) (o_e rfl (zac (i := 0) rfl rfl rfl Z25 rfl rfl) (fun _ => oq_ (q_asg rfl) (o_end (za1 (c_ret (zaa (x_nil kStep 107 ?_)))))))))
   refine x_nil (Kd.int .i64) 3 ?_
   have e0_ := si_ h; clear h
   obtain ⟨rfl, e1_⟩ := Prod.mk.inj e0_
   obtain ⟨rfl, e2_⟩ := Prod.mk.inj e1_
   obtain ⟨rfl, e3_⟩ := Prod.mk.inj e2_
   subst e3_
   exact x_r2 (none, 0, none, 0) Try.results34 (zb0 rfl G25 Z25 (bx_ 2 rfl) rfl) (zad rfl) rfl (pk_ [1, 0])
  ·replace hb5 := nt_f hb5
   replace h := bb_t hb5 h
   refine zai (za1 (c_seq (c_seq (za0 (oq_ (za2 rfl) (oq_ (q_eql rfl rfl) (o_end (za1 (zan _ rfl (fun hb6 => ?_) (fun hb6 => ?_))))))))))
   ·replace h := br_t hb6 h
    refine c_seq (za0 (o_e rfl (e_lit (vs := [(0, .int .i64 0)]) (cs := [.int .i64 0]) (Kd.int .i64) ([0] : List Int) Try.underlying23 I3 dc_ rfl dc_ rfl rfl (fun _ _ => Kd.za8 _)) (cur2 (fun A7 c8 => oq_ (q_build (vs := [(0, .int .i64 1), (2, .slice A7 (([0] : List Int).length) c8)]) (cs := [.int .i64 1, .slice none 0 0, .slice A7 (([0] : List Int).length) c8]) rfl rfl) (o_e rfl (zac (i := 1) rfl rfl rfl Z25 rfl rfl) (fun _ => oq_ (q_asg rfl) (o_end (za1 (c_ret (zaa ?_))))))))))
    refine x_nil kStep 107 ?_
    have e0_ := si_ h; clear h
    obtain ⟨rfl, e1_⟩ := Prod.mk.inj e0_
    obtain ⟨rfl, e2_⟩ := Prod.mk.inj e1_
    obtain ⟨rfl, e3_⟩ := Prod.mk.inj e2_
    subst e3_
    exact x_r2 (none, 0, A7, c8) Try.results34 (zb0 rfl G25 Z25 (bx_ 2 rfl) rfl) (zad rfl) rfl (pk_ [0, 1])
   ·replace h := br_f hb6 h
    refine zai (za1 (c_seq (za0 (oq_ (za2 rfl) (za6 h (fun i11 hx10 h => ?_) rfl)))))
    refine o_e rfl (za5 0 Z Try.func77 N77 rfl rfl rfl (fun w P1 hF hB hS hT => impl_leastFactor.calls k a0 hB hF _ hx10)) (fun _ => oq_ (q_asg rfl) (o_end (za1 (c_seq (c_seq (za0 (oq_ (za2 rfl) (oq_ (za2 rfl) (oq_ (q_lss rfl rfl) ?_)))))))))
    refine o_end (za1 (zan _ rfl (fun hb12 => ?_) (fun hb12 => ?_)))
    ·replace h := br_t hb12 h
     refine c_seq (za0 (oq_ (za2 rfl) (bindE4 h (fun i14 l15 l16 b17 hx13 h => ?_) rfl)))
     refine o_e rfl (za5 0 Z Try.func34 N34 rfl rfl rfl (fun w P1 hF hB hS hT => ih i11 hB hF _ _ _ _ hx13)) (cur4 (fun A18 c19 A20 c21 => oq_ (za2 rfl) (oq_ (q_ext rfl rfl) (oq_ (q_ext rfl rfl) (o_e rfl (zab V25 rfl) (fun g22 => o_e rfl (zac (i := 0) rfl rfl rfl Z25 rfl rfl) (fun _ => oq_ (q_asg rfl) (o_end (za1 (c_seq ?_))))))))))
     refine za0 (oq_ (za2 rfl) (oq_ (za2 rfl) (za6 h (fun _ hz24 h => ?_) rfl)))
     refine oq_ (q_quo64 rfl rfl (nz_ne hz24)) (bindE4 h (fun i26 l27 l28 b29 hx25 h => ?_) rfl)
     refine o_e rfl (za5 0 Z Try.func34 N34 rfl rfl rfl (fun w P1 hF hB hS hT => ih (w64 (a0.tdiv i11)) hB hF _ _ _ _ hx25)) (cur4 (fun A30 c31 A32 c33 => oq_ (za2 rfl) (oq_ (q_ext rfl rfl) (oq_ (q_ext rfl rfl) (o_e rfl (zab V25 rfl) (fun g34 => o_e rfl (zac (i := 0) rfl rfl rfl Z25 rfl rfl) (fun _ => oq_ (q_asg rfl) (o_end (za1 (c_seq ?_))))))))))
     refine za6 h (fun o38 hl39 hR40 => ?_) rfl
     clear h
     refine c_cutJ (σ := Bool) (fun b37 => some b37 = some o38) [37, 38, 39, 40, 41, 42] (fun b37 => [(42, .bool b37)]) (fun b37 => [box g1 25 #[.int .i64 0, .slice none 0 0, .slice none 0 0], box g22 25 #[.int .i64 i14, .slice A18 l15.length c19, .slice A20 l16.length c21], row kStep 107 (.slice A18 l15.length c19) l15, row (Kd.int .i64) 3 (.slice A20 l16.length c21) l16, box g34 25 #[.int .i64 i26, .slice A30 l27.length c31, .slice A32 l28.length c33], row kStep 107 (.slice A30 l27.length c31) l27, row (Kd.int .i64) 3 (.slice A32 l28.length c33) l28]) ?_ ?_
     ·have h := hl39; clear hl39
      clear hR40
      refine za0 (oq_ (za2 rfl) (oq_ (q_not rfl) (oq_ (za2 rfl) (byB b17 (fun hb43 => ?_) (fun hb43 => ?_)))))
      ·replace h := bb_t hb43 h
       refine o_w (za4 rfl rfl rfl (congrArg (fun b => Value.bool (!(b))) hb43)) rfl (za2 rfl) (o_w (za4 rfl rfl rfl (congrArg (fun b => Value.bool (!(b))) hb43)) rfl (q_not rfl) (oq_ (zak false (congrArg (fun b => Value.bool (!(b))) hb43) rfl) (o_end (zah (!b29) h ⟨rfl, trivial⟩ (pk_ [6, 3, 4, 5, 0, 1, 2]) ?_))))
       exact of_
      ·replace h := bb_f hb43 h
       refine o_n (d := 40) (za3 rfl rfl rfl (congrArg (fun b => Value.bool (!(b))) hb43) rfl) (Eq.refl (some 40)) (o_n (d := 41) (za3 rfl rfl rfl (congrArg (fun b => Value.bool (!(b))) hb43) rfl) (Eq.refl (some 41)) (oq_ (zak true (congrArg (fun b => Value.bool (!(b))) hb43) rfl) (o_end (zah true h ⟨rfl, trivial⟩ (pk_ [6, 3, 4, 5, 0, 1, 2]) ?_))))
       exact of_
     ·refine (fun b37 => fun U41 hJ42 => ?_)
      have e_ := si_ hJ42; have h := hR40; rw [← e_] at h; clear e_ hJ42 hR40 hl39
      refine zan _ rfl (fun hb44 => ?_) (fun hb44 => ?_)
      ·replace h := bb_t hb44 h
       refine c_seq (za0 (oq_ (q_build (vs := []) (cs := [.int .i64 0, .slice none 0 0, .slice none 0 0]) rfl rfl) (o_e rfl (zac (i := 0) rfl rfl rfl Z25 rfl rfl) (fun _ => oq_ (q_asg rfl) (o_end (za1 (c_ret (zaa (zaa ?_)))))))))
       refine x_nil kStep 107 (x_nil (Kd.int .i64) 3 ?_)
       have e0_ := si_ h; clear h
       obtain ⟨rfl, e1_⟩ := Prod.mk.inj e0_
       obtain ⟨rfl, e2_⟩ := Prod.mk.inj e1_
       obtain ⟨rfl, e3_⟩ := Prod.mk.inj e2_
       subst e3_
       exact x_r2 (none, 0, none, 0) Try.results34 (zb0 rfl G25 Z25 (bx_ 2 rfl) rfl) (zad rfl) rfl (pk_ [1, 0])
      ·replace h := bb_f hb44 h
       refine zai (za1 (c_seq (za0 (oq_ (q_ldB G25 Z25 rfl (bx_ 1 rfl) rfl) (oq_ (q_ldB G25 Z25 rfl (bx_ 4 rfl) rfl) (bindE4 h (fun i46 l47 l48 b49 hx45 h => ?_) rfl))))))
       refine o_e rfl (za5 0 Z Try.func78 N78 rfl rfl rfl (fun w P1 hF hB hS hT => impl_ComposePlans.calls k i14 A18 c19 l15.length l15 A20 c21 l16.length l16 i26 A30 c31 l27.length l27 A32 c33 l28.length l28 hB hF (hT 2 _ rfl).row (hT 2 _ rfl).cap (hT 3 _ rfl).row (hT 3 _ rfl).cap (hT 5 _ rfl).row (hT 5 _ rfl).cap (hT 6 _ rfl).row (hT 6 _ rfl).cap _ _ _ _ hx45)) (cur4 (fun A50 c51 A52 c53 => oq_ (q_ext rfl rfl) (oq_ (q_ext rfl rfl) (o_e rfl (zac (i := 2) rfl rfl rfl Z25 rfl rfl) (fun _ => oq_ (q_asg rfl) (o_end (za1 (c_ret (zaa ?_)))))))))
       have e0_ := si_ h; clear h
       obtain ⟨rfl, e1_⟩ := Prod.mk.inj e0_
       obtain ⟨rfl, e2_⟩ := Prod.mk.inj e1_
       obtain ⟨rfl, e3_⟩ := Prod.mk.inj e2_
       subst e3_
       exact x_r2 (A50, c51, A52, c53) Try.results34 (zb0 rfl G25 Z25 (bx_ 2 rfl) rfl) (zad rfl) rfl (pk_ [0, 1])
    ·replace h := br_f hb12 h
     refine zai (za1 (c_seq (za0 (oq_ (za2 rfl) (oq_ (zat rfl rfl) (bindE4 h (fun i55 l56 l57 b58 hx54 h => ?_) rfl))))))
     refine o_e rfl (za5 0 Z Try.func34 N34 rfl rfl rfl (fun w P1 hF hB hS hT => ih (w64 (a0 - 1)) hB hF _ _ _ _ hx54)) (cur4 (fun A59 c60 A61 c62 => oq_ (za2 rfl) (oq_ (q_ext rfl rfl) (oq_ (q_ext rfl rfl) (o_e rfl (zab V25 rfl) (fun g63 => o_e rfl (zac (i := 0) rfl rfl rfl Z25 rfl rfl) (fun _ => oq_ (q_asg rfl) (o_end (za1 (c_seq ?_))))))))))
     refine c_seq (za0 (oq_ (za2 rfl) (oq_ (q_not rfl) (o_end (za1 (zan _ rfl (fun hb65 => ?_) (fun hb65 => ?_)))))))
     ·replace hb65 := nt_t hb65
      replace h := bb_f hb65 h
      refine c_seq (za0 (oq_ (q_build (vs := []) (cs := [.int .i64 0, .slice none 0 0, .slice none 0 0]) rfl rfl) (o_e rfl (zac (i := 3) rfl rfl rfl Z25 rfl rfl) (fun _ => oq_ (q_asg rfl) (o_end (za1 (c_ret (zaa (x_nil kStep 107 ?_)))))))))
      refine x_nil (Kd.int .i64) 3 ?_
      have e0_ := si_ h; clear h
      obtain ⟨rfl, e1_⟩ := Prod.mk.inj e0_
      obtain ⟨rfl, e2_⟩ := Prod.mk.inj e1_
      obtain ⟨rfl, e3_⟩ := Prod.mk.inj e2_
      subst e3_
      exact x_r2 (none, 0, none, 0) Try.results34 (zb0 rfl G25 Z25 (bx_ 5 rfl) rfl) (zad rfl) rfl (pk_ [1, 0])
     ·replace hb65 := nt_f hb65
      replace h := bb_t hb65 h
      refine zai (za1 (c_seq (za0 (oq_ (q_ldB G25 Z25 rfl (bx_ 0 rfl) rfl) (bindE2 h (fun l67 l68 hx66 h => ?_) rfl)))))
      refine o_e rfl (za5 0 Z Try.func79 N79 rfl rfl rfl (fun w P1 hF hB hS hT => impl_clonePlan.calls i55 A59 c60 l56.length l56 A61 c62 l57.length l57 hB hF (hT 1 _ rfl).row (hT 1 _ rfl).cap (hT 2 _ rfl).row (hT 2 _ rfl).cap _ _ hx66)) (cur4 (fun A69 c70 A71 c72 => oq_ (q_build (vs := [(0, .agg #[.int .i64 i55, .slice A69 l67.length c70, .slice A71 l68.length c72])]) (cs := [.int .i64 i55, .slice A69 l67.length c70, .slice A71 l68.length c72]) rfl rfl) (o_e rfl (e_box rfl) (fun g73 => oq_ (q_asg rfl) (o_end (za1 (c_seq (za0 (oq_ (za2 rfl) (oq_ (za2 rfl) ?_))))))))))
      refine oq_ (q_f F25_2 rfl) (oq_ (q_ldb Y23 rfl (bx_ 3 rfl) rfl) (zaw (p := Sh A61 l57.length l57.length) (fun w h => f_sh (dk := (Kd.int .i64)) h (rc_ 5 rfl)) (fun hq75 => za6 h (fun y77 hg76 h => ?_) rfl)))
      refine oq_ (q_ix Try.underlying23 Z3 rfl rfl hq75 hg76) (oq_ (q_lde (off := 0) Y3 rfl rfl (rc_ 5 rfl) hg76 (fun _ _ h => h) rfl) (bindE2 h (fun i79 l80 hx78 h => ?_) rfl))
      refine o_e rfl (za5 2 Z Try.func57 N57 rfl rfl rfl (fun w P1 hF hB hS hT => impl_maker_multiply.calls g73 i55 A69 c70 l67.length l67 A71 c72 l68.length l68 y77 0 hB hF (hT 0 _ rfl).row (hT 0 _ rfl).cap _ _ hx78)) (cur2 (fun A81 c82 => o_e rfl (e_lit (vs := [(0, .int .i64 i79)]) (cs := [.int .i64 i79]) (Kd.int .i64) ([i79] : List Int) Try.underlying23 I3 dc_ rfl dc_ rfl rfl (fun _ _ => Kd.za8 _)) (cur2 (fun A83 c84 => o_pick [1, 2, 0, 3, 4, 5, 6, 7] dc_ rfl (za6 h (fun _ hx86 h => ?_) rfl)))))
      refine o_e rfl (za5 3 Z Try.func60 N60 rfl rfl rfl (fun w P1 hF hB hS hT => impl_maker_plan.calls g73 i55 A81 c82 l80.length l80 A71 c72 l68.length l68 A83 c84 (([i79] : List Int).length) ([i79] : List Int) hB hF (hT 0 _ rfl).row (hT 0 _ rfl).cap hx86)) (fun _ => bindE4 h (fun i88 l89 l90 b91 hx87 h => ?_) rfl)
      refine o_e rfl (za5 2 Z Try.func61 N61 rfl rfl rfl (fun w P1 hF hB hS hT => impl_told.calls k i55 A81 c82 l80.length l80 A83 c84 (([i79] : List Int).length) ([i79] : List Int) hB hF _ _ _ _ hx87)) (cur4 (fun A92 c93 A94 c95 => oq_ (q_ext rfl rfl) (oq_ (q_ext rfl rfl) (o_e rfl (zac (i := 7) rfl rfl rfl Z25 rfl rfl) (fun _ => oq_ (q_asg rfl) (o_end (za1 (c_ret ?_))))))))
      have e0_ := si_ h; clear h
      obtain ⟨rfl, e1_⟩ := Prod.mk.inj e0_
      obtain ⟨rfl, e2_⟩ := Prod.mk.inj e1_
      obtain ⟨rfl, e3_⟩ := Prod.mk.inj e2_
      subst e3_
      exact x_r2 (A92, c93, A94, c95) Try.results34 (zb0 rfl G25 Z25 (bx_ 7 rfl) rfl) (zad rfl) rfl (pk_ [0, 1])

def impl_methodPlans.f (k : Nat) (a0 : Int) : Option (Int × (List SStep) × (List Int) × Int × (List SStep) × (List Int) × Int × (List SStep) × (List Int) × Int × (List SStep) × (List Int) × Int × (List SStep) × (List Int) × Int × (List SStep) × (List Int) × Int × (List SStep) × (List Int) × Bool) := (impl_BinaryPlan.f k a0).bind fun (i2, l3, l4, b5) => (impl_RightPlan.f k a0).bind fun (i13, l14, l15, b16) => (impl_WindowPlan.f k a0 2).bind fun (i24, l25, l26, b27) => (impl_WindowPlan.f k a0 3).bind fun (i35, l36, l37, b38) => (impl_SlidingPlan.f k a0 2).bind fun (i46, l47, l48, b49) => (impl_SlidingPlan.f k a0 3).bind fun (i57, l58, l59, b60) => (impl_FactorPlan.f k a0).bind fun (i68, l69, l70, b71) => if b5 = true then (if b16 = true then (if b27 = true then (if b38 = true then (if b49 = true then (if b60 = true then (some (i2, l3, l4, i13, l14, l15, i24, l25, l26, i35, l36, l37, i46, l47, l48, i57, l58, l59, i68, l69, l70, b71)) else (some (i2, l3, l4, i13, l14, l15, i24, l25, l26, i35, l36, l37, i46, l47, l48, i57, l58, l59, i68, l69, l70, false))) else (some (i2, l3, l4, i13, l14, l15, i24, l25, l26, i35, l36, l37, i46, l47, l48, i57, l58, l59, i68, l69, l70, false))) else (some (i2, l3, l4, i13, l14, l15, i24, l25, l26, i35, l36, l37, i46, l47, l48, i57, l58, l59, i68, l69, l70, false))) else (some (i2, l3, l4, i13, l14, l15, i24, l25, l26, i35, l36, l37, i46, l47, l48, i57, l58, l59, i68, l69, l70, false))) else (some (i2, l3, l4, i13, l14, l15, i24, l25, l26, i35, l36, l37, i46, l47, l48, i57, l58, l59, i68, l69, l70, false))) else (some (i2, l3, l4, i13, l14, l15, i24, l25, l26, i35, l36, l37, i46, l47, l48, i57, l58, l59, i68, l69, l70, false))
theorem impl_methodPlans.calls (k : Nat) {w0 ws : World} {P0 : Nat → Prop} (a0 : Int) (Z : Below w0.heap.size w0 ws) (hF : Fr w0 ws P0 [] ws)  (r_2 : Int) (r_3 : List SStep) (r_6 : List Int) (r_9 : Int) (r_10 : List SStep) (r_13 : List Int) (r_16 : Int) (r_17 : List SStep) (r_20 : List Int) (r_23 : Int) (r_24 : List SStep) (r_27 : List Int) (r_30 : Int) (r_31 : List SStep) (r_34 : List Int) (r_37 : Int) (r_38 : List SStep) (r_41 : List Int) (r_44 : Int) (r_45 : List SStep) (r_48 : List Int) (r_51 : Bool) (h : impl_methodPlans.f k a0 = some (r_2, r_3, r_6, r_9, r_10, r_13, r_16, r_17, r_20, r_23, r_24, r_27, r_30, r_31, r_34, r_37, r_38, r_41, r_44, r_45, r_48, r_51)) :
  Calls Try.prog 69 #[.int .i64 a0] ws (Post1 w0 ws P0 (fun ((q_1, q_4, q_5, q_7, q_8, q_11, q_12, q_14, q_15, q_18, q_19, q_21, q_22, q_25, q_26, q_28, q_29, q_32, q_33, q_35, q_36, q_39, q_40, q_42, q_43, q_46, q_47, q_49, q_50) : Nat × (Option Addr) × Nat × (Option Addr) × Nat × (Option Addr) × Nat × (Option Addr) × Nat × (Option Addr) × Nat × (Option Addr) × Nat × (Option Addr) × Nat × (Option Addr) × Nat × (Option Addr) × Nat × (Option Addr) × Nat × (Option Addr) × Nat × (Option Addr) × Nat × (Option Addr) × Nat × (Option Addr) × Nat) => .tuple #[.slice (some ⟨q_1, 0, none⟩) 7 7, .bool r_51]) (fun ((q_1, q_4, q_5, q_7, q_8, q_11, q_12, q_14, q_15, q_18, q_19, q_21, q_22, q_25, q_26, q_28, q_29, q_32, q_33, q_35, q_36, q_39, q_40, q_42, q_43, q_46, q_47, q_49, q_50) : Nat × (Option Addr) × Nat × (Option Addr) × Nat × (Option Addr) × Nat × (Option Addr) × Nat × (Option Addr) × Nat × (Option Addr) × Nat × (Option Addr) × Nat × (Option Addr) × Nat × (Option Addr) × Nat × (Option Addr) × Nat × (Option Addr) × Nat × (Option Addr) × Nat × (Option Addr) × Nat × (Option Addr) × Nat) => [box q_1 25 #[.int .i64 r_2, .slice q_4 r_3.length q_5, .slice q_7 r_6.length q_8, .int .i64 r_9, .slice q_11 r_10.length q_12, .slice q_14 r_13.length q_15, .int .i64 r_16, .slice q_18 r_17.length q_19, .slice q_21 r_20.length q_22, .int .i64 r_23, .slice q_25 r_24.length q_26, .slice q_28 r_27.length q_29, .int .i64 r_30, .slice q_32 r_31.length q_33, .slice q_35 r_34.length q_36, .int .i64 r_37, .slice q_39 r_38.length q_40, .slice q_42 r_41.length q_43, .int .i64 r_44, .slice q_46 r_45.length q_47, .slice q_49 r_48.length q_50], row kStep 107 (.slice q_4 r_3.length q_5) r_3, row (Kd.int .i64) 3 (.slice q_7 r_6.length q_8) r_6, row kStep 107 (.slice q_11 r_10.length q_12) r_10, row (Kd.int .i64) 3 (.slice q_14 r_13.length q_15) r_13, row kStep 107 (.slice q_18 r_17.length q_19) r_17, row (Kd.int .i64) 3 (.slice q_21 r_20.length q_22) r_20, row kStep 107 (.slice q_25 r_24.length q_26) r_24, row (Kd.int .i64) 3 (.slice q_28 r_27.length q_29) r_27, row kStep 107 (.slice q_32 r_31.length q_33) r_31, row (Kd.int .i64) 3 (.slice q_35 r_34.length q_36) r_34, row kStep 107 (.slice q_39 r_38.length q_40) r_38, row (Kd.int .i64) 3 (.slice q_42 r_41.length q_43) r_41, row kStep 107 (.slice q_46 r_45.length q_47) r_45, row (Kd.int .i64) 3 (.slice q_49 r_48.length q_50) r_48])) := by
 unfold impl_methodPlans.f at h
 refine enter Try.func69 rfl Try.ntmps69 rfl hF ?_
 refine c_seq ?_
 refine za0 ?_
 refine o_q rfl rfl (q_asg rfl) ?_
 refine o_q rfl rfl (q_asg rfl) ?_
 refine o_end ?_
 refine za1 ?_
 refine c_seq ?_
 refine za0 ?_
 refine o_q rfl rfl (za2 rfl) ?_
 refine bindE4 h (fun i2 l3 l4 b5 hx1 h => ?_) rfl
 refine o_e rfl (za5 0 Z Try.func32 N32 rfl rfl rfl (fun w P1 hF hB hS hT => impl_BinaryPlan.calls k a0 hB hF _ _ _ _ hx1)) (cur4 (fun A6 c7 A8 c9 => ?_))
 refine o_q rfl rfl (za2 rfl) ?_
 refine o_q rfl rfl (q_ext rfl rfl) ?_
 refine o_q rfl rfl (q_ext rfl rfl) ?_
 refine o_e rfl (zab V25 rfl) (fun g10 => ?_)
 refine o_e rfl (zac (i := 0) rfl rfl rfl Z25 rfl rfl) (fun _ => ?_)
 refine o_q rfl rfl (q_asg rfl) ?_
 refine o_end ?_
 refine za1 ?_
 refine c_seq ?_
 refine za0 ?_
 refine o_q rfl rfl (za2 rfl) ?_
 refine bindE4 h (fun i13 l14 l15 b16 hx12 h => ?_) rfl
 refine o_e rfl (za5 0 Z Try.func33 N33 rfl rfl rfl (fun w P1 hF hB hS hT => impl_RightPlan.calls k a0 hB hF _ _ _ _ hx12)) (cur4 (fun A17 c18 A19 c20 => ?_))
 refine o_q rfl rfl (za2 rfl) ?_
 refine o_q rfl rfl (q_ext rfl rfl) ?_
 refine o_q rfl rfl (q_ext rfl rfl) ?_
 refine o_e rfl (zab V25 rfl) (fun g21 => ?_)
 refine o_e rfl (zac (i := 0) rfl rfl rfl Z25 rfl rfl) (fun _ => ?_)
 refine o_q rfl rfl (q_asg rfl) ?_
 refine o_end ?_
 refine za1 ?_
 refine c_seq ?_
 refine za0 ?_
 refine o_q rfl rfl (za2 rfl) ?_
 refine bindE4 h (fun i24 l25 l26 b27 hx23 h => ?_) rfl
 refine o_e rfl (za5 0 Z Try.func11 N11 rfl rfl rfl (fun w P1 hF hB hS hT => impl_WindowPlan.calls k a0 2 hB hF _ _ _ _ hx23)) (cur4 (fun A28 c29 A30 c31 => ?_))
 refine o_q rfl rfl (za2 rfl) ?_
 refine o_q rfl rfl (q_ext rfl rfl) ?_
 refine o_q rfl rfl (q_ext rfl rfl) ?_
 refine o_e rfl (zab V25 rfl) (fun g32 => ?_)
 refine o_e rfl (zac (i := 0) rfl rfl rfl Z25 rfl rfl) (fun _ => ?_)
 refine o_q rfl rfl (q_asg rfl) ?_
 refine o_end ?_
 refine za1 ?_
 refine c_seq ?_
 refine za0 ?_
 refine o_q rfl rfl (za2 rfl) ?_
 refine bindE4 h (fun i35 l36 l37 b38 hx34 h => ?_) rfl
 refine o_e rfl (za5 0 Z Try.func11 N11 rfl rfl rfl (fun w P1 hF hB hS hT => impl_WindowPlan.calls k a0 3 hB hF _ _ _ _ hx34)) (cur4 (fun A39 c40 A41 c42 => ?_))
 refine o_q rfl rfl (za2 rfl) ?_
 refine o_q rfl rfl (q_ext rfl rfl) ?_
 refine o_q rfl rfl (q_ext rfl rfl) ?_
 refine o_e rfl (zab V25 rfl) (fun g43 => ?_)
 refine o_e rfl (zac (i := 0) rfl rfl rfl Z25 rfl rfl) (fun _ => ?_)
 refine o_q rfl rfl (q_asg rfl) ?_
 refine o_end ?_
 refine za1 ?_
 refine c_seq ?_
 refine za0 ?_
 refine o_q rfl rfl (za2 rfl) ?_
 refine bindE4 h (fun i46 l47 l48 b49 hx45 h => ?_) rfl
 refine o_e rfl (za5 0 Z Try.func16 N16 rfl rfl rfl (fun w P1 hF hB hS hT => impl_SlidingPlan.calls k a0 2 hB hF _ _ _ _ hx45)) (cur4 (fun A50 c51 A52 c53 => ?_))
 refine o_q rfl rfl (za2 rfl) ?_
 refine o_q rfl rfl (q_ext rfl rfl) ?_
 refine o_q rfl rfl (q_ext rfl rfl) ?_
 refine o_e rfl (zab V25 rfl) (fun g54 => ?_)
 refine o_e rfl (zac (i := 0) rfl rfl rfl Z25 rfl rfl) (fun _ => ?_)
 refine o_q rfl rfl (q_asg rfl) ?_
 refine o_end ?_
 refine za1 ?_
 refine c_seq ?_
 refine za0 ?_
 refine o_q rfl rfl (za2 rfl) ?_
 refine bindE4 h (fun i57 l58 l59 b60 hx56 h => ?_) rfl
 refine o_e rfl (za5 0 Z Try.func16 N16 rfl rfl rfl (fun w P1 hF hB hS hT => impl_SlidingPlan.calls k a0 3 hB hF _ _ _ _ hx56)) (cur4 (fun A61 c62 A63 c64 => ?_))
 refine o_q rfl rfl (za2 rfl) ?_
 refine o_q rfl rfl (q_ext rfl rfl) ?_
 refine o_q rfl rfl (q_ext rfl rfl) ?_
 refine o_e rfl (zab V25 rfl) (fun g65 => ?_)
 refine o_e rfl (zac (i := 0) rfl rfl rfl Z25 rfl rfl) (fun _ => ?_)
 refine o_q rfl rfl (q_asg rfl) ?_
 refine o_end ?_
 refine za1 ?_
 refine c_seq ?_
 refine za0 ?_
 refine o_q rfl rfl (za2 rfl) ?_
 refine bindE4 h (fun i68 l69 l70 b71 hx67 h => ?_) rfl
 refine o_e rfl (za5 0 Z Try.func34 N34 rfl rfl rfl (fun w P1 hF hB hS hT => impl_FactorPlan.calls k a0 hB hF _ _ _ _ hx67)) (cur4 (fun A72 c73 A74 c75 => ?_))
 refine o_q rfl rfl (za2 rfl) ?_
 refine o_q rfl rfl (q_ext rfl rfl) ?_
 refine o_q rfl rfl (q_ext rfl rfl) ?_
 refine o_e rfl (zab V25 rfl) (fun g76 => ?_)
 refine o_e rfl (zac (i := 0) rfl rfl rfl Z25 rfl rfl) (fun _ => ?_)
 refine o_q rfl rfl (q_asg rfl) ?_
 refine o_end ?_
 refine za1 ?_
 refine c_seq ?_
 refine za0 ?_
 refine o_q rfl rfl (q_ldB G25 Z25 rfl (fun w h => h.zb2 (i := 18) rfl) rfl) ?_
 refine o_q rfl rfl (q_ldB G25 Z25 rfl (fun w h => h.zb2 (i := 15) rfl) rfl) ?_
 refine o_q rfl rfl (q_ldB G25 Z25 rfl (fun w h => h.zb2 (i := 12) rfl) rfl) ?_
 refine o_q rfl rfl (q_ldB G25 Z25 rfl (fun w h => h.zb2 (i := 9) rfl) rfl) ?_
 refine o_q rfl rfl (q_ldB G25 Z25 rfl (fun w h => h.zb2 (i := 6) rfl) rfl) ?_
 refine o_q rfl rfl (q_ldB G25 Z25 rfl (fun w h => h.zb2 (i := 3) rfl) rfl) ?_
 refine o_q rfl rfl (q_ldB G25 Z25 rfl (fun w h => h.zb2 (i := 0) rfl) rfl) ?_
 refine o_e rfl (e_litB (vs := [(0, .agg #[.int .i64 i2, .slice A6 l3.length c7, .slice A8 l4.length c9]), (1, .agg #[.int .i64 i13, .slice A17 l14.length c18, .slice A19 l15.length c20]), (2, .agg #[.int .i64 i24, .slice A28 l25.length c29, .slice A30 l26.length c31]), (3, .agg #[.int .i64 i35, .slice A39 l36.length c40, .slice A41 l37.length c42]), (4, .agg #[.int .i64 i46, .slice A50 l47.length c51, .slice A52 l48.length c53]), (5, .agg #[.int .i64 i57, .slice A61 l58.length c62, .slice A63 l59.length c64]), (6, .agg #[.int .i64 i68, .slice A72 l69.length c73, .slice A74 l70.length c75])]) (cs := [.int .i64 i2, .slice A6 l3.length c7, .slice A8 l4.length c9, .int .i64 i13, .slice A17 l14.length c18, .slice A19 l15.length c20, .int .i64 i24, .slice A28 l25.length c29, .slice A30 l26.length c31, .int .i64 i35, .slice A39 l36.length c40, .slice A41 l37.length c42, .int .i64 i46, .slice A50 l47.length c51, .slice A52 l48.length c53, .int .i64 i57, .slice A61 l58.length c62, .slice A63 l59.length c64, .int .i64 i68, .slice A72 l69.length c73, .slice A74 l70.length c75]) Try.underlying77 I25 (by decide) rfl (by kernel_rfl)) (fun g78 => ?_)
 refine o_q rfl rfl (za2 rfl) ?_
 refine o_q rfl rfl (za2 rfl) ?_
 refine byB b5 (fun hb80 => ?_) (fun hb80 => ?_)
 ·replace h := bb_t hb80 h
  refine o_w (za4 rfl rfl rfl (congrArg Value.bool hb80)) rfl (za2 rfl) ?_
  refine o_q rfl rfl (zak true (congrArg Value.bool hb80) rfl) ?_
  refine o_q rfl rfl (za2 rfl) ?_
  refine byB b16 (fun hb81 => ?_) (fun hb81 => ?_)
  ·replace h := bb_t hb81 h
   refine o_w (za4 rfl rfl rfl (congrArg Value.bool hb81)) rfl (za2 rfl) ?_
   refine o_q rfl rfl (zak true (congrArg Value.bool hb81) rfl) ?_
   refine o_q rfl rfl (za2 rfl) ?_
   refine byB b27 (fun hb82 => ?_) (fun hb82 => ?_)
   ·replace h := bb_t hb82 h
    refine o_w (za4 rfl rfl rfl (congrArg Value.bool hb82)) rfl (za2 rfl) ?_
    refine o_q rfl rfl (zak true (congrArg Value.bool hb82) rfl) ?_
    refine o_q rfl rfl (za2 rfl) ?_
    refine byB b38 (fun hb83 => ?_) (fun hb83 => ?_)
    ·replace h := bb_t hb83 h
     refine o_w (za4 rfl rfl rfl (congrArg Value.bool hb83)) rfl (za2 rfl) ?_
     refine o_q rfl rfl (zak true (congrArg Value.bool hb83) rfl) ?_
     refine o_q rfl rfl (za2 rfl) ?_
     refine byB b49 (fun hb84 => ?_) (fun hb84 => ?_)
     ·replace h := bb_t hb84 h
      refine o_w (za4 rfl rfl rfl (congrArg Value.bool hb84)) rfl (za2 rfl) ?_
      refine o_q rfl rfl (zak true (congrArg Value.bool hb84) rfl) ?_
      refine o_q rfl rfl (za2 rfl) ?_
      refine byB b60 (fun hb85 => ?_) (fun hb85 => ?_)
      ·replace h := bb_t hb85 h
       refine o_w (za4 rfl rfl rfl (congrArg Value.bool hb85)) rfl (za2 rfl) ?_
       refine o_q rfl rfl (zak true (congrArg Value.bool hb85) rfl) ?_
       refine o_q rfl rfl (q_asg rfl) ?_
       refine o_q rfl rfl (q_asg rfl) ?_
       refine o_end ?_
       refine za1 ?_
       refine c_ret ?_
       have e0_ := Option.some.inj h; clear h
       have d0_ := (Prod.mk.inj e0_).1; have e1_ := (Prod.mk.inj e0_).2; clear e0_; subst d0_
       have d1_ := (Prod.mk.inj e1_).1; have e2_ := (Prod.mk.inj e1_).2; clear e1_; subst d1_
       have d2_ := (Prod.mk.inj e2_).1; have e3_ := (Prod.mk.inj e2_).2; clear e2_; subst d2_
       have d3_ := (Prod.mk.inj e3_).1; have e4_ := (Prod.mk.inj e3_).2; clear e3_; subst d3_
       have d4_ := (Prod.mk.inj e4_).1; have e5_ := (Prod.mk.inj e4_).2; clear e4_; subst d4_
       have d5_ := (Prod.mk.inj e5_).1; have e6_ := (Prod.mk.inj e5_).2; clear e5_; subst d5_
       have d6_ := (Prod.mk.inj e6_).1; have e7_ := (Prod.mk.inj e6_).2; clear e6_; subst d6_
       have d7_ := (Prod.mk.inj e7_).1; have e8_ := (Prod.mk.inj e7_).2; clear e7_; subst d7_
       have d8_ := (Prod.mk.inj e8_).1; have e9_ := (Prod.mk.inj e8_).2; clear e8_; subst d8_
       have d9_ := (Prod.mk.inj e9_).1; have e10_ := (Prod.mk.inj e9_).2; clear e9_; subst d9_
       have d10_ := (Prod.mk.inj e10_).1; have e11_ := (Prod.mk.inj e10_).2; clear e10_; subst d10_
       have d11_ := (Prod.mk.inj e11_).1; have e12_ := (Prod.mk.inj e11_).2; clear e11_; subst d11_
       have d12_ := (Prod.mk.inj e12_).1; have e13_ := (Prod.mk.inj e12_).2; clear e12_; subst d12_
       have d13_ := (Prod.mk.inj e13_).1; have e14_ := (Prod.mk.inj e13_).2; clear e13_; subst d13_
       have d14_ := (Prod.mk.inj e14_).1; have e15_ := (Prod.mk.inj e14_).2; clear e14_; subst d14_
       have d15_ := (Prod.mk.inj e15_).1; have e16_ := (Prod.mk.inj e15_).2; clear e15_; subst d15_
       have d16_ := (Prod.mk.inj e16_).1; have e17_ := (Prod.mk.inj e16_).2; clear e16_; subst d16_
       have d17_ := (Prod.mk.inj e17_).1; have e18_ := (Prod.mk.inj e17_).2; clear e17_; subst d17_
       have d18_ := (Prod.mk.inj e18_).1; have e19_ := (Prod.mk.inj e18_).2; clear e18_; subst d18_
       have d19_ := (Prod.mk.inj e19_).1; have e20_ := (Prod.mk.inj e19_).2; clear e19_; subst d19_
       have d20_ := (Prod.mk.inj e20_).1; have e21_ := (Prod.mk.inj e20_).2; clear e20_; subst d20_
       subst e21_
       exact x_r2 (g78, A6, c7, A8, c9, A17, c18, A19, c20, A28, c29, A30, c31, A39, c40, A41, c42, A50, c51, A52, c53, A61, c62, A63, c64, A72, c73, A74, c75) Try.results69 (zad rfl) (zad rfl) rfl (fun w h => f_pick [0, 20, 21, 17, 18, 14, 15, 11, 12, 8, 9, 5, 6, 2, 3] (by decide) rfl w h)
      ·replace h := bb_f hb85 h
       refine @o_n _ _ _ _ _ _ _ _ _ _ _ 78 (za3 rfl rfl rfl (congrArg Value.bool hb85) rfl) (Eq.refl (some 78)) ?_
       refine o_q rfl rfl (zak false (congrArg Value.bool hb85) rfl) ?_
       refine o_q rfl rfl (q_asg rfl) ?_
       refine o_q rfl rfl (q_asg rfl) ?_
       refine o_end ?_
       refine za1 ?_
       refine c_ret ?_
       have e0_ := Option.some.inj h; clear h
       have d0_ := (Prod.mk.inj e0_).1; have e1_ := (Prod.mk.inj e0_).2; clear e0_; subst d0_
       have d1_ := (Prod.mk.inj e1_).1; have e2_ := (Prod.mk.inj e1_).2; clear e1_; subst d1_
       have d2_ := (Prod.mk.inj e2_).1; have e3_ := (Prod.mk.inj e2_).2; clear e2_; subst d2_
       have d3_ := (Prod.mk.inj e3_).1; have e4_ := (Prod.mk.inj e3_).2; clear e3_; subst d3_
       have d4_ := (Prod.mk.inj e4_).1; have e5_ := (Prod.mk.inj e4_).2; clear e4_; subst d4_
       have d5_ := (Prod.mk.inj e5_).1; have e6_ := (Prod.mk.inj e5_).2; clear e5_; subst d5_
       have d6_ := (Prod.mk.inj e6_).1; have e7_ := (Prod.mk.inj e6_).2; clear e6_; subst d6_
       have d7_ := (Prod.mk.inj e7_).1; have e8_ := (Prod.mk.inj e7_).2; clear e7_; subst d7_
       have d8_ := (Prod.mk.inj e8_).1; have e9_ := (Prod.mk.inj e8_).2; clear e8_; subst d8_
       have d9_ := (Prod.mk.inj e9_).1; have e10_ := (Prod.mk.inj e9_).2; clear e9_; subst d9_
       have d10_ := (Prod.mk.inj e10_).1; have e11_ := (Prod.mk.inj e10_).2; clear e10_; subst d10_
       have d11_ := (Prod.mk.inj e11_).1; have e12_ := (Prod.mk.inj e11_).2; clear e11_; subst d11_
       have d12_ := (Prod.mk.inj e12_).1; have e13_ := (Prod.mk.inj e12_).2; clear e12_; subst d12_
       have d13_ := (Prod.mk.inj e13_).1; have e14_ := (Prod.mk.inj e13_).2; clear e13_; subst d13_
       have d14_ := (Prod.mk.inj e14_).1; have e15_ := (Prod.mk.inj e14_).2; clear e14_; subst d14_
       have d15_ := (Prod.mk.inj e15_).1; have e16_ := (Prod.mk.inj e15_).2; clear e15_; subst d15_
       have d16_ := (Prod.mk.inj e16_).1; have e17_ := (Prod.mk.inj e16_).2; clear e16_; subst d16_
       have d17_ := (Prod.mk.inj e17_).1; have e18_ := (Prod.mk.inj e17_).2; clear e17_; subst d17_
       have d18_ := (Prod.mk.inj e18_).1; have e19_ := (Prod.mk.inj e18_).2; clear e18_; subst d18_
       have d19_ := (Prod.mk.inj e19_).1; have e20_ := (Prod.mk.inj e19_).2; clear e19_; subst d19_
       have d20_ := (Prod.mk.inj e20_).1; have e21_ := (Prod.mk.inj e20_).2; clear e20_; subst d20_
       subst e21_
       exact x_r2 (g78, A6, c7, A8, c9, A17, c18, A19, c20, A28, c29, A30, c31, A39, c40, A41, c42, A50, c51, A52, c53, A61, c62, A63, c64, A72, c73, A74, c75) Try.results69 (zad rfl) (zad rfl) rfl (fun w h => f_pick [0, 20, 21, 17, 18, 14, 15, 11, 12, 8, 9, 5, 6, 2, 3] (by decide) rfl w h)
     ·replace h := bb_f hb84 h
      refine @o_n _ _ _ _ _ _ _ _ _ _ _ 75 (za3 rfl rfl rfl (congrArg Value.bool hb84) rfl) (Eq.refl (some 75)) ?_
      refine o_q rfl rfl (zak false (congrArg Value.bool hb84) rfl) ?_
      refine o_q rfl rfl (za2 rfl) ?_
      refine @o_n _ _ _ _ _ _ _ _ _ _ _ 78 (za3 rfl rfl rfl rfl rfl) (Eq.refl (some 78)) ?_
      refine o_q rfl rfl (zak false rfl rfl) ?_
      refine o_q rfl rfl (q_asg rfl) ?_
      refine o_q rfl rfl (q_asg rfl) ?_
      refine o_end ?_
      refine za1 ?_
      refine c_ret ?_
      have e0_ := Option.some.inj h; clear h
      have d0_ := (Prod.mk.inj e0_).1; have e1_ := (Prod.mk.inj e0_).2; clear e0_; subst d0_
      have d1_ := (Prod.mk.inj e1_).1; have e2_ := (Prod.mk.inj e1_).2; clear e1_; subst d1_
      have d2_ := (Prod.mk.inj e2_).1; have e3_ := (Prod.mk.inj e2_).2; clear e2_; subst d2_
      have d3_ := (Prod.mk.inj e3_).1; have e4_ := (Prod.mk.inj e3_).2; clear e3_; subst d3_
      have d4_ := (Prod.mk.inj e4_).1; have e5_ := (Prod.mk.inj e4_).2; clear e4_; subst d4_
      have d5_ := (Prod.mk.inj e5_).1; have e6_ := (Prod.mk.inj e5_).2; clear e5_; subst d5_
      have d6_ := (Prod.mk.inj e6_).1; have e7_ := (Prod.mk.inj e6_).2; clear e6_; subst d6_
      have d7_ := (Prod.mk.inj e7_).1; have e8_ := (Prod.mk.inj e7_).2; clear e7_; subst d7_
      have d8_ := (Prod.mk.inj e8_).1; have e9_ := (Prod.mk.inj e8_).2; clear e8_; subst d8_
      have d9_ := (Prod.mk.inj e9_).1; have e10_ := (Prod.mk.inj e9_).2; clear e9_; subst d9_
      have d10_ := (Prod.mk.inj e10_).1; have e11_ := (Prod.mk.inj e10_).2; clear e10_; subst d10_
      have d11_ := (Prod.mk.inj e11_).1; have e12_ := (Prod.mk.inj e11_).2; clear e11_; subst d11_
      have d12_ := (Prod.mk.inj e12_).1; have e13_ := (Prod.mk.inj e12_).2; clear e12_; subst d12_
      have d13_ := (Prod.mk.inj e13_).1; have e14_ := (Prod.mk.inj e13_).2; clear e13_; subst d13_
      have d14_ := (Prod.mk.inj e14_).1; have e15_ := (Prod.mk.inj e14_).2; clear e14_; subst d14_
      have d15_ := (Prod.mk.inj e15_).1; have e16_ := (Prod.mk.inj e15_).2; clear e15_; subst d15_
      have d16_ := (Prod.mk.inj e16_).1; have e17_ := (Prod.mk.inj e16_).2; clear e16_; subst d16_
      have d17_ := (Prod.mk.inj e17_).1; have e18_ := (Prod.mk.inj e17_).2; clear e17_; subst d17_
      have d18_ := (Prod.mk.inj e18_).1; have e19_ := (Prod.mk.inj e18_).2; clear e18_; subst d18_
      have d19_ := (Prod.mk.inj e19_).1; have e20_ := (Prod.mk.inj e19_).2; clear e19_; subst d19_
      have d20_ := (Prod.mk.inj e20_).1; have e21_ := (Prod.mk.inj e20_).2; clear e20_; subst d20_
      subst e21_
      exact x_r2 (g78, A6, c7, A8, c9, A17, c18, A19, c20, A28, c29, A30, c31, A39, c40, A41, c42, A50, c51, A52, c53, A61, c62, A63, c64, A72, c73, A74, c75) Try.results69 (zad rfl) (zad rfl) rfl (fun w h => f_pick [0, 20, 21, 17, 18, 14, 15, 11, 12, 8, 9, 5, 6, 2, 3] (by decide) rfl w h)
    ·replace h := bb_f hb83 h
     refine @o_n _ _ _ _ _ _ _ _ _ _ _ 72 (za3 rfl rfl rfl (congrArg Value.bool hb83) rfl) (Eq.refl (some 72)) ?_
     refine o_q rfl rfl (zak false (congrArg Value.bool hb83) rfl) ?_
     refine o_q rfl rfl (za2 rfl) ?_
     refine @o_n _ _ _ _ _ _ _ _ _ _ _ 75 (za3 rfl rfl rfl rfl rfl) (Eq.refl (some 75)) ?_
     refine o_q rfl rfl (zak false rfl rfl) ?_
     refine o_q rfl rfl (za2 rfl) ?_
     refine @o_n _ _ _ _ _ _ _ _ _ _ _ 78 (za3 rfl rfl rfl rfl rfl) (Eq.refl (some 78)) ?_
     refine o_q rfl rfl (zak false rfl rfl) ?_
     refine o_q rfl rfl (q_asg rfl) ?_
     refine o_q rfl rfl (q_asg rfl) ?_
     refine o_end ?_
     refine za1 ?_
     refine c_ret ?_
     have e0_ := Option.some.inj h; clear h
     have d0_ := (Prod.mk.inj e0_).1; have e1_ := (Prod.mk.inj e0_).2; clear e0_; subst d0_
     have d1_ := (Prod.mk.inj e1_).1; have e2_ := (Prod.mk.inj e1_).2; clear e1_; subst d1_
     have d2_ := (Prod.mk.inj e2_).1; have e3_ := (Prod.mk.inj e2_).2; clear e2_; subst d2_
     have d3_ := (Prod.mk.inj e3_).1; have e4_ := (Prod.mk.inj e3_).2; clear e3_; subst d3_
     have d4_ := (Prod.mk.inj e4_).1; have e5_ := (Prod.mk.inj e4_).2; clear e4_; subst d4_
     have d5_ := (Prod.mk.inj e5_).1; have e6_ := (Prod.mk.inj e5_).2; clear e5_; subst d5_
     have d6_ := (Prod.mk.inj e6_).1; have e7_ := (Prod.mk.inj e6_).2; clear e6_; subst d6_
     have d7_ := (Prod.mk.inj e7_).1; have e8_ := (Prod.mk.inj e7_).2; clear e7_; subst d7_
     have d8_ := (Prod.mk.inj e8_).1; have e9_ := (Prod.mk.inj e8_).2; clear e8_; subst d8_
     have d9_ := (Prod.mk.inj e9_).1; have e10_ := (Prod.mk.inj e9_).2; clear e9_; subst d9_
     have d10_ := (Prod.mk.inj e10_).1; have e11_ := (Prod.mk.inj e10_).2; clear e10_; subst d10_
     have d11_ := (Prod.mk.inj e11_).1; have e12_ := (Prod.mk.inj e11_).2; clear e11_; subst d11_
     have d12_ := (Prod.mk.inj e12_).1; have e13_ := (Prod.mk.inj e12_).2; clear e12_; subst d12_
     have d13_ := (Prod.mk.inj e13_).1; have e14_ := (Prod.mk.inj e13_).2; clear e13_; subst d13_
     have d14_ := (Prod.mk.inj e14_).1; have e15_ := (Prod.mk.inj e14_).2; clear e14_; subst d14_
     have d15_ := (Prod.mk.inj e15_).1; have e16_ := (Prod.mk.inj e15_).2; clear e15_; subst d15_
     have d16_ := (Prod.mk.inj e16_).1; have e17_ := (Prod.mk.inj e16_).2; clear e16_; subst d16_
     have d17_ := (Prod.mk.inj e17_).1; have e18_ := (Prod.mk.inj e17_).2; clear e17_; subst d17_
     have d18_ := (Prod.mk.inj e18_).1; have e19_ := (Prod.mk.inj e18_).2; clear e18_; subst d18_
     have d19_ := (Prod.mk.inj e19_).1; have e20_ := (Prod.mk.inj e19_).2; clear e19_; subst d19_
     have d20_ := (Prod.mk.inj e20_).1; have e21_ := (Prod.mk.inj e20_).2; clear e20_; subst d20_
     subst e21_
     exact x_r2 (g78, A6, c7, A8, c9, A17, c18, A19, c20, A28, c29, A30, c31, A39, c40, A41, c42, A50, c51, A52, c53, A61, c62, A63, c64, A72, c73, A74, c75) Try.results69 (zad rfl) (zad rfl) rfl (fun w h => f_pick [0, 20, 21, 17, 18, 14, 15, 11, 12, 8, 9, 5, 6, 2, 3] (by decide) rfl w h)
   ·replace h := bb_f hb82 h
    refine @o_n _ _ _ _ _ _ _ _ _ _ _ 69 (za3 rfl rfl rfl (congrArg Value.bool hb82) rfl) (Eq.refl (some 69)) ?_
    refine o_q rfl rfl (zak false (congrArg Value.bool hb82) rfl) ?_
    refine o_q rfl rfl (za2 rfl) ?_
    refine @o_n _ _ _ _ _ _ _ _ _ _ _ 72 (za3 rfl rfl rfl rfl rfl) (Eq.refl (some 72)) ?_
    refine o_q rfl rfl (zak false rfl rfl) ?_
    refine o_q rfl rfl (za2 rfl) ?_
    refine @o_n _ _ _ _ _ _ _ _ _ _ _ 75 (za3 rfl rfl rfl rfl rfl) (Eq.refl (some 75)) ?_
    refine o_q rfl rfl (zak false rfl rfl) ?_
    refine o_q rfl rfl (za2 rfl) ?_
    refine @o_n _ _ _ _ _ _ _ _ _ _ _ 78 (za3 rfl rfl rfl rfl rfl) (Eq.refl (some 78)) ?_
    refine o_q rfl rfl (zak false rfl rfl) ?_
    refine o_q rfl rfl (q_asg rfl) ?_
    refine o_q rfl rfl (q_asg rfl) ?_
    refine o_end ?_
    refine za1 ?_
    refine c_ret ?_
    have e0_ := Option.some.inj h; clear h
    have d0_ := (Prod.mk.inj e0_).1; have e1_ := (Prod.mk.inj e0_).2; clear e0_; subst d0_
    have d1_ := (Prod.mk.inj e1_).1; have e2_ := (Prod.mk.inj e1_).2; clear e1_; subst d1_
    have d2_ := (Prod.mk.inj e2_).1; have e3_ := (Prod.mk.inj e2_).2; clear e2_; subst d2_
    have d3_ := (Prod.mk.inj e3_).1; have e4_ := (Prod.mk.inj e3_).2; clear e3_; subst d3_
    have d4_ := (Prod.mk.inj e4_).1; have e5_ := (Prod.mk.inj e4_).2; clear e4_; subst d4_
    have d5_ := (Prod.mk.inj e5_).1; have e6_ := (Prod.mk.inj e5_).2; clear e5_; subst d5_
    have d6_ := (Prod.mk.inj e6_).1; have e7_ := (Prod.mk.inj e6_).2; clear e6_; subst d6_
    have d7_ := (Prod.mk.inj e7_).1; have e8_ := (Prod.mk.inj e7_).2; clear e7_; subst d7_
    have d8_ := (Prod.mk.inj e8_).1; have e9_ := (Prod.mk.inj e8_).2; clear e8_; subst d8_
    have d9_ := (Prod.mk.inj e9_).1; have e10_ := (Prod.mk.inj e9_).2; clear e9_; subst d9_
    have d10_ := (Prod.mk.inj e10_).1; have e11_ := (Prod.mk.inj e10_).2; clear e10_; subst d10_
    have d11_ := (Prod.mk.inj e11_).1; have e12_ := (Prod.mk.inj e11_).2; clear e11_; subst d11_
    have d12_ := (Prod.mk.inj e12_).1; have e13_ := (Prod.mk.inj e12_).2; clear e12_; subst d12_
    have d13_ := (Prod.mk.inj e13_).1; have e14_ := (Prod.mk.inj e13_).2; clear e13_; subst d13_
    have d14_ := (Prod.mk.inj e14_).1; have e15_ := (Prod.mk.inj e14_).2; clear e14_; subst d14_
    have d15_ := (Prod.mk.inj e15_).1; have e16_ := (Prod.mk.inj e15_).2; clear e15_; subst d15_
    have d16_ := (Prod.mk.inj e16_).1; have e17_ := (Prod.mk.inj e16_).2; clear e16_; subst d16_
    have d17_ := (Prod.mk.inj e17_).1; have e18_ := (Prod.mk.inj e17_).2; clear e17_; subst d17_
    have d18_ := (Prod.mk.inj e18_).1; have e19_ := (Prod.mk.inj e18_).2; clear e18_; subst d18_
    have d19_ := (Prod.mk.inj e19_).1; have e20_ := (Prod.mk.inj e19_).2; clear e19_; subst d19_
    have d20_ := (Prod.mk.inj e20_).1; have e21_ := (Prod.mk.inj e20_).2; clear e20_; subst d20_
    subst e21_
    exact x_r2 (g78, A6, c7, A8, c9, A17, c18, A19, c20, A28, c29, A30, c31, A39, c40, A41, c42, A50, c51, A52, c53, A61, c62, A63, c64, A72, c73, A74, c75) Try.results69 (zad rfl) (zad rfl) rfl (fun w h => f_pick [0, 20, 21, 17, 18, 14, 15, 11, 12, 8, 9, 5, 6, 2, 3] (by decide) rfl w h)
  ·replace h := bb_f hb81 h
   refine @o_n _ _ _ _ _ _ _ _ _ _ _ 66 (za3 rfl rfl rfl (congrArg Value.bool hb81) rfl) (Eq.refl (some 66)) ?_
   refine o_q rfl rfl (zak false (congrArg Value.bool hb81) rfl) ?_
   refine o_q rfl rfl (za2 rfl) ?_
   refine @o_n _ _ _ _ _ _ _ _ _ _ _ 69 (za3 rfl rfl rfl rfl rfl) (Eq.refl (some 69)) ?_
   refine o_q rfl rfl (zak false rfl rfl) ?_
   refine o_q rfl rfl (za2 rfl) ?_
   refine @o_n _ _ _ _ _ _ _ _ _ _ _ 72 (za3 rfl rfl rfl rfl rfl) (Eq.refl (some 72)) ?_
   refine o_q rfl rfl (zak false rfl rfl) ?_
   refine o_q rfl rfl (za2 rfl) ?_
   refine @o_n _ _ _ _ _ _ _ _ _ _ _ 75 (za3 rfl rfl rfl rfl rfl) (Eq.refl (some 75)) ?_
   refine o_q rfl rfl (zak false rfl rfl) ?_
   refine o_q rfl rfl (za2 rfl) ?_
   refine @o_n _ _ _ _ _ _ _ _ _ _ _ 78 (za3 rfl rfl rfl rfl rfl) (Eq.refl (some 78)) ?_
   refine o_q rfl rfl (zak false rfl rfl) ?_
   refine o_q rfl rfl (q_asg rfl) ?_
   refine o_q rfl rfl (q_asg rfl) ?_
   refine o_end ?_
   refine za1 ?_
   refine c_ret ?_
   have e0_ := Option.some.inj h; clear h
   have d0_ := (Prod.mk.inj e0_).1; have e1_ := (Prod.mk.inj e0_).2; clear e0_; subst d0_
   have d1_ := (Prod.mk.inj e1_).1; have e2_ := (Prod.mk.inj e1_).2; clear e1_; subst d1_
   have d2_ := (Prod.mk.inj e2_).1; have e3_ := (Prod.mk.inj e2_).2; clear e2_; subst d2_
   have d3_ := (Prod.mk.inj e3_).1; have e4_ := (Prod.mk.inj e3_).2; clear e3_; subst d3_
   have d4_ := (Prod.mk.inj e4_).1; have e5_ := (Prod.mk.inj e4_).2; clear e4_; subst d4_
   have d5_ := (Prod.mk.inj e5_).1; have e6_ := (Prod.mk.inj e5_).2; clear e5_; subst d5_
   have d6_ := (Prod.mk.inj e6_).1; have e7_ := (Prod.mk.inj e6_).2; clear e6_; subst d6_
   have d7_ := (Prod.mk.inj e7_).1; have e8_ := (Prod.mk.inj e7_).2; clear e7_; subst d7_
   have d8_ := (Prod.mk.inj e8_).1; have e9_ := (Prod.mk.inj e8_).2; clear e8_; subst d8_
   have d9_ := (Prod.mk.inj e9_).1; have e10_ := (Prod.mk.inj e9_).2; clear e9_; subst d9_
   have d10_ := (Prod.mk.inj e10_).1; have e11_ := (Prod.mk.inj e10_).2; clear e10_; subst d10_
   have d11_ := (Prod.mk.inj e11_).1; have e12_ := (Prod.mk.inj e11_).2; clear e11_; subst d11_
   have d12_ := (Prod.mk.inj e12_).1; have e13_ := (Prod.mk.inj e12_).2; clear e12_; subst d12_
   have d13_ := (Prod.mk.inj e13_).1; have e14_ := (Prod.mk.inj e13_).2; clear e13_; subst d13_
   have d14_ := (Prod.mk.inj e14_).1; have e15_ := (Prod.mk.inj e14_).2; clear e14_; subst d14_
   have d15_ := (Prod.mk.inj e15_).1; have e16_ := (Prod.mk.inj e15_).2; clear e15_; subst d15_
   have d16_ := (Prod.mk.inj e16_).1; have e17_ := (Prod.mk.inj e16_).2; clear e16_; subst d16_
   have d17_ := (Prod.mk.inj e17_).1; have e18_ := (Prod.mk.inj e17_).2; clear e17_; subst d17_
   have d18_ := (Prod.mk.inj e18_).1; have e19_ := (Prod.mk.inj e18_).2; clear e18_; subst d18_
   have d19_ := (Prod.mk.inj e19_).1; have e20_ := (Prod.mk.inj e19_).2; clear e19_; subst d19_
   have d20_ := (Prod.mk.inj e20_).1; have e21_ := (Prod.mk.inj e20_).2; clear e20_; subst d20_
   subst e21_
   exact x_r2 (g78, A6, c7, A8, c9, A17, c18, A19, c20, A28, c29, A30, c31, A39, c40, A41, c42, A50, c51, A52, c53, A61, c62, A63, c64, A72, c73, A74, c75) Try.results69 (zad rfl) (zad rfl) rfl (fun w h => f_pick [0, 20, 21, 17, 18, 14, 15, 11, 12, 8, 9, 5, 6, 2, 3] (by decide) rfl w h)
 ·replace h := bb_f hb80 h
  refine @o_n _ _ _ _ _ _ _ _ _ _ _ 63 (za3 rfl rfl rfl (congrArg Value.bool hb80) rfl) (Eq.refl (some 63)) ?_
  refine o_q rfl rfl (zak false (congrArg Value.bool hb80) rfl) ?_
  refine o_q rfl rfl (za2 rfl) ?_
  refine @o_n _ _ _ _ _ _ _ _ _ _ _ 66 (za3 rfl rfl rfl rfl rfl) (Eq.refl (some 66)) ?_
  refine o_q rfl rfl (zak false rfl rfl) ?_
  refine o_q rfl rfl (za2 rfl) ?_
  refine @o_n _ _ _ _ _ _ _ _ _ _ _ 69 (za3 rfl rfl rfl rfl rfl) (Eq.refl (some 69)) ?_
  refine o_q rfl rfl (zak false rfl rfl) ?_
  refine o_q rfl rfl (za2 rfl) ?_
  refine @o_n _ _ _ _ _ _ _ _ _ _ _ 72 (za3 rfl rfl rfl rfl rfl) (Eq.refl (some 72)) ?_
  refine o_q rfl rfl (zak false rfl rfl) ?_
  refine o_q rfl rfl (za2 rfl) ?_
  refine @o_n _ _ _ _ _ _ _ _ _ _ _ 75 (za3 rfl rfl rfl rfl rfl) (Eq.refl (some 75)) ?_
  refine o_q rfl rfl (zak false rfl rfl) ?_
  refine o_q rfl rfl (za2 rfl) ?_
  refine @o_n _ _ _ _ _ _ _ _ _ _ _ 78 (za3 rfl rfl rfl rfl rfl) (Eq.refl (some 78)) ?_
  refine o_q rfl rfl (zak false rfl rfl) ?_
  refine o_q rfl rfl (q_asg rfl) ?_
  refine o_q rfl rfl (q_asg rfl) ?_
  refine o_end ?_
  refine za1 ?_
  refine c_ret ?_
  have e0_ := Option.some.inj h; clear h
  have d0_ := (Prod.mk.inj e0_).1; have e1_ := (Prod.mk.inj e0_).2; clear e0_; subst d0_
  have d1_ := (Prod.mk.inj e1_).1; have e2_ := (Prod.mk.inj e1_).2; clear e1_; subst d1_
  have d2_ := (Prod.mk.inj e2_).1; have e3_ := (Prod.mk.inj e2_).2; clear e2_; subst d2_
  have d3_ := (Prod.mk.inj e3_).1; have e4_ := (Prod.mk.inj e3_).2; clear e3_; subst d3_
  have d4_ := (Prod.mk.inj e4_).1; have e5_ := (Prod.mk.inj e4_).2; clear e4_; subst d4_
  have d5_ := (Prod.mk.inj e5_).1; have e6_ := (Prod.mk.inj e5_).2; clear e5_; subst d5_
  have d6_ := (Prod.mk.inj e6_).1; have e7_ := (Prod.mk.inj e6_).2; clear e6_; subst d6_
  have d7_ := (Prod.mk.inj e7_).1; have e8_ := (Prod.mk.inj e7_).2; clear e7_; subst d7_
  have d8_ := (Prod.mk.inj e8_).1; have e9_ := (Prod.mk.inj e8_).2; clear e8_; subst d8_
  have d9_ := (Prod.mk.inj e9_).1; have e10_ := (Prod.mk.inj e9_).2; clear e9_; subst d9_
  have d10_ := (Prod.mk.inj e10_).1; have e11_ := (Prod.mk.inj e10_).2; clear e10_; subst d10_
  have d11_ := (Prod.mk.inj e11_).1; have e12_ := (Prod.mk.inj e11_).2; clear e11_; subst d11_
  have d12_ := (Prod.mk.inj e12_).1; have e13_ := (Prod.mk.inj e12_).2; clear e12_; subst d12_
  have d13_ := (Prod.mk.inj e13_).1; have e14_ := (Prod.mk.inj e13_).2; clear e13_; subst d13_
  have d14_ := (Prod.mk.inj e14_).1; have e15_ := (Prod.mk.inj e14_).2; clear e14_; subst d14_
  have d15_ := (Prod.mk.inj e15_).1; have e16_ := (Prod.mk.inj e15_).2; clear e15_; subst d15_
  have d16_ := (Prod.mk.inj e16_).1; have e17_ := (Prod.mk.inj e16_).2; clear e16_; subst d16_
  have d17_ := (Prod.mk.inj e17_).1; have e18_ := (Prod.mk.inj e17_).2; clear e17_; subst d17_
  have d18_ := (Prod.mk.inj e18_).1; have e19_ := (Prod.mk.inj e18_).2; clear e18_; subst d18_
  have d19_ := (Prod.mk.inj e19_).1; have e20_ := (Prod.mk.inj e19_).2; clear e19_; subst d19_
  have d20_ := (Prod.mk.inj e20_).1; have e21_ := (Prod.mk.inj e20_).2; clear e20_; subst d20_
  subst e21_
  exact x_r2 (g78, A6, c7, A8, c9, A17, c18, A19, c20, A28, c29, A30, c31, A39, c40, A41, c42, A50, c51, A52, c53, A61, c62, A63, c64, A72, c73, A74, c75) Try.results69 (zad rfl) (zad rfl) rfl (fun w h => f_pick [0, 20, 21, 17, 18, 14, 15, 11, 12, 8, 9, 5, 6, 2, 3] (by decide) rfl w h)

def impl_MethodCosts.f (k : Nat) (a0 : Int) : Option ((List Int) × Bool) := (impl_methodPlans.f k a0).bind fun (i2, l3, l4, i5, l6, l7, i8, l9, l10, i11, l12, l13, i14, l15, l16, i17, l18, l19, i20, l21, l22, b23) => if b23 = true then ((ap ([] : List Int) ([(l3.length : Int)] : List Int)).bind fun l62 => (ap l62 ([(l6.length : Int)] : List Int)).bind fun l71 => (ap l71 ([(l9.length : Int)] : List Int)).bind fun l80 => (ap l80 ([(l12.length : Int)] : List Int)).bind fun l89 => (ap l89 ([(l15.length : Int)] : List Int)).bind fun l98 => (ap l98 ([(l18.length : Int)] : List Int)).bind fun l107 => (ap l107 ([(l21.length : Int)] : List Int)).bind fun l116 => some (l116, true)) else (some (([] : List Int), false))
theorem impl_MethodCosts.calls (k : Nat) {w0 ws : World} {P0 : Nat → Prop} (a0 : Int) (Z : Below w0.heap.size w0 ws) (hF : Fr w0 ws P0 [] ws)  (r_1 : List Int) (r_4 : Bool) (h : impl_MethodCosts.f k a0 = some (r_1, r_4)) :
  Calls Try.prog 18 #[.int .i64 a0] ws (Post1 w0 ws P0 (fun ((q_2, q_3) : (Option Addr) × Nat) => .tuple #[.slice q_2 r_1.length q_3, .bool r_4]) (fun ((q_2, q_3) : (Option Addr) × Nat) => [row (Kd.int .i64) 3 (.slice q_2 r_1.length q_3) r_1])) := by
 unfold impl_MethodCosts.f at h
 refine enter Try.func18 rfl Try.ntmps18 rfl hF ?_
 refine c_seq ?_
 refine za0 ?_
 refine o_q rfl rfl (q_asg rfl) ?_
 refine o_q rfl rfl (q_asg rfl) ?_
 refine o_end ?_
 refine za1 ?_
 refine c_seq ?_
 refine za0 ?_
 refine o_q rfl rfl (za2 rfl) ?_
 refine bindE22 h (fun i2 l3 l4 i5 l6 l7 i8 l9 l10 i11 l12 l13 i14 l15 l16 i17 l18 l19 i20 l21 l22 b23 hx1 h => ?_) rfl
 refine o_e rfl (za5 0 Z Try.func69 N69 rfl rfl rfl (fun w P1 hF hB hS hT => impl_methodPlans.calls k a0 hB hF _ _ _ _ _ _ _ _ _ _ _ _ _ _ _ _ _ _ _ _ _ _ hx1)) (cur29 (fun c24 A25 c26 A27 c28 A29 c30 A31 c32 A33 c34 A35 c36 A37 c38 A39 c40 A41 c42 A43 c44 A45 c46 A47 c48 A49 c50 A51 c52 => ?_))
 refine o_q rfl rfl (za2 rfl) ?_
 refine o_q rfl rfl (q_ext rfl rfl) ?_
 refine o_q rfl rfl (q_ext rfl rfl) ?_
 refine o_q rfl rfl (q_asg rfl) ?_
 refine o_q rfl rfl (q_asg rfl) ?_
 refine o_end ?_
 refine za1 ?_
 refine c_seq ?_
 refine c_seq ?_
 refine za0 ?_
 refine o_q rfl rfl (za2 rfl) ?_
 refine o_q rfl rfl (q_not rfl) ?_
 refine o_end ?_
 refine za1 ?_
 refine zan _ rfl (fun hb53 => ?_) (fun hb53 => ?_)
 ·replace hb53 := nt_t hb53
  replace h := bb_f hb53 h
  refine c_seq ?_
  refine za0 ?_
  refine o_q rfl rfl (q_asg rfl) ?_
  refine o_q rfl rfl (q_asg rfl) ?_
  refine o_end ?_
  refine za1 ?_
  refine c_ret ?_
  refine zaa ?_
  refine x_nil (Kd.int .i64) 3 ?_
  have e0_ := Option.some.inj h; clear h
  have d0_ := (Prod.mk.inj e0_).1; have e1_ := (Prod.mk.inj e0_).2; clear e0_; subst d0_
  subst e1_
  exact x_r2 (none, 0) Try.results18 (zad rfl) (zad rfl) rfl (fun w h => f_pick [0] (by decide) rfl w h)
 ·replace hb53 := nt_f hb53
  replace h := bb_t hb53 h
  refine zai ?_
  refine za1 ?_
  refine c_seq ?_
  refine za0 ?_
  refine o_e rfl (e_lit0 (Kd.int .i64) Try.underlying23 I3) (cur2 (fun A54 c55 => ?_))
  refine o_q rfl rfl (q_asg rfl) ?_
  refine o_end ?_
  refine za1 ?_
  refine c_seq ?_
  refine c_seq ?_
  refine za0 ?_
  refine o_q rfl rfl (za2 rfl) ?_
  refine o_q rfl rfl (q_len Try.underlying77 rfl) ?_
  refine o_q rfl rfl (za2 rfl) ?_
  refine o_end ?_
  refine za1 ?_
  refine zae ?_
  refine c_rounds 8 ?_
  refine rn_succ ?_
  refine c_seq ?_
  refine za0 ?_
  refine o_q rfl rfl (q_lss rfl rfl) ?_
  refine o_end ?_
  refine za1 ?_
  refine c_seq ?_
  refine zar (congrArg Value.bool (show decide ((0 : Int) < 7) = true from rfl)) ?_
  refine zai ?_
  refine za1 ?_
  refine c_seq ?_
  refine zae ?_
  refine c_seq ?_
  refine za0 ?_
  refine o_q rfl rfl (q_ixB (m := 0) Try.underlying77 Z25 rfl rfl (by decide)) ?_
  refine o_q rfl rfl (q_ldBo (o := 0) (ls := [.int .i64 i2, .slice A25 l3.length c26, .slice A27 l4.length c28]) G25 Z25 rfl (fun w h => h.zb2 (i := 1) rfl) rfl rfl) ?_
  refine o_e rfl (zab V25 rfl) (fun g57 => ?_)
  refine o_e rfl (zac (i := 0) rfl rfl rfl Z25 rfl rfl) (fun _ => ?_)
  refine o_end ?_
  refine za1 ?_
  refine za0 ?_
  refine o_q rfl rfl (za2 rfl) ?_
  refine o_q rfl rfl (q_f F25_1 rfl) ?_
  refine o_q rfl rfl (q_ldb Y22 rfl (fun w h => h.zb2 (i := 0) rfl) rfl) ?_
  refine o_q rfl rfl (q_len Try.underlying22 rfl) ?_
  refine o_e rfl (e_lit (vs := [(0, .int .i64 (l3.length : Int))]) (cs := [.int .i64 (l3.length : Int)]) (Kd.int .i64) ([(l3.length : Int)] : List Int) Try.underlying23 I3 (by decide) rfl (by decide) rfl rfl (fun _ _ => Kd.za8 _)) (cur2 (fun A59 c60 => ?_))
  refine za6 h (fun l62 ha63 h => ?_) rfl
  refine o_e rfl (e_app (i := 2) (j := 0) Try.underlying23 I3 rfl (by decide) (by decide) rfl rfl rfl rfl rfl ha63) (cur2 (fun A64 c65 => ?_))
  refine o_q rfl rfl (q_asg rfl) ?_
  refine o_end ?_
  refine zaf ?_
  refine za1 ?_
  refine za0 ?_
  refine o_q rfl rfl (q_addc rfl rfl rfl) ?_
  refine o_q rfl rfl (za2 rfl) ?_
  refine o_end ?_
  refine x_rn ?_
  refine rn_succ ?_
  refine c_seq ?_
  refine za0 ?_
  refine o_q rfl rfl (q_lss rfl rfl) ?_
  refine o_end ?_
  refine za1 ?_
  refine c_seq ?_
  refine zar (congrArg Value.bool (show decide ((1 : Int) < 7) = true from rfl)) ?_
  refine zai ?_
  refine za1 ?_
  refine c_seq ?_
  refine zae ?_
  refine c_seq ?_
  refine za0 ?_
  refine o_q rfl rfl (q_ixB (m := 1) Try.underlying77 Z25 rfl rfl (by decide)) ?_
  refine o_q rfl rfl (q_ldBo (o := 3) (ls := [.int .i64 i5, .slice A29 l6.length c30, .slice A31 l7.length c32]) G25 Z25 rfl (fun w h => h.zb2 (i := 3) rfl) rfl rfl) ?_
  refine o_e rfl (zab V25 rfl) (fun g66 => ?_)
  refine o_e rfl (zac (i := 0) rfl rfl rfl Z25 rfl rfl) (fun _ => ?_)
  refine o_end ?_
  refine za1 ?_
  refine za0 ?_
  refine o_q rfl rfl (za2 rfl) ?_
  refine o_q rfl rfl (q_f F25_1 rfl) ?_
  refine o_q rfl rfl (q_ldb Y22 rfl (fun w h => h.zb2 (i := 0) rfl) rfl) ?_
  refine o_q rfl rfl (q_len Try.underlying22 rfl) ?_
  refine o_e rfl (e_lit (vs := [(0, .int .i64 (l6.length : Int))]) (cs := [.int .i64 (l6.length : Int)]) (Kd.int .i64) ([(l6.length : Int)] : List Int) Try.underlying23 I3 (by decide) rfl (by decide) rfl rfl (fun _ _ => Kd.za8 _)) (cur2 (fun A68 c69 => ?_))
  refine za6 h (fun l71 ha72 h => ?_) rfl
  refine o_e rfl (e_app (i := 4) (j := 0) Try.underlying23 I3 rfl (by decide) (by decide) rfl rfl rfl rfl rfl ha72) (cur2 (fun A73 c74 => ?_))
  refine o_q rfl rfl (q_asg rfl) ?_
  refine o_end ?_
  refine zaf ?_
  refine za1 ?_
  refine za0 ?_
  refine o_q rfl rfl (q_addc rfl rfl rfl) ?_
  refine o_q rfl rfl (za2 rfl) ?_
  refine o_end ?_
  refine x_rn ?_
  refine rn_succ ?_
  refine c_seq ?_
  refine za0 ?_
  refine o_q rfl rfl (q_lss rfl rfl) ?_
  refine o_end ?_
  refine za1 ?_
  refine c_seq ?_
  refine zar (congrArg Value.bool (show decide ((2 : Int) < 7) = true from rfl)) ?_
  refine zai ?_
  refine za1 ?_
  refine c_seq ?_
  refine zae ?_
  refine c_seq ?_
  refine za0 ?_
  refine o_q rfl rfl (q_ixB (m := 2) Try.underlying77 Z25 rfl rfl (by decide)) ?_
  refine o_q rfl rfl (q_ldBo (o := 6) (ls := [.int .i64 i8, .slice A33 l9.length c34, .slice A35 l10.length c36]) G25 Z25 rfl (fun w h => h.zb2 (i := 5) rfl) rfl rfl) ?_
  refine o_e rfl (zab V25 rfl) (fun g75 => ?_)
  refine o_e rfl (zac (i := 0) rfl rfl rfl Z25 rfl rfl) (fun _ => ?_)
  refine o_end ?_
  refine za1 ?_
  refine za0 ?_
  refine o_q rfl rfl (za2 rfl) ?_
  refine o_q rfl rfl (q_f F25_1 rfl) ?_
  refine o_q rfl rfl (q_ldb Y22 rfl (fun w h => h.zb2 (i := 0) rfl) rfl) ?_
  refine o_q rfl rfl (q_len Try.underlying22 rfl) ?_
  refine o_e rfl (e_lit (vs := [(0, .int .i64 (l9.length : Int))]) (cs := [.int .i64 (l9.length : Int)]) (Kd.int .i64) ([(l9.length : Int)] : List Int) Try.underlying23 I3 (by decide) rfl (by decide) rfl rfl (fun _ _ => Kd.za8 _)) (cur2 (fun A77 c78 => ?_))
  refine za6 h (fun l80 ha81 h => ?_) rfl
  refine o_e rfl (e_app (i := 6) (j := 0) Try.underlying23 I3 rfl (by decide) (by decide) rfl rfl rfl rfl rfl ha81) (cur2 (fun A82 c83 => ?_))
  refine o_q rfl rfl (q_asg rfl) ?_
  refine o_end ?_
  refine zaf ?_
  refine za1 ?_
  refine za0 ?_
  refine o_q rfl rfl (q_addc rfl rfl rfl) ?_
  refine o_q rfl rfl (za2 rfl) ?_
  refine o_end ?_
  refine x_rn ?_
  refine rn_succ ?_
  refine c_seq ?_
  refine za0 ?_
  refine o_q rfl rfl (q_lss rfl rfl) ?_
  refine o_end ?_
  refine za1 ?_
  refine c_seq ?_
  refine zar (congrArg Value.bool (show decide ((3 : Int) < 7) = true from rfl)) ?_
  refine zai ?_
  refine za1 ?_
  refine c_seq ?_
  refine zae ?_
  refine c_seq ?_
  refine za0 ?_
  refine o_q rfl rfl (q_ixB (m := 3) Try.underlying77 Z25 rfl rfl (by decide)) ?_
  refine o_q rfl rfl (q_ldBo (o := 9) (ls := [.int .i64 i11, .slice A37 l12.length c38, .slice A39 l13.length c40]) G25 Z25 rfl (fun w h => h.zb2 (i := 7) rfl) rfl rfl) ?_
  refine o_e rfl (zab V25 rfl) (fun g84 => ?_)
  refine o_e rfl (zac (i := 0) rfl rfl rfl Z25 rfl rfl) (fun _ => ?_)
  refine o_end ?_
  refine za1 ?_
  refine za0 ?_
  refine o_q rfl rfl (za2 rfl) ?_
  refine o_q rfl rfl (q_f F25_1 rfl) ?_
  refine o_q rfl rfl (q_ldb Y22 rfl (fun w h => h.zb2 (i := 0) rfl) rfl) ?_
  refine o_q rfl rfl (q_len Try.underlying22 rfl) ?_
  refine o_e rfl (e_lit (vs := [(0, .int .i64 (l12.length : Int))]) (cs := [.int .i64 (l12.length : Int)]) (Kd.int .i64) ([(l12.length : Int)] : List Int) Try.underlying23 I3 (by decide) rfl (by decide) rfl rfl (fun _ _ => Kd.za8 _)) (cur2 (fun A86 c87 => ?_))
  refine za6 h (fun l89 ha90 h => ?_) rfl
  refine o_e rfl (e_app (i := 8) (j := 0) Try.underlying23 I3 rfl (by decide) (by decide) rfl rfl rfl rfl rfl ha90) (cur2 (fun A91 c92 => ?_))
  refine o_q rfl rfl (q_asg rfl) ?_
  refine o_end ?_
  refine zaf ?_
  refine za1 ?_
  refine za0 ?_
  refine o_q rfl rfl (q_addc rfl rfl rfl) ?_
  refine o_q rfl rfl (za2 rfl) ?_
  refine o_end ?_
  refine x_rn ?_
  refine rn_succ ?_
  refine c_seq ?_
  refine za0 ?_
  refine o_q rfl rfl (q_lss rfl rfl) ?_
  refine o_end ?_
  refine za1 ?_
  refine c_seq ?_
  refine zar (congrArg Value.bool (show decide ((4 : Int) < 7) = true from rfl)) ?_
  refine zai ?_
  refine za1 ?_
  refine c_seq ?_
  refine zae ?_
  refine c_seq ?_
  refine za0 ?_
  refine o_q rfl rfl (q_ixB (m := 4) Try.underlying77 Z25 rfl rfl (by decide)) ?_
  refine o_q rfl rfl (q_ldBo (o := 12) (ls := [.int .i64 i14, .slice A41 l15.length c42, .slice A43 l16.length c44]) G25 Z25 rfl (fun w h => h.zb2 (i := 9) rfl) rfl rfl) ?_
  refine o_e rfl (zab V25 rfl) (fun g93 => ?_)
  refine o_e rfl (zac (i := 0) rfl rfl rfl Z25 rfl rfl) (fun _ => ?_)
  refine o_end ?_
  refine za1 ?_
  refine za0 ?_
  refine o_q rfl rfl (za2 rfl) ?_
  refine o_q rfl rfl (q_f F25_1 rfl) ?_
  refine o_q rfl rfl (q_ldb Y22 rfl (fun w h => h.zb2 (i := 0) rfl) rfl) ?_
  refine o_q rfl rfl (q_len Try.underlying22 rfl) ?_
  refine o_e rfl (e_lit (vs := [(0, .int .i64 (l15.length : Int))]) (cs := [.int .i64 (l15.length : Int)]) (Kd.int .i64) ([(l15.length : Int)] : List Int) Try.underlying23 I3 (by decide) rfl (by decide) rfl rfl (fun _ _ => Kd.za8 _)) (cur2 (fun A95 c96 => ?_))
  refine za6 h (fun l98 ha99 h => ?_) rfl
  refine o_e rfl (e_app (i := 10) (j := 0) Try.underlying23 I3 rfl (by decide) (by decide) rfl rfl rfl rfl rfl ha99) (cur2 (fun A100 c101 => ?_))
  refine o_q rfl rfl (q_asg rfl) ?_
  refine o_end ?_
  refine zaf ?_
  refine za1 ?_
  refine za0 ?_
  refine o_q rfl rfl (q_addc rfl rfl rfl) ?_
  refine o_q rfl rfl (za2 rfl) ?_
  refine o_end ?_
  refine x_rn ?_
  refine rn_succ ?_
  refine c_seq ?_
  refine za0 ?_
  refine o_q rfl rfl (q_lss rfl rfl) ?_
  refine o_end ?_
  refine za1 ?_
  refine c_seq ?_
  refine zar (congrArg Value.bool (show decide ((5 : Int) < 7) = true from rfl)) ?_
  refine zai ?_
  refine za1 ?_
  refine c_seq ?_
  refine zae ?_
  refine c_seq ?_
  refine za0 ?_
  refine o_q rfl rfl (q_ixB (m := 5) Try.underlying77 Z25 rfl rfl (by decide)) ?_
  refine o_q rfl rfl (q_ldBo (o := 15) (ls := [.int .i64 i17, .slice A45 l18.length c46, .slice A47 l19.length c48]) G25 Z25 rfl (fun w h => h.zb2 (i := 11) rfl) rfl rfl) ?_
  refine o_e rfl (zab V25 rfl) (fun g102 => ?_)
  refine o_e rfl (zac (i := 0) rfl rfl rfl Z25 rfl rfl) (fun _ => ?_)
  refine o_end ?_
  refine za1 ?_
  refine za0 ?_
  refine o_q rfl rfl (za2 rfl) ?_
  refine o_q rfl rfl (q_f F25_1 rfl) ?_
  refine o_q rfl rfl (q_ldb Y22 rfl (fun w h => h.zb2 (i := 0) rfl) rfl) ?_
  refine o_q rfl rfl (q_len Try.underlying22 rfl) ?_
  refine o_e rfl (e_lit (vs := [(0, .int .i64 (l18.length : Int))]) (cs := [.int .i64 (l18.length : Int)]) (Kd.int .i64) ([(l18.length : Int)] : List Int) Try.underlying23 I3 (by decide) rfl (by decide) rfl rfl (fun _ _ => Kd.za8 _)) (cur2 (fun A104 c105 => ?_))
  refine za6 h (fun l107 ha108 h => ?_) rfl
  refine o_e rfl (e_app (i := 12) (j := 0) Try.underlying23 I3 rfl (by decide) (by decide) rfl rfl rfl rfl rfl ha108) (cur2 (fun A109 c110 => ?_))
  refine o_q rfl rfl (q_asg rfl) ?_
  refine o_end ?_
  refine zaf ?_
  refine za1 ?_
  refine za0 ?_
  refine o_q rfl rfl (q_addc rfl rfl rfl) ?_
  refine o_q rfl rfl (za2 rfl) ?_
  refine o_end ?_
  refine x_rn ?_
  refine rn_succ ?_
  refine c_seq ?_
  refine za0 ?_
  refine o_q rfl rfl (q_lss rfl rfl) ?_
  refine o_end ?_
  refine za1 ?_
  refine c_seq ?_
  refine zar (congrArg Value.bool (show decide ((6 : Int) < 7) = true from rfl)) ?_
  refine zai ?_
  refine za1 ?_
  refine c_seq ?_
  refine zae ?_
  refine c_seq ?_
  refine za0 ?_
  refine o_q rfl rfl (q_ixB (m := 6) Try.underlying77 Z25 rfl rfl (by decide)) ?_
  refine o_q rfl rfl (q_ldBo (o := 18) (ls := [.int .i64 i20, .slice A49 l21.length c50, .slice A51 l22.length c52]) G25 Z25 rfl (fun w h => h.zb2 (i := 13) rfl) rfl rfl) ?_
  refine o_e rfl (zab V25 rfl) (fun g111 => ?_)
  refine o_e rfl (zac (i := 0) rfl rfl rfl Z25 rfl rfl) (fun _ => ?_)
  refine o_end ?_
  refine za1 ?_
  refine za0 ?_
  refine o_q rfl rfl (za2 rfl) ?_
  refine o_q rfl rfl (q_f F25_1 rfl) ?_
  refine o_q rfl rfl (q_ldb Y22 rfl (fun w h => h.zb2 (i := 0) rfl) rfl) ?_
  refine o_q rfl rfl (q_len Try.underlying22 rfl) ?_
  refine o_e rfl (e_lit (vs := [(0, .int .i64 (l21.length : Int))]) (cs := [.int .i64 (l21.length : Int)]) (Kd.int .i64) ([(l21.length : Int)] : List Int) Try.underlying23 I3 (by decide) rfl (by decide) rfl rfl (fun _ _ => Kd.za8 _)) (cur2 (fun A113 c114 => ?_))
  refine za6 h (fun l116 ha117 h => ?_) rfl
  refine o_e rfl (e_app (i := 14) (j := 0) Try.underlying23 I3 rfl (by decide) (by decide) rfl rfl rfl rfl rfl ha117) (cur2 (fun A118 c119 => ?_))
  refine o_q rfl rfl (q_asg rfl) ?_
  refine o_end ?_
  refine zaf ?_
  refine za1 ?_
  refine za0 ?_
  refine o_q rfl rfl (q_addc rfl rfl rfl) ?_
  refine o_q rfl rfl (za2 rfl) ?_
  refine o_end ?_
  refine x_rn ?_
  refine rn_succ ?_
  refine c_seq ?_
  refine za0 ?_
  refine o_q rfl rfl (q_lss rfl rfl) ?_
  refine o_end ?_
  refine za1 ?_
  refine c_seq ?_
  refine zaz (congrArg Value.bool (show decide ((7 : Int) < 7) = false from rfl)) ?_
  refine zax ?_
  refine za7 ?_
  refine za7 ?_
  refine x_hit ?_
  refine za1 ?_
  refine c_seq ?_
  refine za0 ?_
  refine o_q rfl rfl (za2 rfl) ?_
  refine o_q rfl rfl (q_asg rfl) ?_
  refine o_q rfl rfl (q_asg rfl) ?_
  refine o_end ?_
  refine za1 ?_
  refine c_ret ?_
  have e0_ := Option.some.inj h; clear h
  have d0_ := (Prod.mk.inj e0_).1; have e1_ := (Prod.mk.inj e0_).2; clear e0_; subst d0_
  subst e1_
  exact x_r2 (A118, c119) Try.results18 (zad rfl) (zad rfl) rfl (fun w h => f_pick [14] (by decide) rfl w h)

end Go.Proofs.Ytiaohjciddbpoaa.M5
