import Derived.Test.YtnnlfipcoahcnaaGreatDoorKFnRenamedRegistersSrt
import Derived.Test.YtnnlfipcoahcnaaGreatDoorKFnRenamedRegistersG3p3
namespace Go.Proofs.YtnnlfipcoahcnaaGreatDoor.G3
set_option maxHeartbeats 8000000
set_option maxRecDepth 100000
open Go.RowKit Go.Proofs.YtnnlfipcoahcnaaGreatDoor.Frame Go.Proofs.YtnnlfipcoahcnaaGreatDoorW.PrintLast Go.Proofs.YtnnlfipcoahcnaaGreatDoor.Hand
open Go.Proofs.YtnnlfipcoahcnaaGreatDoorW.PrintWords hiding mn mx
set_option linter.unusedVariables false
def impl_told.f (k : Nat) (a0_0 : Int) (l0_1 : List SStep) (l0_2 : List Int) : Option (Int × (List SStep) × (List Int) × Bool) := (impl_IsPlan.f k a0_0 l0_1 l0_2).bind fun b6 => if b6 = true then (some (a0_0, l0_1, l0_2, true)) else (some (0, ([] : List SStep), ([] : List Int), false))
theorem impl_told.calls (k : Nat) {w0 ws : World} {P0 : Nat → Prop} (a0_0 : Int) (A0_1 : Option Addr) (c0_1 : Nat) (n0_1 : Nat) (l0_1 : List SStep) (A0_2 : Option Addr) (c0_2 : Nat) (n0_2 : Nat) (l0_2 : List Int) (Z : Below w0.heap.size w0 ws) (hF : Fr w0 ws P0 [row kStep 72 (.slice A0_1 n0_1 c0_1) l0_1, row (Kd.int .i64) 3 (.slice A0_2 n0_2 c0_2) l0_2] ws)  (r_1 : Int) (r_2 : List SStep) (r_5 : List Int) (r_8 : Bool) (h : impl_told.f k a0_0 l0_1 l0_2 = some (r_1, r_2, r_5, r_8)) :
  Calls Tryz.prog 112 #[.agg #[.int .i64 a0_0, .slice A0_1 n0_1 c0_1, .slice A0_2 n0_2 c0_2]] ws (Post1 w0 ws P0 (fun ((q_3, q_4, q_6, q_7) : (Option Addr) × Nat × (Option Addr) × Nat) => .tuple #[.agg #[.int .i64 r_1, .slice q_3 r_2.length q_4, .slice q_6 r_5.length q_7], .bool r_8]) (fun ((q_3, q_4, q_6, q_7) : (Option Addr) × Nat × (Option Addr) × Nat) => [row kStep 72 (.slice q_3 r_2.length q_4) r_2, row (Kd.int .i64) 3 (.slice q_6 r_5.length q_7) r_5])) := by
 unfold impl_told.f at h
 obtain rfl := (hF.row_C (i := 0) rfl).2.1
 obtain rfl := (hF.row_C (i := 1) rfl).2.1
 refine enter Tryz.func112 rfl Tryz.ntmps112 rfl hF (c_seq (za0 (o_e rfl (e_box rfl) (fun g1 => o_e rfl (zao V27 rfl) (fun g3 => o_q rfl rfl (q_asg rfl) (o_end (za1 (c_seq (c_seq ?_)))))))))
 refine za0 (o_q rfl rfl (q_ldB G27 Z27 rfl (fun w h => h.zac (i := 1) rfl) rfl) (za6 h (fun b6 hx5 h => ?_) rfl))
 refine o_e rfl (za7 0 Z Tryz.func10 N10 rfl rfl rfl (fun w P1 hF hB hS hT => impl_IsPlan.calls k a0_0 A0_1 c0_1 l0_1.length l0_1 A0_2 c0_2 l0_2.length l0_2 hB hF (hT 2 _ rfl).row (hT 2 _ rfl).cap (hT 3 _ rfl).row (hT 3 _ rfl).cap _ hx5)) (fun _ => o_q rfl rfl (q_not rfl) (o_end (za1 (zas _ rfl (fun hb7 => ?_) (fun hb7 => ?_)))))
 ·replace hb7 := nt_t hb7
  replace h := bb_f hb7 h
  refine c_seq (za0 (o_q rfl rfl (zaw (vs := []) (cs := [.int .i64 0, .slice none 0 0, .slice none 0 0]) rfl rfl) (o_e rfl (zae (i := 0) rfl rfl rfl Z27 rfl rfl) (fun _ => o_q rfl rfl (q_asg rfl) (o_end (za1 (c_ret (za9 (x_nil kStep 72 ?_)))))))))
  refine x_nil (Kd.int .i64) 3 ?_
  have e0_ := si_ h; clear h
  obtain ⟨rfl, e1_⟩ := Prod.mk.inj e0_
  obtain ⟨rfl, e2_⟩ := Prod.mk.inj e1_
  obtain ⟨rfl, e3_⟩ := Prod.mk.inj e2_
  subst e3_
  exact x_r2 (none, 0, none, 0) Tryz.results112 (zb8 rfl G27 Z27 (fun w h => h.zac (i := 2) rfl) rfl) (zad rfl) rfl (fun w h => za8 [1, 0] dc_ rfl w h)
 ·replace hb7 := nt_f hb7
  replace h := bb_t hb7 h
  refine zal (za1 (c_seq (za0 (o_q rfl rfl (q_ldB G27 Z27 rfl (fun w h => h.zac (i := 1) rfl) rfl) (o_e rfl (zae (i := 0) rfl rfl rfl Z27 rfl rfl) (fun _ => o_q rfl rfl (q_asg rfl) (o_end (za1 (c_ret ?_)))))))))
  have e0_ := si_ h; clear h
  obtain ⟨rfl, e1_⟩ := Prod.mk.inj e0_
  obtain ⟨rfl, e2_⟩ := Prod.mk.inj e1_
  obtain ⟨rfl, e3_⟩ := Prod.mk.inj e2_
  subst e3_
  exact x_r2 (A0_1, c0_1, A0_2, c0_2) Tryz.results112 (zb8 rfl G27 Z27 (fun w h => h.zac (i := 0) rfl) rfl) (zad rfl) rfl (fun w h => za8 [2, 3] dc_ rfl w h)

def impl_RegCode_plan.f (k : Nat) (a0_0 : Int) (l0_1 : List Int) (l0_2 : List SRegOp) (l0_3 : List Int) : Option (Int × (List SStep) × (List Int) × Bool) := (if 6 < (l0_1.length : Int) then (some true) else (if 40 < (l0_2.length : Int) then (some true) else (some (decide (6 < (l0_3.length : Int)))))).bind fun b5 => if b5 = true then (some (0, ([] : List SStep), ([] : List Int), false)) else ((impl_RegCode_read.f a0_0 l0_1 l0_2 l0_3).bind fun (i15, l16, l17, b18) => if b18 = true then ((impl_told.f k i15 l16 l17).bind fun (i27, l28, l29, b30) => some (i27, l28, l29, b30)) else (some (0, ([] : List SStep), ([] : List Int), false)))
theorem impl_RegCode_plan.calls (k : Nat) {w0 ws : World} {P0 : Nat → Prop} (g0 : Nat) (a0_0 : Int) (A0_1 : Option Addr) (c0_1 : Nat) (n0_1 : Nat) (l0_1 : List Int) (A0_2 : Option Addr) (c0_2 : Nat) (n0_2 : Nat) (l0_2 : List SRegOp) (A0_3 : Option Addr) (c0_3 : Nat) (n0_3 : Nat) (l0_3 : List Int) (Z : Below w0.heap.size w0 ws) (hF : Fr w0 ws P0 [] ws) (R0_1 : Stable ws P0 (fun w => Kd.C (Kd.int .i64) w A0_1 n0_1 l0_1)) (hc0_1 : n0_1 ≤ c0_1) (R0_2 : Stable ws P0 (fun w => Kd.C zaq w A0_2 n0_2 l0_2)) (hc0_2 : n0_2 ≤ c0_2) (R0_3 : Stable ws P0 (fun w => Kd.C (Kd.int .i64) w A0_3 n0_3 l0_3)) (hc0_3 : n0_3 ≤ c0_3) (B0 : Stable ws P0 (fun w => w.heap[g0]? = some (.cells #[.int .i64 a0_0, .slice A0_1 n0_1 c0_1, .slice A0_2 n0_2 c0_2, .slice A0_3 n0_3 c0_3] 38 (0, 0)))) (r_1 : Int) (r_2 : List SStep) (r_5 : List Int) (r_8 : Bool) (h : impl_RegCode_plan.f k a0_0 l0_1 l0_2 l0_3 = some (r_1, r_2, r_5, r_8)) :
  Calls Tryz.prog 78 #[.pointer (some ⟨g0, 0, none⟩)] ws (Post1 w0 ws P0 (fun ((q_3, q_4, q_6, q_7) : (Option Addr) × Nat × (Option Addr) × Nat) => .tuple #[.agg #[.int .i64 r_1, .slice q_3 r_2.length q_4, .slice q_6 r_5.length q_7], .bool r_8]) (fun ((q_3, q_4, q_6, q_7) : (Option Addr) × Nat × (Option Addr) × Nat) => [row kStep 72 (.slice q_3 r_2.length q_4) r_2, row (Kd.int .i64) 3 (.slice q_6 r_5.length q_7) r_5])) := by
 unfold impl_RegCode_plan.f at h
 obtain rfl := (R0_1 ws (KeptB.refl _ _)).1
 obtain rfl := (R0_2 ws (KeptB.refl _ _)).1
 obtain rfl := (R0_3 ws (KeptB.refl _ _)).1
 refine enter Tryz.func78 rfl Tryz.ntmps78 rfl hF (c_seq (za0 (o_e rfl (zao V27 rfl) (fun g1 => o_q rfl rfl (q_asg rfl) (o_end (za1 (c_seq (za6 h (fun o6 hl7 hR8 => ?_) rfl))))))))
 clear h
 refine c_cutJ (σ := Bool) (fun b5 => some b5 = some o6) [6, 7, 8, 9, 10, 11, 12, 13, 14, 15, 16, 17, 18, 19, 20, 21, 22, 23, 24, 25, 26, 27] (fun b5 => [(27, .bool b5)]) (fun b5 => [box g1 27 #[.int .i64 0, .slice none 0 0, .slice none 0 0]]) ?_ ?_
 ·skip
  have h := hl7; clear hl7
  clear hR8
  refine za0 (o_q rfl rfl (za3 rfl) (o_q rfl rfl (q_nil rfl) (o_q rfl rfl (q_f F38_1 rfl) (o_q rfl rfl (q_ldb Y25 rfl (fun w h => B0.now Z h) rfl) (o_q rfl rfl (q_len Tryz.underlying25 rfl) (o_q rfl rfl (q_gtr rfl rfl) (o_q rfl rfl (za3 rfl) (byB (decide (6 < (l0_1.length : Int))) (fun hb11 => ?_) (fun hb11 => ?_)))))))))
  ·replace h := br_t hb11 h
   refine o_n (d := 13) (za2 rfl rfl rfl (vb_ hb11) rfl) (Eq.refl (some 13)) (o_n (d := 14) (za2 rfl rfl rfl (vb_ hb11) rfl) (Eq.refl (some 14)) (o_n (d := 15) (za2 rfl rfl rfl (vb_ hb11) rfl) (Eq.refl (some 15)) (o_n (d := 16) (za2 rfl rfl rfl (vb_ hb11) rfl) (Eq.refl (some 16)) (o_n (d := 17) (za2 rfl rfl rfl (vb_ hb11) rfl) (Eq.refl (some 17)) (o_n (d := 18) (za2 rfl rfl rfl (vb_ hb11) rfl) (Eq.refl (some 18)) (o_q rfl rfl (zai true (vb_ hb11) rfl) (o_q rfl rfl (za3 rfl) (o_n (d := 21) (za2 rfl rfl rfl rfl rfl) (Eq.refl (some 21)) (o_n (d := 22) (za2 rfl rfl rfl rfl rfl) (Eq.refl (some 22)) ?_)))))))))
   refine o_n (d := 23) (za2 rfl rfl rfl rfl rfl) (Eq.refl (some 23)) (o_n (d := 24) (za2 rfl rfl rfl rfl rfl) (Eq.refl (some 24)) (o_n (d := 25) (za2 rfl rfl rfl rfl rfl) (Eq.refl (some 25)) (o_n (d := 26) (za2 rfl rfl rfl rfl rfl) (Eq.refl (some 26)) (o_q rfl rfl (zai true rfl rfl) (o_end (zam true h ⟨rfl, trivial⟩ (fun w h => za8 [0] dc_ rfl w h) ?_))))))
   exact of_
  ·replace h := br_f hb11 h
   refine o_w (za4 rfl rfl rfl (vb_ hb11)) rfl (za3 rfl) (o_w (za4 rfl rfl rfl (vb_ hb11)) rfl (q_nil rfl) (o_w (za4 rfl rfl rfl (vb_ hb11)) rfl (q_f F38_2 rfl) (o_w (za4 rfl rfl rfl (vb_ hb11)) rfl (q_ldb Y36 rfl (fun w h => B0.now Z h) rfl) (o_w (za4 rfl rfl rfl (vb_ hb11)) rfl (q_len Tryz.underlying36 rfl) (o_w (za4 rfl rfl rfl (vb_ hb11)) rfl (q_gtr rfl rfl) (o_q rfl rfl (zai false (vb_ hb11) rfl) (o_q rfl rfl (za3 rfl) (byB (decide (40 < (l0_2.length : Int))) (fun hb12 => ?_) (fun hb12 => ?_)))))))))
   ·replace h := br_t hb12 h
    refine o_n (d := 21) (za2 rfl rfl rfl (vb_ hb12) rfl) (Eq.refl (some 21)) (o_n (d := 22) (za2 rfl rfl rfl (vb_ hb12) rfl) (Eq.refl (some 22)) (o_n (d := 23) (za2 rfl rfl rfl (vb_ hb12) rfl) (Eq.refl (some 23)) (o_n (d := 24) (za2 rfl rfl rfl (vb_ hb12) rfl) (Eq.refl (some 24)) (o_n (d := 25) (za2 rfl rfl rfl (vb_ hb12) rfl) (Eq.refl (some 25)) (o_n (d := 26) (za2 rfl rfl rfl (vb_ hb12) rfl) (Eq.refl (some 26)) (o_q rfl rfl (zai true (vb_ hb12) rfl) (o_end (zam true h ⟨rfl, trivial⟩ (fun w h => za8 [0] dc_ rfl w h) ?_))))))))
    exact of_
   ·replace h := br_f hb12 h
    refine o_w (za4 rfl rfl rfl (vb_ hb12)) rfl (za3 rfl) (o_w (za4 rfl rfl rfl (vb_ hb12)) rfl (q_nil rfl) (o_w (za4 rfl rfl rfl (vb_ hb12)) rfl (q_f F38_3 rfl) (o_w (za4 rfl rfl rfl (vb_ hb12)) rfl (q_ldb Y25 rfl (fun w h => B0.now Z h) rfl) (o_w (za4 rfl rfl rfl (vb_ hb12)) rfl (q_len Tryz.underlying25 rfl) (o_w (za4 rfl rfl rfl (vb_ hb12)) rfl (q_gtr rfl rfl) (o_q rfl rfl (zai false (vb_ hb12) rfl) (o_end (zam (decide (6 < (l0_3.length : Int))) h ⟨rfl, trivial⟩ (fun w h => za8 [0] dc_ rfl w h) ?_))))))))
    exact of_
 ·skip
  refine (fun b5 => fun U9 hJ10 => ?_)
  have e_ := si_ hJ10; have h := hR8; rw [← e_] at h; clear e_ hJ10 hR8 hl7
  refine zas _ rfl (fun hb13 => ?_) (fun hb13 => ?_)
  ·skip
   replace h := bb_t hb13 h
   refine c_seq (za0 (o_q rfl rfl (zaw (vs := []) (cs := [.int .i64 0, .slice none 0 0, .slice none 0 0]) rfl rfl) (o_e rfl (zae (i := 0) rfl rfl rfl Z27 rfl rfl) (fun _ => o_q rfl rfl (q_asg rfl) (o_end (za1 (c_ret (za9 (x_nil kStep 72 ?_)))))))))
   refine x_nil (Kd.int .i64) 3 ?_
   have e0_ := si_ h; clear h
   obtain ⟨rfl, e1_⟩ := Prod.mk.inj e0_
   obtain ⟨rfl, e2_⟩ := Prod.mk.inj e1_
   obtain ⟨rfl, e3_⟩ := Prod.mk.inj e2_
   subst e3_
   exact x_r2 (none, 0, none, 0) Tryz.results78 (zb8 rfl G27 Z27 (fun w h => h.zac (i := 2) rfl) rfl) (zad rfl) rfl (fun w h => za8 [1, 0] dc_ rfl w h)
  ·skip
   replace h := bb_f hb13 h
   refine zal (za1 (c_seq (za0 (o_q rfl rfl (za3 rfl) (bindE4 h (fun i15 l16 l17 b18 hx14 h => ?_) rfl)))))
   refine o_e rfl (za7 0 Z Tryz.func111 N111 rfl rfl rfl (fun w P1 hF hB hS hT => impl_RegCode_read.calls g0 a0_0 A0_1 c0_1 l0_1.length l0_1 A0_2 c0_2 l0_2.length l0_2 A0_3 c0_3 l0_3.length l0_3 hB hF (hS _ R0_1) hc0_1 (hS _ R0_2) hc0_2 (hS _ R0_3) hc0_3 (hS _ B0) _ _ _ _ hx14)) (cur4 (fun A19 c20 A21 c22 => o_q rfl rfl (za3 rfl) (o_q rfl rfl (q_ext rfl rfl) (o_q rfl rfl (q_ext rfl rfl) (o_e rfl (zao V27 rfl) (fun g23 => o_e rfl (zae (i := 0) rfl rfl rfl Z27 rfl rfl) (fun _ => o_q rfl rfl (q_asg rfl) (o_end (za1 (c_seq ?_))))))))))
   refine c_seq (za0 (o_q rfl rfl (za3 rfl) (o_q rfl rfl (q_not rfl) (o_end (za1 (zas _ rfl (fun hb25 => ?_) (fun hb25 => ?_)))))))
   ·replace hb25 := nt_t hb25
    replace h := bb_f hb25 h
    refine c_seq (za0 (o_q rfl rfl (zaw (vs := []) (cs := [.int .i64 0, .slice none 0 0, .slice none 0 0]) rfl rfl) (o_e rfl (zae (i := 3) rfl rfl rfl Z27 rfl rfl) (fun _ => o_q rfl rfl (q_asg rfl) (o_end (za1 (c_ret (za9 (x_nil kStep 72 ?_)))))))))
    refine x_nil (Kd.int .i64) 3 ?_
    have e0_ := si_ h; clear h
    obtain ⟨rfl, e1_⟩ := Prod.mk.inj e0_
    obtain ⟨rfl, e2_⟩ := Prod.mk.inj e1_
    obtain ⟨rfl, e3_⟩ := Prod.mk.inj e2_
    subst e3_
    exact x_r2 (none, 0, none, 0) Tryz.results78 (zb8 rfl G27 Z27 (fun w h => h.zac (i := 5) rfl) rfl) (zad rfl) rfl (fun w h => za8 [1, 0] dc_ rfl w h)
   ·replace hb25 := nt_f hb25
    replace h := bb_t hb25 h
    refine zal (za1 (c_seq (za0 (o_q rfl rfl (q_ldB G27 Z27 rfl (fun w h => h.zac (i := 0) rfl) rfl) (o_pick [1, 2, 0, 3] dc_ rfl (bindE4 h (fun i27 l28 l29 b30 hx26 h => ?_) rfl))))))
    refine o_e rfl (za7 2 Z Tryz.func112 N112 rfl rfl rfl (fun w P1 hF hB hS hT => impl_told.calls k i15 A19 c20 l16.length l16 A21 c22 l17.length l17 hB hF _ _ _ _ hx26)) (cur4 (fun A31 c32 A33 c34 => o_q rfl rfl (q_ext rfl rfl) (o_q rfl rfl (q_ext rfl rfl) (o_e rfl (zae (i := 3) rfl rfl rfl Z27 rfl rfl) (fun _ => o_q rfl rfl (q_asg rfl) (o_end (za1 (c_ret ?_))))))))
    have e0_ := si_ h; clear h
    obtain ⟨rfl, e1_⟩ := Prod.mk.inj e0_
    obtain ⟨rfl, e2_⟩ := Prod.mk.inj e1_
    obtain ⟨rfl, e3_⟩ := Prod.mk.inj e2_
    subst e3_
    exact x_r2 (A31, c32, A33, c34) Tryz.results78 (zb8 rfl G27 Z27 (fun w h => h.zac (i := 3) rfl) rfl) (zad rfl) rfl (fun w h => za8 [0, 1] dc_ rfl w h)

def impl_IsRegCode.f (k : Nat) (a0_0 : Int) (l0_1 : List Int) (l0_2 : List SRegOp) (l0_3 : List Int) : Option Bool := (impl_RegCode_plan.f k a0_0 l0_1 l0_2 l0_3).bind fun (i4, l5, l6, b7) => some b7
theorem impl_IsRegCode.calls (k : Nat) {w0 ws : World} {P0 : Nat → Prop} (a0_0 : Int) (A0_1 : Option Addr) (c0_1 : Nat) (n0_1 : Nat) (l0_1 : List Int) (A0_2 : Option Addr) (c0_2 : Nat) (n0_2 : Nat) (l0_2 : List SRegOp) (A0_3 : Option Addr) (c0_3 : Nat) (n0_3 : Nat) (l0_3 : List Int) (Z : Below w0.heap.size w0 ws) (hF : Fr w0 ws P0 [] ws) (R0_1 : Stable ws P0 (fun w => Kd.C (Kd.int .i64) w A0_1 n0_1 l0_1)) (hc0_1 : n0_1 ≤ c0_1) (R0_2 : Stable ws P0 (fun w => Kd.C zaq w A0_2 n0_2 l0_2)) (hc0_2 : n0_2 ≤ c0_2) (R0_3 : Stable ws P0 (fun w => Kd.C (Kd.int .i64) w A0_3 n0_3 l0_3)) (hc0_3 : n0_3 ≤ c0_3) (r_1 : Bool) (h : impl_IsRegCode.f k a0_0 l0_1 l0_2 l0_3 = some r_1) :
  Calls Tryz.prog 26 #[.agg #[.int .i64 a0_0, .slice A0_1 n0_1 c0_1, .slice A0_2 n0_2 c0_2, .slice A0_3 n0_3 c0_3]] ws (Post1 w0 ws P0 (fun (_ : Unit) => .bool r_1) (fun (_ : Unit) => [])) := by
 unfold impl_IsRegCode.f at h
 obtain rfl := (R0_1 ws (KeptB.refl _ _)).1
 obtain rfl := (R0_2 ws (KeptB.refl _ _)).1
 obtain rfl := (R0_3 ws (KeptB.refl _ _)).1
 refine enter Tryz.func26 rfl Tryz.ntmps26 rfl hF (c_seq (za0 (o_e rfl (e_box rfl) (fun g1 => o_q rfl rfl (q_asg rfl) (o_end (za1 (c_seq (za0 (bindE4 h (fun i4 l5 l6 b7 hx3 h => ?_) rfl)))))))))
 refine o_e rfl (za7 0 Z Tryz.func78 N78 rfl rfl rfl (fun w P1 hF hB hS hT => impl_RegCode_plan.calls k g1 a0_0 A0_1 c0_1 l0_1.length l0_1 A0_2 c0_2 l0_2.length l0_2 A0_3 c0_3 l0_3.length l0_3 hB hF (hS _ R0_1) hc0_1 (hS _ R0_2) hc0_2 (hS _ R0_3) hc0_3 (hT 0 _ rfl).box _ _ _ _ hx3)) (cur4 (fun A8 c9 A10 c11 => o_q rfl rfl (za3 rfl) (o_q rfl rfl (q_ext rfl rfl) (o_q rfl rfl (q_ext rfl rfl) (o_e rfl (zao V27 rfl) (fun g12 => o_e rfl (zae (i := 0) rfl rfl rfl Z27 rfl rfl) (fun _ => o_q rfl rfl (q_asg rfl) (o_end (za1 (c_seq ?_))))))))))
 refine za0 (o_q rfl rfl (za3 rfl) (o_q rfl rfl (q_asg rfl) (o_end (za1 (c_ret ?_)))))
 have e0_ := si_ h; clear h
 subst e0_
 exact x_r1 () Tryz.results26 (zad rfl) rfl (fun w h => za8 [] dc_ rfl w h)

def impl_firsts.l0 : Nat → (List Int) → Int → Option (List Int)
 | 0, l4, i7 => some l4
 | k10 + 1, l4, i7 => (ap l4 ([i7] : List Int)).bind fun l22 => impl_firsts.l0 k10 l22 (i7 + 1)
def impl_firsts.f (a0 : Int) : Option (List Int) := (bd a0).bind fun _ => (impl_firsts.l0 ((a0).toNat) ([] : List Int) 0).bind fun l4 => some l4
theorem impl_firsts.calls {w0 ws : World} {P0 : Nat → Prop} (a0 : Int) (Z : Below w0.heap.size w0 ws) (hF : Fr w0 ws P0 [] ws)  (r_1 : List Int) (h : impl_firsts.f a0 = some r_1) :
  Calls Tryz.prog 107 #[.int .i64 a0] ws (Post1 w0 ws P0 (fun ((q_2, q_3) : (Option Addr) × Nat) => .slice q_2 r_1.length q_3) (fun ((q_2, q_3) : (Option Addr) × Nat) => [row (Kd.int .i64) 3 (.slice q_2 r_1.length q_3) r_1])) := by
 unfold impl_firsts.f at h
 refine enter Tryz.func107 rfl Tryz.ntmps107 rfl hF (c_seq (za0 (o_q rfl rfl (q_asg rfl) (o_end (za1 (c_seq (za0 (o_e rfl (e_lit0 (Kd.int .i64) Tryz.underlying25 I3) (cur2 (fun A1 c2 => o_q rfl rfl (q_asg rfl) ?_))))))))))
 refine o_end (za1 (c_seq (c_seq (za0 (o_q rfl rfl (za3 rfl) (o_q rfl rfl (za3 rfl) (o_end (za1 (zah ?_)))))))))
 refine za6 h (fun _ hbd16 h => ?_) rfl
 refine za6 h (fun o15 hl14 hR13 => ?_) rfl
 clear h
 have hm12 : a0 ≤ 9223372036854775807 := bd_le hbd16
 refine zax (σ := (List Int) × Int × (Option Addr) × Nat) (fun k10 ((l4, i7, A5, c6) : (List Int) × Int × (Option Addr) × Nat) => Cn a0 i7 k10 ∧ impl_firsts.l0 k10 l4 i7 = some o15) [3, 4, 7, 8, 9, 10, 11, 12, 13, 14] (fun ((l4, i7, A5, c6) : (List Int) × Int × (Option Addr) × Nat) => [(3, .slice A5 l4.length c6), (7, .int .i64 i7)]) (fun ((l4, i7, A5, c6) : (List Int) × Int × (Option Addr) × Nat) => [row (Kd.int .i64) 3 (.slice A5 l4.length c6) l4]) (a0).toNat (([] : List Int), 0, A1, c2) ⟨Cn.start hm12, hl14⟩ ⟨rfl, rfl, trivial⟩ (fun w h => h) (natC (cur4 (fun l4 i7 A5 c6 => fun U17 hJ_ => ?_)) (fun k10 => (cur4 (fun l4 i7 A5 c6 => fun U17 hJ_ => ?_))))
 ·skip
  clear hl14
  have hr11 := hJ_.1; have h := hJ_.2; clear hJ_
  replace h : impl_firsts.l0 0 l4 i7 = some o15 := h
  rw [impl_firsts.l0] at h
  refine c_seq (za0 (o_q rfl rfl (q_lss rfl rfl) (o_end (za1 (c_seq (zb1 (vb_ hr11.ge) (zb2 (zab (zab ?_)))))))))
  have e_ := si_ h; replace h := hR13; rw [← e_] at h; clear e_
  refine x_hit (za1 (c_seq (za0 (o_q rfl rfl (za3 rfl) (o_q rfl rfl (q_asg rfl) (o_end (za1 (c_ret ?_))))))))
  have e0_ := si_ h; clear h
  subst e0_
  exact x_r1 (A5, c6) Tryz.results107 (zad rfl) rfl (fun w h => za8 [0] dc_ rfl w h)
 ·skip
  clear hl14
  have hr11 := hJ_.1; have h := hJ_.2; clear hJ_
  replace h : impl_firsts.l0 (k10 + 1) l4 i7 = some o15 := h
  rw [impl_firsts.l0] at h
  refine c_seq (za0 (o_q rfl rfl (q_lss rfl rfl) (o_end (za1 (c_seq (zay (vb_ hr11.lt) (zal (za1 (c_seq ?_)))))))))
  refine zah (c_seq (za0 (o_q rfl rfl (za3 rfl) (o_q rfl rfl (q_asg rfl) (o_end (za1 (za0 (o_q rfl rfl (za3 rfl) (o_q rfl rfl (za3 rfl) ?_)))))))))
  refine o_e rfl (e_lit (vs := [(0, .int .i64 i7)]) (cs := [.int .i64 i7]) (Kd.int .i64) ([i7] : List Int) Tryz.underlying25 I3 dc_ rfl dc_ rfl rfl (fun _ _ => Kd.zaf _)) (cur2 (fun A19 c20 => za6 h (fun l22 ha23 h => ?_) rfl))
  refine o_e rfl (e_app (i := 1) (j := 0) Tryz.underlying25 I3 rfl dc_ dc_ rfl rfl rfl rfl rfl ha23) (cur2 (fun A24 c25 => o_q rfl rfl (q_asg rfl) (o_end (zak (za1 (za0 (o_q rfl rfl (q_up rfl rfl hr11.up) (o_q rfl rfl (za3 rfl) (o_end (zaj k10 (l22, i7 + 1, A24, c25) (Nat.lt_succ_self _) ⟨hr11.step, h⟩ ⟨rfl, rfl, trivial⟩ (fun w h => za8 [1] dc_ rfl w h) ?_))))))))))
  exact of_

def slices_Equal_int_int.l0 (l1 : List Int) : (List Int) → Int → Option ((Bool) ⊕ (Unit))
 | [], i2 => some (.inr ())
 | y3 :: ys4, i2 => (gt l1 i2).bind fun y16 => if y3 ≠ y16 then (some (.inl false)) else (slices_Equal_int_int.l0 l1 ys4 (i2 + 1))
def slices_Equal_int_int.f (l0 : List Int) (l1 : List Int) : Option Bool := if (l0.length : Int) ≠ (l1.length : Int) then (some false) else ((slices_Equal_int_int.l0 l1 l0 0).bind fun o_ => match o_ with | .inl r_ => some r_ | .inr _ => some true)
theorem slices_Equal_int_int.calls {w0 ws : World} {P0 : Nat → Prop} (A0 : Option Addr) (c0 : Nat) (n0 : Nat) (l0 : List Int) (A1 : Option Addr) (c1 : Nat) (n1 : Nat) (l1 : List Int) (Z : Below w0.heap.size w0 ws) (hF : Fr w0 ws P0 [] ws) (R0 : Stable ws P0 (fun w => Kd.C (Kd.int .i64) w A0 n0 l0)) (hc0 : n0 ≤ c0) (R1 : Stable ws P0 (fun w => Kd.C (Kd.int .i64) w A1 n1 l1)) (hc1 : n1 ≤ c1) (r_1 : Bool) (h : slices_Equal_int_int.f l0 l1 = some r_1) :
  Calls Tryz.prog 104 #[.slice A0 n0 c0, .slice A1 n1 c1] ws (Post1 w0 ws P0 (fun (_ : Unit) => .bool r_1) (fun (_ : Unit) => [])) := by
 unfold slices_Equal_int_int.f at h
 obtain rfl := (R0 ws (KeptB.refl _ _)).1
 obtain rfl := (R1 ws (KeptB.refl _ _)).1
 refine enter Tryz.func104 rfl Tryz.ntmps104 rfl hF (c_seq (za0 (o_q rfl rfl (q_asg rfl) (o_end (za1 (c_seq (c_seq (za0 (o_q rfl rfl (za3 rfl) ?_)))))))))
 refine o_q rfl rfl (q_len Tryz.underlying25 rfl) (o_q rfl rfl (za3 rfl) (o_q rfl rfl (q_len Tryz.underlying25 rfl) (o_q rfl rfl (q_neq rfl rfl) (o_end (za1 (zas _ rfl (fun hb1 => ?_) (fun hb1 => ?_)))))))
 ·skip
  replace h := br_t hb1 h
  refine c_seq (za0 (o_q rfl rfl (q_asg rfl) (o_end (za1 (c_ret (za9 ?_))))))
  have e0_ := si_ h; clear h
  subst e0_
  exact x_r1 () Tryz.results104 (zad rfl) rfl (fun w h => za8 [] dc_ rfl w h)
 ·skip
  replace h := br_f hb1 h
  refine zal (za1 (c_seq (c_seq (za0 (o_q rfl rfl (za3 rfl) (o_q rfl rfl (q_len Tryz.underlying25 rfl) (o_q rfl rfl (za3 rfl) (o_end (za1 ?_)))))))))
  refine zah (za6 h (fun o10 hl9 hR8 => ?_) rfl)
  clear h
  refine c_fact (p := l0.length ≤ 9223372036854775807) (fun w h => (R0.now Z h).2.1) (fun hm7 => zax (σ := (List Int) × Int) (fun k5 ((ys4, i2) : (List Int) × Int) => Rg l0 i2 ys4 ∧ ys4.length = k5 ∧ slices_Equal_int_int.l0 l1 ys4 i2 = some o10) [4, 5, 13, 14, 15, 16, 17, 18, 19, 20, 21, 22, 23, 24, 25] (fun ((ys4, i2) : (List Int) × Int) => [(13, .int .i64 i2)]) (fun ((ys4, i2) : (List Int) × Int) => []) l0.length (l0, 0) ⟨Rg.start _, rfl, hl9⟩ ⟨rfl, trivial⟩ (fun w h => h) (fun k5 => cur2 (listC (fun i2 U11 hJ_ => ?_) (fun y3 ys4 i2 U11 hJ_ => ?_))))
  ·skip
   clear hl9
   have hr6 := hJ_.1; have hk12 := hJ_.2.1; have h := hJ_.2.2; clear hJ_
   replace h : slices_Equal_int_int.l0 l1 [] i2 = some o10 := h
   rw [slices_Equal_int_int.l0] at h
   refine c_seq (za0 (o_q rfl rfl (q_lss rfl rfl) (o_end (za1 (c_seq (zb1 (vb_ hr6.ge) (zb2 (zab (zab ?_)))))))))
   have e_ := si_ h; replace h := hR8; rw [← e_] at h; clear e_
   refine x_hit (za1 (c_seq (za0 (o_q rfl rfl (q_asg rfl) (o_end (za1 (c_ret ?_)))))))
   have e0_ := si_ h; clear h
   subst e0_
   exact x_r1 () Tryz.results104 (zad rfl) rfl (fun w h => za8 [] dc_ rfl w h)
  ·skip
   clear hl9
   have hr6 := hJ_.1; have hk12 := hJ_.2.1; have h := hJ_.2.2; clear hJ_
   replace h : slices_Equal_int_int.l0 l1 (y3 :: ys4) i2 = some o10 := h
   rw [slices_Equal_int_int.l0] at h
   refine c_seq (za0 (o_q rfl rfl (q_lss rfl rfl) (o_end (za1 (c_seq (zay (vb_ hr6.lt) (zal (za1 (c_seq ?_)))))))))
   refine zah (c_seq (za0 (o_q rfl rfl (za3 rfl) (o_q rfl rfl (q_asg rfl) (o_end (za1 (c_seq (a_start (ds := []) MO rfl (zaa 0 rfl rfl rfl kr_ (fun _ _ _ h => h) (za3 rfl) ?_)))))))))
   refine zaa 1 rfl rfl rfl kr_ (fun _ _ _ h => h) (za3 rfl) (a_fact (p := Sh A0 l0.length l0.length) (fun w h => f_sh (dk := (Kd.int .i64)) h (fun w h => R0.now Z h)) (fun hq13 => zaa 2 rfl rfl rfl kr_ (fun _ _ _ h => h) (q_ix Tryz.underlying25 Z3 rfl rfl hq13 hr6.get) (zau 3 rfl rfl rfl kr_ (fun _ _ _ h => h) (fun w h => h) (q_lde (off := 0) Y3 rfl rfl (fun w h => R0.now Z h) hr6.get (fun _ _ h => h) rfl) (zaa 4 rfl rfl rfl kr_ (fun _ _ _ h => h) (za3 rfl) (zaa 5 rfl rfl rfl kr_ (fun _ _ _ h => h) (za3 rfl) (a_fact (p := Sh A1 l1.length l1.length) (fun w h => f_sh (dk := (Kd.int .i64)) h (fun w h => R1.now Z h)) (fun hq14 => za6 h (fun y16 hg15 h => ?_) rfl)))))))
   refine zaa 6 rfl rfl rfl kr_ (fun _ _ _ h => h) (q_ix Tryz.underlying25 Z3 rfl rfl hq14 hg15) (zau 7 rfl rfl rfl kr_ (fun _ _ _ h => h) (fun w h => h) (q_lde (off := 0) Y3 rfl rfl (fun w h => R1.now Z h) hg15 (fun _ _ h => h) rfl) (zaa 8 rfl rfl rfl kr_ (fun _ _ _ h => h) (q_neq rfl rfl) (zar kr_ (za1 (zas _ rfl (fun hb17 => ?_) (fun hb17 => ?_))))))
   ·skip
    replace h := br_t hb17 h
    refine c_seq (za0 (o_q rfl rfl (q_asg rfl) (o_end (za1 (c_ret (zan (za9 (za9 ?_))))))))
    have e_ := si_ h; replace h := hR8; rw [← e_] at h; clear e_
    refine zan (za9 ?_)
    have e0_ := si_ h; clear h
    subst e0_
    exact x_r1 () Tryz.results104 (zad rfl) rfl (fun w h => za8 [] dc_ rfl w h)
   ·skip
    replace h := br_f hb17 h
    refine zal (zak (za1 (za0 (o_q rfl rfl (q_up rfl rfl (hr6.up hm7)) (o_q rfl rfl (za3 rfl) (o_end (zaj ys4.length (ys4, i2 + 1) (by rw [← hk12]; exact Nat.lt_succ_self _) ⟨hr6.step, rfl, h⟩ ⟨rfl, trivial⟩ (fun w h => za8 [] dc_ rfl w h) ?_)))))))
    exact of_

def impl_isOrder.f (l0 : List Int) (a1 : Int) : Option Bool := if l0.length ≤ 100000000 then (impl_firsts.f a1).bind fun l2 => (slices_Equal_int_int.f (l0.mergeSort fun x y => decide (x ≤ y)) l2).bind fun b6 => some b6 else none
theorem impl_isOrder.calls {w0 ws : World} {P0 : Nat → Prop} (A0 : Option Addr) (c0 : Nat) (n0 : Nat) (l0 : List Int) (a1 : Int) (Z : Below w0.heap.size w0 ws) (hF : Fr w0 ws P0 [] ws) (R0 : Stable ws P0 (fun w => Kd.C (Kd.int .i64) w A0 n0 l0)) (hc0 : n0 ≤ c0) (r_1 : Bool) (h : impl_isOrder.f l0 a1 = some r_1) :
  Calls Tryz.prog 69 #[.slice A0 n0 c0, .int .i64 a1] ws (Post1 w0 ws P0 (fun (_ : Unit) => .bool r_1) (fun (_ : Unit) => [])) := by
 unfold impl_isOrder.f at h
 obtain rfl := (R0 ws (KeptB.refl _ _)).1
 split at h
 rotate_left
 ·cases h
 next hz =>
 refine enter Tryz.func69 rfl Tryz.ntmps69 rfl hF (c_seq (za0 (o_q rfl rfl (q_asg rfl) (o_end (za1 (c_seq (za0 (o_q rfl rfl (za3 rfl) (o_e rfl (za7 0 Z Tryz.func106 N106 rfl rfl rfl (fun w P1 hF hB hS hT => Srt.vlc.calls A0 l0.length c0 hF)) (fun Bs => ?_))))))))))
 refine o_e rfl (za7 0 Z Tryz.func105 N105 rfl rfl rfl (fun w P1 hF hB hS hT => Srt.sorted.calls Bs A0 c0 l0 hB hF (hS _ R0) (hT 0 _ rfl).box hz)) (cur2 (fun A8 c9 => o_q rfl rfl (za3 rfl) (za6 h (fun l2 hx1 h => ?_) rfl)))
 refine o_e rfl (za7 0 Z Tryz.func107 N107 rfl rfl rfl (fun w P1 hF hB hS hT => impl_firsts.calls a1 hB hF _ hx1)) (cur2 (fun A3 c4 => za6 h (fun b6 hx5 h => ?_) rfl))
 refine o_e rfl (za7 0 Z Tryz.func104 N104 rfl rfl rfl (fun w P1 hF hB hS hT => slices_Equal_int_int.calls A8 c9 l0.length (l0.mergeSort fun x y => decide (x ≤ y)) A3 c4 l2.length l2 hB hF (hT 1 _ rfl).row (hT 1 _ rfl).cap (hT 0 _ rfl).row (hT 0 _ rfl).cap _ hx5)) (fun _ => o_q rfl rfl (q_asg rfl) (o_end (za1 (c_ret ?_))))
 have e0_ := si_ h; clear h
 subst e0_
 exact x_r1 () Tryz.results69 (zad rfl) rfl (fun w h => za8 [] dc_ rfl w h)

def impl_renamed.l0 (l1 : List Int) : (List Int) → (List Int) → Int → Option (List Int)
 | [], l5, i8 => some l5
 | y9 :: ys10, l5, i8 => (gt l1 y9).bind fun y22 => (ap l5 ([y22] : List Int)).bind fun l26 => impl_renamed.l0 l1 ys10 l26 (i8 + 1)
def impl_renamed.f (l0 : List Int) (l1 : List Int) : Option (List Int) := (impl_renamed.l0 l1 l0 ([] : List Int) 0).bind fun l5 => some l5
theorem impl_renamed.calls {w0 ws : World} {P0 : Nat → Prop} (A0 : Option Addr) (c0 : Nat) (n0 : Nat) (l0 : List Int) (A1 : Option Addr) (c1 : Nat) (n1 : Nat) (l1 : List Int) (Z : Below w0.heap.size w0 ws) (hF : Fr w0 ws P0 [] ws) (R0 : Stable ws P0 (fun w => Kd.C (Kd.int .i64) w A0 n0 l0)) (hc0 : n0 ≤ c0) (R1 : Stable ws P0 (fun w => Kd.C (Kd.int .i64) w A1 n1 l1)) (hc1 : n1 ≤ c1) (r_1 : List Int) (h : impl_renamed.f l0 l1 = some r_1) :
  Calls Tryz.prog 108 #[.slice A0 n0 c0, .slice A1 n1 c1] ws (Post1 w0 ws P0 (fun ((q_2, q_3) : (Option Addr) × Nat) => .slice q_2 r_1.length q_3) (fun ((q_2, q_3) : (Option Addr) × Nat) => [row (Kd.int .i64) 3 (.slice q_2 r_1.length q_3) r_1])) := by
 unfold impl_renamed.f at h
 obtain rfl := (R0 ws (KeptB.refl _ _)).1
 obtain rfl := (R1 ws (KeptB.refl _ _)).1
 refine enter Tryz.func108 rfl Tryz.ntmps108 rfl hF (c_seq (za0 (o_q rfl rfl (q_asg rfl) (o_end (za1 (c_seq (za0 (o_e rfl (e_lit0 (Kd.int .i64) Tryz.underlying25 I3) (cur2 (fun A2 c3 => o_q rfl rfl (q_asg rfl) ?_))))))))))
 refine o_end (za1 (c_seq (c_seq (za0 (o_q rfl rfl (za3 rfl) (o_q rfl rfl (q_len Tryz.underlying25 rfl) (o_q rfl rfl (za3 rfl) (o_end (za1 ?_)))))))))
 refine zah (za6 h (fun o16 hl15 hR14 => ?_) rfl)
 clear h
 refine c_fact (p := l0.length ≤ 9223372036854775807) (fun w h => (R0.now Z h).2.1) (fun hm13 => zax (σ := (List Int) × (List Int) × Int × (Option Addr) × Nat) (fun k11 ((ys10, l5, i8, A6, c7) : (List Int) × (List Int) × Int × (Option Addr) × Nat) => Rg l0 i8 ys10 ∧ ys10.length = k11 ∧ impl_renamed.l0 l1 ys10 l5 i8 = some o16) [5, 7, 11, 12, 13, 14, 15, 16, 17, 18, 19, 20, 21, 22] (fun ((ys10, l5, i8, A6, c7) : (List Int) × (List Int) × Int × (Option Addr) × Nat) => [(5, .slice A6 l5.length c7), (11, .int .i64 i8)]) (fun ((ys10, l5, i8, A6, c7) : (List Int) × (List Int) × Int × (Option Addr) × Nat) => [row (Kd.int .i64) 3 (.slice A6 l5.length c7) l5]) l0.length (l0, ([] : List Int), 0, A2, c3) ⟨Rg.start _, rfl, hl15⟩ ⟨rfl, rfl, trivial⟩ (fun w h => h) (fun k11 => cur5 (listC (fun l5 i8 A6 c7 U17 hJ_ => ?_) (fun y9 ys10 l5 i8 A6 c7 U17 hJ_ => ?_))))
 ·skip
  clear hl15
  have hr12 := hJ_.1; have hk18 := hJ_.2.1; have h := hJ_.2.2; clear hJ_
  replace h : impl_renamed.l0 l1 [] l5 i8 = some o16 := h
  rw [impl_renamed.l0] at h
  refine c_seq (za0 (o_q rfl rfl (q_lss rfl rfl) (o_end (za1 (c_seq (zb1 (vb_ hr12.ge) (zb2 (zab (zab ?_)))))))))
  have e_ := si_ h; replace h := hR14; rw [← e_] at h; clear e_
  refine x_hit (za1 (c_seq (za0 (o_q rfl rfl (za3 rfl) (o_q rfl rfl (q_asg rfl) (o_end (za1 (c_ret ?_))))))))
  have e0_ := si_ h; clear h
  subst e0_
  exact x_r1 (A6, c7) Tryz.results108 (zad rfl) rfl (fun w h => za8 [0] dc_ rfl w h)
 ·skip
  clear hl15
  have hr12 := hJ_.1; have hk18 := hJ_.2.1; have h := hJ_.2.2; clear hJ_
  replace h : impl_renamed.l0 l1 (y9 :: ys10) l5 i8 = some o16 := h
  rw [impl_renamed.l0] at h
  refine c_seq (za0 (o_q rfl rfl (q_lss rfl rfl) (o_end (za1 (c_seq (zay (vb_ hr12.lt) (zal (za1 (c_seq ?_)))))))))
  refine zah (c_seq (za0 (zb0 (p := Sh A0 l0.length l0.length) (fun w h => f_sh (dk := (Kd.int .i64)) h (fun w h => R0.now Z h)) (fun hq19 => o_q rfl rfl (q_ix Tryz.underlying25 Z3 rfl rfl hq19 hr12.get) (o_q rfl rfl (q_lde (off := 0) Y3 rfl rfl (fun w h => R0.now Z h) hr12.get (fun _ _ h => h) rfl) (o_q rfl rfl (q_asg rfl) (o_end (za1 (za0 ?_)))))))))
  refine o_q rfl rfl (za3 rfl) (o_q rfl rfl (za3 rfl) (o_q rfl rfl (za3 rfl) (zb0 (p := Sh A1 l1.length l1.length) (fun w h => f_sh (dk := (Kd.int .i64)) h (fun w h => R1.now Z h)) (fun hq20 => za6 h (fun y22 hg21 h => ?_) rfl))))
  refine o_q rfl rfl (q_ix Tryz.underlying25 Z3 rfl rfl hq20 hg21) (o_q rfl rfl (q_lde (off := 0) Y3 rfl rfl (fun w h => R1.now Z h) hg21 (fun _ _ h => h) rfl) (o_e rfl (e_lit (vs := [(0, .int .i64 y22)]) (cs := [.int .i64 y22]) (Kd.int .i64) ([y22] : List Int) Tryz.underlying25 I3 dc_ rfl dc_ rfl rfl (fun _ _ => Kd.zaf _)) (cur2 (fun A23 c24 => za6 h (fun l26 ha27 h => ?_) rfl))))
  refine o_e rfl (e_app (i := 1) (j := 0) Tryz.underlying25 I3 rfl dc_ dc_ rfl rfl rfl rfl rfl ha27) (cur2 (fun A28 c29 => o_q rfl rfl (q_asg rfl) (o_end (zak (za1 (za0 (o_q rfl rfl (q_up rfl rfl (hr12.up hm13)) (o_q rfl rfl (za3 rfl) (o_end (zaj ys10.length (ys10, l26, i8 + 1, A28, c29) (by rw [← hk18]; exact Nat.lt_succ_self _) ⟨hr12.step, rfl, h⟩ ⟨rfl, rfl, trivial⟩ (fun w h => za8 [1] dc_ rfl w h) ?_))))))))))
  exact of_

def impl_RegCode_called.l0 (l2 : List Int) : (List SRegOp) → (List SRegOp) → Int → Option (List SRegOp)
 | [], l2058, i2061 => some l2058
 | y2062 :: ys2063, l2058, i2061 => (gt l2 y2062.f0).bind fun y2378 => (gt l2 y2062.f1).bind fun y2677 => (gt l2 y2062.f2).bind fun y2977 => (ap l2058 ([(⟨y2378, y2677, y2977⟩ : SRegOp)] : List SRegOp)).bind fun l3216 => impl_RegCode_called.l0 l2 ys2063 l3216 (i2061 + 1)
def impl_RegCode_called.f (a0_0 : Int) (l0_1 : List Int) (l0_2 : List SRegOp) (l0_3 : List Int) (a1 : Int) (l2 : List Int) : Option ((List Int) × (List SRegOp) × (List Int)) := ((impl_renamed.f l0_1 l2).bind fun l1398 => (impl_renamed.f l0_3 l2).bind fun l1758 => some (l1398, l1758)).bind fun (l1025, l1028) => (impl_RegCode_called.l0 l2 l0_2 ([] : List SRegOp) 0).bind fun l2058 => some (l1025, l2058, l1028)
theorem impl_RegCode_called.calls {w0 ws : World} {P0 : Nat → Prop} (g0 : Nat) (a0_0 : Int) (A0_1 : Option Addr) (c0_1 : Nat) (n0_1 : Nat) (l0_1 : List Int) (A0_2 : Option Addr) (c0_2 : Nat) (n0_2 : Nat) (l0_2 : List SRegOp) (A0_3 : Option Addr) (c0_3 : Nat) (n0_3 : Nat) (l0_3 : List Int) (a1 : Int) (A2 : Option Addr) (c2 : Nat) (n2 : Nat) (l2 : List Int) (Z : Below w0.heap.size w0 ws) (hF : Fr w0 ws P0 [] ws) (R0_1 : Stable ws P0 (fun w => Kd.C (Kd.int .i64) w A0_1 n0_1 l0_1)) (hc0_1 : n0_1 ≤ c0_1) (R0_2 : Stable ws P0 (fun w => Kd.C zaq w A0_2 n0_2 l0_2)) (hc0_2 : n0_2 ≤ c0_2) (R0_3 : Stable ws P0 (fun w => Kd.C (Kd.int .i64) w A0_3 n0_3 l0_3)) (hc0_3 : n0_3 ≤ c0_3) (B0 : Stable ws P0 (fun w => w.heap[g0]? = some (.cells #[.int .i64 a0_0, .slice A0_1 n0_1 c0_1, .slice A0_2 n0_2 c0_2, .slice A0_3 n0_3 c0_3] 38 (0, 0)))) (R2 : Stable ws P0 (fun w => Kd.C (Kd.int .i64) w A2 n2 l2)) (hc2 : n2 ≤ c2) (r_1 : List Int) (r_4 : List SRegOp) (r_7 : List Int) (h : impl_RegCode_called.f a0_0 l0_1 l0_2 l0_3 a1 l2 = some (r_1, r_4, r_7)) :
  Calls Tryz.prog 70 #[.pointer (some ⟨g0, 0, none⟩), .int .i64 a1, .slice A2 n2 c2] ws (Post1 w0 ws P0 (fun ((q_2, q_3, q_5, q_6, q_8, q_9) : (Option Addr) × Nat × (Option Addr) × Nat × (Option Addr) × Nat) => .agg #[.int .i64 a1, .slice q_2 r_1.length q_3, .slice q_5 r_4.length q_6, .slice q_8 r_7.length q_9]) (fun ((q_2, q_3, q_5, q_6, q_8, q_9) : (Option Addr) × Nat × (Option Addr) × Nat × (Option Addr) × Nat) => [row (Kd.int .i64) 3 (.slice q_2 r_1.length q_3) r_1, row zaq 84 (.slice q_5 r_4.length q_6) r_4, row (Kd.int .i64) 3 (.slice q_8 r_7.length q_9) r_7])) := by
 unfold impl_RegCode_called.f at h
 obtain rfl := (R0_1 ws (KeptB.refl _ _)).1
 obtain rfl := (R0_2 ws (KeptB.refl _ _)).1
 obtain rfl := (R0_3 ws (KeptB.refl _ _)).1
 obtain rfl := (R2 ws (KeptB.refl _ _)).1
 refine enter Tryz.func70 rfl Tryz.ntmps70 rfl hF (c_seq (za0 (o_e rfl (zao V38 rfl) (fun g1 => o_end (za1 (za6 h (fun o1031 hl1032 hR1033 => ?_) rfl))))))
 clear h
 refine c_cutJ (σ := (List Int) × (List Int) × Nat × (Option Addr) × Nat × (Option Addr) × Nat) (fun (l1025, l1028, g1024, A1026, c1027, A1029, c1030) => some (l1025, l1028) = some o1031) [7, 10, 11, 12, 13, 14, 15, 16, 17, 18, 19, 20, 21, 22, 23] (fun (l1025, l1028, g1024, A1026, c1027, A1029, c1030) => [(7, .pointer (some ⟨g1024, 0, none⟩))]) (fun (l1025, l1028, g1024, A1026, c1027, A1029, c1030) => [box g1 38 #[.int .i64 0, .slice none 0 0, .slice none 0 0, .slice none 0 0], box g1024 38 #[.int .i64 a1, .slice A1026 l1025.length c1027, .slice none 0 0, .slice A1029 l1028.length c1030], row (Kd.int .i64) 3 (.slice A1026 l1025.length c1027) l1025, row (Kd.int .i64) 3 (.slice A1029 l1028.length c1030) l1028]) ?_ ?_
 ·skip
  have h := hl1032; clear hl1032
  clear hR1033
  refine za6 h (fun l1398 hx1397 h => ?_) rfl
  refine za6 h (fun l1758 hx1757 h => ?_) rfl
  refine a_start (ds := []) MO rfl (zaa 0 rfl rfl rfl kr_ (fun _ _ _ h => h) (za3 rfl) (zaa 1 rfl rfl rfl kr_ (fun _ _ _ h => h) (za3 rfl) (zaa 2 rfl rfl rfl kr_ (fun _ _ _ h => h) (q_nil rfl) (zaa 3 rfl rfl rfl kr_ (fun _ _ _ h => h) (q_f F38_1 rfl) (zau 4 rfl rfl rfl kr_ (fun _ _ _ h => h) (fun w h => h) (q_ldb Y25 rfl (fun w h => B0.now Z h) rfl) (zaa 5 rfl rfl rfl kr_ (fun _ _ _ h => h) (za3 rfl) (zaa 7 rfl rfl rfl kr_ (fun _ _ _ h => h) (za3 rfl) (zaa 8 rfl rfl rfl kr_ (fun _ _ _ h => h) (q_nil rfl) (zaa 9 rfl rfl rfl kr_ (fun _ _ _ h => h) (q_f F38_3 rfl) ?_)))))))))
  refine zau 10 rfl rfl rfl kr_ (fun _ _ _ h => h) (fun w h => h) (q_ldb Y25 rfl (fun w h => B0.now Z h) rfl) (zaa 11 rfl rfl rfl kr_ (fun _ _ _ h => h) (za3 rfl) (a_two 6 14 rfl rfl rfl rfl kr_ rfl rfl (za7 0 Z Tryz.func108 N108 rfl rfl rfl (fun w P1 hF hB hS hT => impl_renamed.calls A0_1 c0_1 l0_1.length l0_1 A2 c2 l2.length l2 hB hF (hS _ R0_1) hc0_1 (hS _ R2) hc2 _ hx1397)) (fun s w h => za5 [some 1] dc_ w h rfl) (zao V38 rfl) (fun s w h => za5 [some 1] dc_ w h rfl) (cur2 (fun A1399 c1400 => ?_)) (fun g1877 => ?_)))
  ·skip
   refine a_two 12 14 rfl rfl rfl rfl kr_ rfl rfl (za7 0 Z Tryz.func108 N108 rfl rfl rfl (fun w P1 hF hB hS hT => impl_renamed.calls A0_3 c0_3 l0_3.length l0_3 A2 c2 l2.length l2 hB hF (hS _ R0_3) hc0_3 (hS _ R2) hc2 _ hx1757)) (fun s w h => za5 [some 2] dc_ w h rfl) (zao V38 rfl) (fun s w h => za5 [some 2] dc_ w h rfl) (cur2 (fun A1759 c1760 => ?_)) (fun g1877 => ?_)
   ·skip
    refine zaa 13 rfl rfl rfl kr_ (fun _ _ _ h => h) (zaw (vs := [(0, .int .i64 a1), (1, .slice A1399 l1398.length c1400), (3, .slice A1759 l1758.length c1760)]) (cs := [.int .i64 a1, .slice A1399 l1398.length c1400, .slice none 0 0, .slice A1759 l1758.length c1760]) rfl rfl) (a_one 14 rfl rfl kr_ rfl (zao V38 rfl) (fun s w h => za5 [some 3] dc_ w h rfl) (fun g1877 => a_one 15 rfl rfl kr_ rfl (zae (i := 0) rfl rfl rfl Z38 rfl rfl) (fun s w h => za5 [some 3] dc_ w h rfl) (fun _ => zar kr_ (zam (l1398, l1758, g1877, A1399, c1400, A1759, c1760) h ⟨rfl, trivial⟩ (fun w h => za8 [3, 0, 2, 1] dc_ rfl w h) ?_))))
    exact of_
   ·skip
    refine a_one 12 rfl rfl kr_ rfl (za7 0 Z Tryz.func108 N108 rfl rfl rfl (fun w P1 hF hB hS hT => impl_renamed.calls A0_3 c0_3 l0_3.length l0_3 A2 c2 l2.length l2 hB hF (hS _ R0_3) hc0_3 (hS _ R2) hc2 _ hx1757)) (fun s w h => za5 [some 3] dc_ w h rfl) (cur2 (fun A1759 c1760 => zaa 13 rfl rfl rfl kr_ (fun _ _ _ h => h) (zaw (vs := [(0, .int .i64 a1), (1, .slice A1399 l1398.length c1400), (3, .slice A1759 l1758.length c1760)]) (cs := [.int .i64 a1, .slice A1399 l1398.length c1400, .slice none 0 0, .slice A1759 l1758.length c1760]) rfl rfl) (a_one 15 rfl rfl kr_ rfl (zae (i := 1) rfl rfl rfl Z38 rfl rfl) (fun s w h => za5 [some 3] dc_ w h rfl) (fun _ => zar kr_ (zam (l1398, l1758, g1877, A1399, c1400, A1759, c1760) h ⟨rfl, trivial⟩ (fun w h => za8 [3, 1, 2, 0] dc_ rfl w h) ?_)))))
    exact of_
  ·skip
   refine a_one 6 rfl rfl kr_ rfl (za7 0 Z Tryz.func108 N108 rfl rfl rfl (fun w P1 hF hB hS hT => impl_renamed.calls A0_1 c0_1 l0_1.length l0_1 A2 c2 l2.length l2 hB hF (hS _ R0_1) hc0_1 (hS _ R2) hc2 _ hx1397)) (fun s w h => za5 [some 2] dc_ w h rfl) (cur2 (fun A1399 c1400 => a_one 12 rfl rfl kr_ rfl (za7 0 Z Tryz.func108 N108 rfl rfl rfl (fun w P1 hF hB hS hT => impl_renamed.calls A0_3 c0_3 l0_3.length l0_3 A2 c2 l2.length l2 hB hF (hS _ R0_3) hc0_3 (hS _ R2) hc2 _ hx1757)) (fun s w h => za5 [some 3] dc_ w h rfl) (cur2 (fun A1759 c1760 => zaa 13 rfl rfl rfl kr_ (fun _ _ _ h => h) (zaw (vs := [(0, .int .i64 a1), (1, .slice A1399 l1398.length c1400), (3, .slice A1759 l1758.length c1760)]) (cs := [.int .i64 a1, .slice A1399 l1398.length c1400, .slice none 0 0, .slice A1759 l1758.length c1760]) rfl rfl) (a_one 15 rfl rfl kr_ rfl (zae (i := 2) rfl rfl rfl Z38 rfl rfl) (fun s w h => za5 [some 3] dc_ w h rfl) (fun _ => zar kr_ (zam (l1398, l1758, g1877, A1399, c1400, A1759, c1760) h ⟨rfl, trivial⟩ (fun w h => za8 [3, 2, 1, 0] dc_ rfl w h) ?_)))))))
   exact of_
 ·skip
  refine (cur7 (fun l1025 l1028 g1024 A1026 c1027 A1029 c1030 => fun U1034 hJ1035 => ?_))
  have e_ := si_ hJ1035; have h := hR1033; rw [← e_] at h; clear e_ hJ1035 hR1033 hl1032
  refine c_seq (c_seq (za0 (o_q rfl rfl (za3 rfl) (o_q rfl rfl (q_nil rfl) (o_q rfl rfl (q_f F38_2 rfl) (o_q rfl rfl (q_ldb Y36 rfl (fun w h => B0.now Z h) rfl) (o_q rfl rfl (q_len Tryz.underlying36 rfl) (o_q rfl rfl (za3 rfl) (o_end ?_)))))))))
  refine za1 (zah (c_nil zaq 84 (za6 h (fun o2069 hl2068 hR2067 => ?_) rfl)))
  clear h
  refine c_fact (p := l0_2.length ≤ 9223372036854775807) (fun w h => (R0_2.now Z h).2.1) (fun hm2066 => zax (σ := (List SRegOp) × (List SRegOp) × Int × (Option Addr) × Nat) (fun k2064 ((ys2063, l2058, i2061, A2059, c2060) : (List SRegOp) × (List SRegOp) × Int × (Option Addr) × Nat) => Rg l0_2 i2061 ys2063 ∧ ys2063.length = k2064 ∧ impl_RegCode_called.l0 l2 ys2063 l2058 i2061 = some o2069) [9, 29, 30, 31, 32, 33, 34, 35, 36, 37, 38, 39, 40, 41, 42, 43, 44, 45, 46, 47, 48, 49, 50, 51, 52, 53, 54] (fun ((ys2063, l2058, i2061, A2059, c2060) : (List SRegOp) × (List SRegOp) × Int × (Option Addr) × Nat) => [(29, .int .i64 i2061)]) (fun ((ys2063, l2058, i2061, A2059, c2060) : (List SRegOp) × (List SRegOp) × Int × (Option Addr) × Nat) => [row zaq 84 (.slice A2059 l2058.length c2060) l2058, box g1 38 #[.int .i64 0, .slice none 0 0, .slice none 0 0, .slice none 0 0], box g1024 38 #[.int .i64 a1, .slice A1026 l1025.length c1027, .slice A2059 l2058.length c2060, .slice A1029 l1028.length c1030], row (Kd.int .i64) 3 (.slice A1026 l1025.length c1027) l1025, row (Kd.int .i64) 3 (.slice A1029 l1028.length c1030) l1028]) l0_2.length (l0_2, ([] : List SRegOp), 0, none, 0) ⟨Rg.start _, rfl, hl2068⟩ ⟨rfl, trivial⟩ (fun w h => h) (fun k2064 => cur5 (listC (fun l2058 i2061 A2059 c2060 U2070 hJ_ => ?_) (fun y2062 ys2063 l2058 i2061 A2059 c2060 U2070 hJ_ => ?_))))
  ·skip
   clear hl2068
   have hr2065 := hJ_.1; have hk2071 := hJ_.2.1; have h := hJ_.2.2; clear hJ_
   replace h : impl_RegCode_called.l0 l2 [] l2058 i2061 = some o2069 := h
   rw [impl_RegCode_called.l0] at h
   refine c_seq (za0 (o_q rfl rfl (q_lss rfl rfl) (o_end (za1 (c_seq (zb1 (vb_ hr2065.ge) (zb2 (zab (zab ?_)))))))))
   have e_ := si_ h; replace h := hR2067; rw [← e_] at h; clear e_
   refine x_hit (za1 (c_seq (za0 (o_q rfl rfl (q_ldB G38 Z38 rfl (fun w h => h.zac (i := 2) rfl) rfl) (o_e rfl (zae (i := 1) rfl rfl rfl Z38 rfl rfl) (fun _ => o_end (za1 (c_ret ?_))))))))
   have e0_ := si_ h; clear h
   obtain ⟨rfl, e1_⟩ := Prod.mk.inj e0_
   obtain ⟨rfl, e2_⟩ := Prod.mk.inj e1_
   subst e2_
   exact x_r1 (A1026, c1027, A2059, c2060, A1029, c1030) Tryz.results70 (zb8 rfl G38 Z38 (fun w h => h.zac (i := 1) rfl) rfl) rfl (fun w h => za8 [3, 0, 4] dc_ rfl w h)
  ·skip
   clear hl2068
   have hr2065 := hJ_.1; have hk2071 := hJ_.2.1; have h := hJ_.2.2; clear hJ_
   replace h : impl_RegCode_called.l0 l2 (y2062 :: ys2063) l2058 i2061 = some o2069 := h
   rw [impl_RegCode_called.l0] at h
   refine c_seq (za0 (o_q rfl rfl (q_lss rfl rfl) (o_end (za1 (c_seq (zay (vb_ hr2065.lt) (zal (za1 (c_seq ?_)))))))))
   refine zah (c_seq (za0 (zb0 (p := Sh A0_2 l0_2.length l0_2.length) (fun w h => f_sh (dk := zaq) h (fun w h => R0_2.now Z h)) (fun hq2072 => o_q rfl rfl (q_ix Tryz.underlying36 Z84 rfl rfl hq2072 hr2065.get) (o_q rfl rfl (q_ldE G84 Z84 rfl rfl (fun w h => R0_2.now Z h) hr2065.get (fun _ _ h => h) rfl) (o_e rfl (zao V84 rfl) (fun g2073 => o_e rfl (zae (i := 0) rfl rfl rfl Z84 rfl rfl) (fun _ => o_end (za1 ?_)))))))))
   refine za6 h (fun y2378 hg2377 h => ?_) rfl
   refine za6 h (fun y2677 hg2676 h => ?_) rfl
   refine za6 h (fun y2977 hg2976 h => ?_) rfl
   refine za6 h (fun l3216 ha3217 h => ?_) rfl
   refine a_startS (ds := []) [some 0, none, some 2, none, some 4, some 5] MO rfl (zaa 0 rfl rfl rfl kr_ (fun _ _ _ h => h) (q_f F38_2 rfl) (zaa 2 rfl rfl rfl kr_ (fun _ _ _ h => h) (za3 rfl) (zaa 3 rfl rfl rfl kr_ (fun _ _ _ h => h) (q_f F84_0 rfl) (zau 4 rfl rfl rfl kr_ (fun _ _ _ h => h) (fun w h => za5 [some 0, none, some 2, none, some 4, some 5] dc_ w h rfl) (q_ldb Y3 rfl (fun w h => h.zac (i := 0) rfl) rfl) (a_fact (p := Sh A2 l2.length l2.length) (fun w h => f_sh (dk := (Kd.int .i64)) h (fun w h => R2.now Z h)) (fun hq2376 => zaa 5 rfl rfl rfl kr_ (fun _ _ _ h => h) (q_ix Tryz.underlying25 Z3 rfl rfl hq2376 hg2377) (zau 6 rfl rfl rfl kr_ (fun _ _ _ h => h) (fun w h => za5 [some 0, none, some 2, none, some 4, some 5] dc_ w h rfl) (q_lde (off := 0) Y3 rfl rfl (fun w h => R2.now Z h) hg2377 (fun _ _ h => h) rfl) (zaa 7 rfl rfl rfl kr_ (fun _ _ _ h => h) (za3 rfl) (zaa 8 rfl rfl rfl kr_ (fun _ _ _ h => h) (q_f F84_1 rfl) ?_)))))))))
   refine zau 9 rfl rfl rfl kr_ (fun _ _ _ h => h) (fun w h => za5 [some 0, none, some 2, none, some 4, some 5] dc_ w h rfl) (q_ldb Y3 rfl (fun w h => h.zac (i := 0) rfl) rfl) (zaa 10 rfl rfl rfl kr_ (fun _ _ _ h => h) (q_ix Tryz.underlying25 Z3 rfl rfl hq2376 hg2676) (zau 11 rfl rfl rfl kr_ (fun _ _ _ h => h) (fun w h => za5 [some 0, none, some 2, none, some 4, some 5] dc_ w h rfl) (q_lde (off := 0) Y3 rfl rfl (fun w h => R2.now Z h) hg2676 (fun _ _ h => h) rfl) (zaa 12 rfl rfl rfl kr_ (fun _ _ _ h => h) (za3 rfl) (zaa 13 rfl rfl rfl kr_ (fun _ _ _ h => h) (q_f F84_2 rfl) (zau 14 rfl rfl rfl kr_ (fun _ _ _ h => h) (fun w h => za5 [some 0, none, some 2, none, some 4, some 5] dc_ w h rfl) (q_ldb Y3 rfl (fun w h => h.zac (i := 0) rfl) rfl) (zaa 15 rfl rfl rfl kr_ (fun _ _ _ h => h) (q_ix Tryz.underlying25 Z3 rfl rfl hq2376 hg2976) (zau 16 rfl rfl rfl kr_ (fun _ _ _ h => h) (fun w h => za5 [some 0, none, some 2, none, some 4, some 5] dc_ w h rfl) (q_lde (off := 0) Y3 rfl rfl (fun w h => R2.now Z h) hg2976 (fun _ _ h => h) rfl) (zaa 17 rfl rfl rfl kr_ (fun _ _ _ h => h) (zaw (vs := [(0, .int .i64 y2378), (1, .int .i64 y2677), (2, .int .i64 y2977)]) (cs := [.int .i64 y2378, .int .i64 y2677, .int .i64 y2977]) rfl rfl) (a_two 1 18 rfl rfl rfl rfl kr_ rfl rfl (ev_q rfl (q_ldb Y36 rfl (fun w h => h.zac (i := 3) rfl) rfl)) (fun s w h => za5 [some 0, none, some 2, none, some 4, some 5] dc_ w h rfl) (e_lit (vs := [(0, .agg #[.int .i64 y2378, .int .i64 y2677, .int .i64 y2977])]) (cs := [.int .i64 y2378, .int .i64 y2677, .int .i64 y2977]) zaq ([(⟨y2378, y2677, y2977⟩ : SRegOp)] : List SRegOp) Tryz.underlying36 I84 dc_ rfl dc_ rfl rfl (fun _ _ => zb4 _)) (fun s w h => za5 [some 1, none, some 3, none, some 5, some 6] dc_ w h rfl) (fun _ => ?_) (cur2 (fun A3156 c3157 => ?_)))))))))))
   ·skip
    refine a_one 18 rfl rfl kr_ rfl (e_lit (vs := [(0, .agg #[.int .i64 y2378, .int .i64 y2677, .int .i64 y2977])]) (cs := [.int .i64 y2378, .int .i64 y2677, .int .i64 y2977]) zaq ([(⟨y2378, y2677, y2977⟩ : SRegOp)] : List SRegOp) Tryz.underlying36 I84 dc_ rfl dc_ rfl rfl (fun _ _ => zb4 _)) (fun s w h => za5 [some 1, none, some 3, none, some 5, some 6] dc_ w h rfl) (cur2 (fun A3156 c3157 => a_one 19 rfl rfl kr_ rfl (e_app (i := 2) (j := 0) Tryz.underlying36 I84 rfl dc_ dc_ rfl rfl rfl rfl rfl ha3217) (fun s w h => za5 [some 1, none, some 3, none, some 5, some 6] dc_ w h rfl) (cur2 (fun A3218 c3219 => zaa 20 rfl rfl rfl kr_ (fun _ _ _ h => h) (q_f F38_2 rfl) (a_one 21 rfl rfl kr_ rfl (zav (i := 4) rfl rfl rfl rfl Z36 rfl rfl) (fun s w h => za5 [some 1, none, some 3, none, some 5, some 6] dc_ w h rfl) (fun _ => zar kr_ (zak (za1 (za0 (o_q rfl rfl (q_up rfl rfl (hr2065.up hm2066)) (o_q rfl rfl (za3 rfl) ?_)))))))))))
    refine o_end (zaj ys2063.length (ys2063, l3216, i2061 + 1, A3218, c3219) (by rw [← hk2071]; exact Nat.lt_succ_self _) ⟨hr2065.step, rfl, h⟩ ⟨rfl, trivial⟩ (fun w h => za8 [2, 3, 4, 5, 6] dc_ rfl w h) ?_)
    exact of_
   ·skip
    refine a_one 1 rfl rfl kr_ rfl (ev_q rfl (q_ldb Y36 rfl (fun w h => h.zac (i := 4) rfl) rfl)) (fun s w h => za5 [some 1, none, some 3, none, some 5, some 6] dc_ w h rfl) (fun _ => a_one 19 rfl rfl kr_ rfl (e_app (i := 2) (j := 0) Tryz.underlying36 I84 rfl dc_ dc_ rfl rfl rfl rfl rfl ha3217) (fun s w h => za5 [some 1, none, some 3, none, some 5, some 6] dc_ w h rfl) (cur2 (fun A3218 c3219 => zaa 20 rfl rfl rfl kr_ (fun _ _ _ h => h) (q_f F38_2 rfl) (a_one 21 rfl rfl kr_ rfl (zav (i := 4) rfl rfl rfl rfl Z36 rfl rfl) (fun s w h => za5 [some 1, none, some 3, none, some 5, some 6] dc_ w h rfl) (fun _ => zar kr_ (zak (za1 (za0 (o_q rfl rfl (q_up rfl rfl (hr2065.up hm2066)) (o_q rfl rfl (za3 rfl) ?_))))))))))
    refine o_end (zaj ys2063.length (ys2063, l3216, i2061 + 1, A3218, c3219) (by rw [← hk2071]; exact Nat.lt_succ_self _) ⟨hr2065.step, rfl, h⟩ ⟨rfl, trivial⟩ (fun w h => za8 [2, 3, 4, 5, 6] dc_ rfl w h) ?_)
    exact of_

def impl_RenameRegisters.f (k : Nat) (a0_0 : Int) (l0_1 : List Int) (l0_2 : List SRegOp) (l0_3 : List Int) (l1 : List Int) : Option (Int × (List Int) × (List SRegOp) × (List Int) × Bool) := ((impl_IsRegCode.f k a0_0 l0_1 l0_2 l0_3).bind fun b17 => if b17 = true then ((impl_isOrder.f l1 a0_0).bind fun b20 => some (!b20)) else (some true)).bind fun b10 => if b10 = true then (some (0, ([] : List Int), ([] : List SRegOp), ([] : List Int), false)) else ((impl_RegCode_called.f a0_0 l0_1 l0_2 l0_3 a0_0 l1).bind fun (l23, l24, l25) => some (a0_0, l23, l24, l25, true))
theorem impl_RenameRegisters.calls (k : Nat) {w0 ws : World} {P0 : Nat → Prop} (a0_0 : Int) (A0_1 : Option Addr) (c0_1 : Nat) (n0_1 : Nat) (l0_1 : List Int) (A0_2 : Option Addr) (c0_2 : Nat) (n0_2 : Nat) (l0_2 : List SRegOp) (A0_3 : Option Addr) (c0_3 : Nat) (n0_3 : Nat) (l0_3 : List Int) (A1 : Option Addr) (c1 : Nat) (n1 : Nat) (l1 : List Int) (Z : Below w0.heap.size w0 ws) (hF : Fr w0 ws P0 [] ws) (R0_1 : Stable ws P0 (fun w => Kd.C (Kd.int .i64) w A0_1 n0_1 l0_1)) (hc0_1 : n0_1 ≤ c0_1) (R0_2 : Stable ws P0 (fun w => Kd.C zaq w A0_2 n0_2 l0_2)) (hc0_2 : n0_2 ≤ c0_2) (R0_3 : Stable ws P0 (fun w => Kd.C (Kd.int .i64) w A0_3 n0_3 l0_3)) (hc0_3 : n0_3 ≤ c0_3) (R1 : Stable ws P0 (fun w => Kd.C (Kd.int .i64) w A1 n1 l1)) (hc1 : n1 ≤ c1) (r_1 : Int) (r_2 : List Int) (r_5 : List SRegOp) (r_8 : List Int) (r_11 : Bool) (h : impl_RenameRegisters.f k a0_0 l0_1 l0_2 l0_3 l1 = some (r_1, r_2, r_5, r_8, r_11)) :
  Calls Tryz.prog 21 #[.agg #[.int .i64 a0_0, .slice A0_1 n0_1 c0_1, .slice A0_2 n0_2 c0_2, .slice A0_3 n0_3 c0_3], .slice A1 n1 c1] ws (Post1 w0 ws P0 (fun ((q_3, q_4, q_6, q_7, q_9, q_10) : (Option Addr) × Nat × (Option Addr) × Nat × (Option Addr) × Nat) => .tuple #[.agg #[.int .i64 r_1, .slice q_3 r_2.length q_4, .slice q_6 r_5.length q_7, .slice q_9 r_8.length q_10], .bool r_11]) (fun ((q_3, q_4, q_6, q_7, q_9, q_10) : (Option Addr) × Nat × (Option Addr) × Nat × (Option Addr) × Nat) => [row (Kd.int .i64) 3 (.slice q_3 r_2.length q_4) r_2, row zaq 84 (.slice q_6 r_5.length q_7) r_5, row (Kd.int .i64) 3 (.slice q_9 r_8.length q_10) r_8])) := by
 unfold impl_RenameRegisters.f at h
 obtain rfl := (R0_1 ws (KeptB.refl _ _)).1
 obtain rfl := (R0_2 ws (KeptB.refl _ _)).1
 obtain rfl := (R0_3 ws (KeptB.refl _ _)).1
 obtain rfl := (R1 ws (KeptB.refl _ _)).1
 refine enter Tryz.func21 rfl Tryz.ntmps21 rfl hF (c_seq (za0 (o_e rfl (e_box rfl) (fun g1 => o_e rfl (zao V38 rfl) (fun g3 => o_q rfl rfl (q_asg rfl) (o_end (za1 (c_seq (za6 h (fun o11 hl12 hR13 => ?_) rfl)))))))))
 clear h
 refine c_cutJ (σ := Bool) (fun b10 => some b10 = some o11) [6, 7, 8, 9, 10, 11, 12, 13, 14, 15] (fun b10 => [(15, .bool b10)]) (fun b10 => [box g1 38 #[.int .i64 a0_0, .slice A0_1 l0_1.length c0_1, .slice A0_2 l0_2.length c0_2, .slice A0_3 l0_3.length c0_3], box g3 38 #[.int .i64 0, .slice none 0 0, .slice none 0 0, .slice none 0 0]]) ?_ ?_
 ·skip
  have h := hl12; clear hl12
  clear hR13
  refine za0 (o_q rfl rfl (q_ldB G38 Z38 rfl (fun w h => h.zac (i := 1) rfl) rfl) (za6 h (fun b17 hx16 h => ?_) rfl))
  refine o_e rfl (za7 0 Z Tryz.func26 N26 rfl rfl rfl (fun w P1 hF hB hS hT => impl_IsRegCode.calls k a0_0 A0_1 c0_1 l0_1.length l0_1 A0_2 c0_2 l0_2.length l0_2 A0_3 c0_3 l0_3.length l0_3 hB hF (hS _ R0_1) hc0_1 (hS _ R0_2) hc0_2 (hS _ R0_3) hc0_3 _ hx16)) (fun _ => o_q rfl rfl (q_not rfl) (o_q rfl rfl (za3 rfl) (byB b17 (fun hb18 => ?_) (fun hb18 => ?_))))
  ·replace h := bb_t hb18 h
   refine o_w (za4 rfl rfl rfl (congrArg (fun b => Value.bool (!(b))) hb18)) rfl (za3 rfl) (o_w (za4 rfl rfl rfl (congrArg (fun b => Value.bool (!(b))) hb18)) rfl (q_f F38_0 rfl) (o_w (za4 rfl rfl rfl (congrArg (fun b => Value.bool (!(b))) hb18)) rfl (q_ldb Y3 rfl (fun w h => h.zac (i := 1) rfl) rfl) (za6 h (fun b20 hx19 h => ?_) rfl)))
   refine o_ew (za4 rfl rfl rfl (congrArg (fun b => Value.bool (!(b))) hb18)) (za7 0 Z Tryz.func69 N69 rfl rfl rfl (fun w P1 hF hB hS hT => impl_isOrder.calls A1 c1 l1.length l1 a0_0 hB hF (hS _ R1) hc1 _ hx19)) (fun _ => o_w (za4 rfl rfl rfl (congrArg (fun b => Value.bool (!(b))) hb18)) rfl (q_not rfl) (o_q rfl rfl (zai false (congrArg (fun b => Value.bool (!(b))) hb18) rfl) (o_end (zam (!b20) h ⟨rfl, trivial⟩ (fun w h => za8 [1, 0] dc_ rfl w h) ?_))))
   exact of_
  ·replace h := bb_f hb18 h
   refine o_n (d := 10) (za2 rfl rfl rfl (congrArg (fun b => Value.bool (!(b))) hb18) rfl) (Eq.refl (some 10)) (o_n (d := 11) (za2 rfl rfl rfl (congrArg (fun b => Value.bool (!(b))) hb18) rfl) (Eq.refl (some 11)) (o_n (d := 12) (za2 rfl rfl rfl (congrArg (fun b => Value.bool (!(b))) hb18) rfl) (Eq.refl (some 12)) (o_n (d := 13) (za2 rfl rfl rfl (congrArg (fun b => Value.bool (!(b))) hb18) rfl) (Eq.refl (some 13)) (o_n (d := 14) (za2 rfl rfl rfl (congrArg (fun b => Value.bool (!(b))) hb18) rfl) (Eq.refl (some 14)) (o_q rfl rfl (zai true (congrArg (fun b => Value.bool (!(b))) hb18) rfl) (o_end (zam true h ⟨rfl, trivial⟩ (fun w h => za8 [1, 0] dc_ rfl w h) ?_)))))))
   exact of_
 ·skip
  refine (fun b10 => fun U14 hJ15 => ?_)
  have e_ := si_ hJ15; have h := hR13; rw [← e_] at h; clear e_ hJ15 hR13 hl12
  refine zas _ rfl (fun hb21 => ?_) (fun hb21 => ?_)
  ·skip
   replace h := bb_t hb21 h
   refine c_seq (za0 (o_q rfl rfl (zaw (vs := []) (cs := [.int .i64 0, .slice none 0 0, .slice none 0 0, .slice none 0 0]) rfl rfl) (o_e rfl (zae (i := 1) rfl rfl rfl Z38 rfl rfl) (fun _ => o_q rfl rfl (q_asg rfl) (o_end (za1 (c_ret (za9 (x_nil (Kd.int .i64) 3 ?_)))))))))
   refine x_nil zaq 84 (x_nil (Kd.int .i64) 3 ?_)
   have e0_ := si_ h; clear h
   obtain ⟨rfl, e1_⟩ := Prod.mk.inj e0_
   obtain ⟨rfl, e2_⟩ := Prod.mk.inj e1_
   obtain ⟨rfl, e3_⟩ := Prod.mk.inj e2_
   obtain ⟨rfl, e4_⟩ := Prod.mk.inj e3_
   subst e4_
   exact x_r2 (none, 0, none, 0, none, 0) Tryz.results21 (zb8 rfl G38 Z38 (fun w h => h.zac (i := 4) rfl) rfl) (zad rfl) rfl (fun w h => za8 [2, 1, 0] dc_ rfl w h)
  ·skip
   replace h := bb_f hb21 h
   refine zal (za1 (c_seq (za0 (o_q rfl rfl (q_f F38_0 rfl) (o_q rfl rfl (q_ldb Y3 rfl (fun w h => h.zac (i := 0) rfl) rfl) (o_q rfl rfl (za3 rfl) (bindE3 h (fun l23 l24 l25 hx22 h => ?_) rfl)))))))
   refine o_e rfl (za7 0 Z Tryz.func70 N70 rfl rfl rfl (fun w P1 hF hB hS hT => impl_RegCode_called.calls g1 a0_0 A0_1 c0_1 l0_1.length l0_1 A0_2 c0_2 l0_2.length l0_2 A0_3 c0_3 l0_3.length l0_3 a0_0 A1 c1 l1.length l1 hB hF (hS _ R0_1) hc0_1 (hS _ R0_2) hc0_2 (hS _ R0_3) hc0_3 (hT 0 _ rfl).box (hS _ R1) hc1 _ _ _ hx22)) (cur6 (fun A26 c27 A28 c29 A30 c31 => o_e rfl (zae (i := 4) rfl rfl rfl Z38 rfl rfl) (fun _ => o_q rfl rfl (q_asg rfl) (o_end (za1 (c_ret ?_))))))
   have e0_ := si_ h; clear h
   obtain ⟨rfl, e1_⟩ := Prod.mk.inj e0_
   obtain ⟨rfl, e2_⟩ := Prod.mk.inj e1_
   obtain ⟨rfl, e3_⟩ := Prod.mk.inj e2_
   obtain ⟨rfl, e4_⟩ := Prod.mk.inj e3_
   subst e4_
   exact x_r2 (A26, c27, A28, c29, A30, c31) Tryz.results21 (zb8 rfl G38 Z38 (fun w h => h.zac (i := 4) rfl) rfl) (zad rfl) rfl (fun w h => za8 [0, 1, 2] dc_ rfl w h)

def spec_reShape.l1 (a0_0 : Int) : (List SRegOp) → Int → Option ((Bool) ⊕ (Unit))
 | [], i22 => some (.inr ())
 | y23 :: ys24, i22 => (spec_l1All.f ([y23.f0, y23.f1, y23.f2] : List Int) 0 (w64 (a0_0 - 1))).bind fun b45 => if b45 = true then (spec_reShape.l1 a0_0 ys24 (i22 + 1)) else (some (.inl false))
def spec_reShape.l0 (l0_1 : List Int) : (List Int) → Int → Option ((Bool) ⊕ (Unit))
 | [], i11 => some (.inr ())
 | y12 :: ys13, i11 => (ct l0_1 (0 : Int) i11).bind fun l48 => (spec_l1Has.f l48 y12).bind fun b51 => if b51 = true then (some (.inl false)) else (spec_reShape.l0 l0_1 ys13 (i11 + 1))
def spec_reShape.f (a0_0 : Int) (l0_1 : List Int) (l0_2 : List SRegOp) (l0_3 : List Int) : Option Bool := (spec_l1In.f a0_0 1 46).bind fun b4 => if b4 = true then ((spec_l1In.f (l0_1.length : Int) 1 6).bind fun b7 => if b7 = true then (if 40 < (l0_2.length : Int) then (some false) else (if 6 < (l0_3.length : Int) then (some false) else ((spec_reShape.l0 l0_1 l0_1 0).bind fun o_ => match o_ with | .inl r_ => some r_ | .inr _ => (spec_reShape.l1 a0_0 l0_2 0).bind fun o_ => match o_ with | .inl r_ => some r_ | .inr _ => (spec_l1All.f l0_1 0 (w64 (a0_0 - 1))).bind fun b34 => if b34 = true then ((spec_l1All.f l0_3 0 (w64 (a0_0 - 1))).bind fun b37 => some b37) else (some false)))) else (some false)) else (some false)
theorem spec_reShape.calls {w0 ws : World} {P0 : Nat → Prop} (a0_0 : Int) (A0_1 : Option Addr) (c0_1 : Nat) (n0_1 : Nat) (l0_1 : List Int) (A0_2 : Option Addr) (c0_2 : Nat) (n0_2 : Nat) (l0_2 : List SRegOp) (A0_3 : Option Addr) (c0_3 : Nat) (n0_3 : Nat) (l0_3 : List Int) (Z : Below w0.heap.size w0 ws) (hF : Fr w0 ws P0 [] ws) (R0_1 : Stable ws P0 (fun w => Kd.C (Kd.int .i64) w A0_1 n0_1 l0_1)) (hc0_1 : n0_1 ≤ c0_1) (R0_2 : Stable ws P0 (fun w => Kd.C zaq w A0_2 n0_2 l0_2)) (hc0_2 : n0_2 ≤ c0_2) (R0_3 : Stable ws P0 (fun w => Kd.C (Kd.int .i64) w A0_3 n0_3 l0_3)) (hc0_3 : n0_3 ≤ c0_3) (r_1 : Bool) (h : spec_reShape.f a0_0 l0_1 l0_2 l0_3 = some r_1) :
  Calls Tryz.prog 123 #[.agg #[.int .i64 a0_0, .slice A0_1 n0_1 c0_1, .slice A0_2 n0_2 c0_2, .slice A0_3 n0_3 c0_3]] ws (Post1 w0 ws P0 (fun (_ : Unit) => .bool r_1) (fun (_ : Unit) => [])) := by
 unfold spec_reShape.f at h
 obtain rfl := (R0_1 ws (KeptB.refl _ _)).1
 obtain rfl := (R0_2 ws (KeptB.refl _ _)).1
 obtain rfl := (R0_3 ws (KeptB.refl _ _)).1
 refine enter Tryz.func123 rfl Tryz.ntmps123 rfl hF (c_seq (za0 (o_e rfl (e_box rfl) (fun g1 => o_q rfl rfl (q_asg rfl) (o_end (za1 (c_seq (c_seq (za0 ?_)))))))))
 refine o_q rfl rfl (q_f F38_0 rfl) (o_q rfl rfl (q_ldb Y3 rfl (fun w h => h.zac (i := 0) rfl) rfl) (za6 h (fun b4 hx3 h => ?_) rfl))
 refine o_e rfl (za7 0 Z Tryz.func84 N84 rfl rfl rfl (fun w P1 hF hB hS hT => spec_l1In.calls a0_0 1 46 hB hF _ hx3)) (fun _ => o_q rfl rfl (q_not rfl) (o_q rfl rfl (za3 rfl) (byB b4 (fun hb5 => ?_) (fun hb5 => ?_))))
 ·replace h := bb_t hb5 h
  refine o_w (za4 rfl rfl rfl (congrArg (fun b => Value.bool (!(b))) hb5)) rfl (q_f F38_1 rfl) (o_w (za4 rfl rfl rfl (congrArg (fun b => Value.bool (!(b))) hb5)) rfl (q_ldb Y25 rfl (fun w h => h.zac (i := 0) rfl) rfl) (o_w (za4 rfl rfl rfl (congrArg (fun b => Value.bool (!(b))) hb5)) rfl (q_len Tryz.underlying25 rfl) (za6 h (fun b7 hx6 h => ?_) rfl)))
  refine o_ew (za4 rfl rfl rfl (congrArg (fun b => Value.bool (!(b))) hb5)) (za7 0 Z Tryz.func84 N84 rfl rfl rfl (fun w P1 hF hB hS hT => spec_l1In.calls (l0_1.length : Int) 1 6 hB hF _ hx6)) (fun _ => o_w (za4 rfl rfl rfl (congrArg (fun b => Value.bool (!(b))) hb5)) rfl (q_not rfl) (o_q rfl rfl (zai false (congrArg (fun b => Value.bool (!(b))) hb5) rfl) (o_q rfl rfl (za3 rfl) (byB b7 (fun hb8 => ?_) (fun hb8 => ?_)))))
  ·replace h := bb_t hb8 h
   refine o_w (za4 rfl rfl rfl (congrArg (fun b => Value.bool (!(b))) hb8)) rfl (q_f F38_2 rfl) (o_w (za4 rfl rfl rfl (congrArg (fun b => Value.bool (!(b))) hb8)) rfl (q_ldb Y36 rfl (fun w h => h.zac (i := 0) rfl) rfl) (o_w (za4 rfl rfl rfl (congrArg (fun b => Value.bool (!(b))) hb8)) rfl (q_len Tryz.underlying36 rfl) (o_w (za4 rfl rfl rfl (congrArg (fun b => Value.bool (!(b))) hb8)) rfl (q_gtr rfl rfl) (o_q rfl rfl (zai false (congrArg (fun b => Value.bool (!(b))) hb8) rfl) (o_q rfl rfl (za3 rfl) (byB (decide (40 < (l0_2.length : Int))) (fun hb9 => ?_) (fun hb9 => ?_)))))))
   ·replace h := br_t hb9 h
    refine o_n (d := 25) (za2 rfl rfl rfl (vb_ hb9) rfl) (Eq.refl (some 25)) (o_n (d := 26) (za2 rfl rfl rfl (vb_ hb9) rfl) (Eq.refl (some 26)) (o_n (d := 27) (za2 rfl rfl rfl (vb_ hb9) rfl) (Eq.refl (some 27)) (o_n (d := 28) (za2 rfl rfl rfl (vb_ hb9) rfl) (Eq.refl (some 28)) (o_q rfl rfl (zai true (vb_ hb9) rfl) (o_end (za1 (zay rfl (c_seq (za0 ?_)))))))))
    refine o_q rfl rfl (q_asg rfl) (o_end (za1 (c_ret (za9 ?_))))
    have e0_ := si_ h; clear h
    subst e0_
    exact x_r1 () Tryz.results123 (zad rfl) rfl (fun w h => za8 [] dc_ rfl w h)
   ·replace h := br_f hb9 h
    refine o_w (za4 rfl rfl rfl (vb_ hb9)) rfl (q_f F38_3 rfl) (o_w (za4 rfl rfl rfl (vb_ hb9)) rfl (q_ldb Y25 rfl (fun w h => h.zac (i := 0) rfl) rfl) (o_w (za4 rfl rfl rfl (vb_ hb9)) rfl (q_len Tryz.underlying25 rfl) (o_w (za4 rfl rfl rfl (vb_ hb9)) rfl (q_gtr rfl rfl) (o_q rfl rfl (zai false (vb_ hb9) rfl) (o_end (za1 (zas _ rfl (fun hb10 => ?_) (fun hb10 => ?_))))))))
    ·skip
     replace h := br_t hb10 h
     refine c_seq (za0 (o_q rfl rfl (q_asg rfl) (o_end (za1 (c_ret (za9 ?_))))))
     have e0_ := si_ h; clear h
     subst e0_
     exact x_r1 () Tryz.results123 (zad rfl) rfl (fun w h => za8 [] dc_ rfl w h)
    ·skip
     replace h := br_f hb10 h
     refine zal (za1 (c_seq (c_seq (za0 (o_q rfl rfl (q_f F38_1 rfl) (o_q rfl rfl (q_ldb Y25 rfl (fun w h => h.zac (i := 0) rfl) rfl) (o_q rfl rfl (q_len Tryz.underlying25 rfl) (o_q rfl rfl (za3 rfl) (o_end ?_)))))))))
     refine za1 (zah (za6 h (fun o19 hl18 hR17 => ?_) rfl))
     clear h
     refine c_fact (p := l0_1.length ≤ 9223372036854775807) (fun w h => (R0_1.now Z h).2.1) (fun hm16 => zax (σ := (List Int) × Int) (fun k14 ((ys13, i11) : (List Int) × Int) => Rg l0_1 i11 ys13 ∧ ys13.length = k14 ∧ spec_reShape.l0 l0_1 ys13 i11 = some o19) [2, 3, 4, 33, 34, 35, 36, 37, 38, 39, 40, 41, 42, 43, 44] (fun ((ys13, i11) : (List Int) × Int) => [(33, .int .i64 i11)]) (fun ((ys13, i11) : (List Int) × Int) => [box g1 38 #[.int .i64 a0_0, .slice A0_1 l0_1.length c0_1, .slice A0_2 l0_2.length c0_2, .slice A0_3 l0_3.length c0_3]]) l0_1.length (l0_1, 0) ⟨Rg.start _, rfl, hl18⟩ ⟨rfl, trivial⟩ (fun w h => h) (fun k14 => cur2 (listC (fun i11 U20 hJ_ => ?_) (fun y12 ys13 i11 U20 hJ_ => ?_))))
     ·skip
      clear hl18
      have hr15 := hJ_.1; have hk21 := hJ_.2.1; have h := hJ_.2.2; clear hJ_
      replace h : spec_reShape.l0 l0_1 [] i11 = some o19 := h
      rw [spec_reShape.l0] at h
      refine c_seq (za0 (o_q rfl rfl (q_lss rfl rfl) (o_end (za1 (c_seq (zb1 (vb_ hr15.ge) (zb2 (zab (zab ?_)))))))))
      have e_ := si_ h; replace h := hR17; rw [← e_] at h; clear e_
      refine x_hit (za1 (c_seq (c_seq (za0 (o_q rfl rfl (q_f F38_2 rfl) (o_q rfl rfl (q_ldb Y36 rfl (fun w h => h.zac (i := 0) rfl) rfl) (o_q rfl rfl (q_len Tryz.underlying36 rfl) (o_q rfl rfl (za3 rfl) (o_end ?_)))))))))
      refine za1 (zah (za6 h (fun o30 hl29 hR28 => ?_) rfl))
      clear h
      refine c_fact (p := l0_2.length ≤ 9223372036854775807) (fun w h => (R0_2.now Z h).2.1) (fun hm27 => zax (σ := (List SRegOp) × Int) (fun k25 ((ys24, i22) : (List SRegOp) × Int) => Rg l0_2 i22 ys24 ∧ ys24.length = k25 ∧ spec_reShape.l1 a0_0 ys24 i22 = some o30) [2, 6, 48, 49, 50, 51, 52, 53, 54, 55, 56, 57, 58, 59, 60, 61, 62, 63, 64] (fun ((ys24, i22) : (List SRegOp) × Int) => [(48, .int .i64 i22)]) (fun ((ys24, i22) : (List SRegOp) × Int) => [box g1 38 #[.int .i64 a0_0, .slice A0_1 l0_1.length c0_1, .slice A0_2 l0_2.length c0_2, .slice A0_3 l0_3.length c0_3]]) l0_2.length (l0_2, 0) ⟨Rg.start _, rfl, hl29⟩ ⟨rfl, trivial⟩ (fun w h => h) (fun k25 => cur2 (listC (fun i22 U31 hJ_ => ?_) (fun y23 ys24 i22 U31 hJ_ => ?_))))
      ·skip
       clear hl29
       have hr26 := hJ_.1; have hk32 := hJ_.2.1; have h := hJ_.2.2; clear hJ_
       replace h : spec_reShape.l1 a0_0 [] i22 = some o30 := h
       rw [spec_reShape.l1] at h
       refine c_seq (za0 (o_q rfl rfl (q_lss rfl rfl) (o_end (za1 (c_seq (zb1 (vb_ hr26.ge) (zb2 (zab (zab ?_)))))))))
       have e_ := si_ h; replace h := hR28; rw [← e_] at h; clear e_
       refine x_hit (za1 (c_seq (za0 (o_q rfl rfl (q_f F38_1 rfl) (o_q rfl rfl (q_ldb Y25 rfl (fun w h => h.zac (i := 0) rfl) rfl) (o_q rfl rfl (q_f F38_0 rfl) (o_q rfl rfl (q_ldb Y3 rfl (fun w h => h.zac (i := 0) rfl) rfl) (o_q rfl rfl (q_sub64 rfl rfl) (za6 h (fun b34 hx33 h => ?_) rfl)))))))))
       refine o_e rfl (za7 0 Z Tryz.func71 N71 rfl rfl rfl (fun w P1 hF hB hS hT => spec_l1All.calls A0_1 c0_1 l0_1.length l0_1 0 (w64 (a0_0 - 1)) hB hF (hS _ R0_1) hc0_1 _ hx33)) (fun _ => o_q rfl rfl (za3 rfl) (byB b34 (fun hb35 => ?_) (fun hb35 => ?_)))
       ·replace h := bb_t hb35 h
        refine o_w (za4 rfl rfl rfl (vb_ hb35)) rfl (q_f F38_3 rfl) (o_w (za4 rfl rfl rfl (vb_ hb35)) rfl (q_ldb Y25 rfl (fun w h => h.zac (i := 0) rfl) rfl) (o_w (za4 rfl rfl rfl (vb_ hb35)) rfl (q_f F38_0 rfl) (o_w (za4 rfl rfl rfl (vb_ hb35)) rfl (q_ldb Y3 rfl (fun w h => h.zac (i := 0) rfl) rfl) (o_w (za4 rfl rfl rfl (vb_ hb35)) rfl (q_sub64 rfl rfl) (za6 h (fun b37 hx36 h => ?_) rfl)))))
        refine o_ew (za4 rfl rfl rfl (vb_ hb35)) (za7 0 Z Tryz.func71 N71 rfl rfl rfl (fun w P1 hF hB hS hT => spec_l1All.calls A0_3 c0_3 l0_3.length l0_3 0 (w64 (a0_0 - 1)) hB hF (hS _ R0_3) hc0_3 _ hx36)) (fun _ => o_q rfl rfl (zai true (vb_ hb35) rfl) (o_q rfl rfl (q_asg rfl) (o_end (za1 (c_ret ?_)))))
        have e0_ := si_ h; clear h
        subst e0_
        exact x_r1 () Tryz.results123 (zad rfl) rfl (fun w h => za8 [] dc_ rfl w h)
       ·replace h := bb_f hb35 h
        refine o_n (d := 72) (za2 rfl rfl rfl (vb_ hb35) rfl) (Eq.refl (some 72)) (o_n (d := 73) (za2 rfl rfl rfl (vb_ hb35) rfl) (Eq.refl (some 73)) (o_n (d := 74) (za2 rfl rfl rfl (vb_ hb35) rfl) (Eq.refl (some 74)) (o_n (d := 75) (za2 rfl rfl rfl (vb_ hb35) rfl) (Eq.refl (some 75)) (o_n (d := 76) (za2 rfl rfl rfl (vb_ hb35) rfl) (Eq.refl (some 76)) (o_n (d := 77) (za2 rfl rfl rfl (vb_ hb35) rfl) (Eq.refl (some 77)) (o_q rfl rfl (zai false (vb_ hb35) rfl) (o_q rfl rfl (q_asg rfl) (o_end (za1 ?_)))))))))
        refine c_ret ?_
        have e0_ := si_ h; clear h
        subst e0_
        exact x_r1 () Tryz.results123 (zad rfl) rfl (fun w h => za8 [] dc_ rfl w h)
      ·skip
       clear hl29
       have hr26 := hJ_.1; have hk32 := hJ_.2.1; have h := hJ_.2.2; clear hJ_
       replace h : spec_reShape.l1 a0_0 (y23 :: ys24) i22 = some o30 := h
       rw [spec_reShape.l1] at h
       refine c_seq (za0 (o_q rfl rfl (q_lss rfl rfl) (o_end (za1 (c_seq (zay (vb_ hr26.lt) (zal (za1 (c_seq ?_)))))))))
       refine zah (c_seq (za0 (zb0 (p := Sh A0_2 l0_2.length l0_2.length) (fun w h => f_sh (dk := zaq) h (fun w h => R0_2.now Z h)) (fun hq38 => o_q rfl rfl (q_ix Tryz.underlying36 Z84 rfl rfl hq38 hr26.get) (o_q rfl rfl (q_ldE G84 Z84 rfl rfl (fun w h => R0_2.now Z h) hr26.get (fun _ _ h => h) rfl) (o_e rfl (zao V84 rfl) (fun g39 => o_e rfl (zae (i := 0) rfl rfl rfl Z84 rfl rfl) (fun _ => o_end (za1 ?_)))))))))
       refine c_seq (za0 (o_q rfl rfl (q_f F84_0 rfl) (o_q rfl rfl (q_ldb Y3 rfl (fun w h => h.zac (i := 0) rfl) rfl) (o_q rfl rfl (q_f F84_1 rfl) (o_q rfl rfl (q_ldb Y3 rfl (fun w h => h.zac (i := 0) rfl) rfl) (o_q rfl rfl (q_f F84_2 rfl) (o_q rfl rfl (q_ldb Y3 rfl (fun w h => h.zac (i := 0) rfl) rfl) (o_e rfl (e_lit (vs := [(0, .int .i64 y23.f0), (1, .int .i64 y23.f1), (2, .int .i64 y23.f2)]) (cs := [.int .i64 y23.f0, .int .i64 y23.f1, .int .i64 y23.f2]) (Kd.int .i64) ([y23.f0, y23.f1, y23.f2] : List Int) Tryz.underlying25 I3 dc_ rfl dc_ rfl rfl (fun _ _ => Kd.zaf _)) (cur2 (fun A41 c42 => o_q rfl rfl (q_f F38_0 rfl) ?_))))))))))
       refine o_q rfl rfl (q_ldb Y3 rfl (fun w h => h.zac (i := 2) rfl) rfl) (o_q rfl rfl (q_sub64 rfl rfl) (za6 h (fun b45 hx44 h => ?_) rfl))
       refine o_e rfl (za7 0 Z Tryz.func71 N71 rfl rfl rfl (fun w P1 hF hB hS hT => spec_l1All.calls A41 c42 (([y23.f0, y23.f1, y23.f2] : List Int).length) ([y23.f0, y23.f1, y23.f2] : List Int) 0 (w64 (a0_0 - 1)) hB hF (hT 0 _ rfl).row (hT 0 _ rfl).cap _ hx44)) (fun _ => o_q rfl rfl (q_not rfl) (o_end (za1 (zas _ rfl (fun hb46 => ?_) (fun hb46 => ?_)))))
       ·replace hb46 := nt_t hb46
        replace h := bb_f hb46 h
        refine c_seq (za0 (o_q rfl rfl (q_asg rfl) (o_end (za1 (c_ret (zan (za9 (za9 ?_))))))))
        have e_ := si_ h; replace h := hR28; rw [← e_] at h; clear e_
        refine zan (za9 ?_)
        have e0_ := si_ h; clear h
        subst e0_
        exact x_r1 () Tryz.results123 (zad rfl) rfl (fun w h => za8 [] dc_ rfl w h)
       ·replace hb46 := nt_f hb46
        replace h := bb_t hb46 h
        refine zal (zak (za1 (za0 (o_q rfl rfl (q_up rfl rfl (hr26.up hm27)) (o_q rfl rfl (za3 rfl) (o_end (zaj ys24.length (ys24, i22 + 1) (by rw [← hk32]; exact Nat.lt_succ_self _) ⟨hr26.step, rfl, h⟩ ⟨rfl, trivial⟩ (fun w h => za8 [2] dc_ rfl w h) ?_)))))))
        exact of_
     ·skip
      clear hl18
      have hr15 := hJ_.1; have hk21 := hJ_.2.1; have h := hJ_.2.2; clear hJ_
      replace h : spec_reShape.l0 l0_1 (y12 :: ys13) i11 = some o19 := h
      rw [spec_reShape.l0] at h
      refine c_seq (za0 (o_q rfl rfl (q_lss rfl rfl) (o_end (za1 (c_seq (zay (vb_ hr15.lt) (zal (za1 (c_seq ?_)))))))))
      refine zah (c_seq (za0 (o_q rfl rfl (za3 rfl) (zb0 (p := Sh A0_1 l0_1.length l0_1.length) (fun w h => f_sh (dk := (Kd.int .i64)) h (fun w h => R0_1.now Z h)) (fun hq47 => o_q rfl rfl (q_ix Tryz.underlying25 Z3 rfl rfl hq47 hr15.get) (o_q rfl rfl (q_lde (off := 0) Y3 rfl rfl (fun w h => R0_1.now Z h) hr15.get (fun _ _ h => h) rfl) (o_q rfl rfl (q_asg rfl) (o_q rfl rfl (q_asg rfl) (o_end ?_)))))))))
      refine za1 (c_seq (za0 (o_q rfl rfl (q_f F38_1 rfl) (o_q rfl rfl (q_ldb Y25 rfl (fun w h => h.zac (i := 0) rfl) rfl) (o_q rfl rfl (za3 rfl) (za6 h (fun l48 hz49 h => ?_) rfl))))))
      refine o_q rfl rfl (q_ctv Tryz.underlying25 Z3 rfl rfl ⟨_, rfl⟩ rfl hc0_1 hz49) (o_q rfl rfl (za3 rfl) (za6 h (fun b51 hx50 h => ?_) rfl))
      refine o_e rfl (za7 0 Z Tryz.func72 N72 rfl rfl rfl (fun w P1 hF hB hS hT => spec_l1Has.calls (cutA A0_1 c0_1 (0 : Int).toNat 1) (c0_1 - (0 : Int).toNat) l48.length l48 y12 hB hF (stab_cut (dk := (Kd.int .i64)) rfl hz49 hc0_1 (hS _ R0_1)) (ct_cap hz49 rfl hc0_1) _ hx50)) (fun _ => o_end (za1 (zas _ rfl (fun hb52 => ?_) (fun hb52 => ?_))))
      ·skip
       replace h := bb_t hb52 h
       refine c_seq (za0 (o_q rfl rfl (q_asg rfl) (o_end (za1 (c_ret (zan (za9 (za9 ?_))))))))
       have e_ := si_ h; replace h := hR17; rw [← e_] at h; clear e_
       refine zan (za9 ?_)
       have e0_ := si_ h; clear h
       subst e0_
       exact x_r1 () Tryz.results123 (zad rfl) rfl (fun w h => za8 [] dc_ rfl w h)
      ·skip
       replace h := bb_f hb52 h
       refine zal (zak (za1 (za0 (o_q rfl rfl (q_up rfl rfl (hr15.up hm16)) (o_q rfl rfl (za3 rfl) (o_end (zaj ys13.length (ys13, i11 + 1) (by rw [← hk21]; exact Nat.lt_succ_self _) ⟨hr15.step, rfl, h⟩ ⟨rfl, trivial⟩ (fun w h => za8 [0] dc_ rfl w h) ?_)))))))
       exact of_
  ·replace h := bb_f hb8 h
   refine o_n (d := 19) (za2 rfl rfl rfl (congrArg (fun b => Value.bool (!(b))) hb8) rfl) (Eq.refl (some 19)) (o_n (d := 20) (za2 rfl rfl rfl (congrArg (fun b => Value.bool (!(b))) hb8) rfl) (Eq.refl (some 20)) (o_n (d := 21) (za2 rfl rfl rfl (congrArg (fun b => Value.bool (!(b))) hb8) rfl) (Eq.refl (some 21)) (o_n (d := 22) (za2 rfl rfl rfl (congrArg (fun b => Value.bool (!(b))) hb8) rfl) (Eq.refl (some 22)) (o_q rfl rfl (zai true (congrArg (fun b => Value.bool (!(b))) hb8) rfl) (o_q rfl rfl (za3 rfl) (o_n (d := 25) (za2 rfl rfl rfl rfl rfl) (Eq.refl (some 25)) (o_n (d := 26) (za2 rfl rfl rfl rfl rfl) (Eq.refl (some 26)) (o_n (d := 27) (za2 rfl rfl rfl rfl rfl) (Eq.refl (some 27)) (o_n (d := 28) (za2 rfl rfl rfl rfl rfl) (Eq.refl (some 28)) ?_)))))))))
   refine o_q rfl rfl (zai true rfl rfl) (o_end (za1 (zay rfl (c_seq (za0 (o_q rfl rfl (q_asg rfl) (o_end (za1 (c_ret ?_)))))))))
   refine za9 ?_
   have e0_ := si_ h; clear h
   subst e0_
   exact x_r1 () Tryz.results123 (zad rfl) rfl (fun w h => za8 [] dc_ rfl w h)
 ·replace h := bb_f hb5 h
  refine o_n (d := 12) (za2 rfl rfl rfl (congrArg (fun b => Value.bool (!(b))) hb5) rfl) (Eq.refl (some 12)) (o_n (d := 13) (za2 rfl rfl rfl (congrArg (fun b => Value.bool (!(b))) hb5) rfl) (Eq.refl (some 13)) (o_n (d := 14) (za2 rfl rfl rfl (congrArg (fun b => Value.bool (!(b))) hb5) rfl) (Eq.refl (some 14)) (o_n (d := 15) (za2 rfl rfl rfl (congrArg (fun b => Value.bool (!(b))) hb5) rfl) (Eq.refl (some 15)) (o_n (d := 16) (za2 rfl rfl rfl (congrArg (fun b => Value.bool (!(b))) hb5) rfl) (Eq.refl (some 16)) (o_q rfl rfl (zai true (congrArg (fun b => Value.bool (!(b))) hb5) rfl) (o_q rfl rfl (za3 rfl) (o_n (d := 19) (za2 rfl rfl rfl rfl rfl) (Eq.refl (some 19)) (o_n (d := 20) (za2 rfl rfl rfl rfl rfl) (Eq.refl (some 20)) (o_n (d := 21) (za2 rfl rfl rfl rfl rfl) (Eq.refl (some 21)) ?_)))))))))
  refine o_n (d := 22) (za2 rfl rfl rfl rfl rfl) (Eq.refl (some 22)) (o_q rfl rfl (zai true rfl rfl) (o_q rfl rfl (za3 rfl) (o_n (d := 25) (za2 rfl rfl rfl rfl rfl) (Eq.refl (some 25)) (o_n (d := 26) (za2 rfl rfl rfl rfl rfl) (Eq.refl (some 26)) (o_n (d := 27) (za2 rfl rfl rfl rfl rfl) (Eq.refl (some 27)) (o_n (d := 28) (za2 rfl rfl rfl rfl rfl) (Eq.refl (some 28)) (o_q rfl rfl (zai true rfl rfl) (o_end (za1 ?_)))))))))
  refine zay rfl (c_seq (za0 (o_q rfl rfl (q_asg rfl) (o_end (za1 (c_ret (za9 ?_)))))))
  have e0_ := si_ h; clear h
  subst e0_
  exact x_r1 () Tryz.results123 (zad rfl) rfl (fun w h => za8 [] dc_ rfl w h)

def spec_reValues.l2 (l0_1 : List Int) : (List SRegOp) → (List Int) → (List SStep) → Int → Option (((List Int) × (List SStep) × Bool) ⊕ ((List Int) × (List SStep)))
 | [], l41, l42, i45 => some (.inr (l41, l42))
 | y46 :: ys47, l41, l42, i45 => ((gt l41 y46.f1).bind fun y74 => if y74 < 0 then (some true) else ((gt l41 y46.f2).bind fun y77 => some (decide (y77 < 0)))).bind fun b66 => if b66 = true then (some (.inl (([] : List Int), ([] : List SStep), false))) else ((gt l41 y46.f1).bind fun y81 => (gt l41 y46.f2).bind fun y83 => (spec_plStep.f y81 y83).bind fun z85 => (ap l42 ([z85] : List SStep)).bind fun l89 => (gt l41 y46.f0).bind fun y94 => (st l41 y46.f0 (w64 (w64 ((l0_1.length : Int) + (l89.length : Int)) - 1))).bind fun l95 => spec_reValues.l2 l0_1 ys47 l95 l89 (i45 + 1))
def spec_reValues.l1 : (List Int) → (List Int) → Int → Option (List Int)
 | [], l26, i27 => some l26
 | y28 :: ys29, l26, i27 => (gt l26 y28).bind fun y100 => (st l26 y28 i27).bind fun l101 => spec_reValues.l1 ys29 l101 (i27 + 1)
def spec_reValues.l0 (a0_0 : Int) : Nat → (List Int) → Int → Option (List Int)
 | 0, _, _ => none
 | k10 + 1, l4, i7 => if i7 < a0_0 then ((ap l4 ([(-1)] : List Int)).bind fun l22 => spec_reValues.l0 a0_0 k10 l22 (w64 (i7 + 1))) else (some l4)
def spec_reValues.f (k : Nat) (a0_0 : Int) (l0_1 : List Int) (l0_2 : List SRegOp) (l0_3 : List Int) (a1 : Int) : Option ((List Int) × (List SStep) × Bool) := (spec_reValues.l0 a0_0 k ([] : List Int) 0).bind fun l4 => (spec_reValues.l1 l0_1 l4 0).bind fun l26 => (ct l0_2 (0 : Int) a1).bind fun l38 => (spec_reValues.l2 l0_1 l38 l26 ([] : List SStep) 0).bind fun o_ => match o_ with | .inl r_ => some r_ | .inr (l41, l42) => some (l41, l42, true)
theorem spec_reValues.calls (k : Nat) {w0 ws : World} {P0 : Nat → Prop} (a0_0 : Int) (A0_1 : Option Addr) (c0_1 : Nat) (n0_1 : Nat) (l0_1 : List Int) (A0_2 : Option Addr) (c0_2 : Nat) (n0_2 : Nat) (l0_2 : List SRegOp) (A0_3 : Option Addr) (c0_3 : Nat) (n0_3 : Nat) (l0_3 : List Int) (a1 : Int) (Z : Below w0.heap.size w0 ws) (hF : Fr w0 ws P0 [] ws) (R0_1 : Stable ws P0 (fun w => Kd.C (Kd.int .i64) w A0_1 n0_1 l0_1)) (hc0_1 : n0_1 ≤ c0_1) (R0_2 : Stable ws P0 (fun w => Kd.C zaq w A0_2 n0_2 l0_2)) (hc0_2 : n0_2 ≤ c0_2) (R0_3 : Stable ws P0 (fun w => Kd.C (Kd.int .i64) w A0_3 n0_3 l0_3)) (hc0_3 : n0_3 ≤ c0_3) (r_1 : List Int) (r_4 : List SStep) (r_7 : Bool) (h : spec_reValues.f k a0_0 l0_1 l0_2 l0_3 a1 = some (r_1, r_4, r_7)) :
  Calls Tryz.prog 124 #[.agg #[.int .i64 a0_0, .slice A0_1 n0_1 c0_1, .slice A0_2 n0_2 c0_2, .slice A0_3 n0_3 c0_3], .int .i64 a1] ws (Post1 w0 ws P0 (fun ((q_2, q_3, q_5, q_6) : (Option Addr) × Nat × (Option Addr) × Nat) => .tuple #[.slice q_2 r_1.length q_3, .slice q_5 r_4.length q_6, .bool r_7]) (fun ((q_2, q_3, q_5, q_6) : (Option Addr) × Nat × (Option Addr) × Nat) => [row (Kd.int .i64) 3 (.slice q_2 r_1.length q_3) r_1, row kStep 72 (.slice q_5 r_4.length q_6) r_4])) := by
 unfold spec_reValues.f at h
 obtain rfl := (R0_1 ws (KeptB.refl _ _)).1
 obtain rfl := (R0_2 ws (KeptB.refl _ _)).1
 obtain rfl := (R0_3 ws (KeptB.refl _ _)).1
 refine enter Tryz.func124 rfl Tryz.ntmps124 rfl hF (c_seq (za0 (o_e rfl (e_box rfl) (fun g1 => o_q rfl rfl (q_asg rfl) (o_q rfl rfl (q_asg rfl) (o_q rfl rfl (q_asg rfl) (o_end (za1 (c_seq ?_)))))))))
 refine za0 (o_q rfl rfl (q_asg rfl) (o_end (za1 (c_seq (c_seq (za0 (o_q rfl rfl (q_asg rfl) (o_end (za1 ?_)))))))))
 refine zah (c_nil (Kd.int .i64) 3 (za6 h (fun o15 hl14 hR13 => ?_) rfl))
 clear h
 refine zax (σ := (List Int) × Int × (Option Addr) × Nat) (fun k10 ((l4, i7, A5, c6) : (List Int) × Int × (Option Addr) × Nat) => spec_reValues.l0 a0_0 k10 l4 i7 = some o15) [7, 8, 14, 15, 16, 17, 18, 19, 20, 21, 22] (fun ((l4, i7, A5, c6) : (List Int) × Int × (Option Addr) × Nat) => [(7, .slice A5 l4.length c6), (8, .int .i64 i7)]) (fun ((l4, i7, A5, c6) : (List Int) × Int × (Option Addr) × Nat) => [row (Kd.int .i64) 3 (.slice A5 l4.length c6) l4, box g1 38 #[.int .i64 a0_0, .slice A0_1 l0_1.length c0_1, .slice A0_2 l0_2.length c0_2, .slice A0_3 l0_3.length c0_3]]) k (([] : List Int), 0, none, 0) hl14 ⟨rfl, rfl, trivial⟩ (fun w h => h) (natC (cur4 (fun l4 i7 A5 c6 => fun U16 hJ_ => ?_)) (fun k10 => (cur4 (fun l4 i7 A5 c6 => fun U16 hJ_ => ?_))))
 ·skip
  replace hJ_ : spec_reValues.l0 a0_0 0 l4 i7 = some o15 := hJ_
  rw [spec_reValues.l0] at hJ_
  exact noneE hJ_
 ·skip
  clear hl14
  have h := hJ_; clear hJ_
  replace h : spec_reValues.l0 a0_0 (k10 + 1) l4 i7 = some o15 := h
  rw [spec_reValues.l0] at h
  refine c_seq (c_seq (za0 (o_q rfl rfl (za3 rfl) (o_q rfl rfl (q_f F38_0 rfl) (o_q rfl rfl (q_ldb Y3 rfl (fun w h => h.zac (i := 1) rfl) rfl) (o_q rfl rfl (q_lss rfl rfl) (o_end (za1 (zas _ rfl (fun hb18 => ?_) (fun hb18 => ?_))))))))))
  ·skip
   replace h := br_t hb18 h
   refine zal (za1 (c_seq (zah (za0 (o_q rfl rfl (za3 rfl) (o_e rfl (e_lit (vs := [(0, .int .i64 (-1))]) (cs := [.int .i64 (-1)]) (Kd.int .i64) ([(-1)] : List Int) Tryz.underlying25 I3 dc_ rfl dc_ rfl rfl (fun _ _ => Kd.zaf _)) (cur2 (fun A19 c20 => za6 h (fun l22 ha23 h => ?_) rfl))))))))
   refine o_e rfl (e_app (i := 1) (j := 0) Tryz.underlying25 I3 rfl dc_ dc_ rfl rfl rfl rfl rfl ha23) (cur2 (fun A24 c25 => o_q rfl rfl (q_asg rfl) (o_end (zak (za1 (za0 (o_q rfl rfl (za3 rfl) (o_q rfl rfl (zb5 rfl rfl) (o_q rfl rfl (q_asg rfl) (o_end ?_))))))))))
   refine zaj k10 (l22, w64 (i7 + 1), A24, c25) (Nat.lt_succ_self _) h ⟨rfl, rfl, trivial⟩ (fun w h => za8 [1, 2] dc_ rfl w h) ?_
   exact of_
  ·skip
   replace h := br_f hb18 h
   refine zb2 (zab (zab ?_))
   have e_ := si_ h; replace h := hR13; rw [← e_] at h; clear e_
   refine x_hit (za1 (c_seq (c_seq (za0 (o_q rfl rfl (q_f F38_1 rfl) (o_q rfl rfl (q_ldb Y25 rfl (fun w h => h.zac (i := 1) rfl) rfl) (o_q rfl rfl (q_len Tryz.underlying25 rfl) (o_q rfl rfl (za3 rfl) (o_end ?_)))))))))
   refine za1 (zah (za6 h (fun o35 hl34 hR33 => ?_) rfl))
   clear h
   refine c_fact (p := l0_1.length ≤ 9223372036854775807) (fun w h => (R0_1.now Z h).2.1) (fun hm32 => zax (σ := (List Int) × (List Int) × Int) (fun k30 ((ys29, l26, i27) : (List Int) × (List Int) × Int) => Rg l0_1 i27 ys29 ∧ ys29.length = k30 ∧ spec_reValues.l1 ys29 l26 i27 = some o35) [9, 10, 26, 27, 28, 29, 30, 31, 32, 33, 34, 35] (fun ((ys29, l26, i27) : (List Int) × (List Int) × Int) => [(26, .int .i64 i27)]) (fun ((ys29, l26, i27) : (List Int) × (List Int) × Int) => [row (Kd.int .i64) 3 (.slice A5 l4.length c6) l26, box g1 38 #[.int .i64 a0_0, .slice A0_1 l0_1.length c0_1, .slice A0_2 l0_2.length c0_2, .slice A0_3 l0_3.length c0_3]]) l0_1.length (l0_1, l4, 0) ⟨Rg.start _, rfl, hl34⟩ ⟨rfl, trivial⟩ (fun w h => h) (fun k30 => cur3 (listC (fun l26 i27 U36 hJ_ => ?_) (fun y28 ys29 l26 i27 U36 hJ_ => ?_))))
   ·skip
    clear hl34
    have hr31 := hJ_.1; have hk37 := hJ_.2.1; have h := hJ_.2.2; clear hJ_
    replace h : spec_reValues.l1 [] l26 i27 = some o35 := h
    rw [spec_reValues.l1] at h
    refine c_seq (za0 (o_q rfl rfl (q_lss rfl rfl) (o_end (za1 (c_seq (zb1 (vb_ hr31.ge) (zb2 (zab (zab ?_)))))))))
    have e_ := si_ h; replace h := hR33; rw [← e_] at h; clear e_
    refine x_hit (za1 (c_seq (za0 (o_q rfl rfl (q_asg rfl) (o_end (za1 (c_seq (c_seq (za0 ?_)))))))))
    refine o_q rfl rfl (q_f F38_2 rfl) (o_q rfl rfl (q_ldb Y36 rfl (fun w h => h.zac (i := 1) rfl) rfl) (o_q rfl rfl (za3 rfl) (za6 h (fun l38 hz39 h => ?_) rfl)))
    refine o_q rfl rfl (q_ctv Tryz.underlying36 Z84 rfl rfl ⟨_, rfl⟩ rfl hc0_2 hz39) (o_q rfl rfl (q_len Tryz.underlying36 rfl) (o_q rfl rfl (za3 rfl) (o_end (za1 (zah (c_nil kStep 72 (za6 h (fun o53 hl52 hR51 => ?_) rfl)))))))
    clear h
    refine c_fact (p := l38.length ≤ 9223372036854775807) (fun w h => (C_cut (dk := zaq) rfl hz39 hc0_2 (R0_2.now Z h)).2.1) (fun hm50 => zax (σ := (List SRegOp) × (List Int) × (List SStep) × Int × (Option Addr) × Nat) (fun k48 ((ys47, l41, l42, i45, A43, c44) : (List SRegOp) × (List Int) × (List SStep) × Int × (Option Addr) × Nat) => Rg l38 i45 ys47 ∧ ys47.length = k48 ∧ spec_reValues.l2 l0_1 ys47 l41 l42 i45 = some o53) [4, 5, 6, 11, 13, 41, 42, 43, 44, 45, 46, 47, 48, 49, 50, 51, 52, 53, 54, 55, 56, 57, 58, 59, 60, 61, 62, 63, 64, 65, 66, 67, 68, 69, 70, 71, 72, 73, 74, 75, 76, 77, 78, 79, 80, 81, 82, 83, 84] (fun ((ys47, l41, l42, i45, A43, c44) : (List SRegOp) × (List Int) × (List SStep) × Int × (Option Addr) × Nat) => [(11, .slice A43 l42.length c44), (41, .int .i64 i45)]) (fun ((ys47, l41, l42, i45, A43, c44) : (List SRegOp) × (List Int) × (List SStep) × Int × (Option Addr) × Nat) => [row kStep 72 (.slice A43 l42.length c44) l42, row (Kd.int .i64) 3 (.slice A5 l4.length c6) l41, box g1 38 #[.int .i64 a0_0, .slice A0_1 l0_1.length c0_1, .slice A0_2 l0_2.length c0_2, .slice A0_3 l0_3.length c0_3]]) l38.length (l38, l26, ([] : List SStep), 0, none, 0) ⟨Rg.start _, rfl, hl52⟩ ⟨rfl, rfl, trivial⟩ (fun w h => h) (fun k48 => cur6 (listC (fun l41 l42 i45 A43 c44 U54 hJ_ => ?_) (fun y46 ys47 l41 l42 i45 A43 c44 U54 hJ_ => ?_))))
    ·skip
     clear hl52
     have hr49 := hJ_.1; have hk55 := hJ_.2.1; have h := hJ_.2.2; clear hJ_
     replace h : spec_reValues.l2 l0_1 [] l41 l42 i45 = some o53 := h
     rw [spec_reValues.l2] at h
     refine c_seq (za0 (o_q rfl rfl (q_lss rfl rfl) (o_end (za1 (c_seq (zb1 (vb_ hr49.ge) (zb2 (zab (zab ?_)))))))))
     have e_ := si_ h; replace h := hR51; rw [← e_] at h; clear e_
     refine x_hit (za1 (c_seq (za0 (o_q rfl rfl (za3 rfl) (o_q rfl rfl (za3 rfl) (o_q rfl rfl (q_asg rfl) (o_q rfl rfl (q_asg rfl) (o_q rfl rfl (q_asg rfl) (o_end ?_)))))))))
     refine za1 (c_ret (x_fact (p := l4.length = l41.length) (fun w h => (h.row_C (i := 1) rfl).2.1) (fun hn56 => ?_)))
     have e0_ := si_ h; clear h
     obtain ⟨rfl, e1_⟩ := Prod.mk.inj e0_
     obtain ⟨rfl, e2_⟩ := Prod.mk.inj e1_
     subst e2_
     exact x_r3 (A5, c6, A43, c44) Tryz.results124 (zad (v := .slice A5 l4.length c6) rfl) (zad (v := .slice A43 l42.length c44) rfl) (zad (v := .bool true) rfl) (by (try rw [hn56]); first | done | rfl) (f_pickE (L1 := [row kStep 72 (.slice A43 l42.length c44) l42, row (Kd.int .i64) 3 (.slice A5 l4.length c6) l41, box g1 38 #[.int .i64 a0_0, .slice A0_1 l0_1.length c0_1, .slice A0_2 l0_2.length c0_2, .slice A0_3 l0_3.length c0_3]]) rfl [1, 0] dc_ rfl (by (try rw [hn56]); first | done | rfl))
    ·skip
     clear hl52
     have hr49 := hJ_.1; have hk55 := hJ_.2.1; have h := hJ_.2.2; clear hJ_
     replace h : spec_reValues.l2 l0_1 (y46 :: ys47) l41 l42 i45 = some o53 := h
     rw [spec_reValues.l2] at h
     refine c_seq (za0 (o_q rfl rfl (q_lss rfl rfl) (o_end (za1 (c_seq (zay (vb_ hr49.lt) (zal (za1 (c_seq ?_)))))))))
     refine zah (c_seq (za0 (zb0 (p := Sh (cutA A0_2 c0_2 (0 : Int).toNat 3) l38.length l38.length) (fun w h => f_sh (dk := zaq) h (fun w h => C_cut (dk := zaq) rfl hz39 hc0_2 (R0_2.now Z h))) (fun hq57 => o_q rfl rfl (q_ix Tryz.underlying36 Z84 rfl rfl hq57 hr49.get) (o_q rfl rfl (q_ldE G84 Z84 rfl rfl (fun w h => C_cut (dk := zaq) rfl hz39 hc0_2 (R0_2.now Z h)) hr49.get (fun _ _ h => h) rfl) (o_e rfl (zao V84 rfl) (fun g58 => o_e rfl (zae (i := 0) rfl rfl rfl Z84 rfl rfl) (fun _ => o_end (za1 ?_)))))))))
     refine c_seq (za6 h (fun o67 hl68 hR69 => ?_) rfl)
     clear h
     refine c_cutJ (σ := Bool) (fun b66 => some b66 = some o67) [45, 46, 47, 48, 49, 50, 51, 52, 53, 54, 55, 56, 57, 58] (fun b66 => [(58, .bool b66)]) (fun b66 => [box g1 38 #[.int .i64 a0_0, .slice A0_1 l0_1.length c0_1, .slice A0_2 l0_2.length c0_2, .slice A0_3 l0_3.length c0_3], row (Kd.int .i64) 3 (.slice A5 l4.length c6) l41, row kStep 72 (.slice A43 l42.length c44) l42, box g58 84 #[.int .i64 y46.f0, .int .i64 y46.f1, .int .i64 y46.f2]]) ?_ ?_
     ·skip
      have h := hl68; clear hl68
      clear hR69
      refine za0 (o_q rfl rfl (za3 rfl) (o_q rfl rfl (q_f F84_1 rfl) (o_q rfl rfl (q_ldb Y3 rfl (fun w h => h.zac (i := 0) rfl) rfl) (zb0 (p := Sh A5 l4.length l41.length) (fun w h => f_sh (dk := (Kd.int .i64)) h (fun w h => h.zat (i := 2) rfl)) (fun hq72 => za6 h (fun y74 hg73 h => ?_) rfl)))))
      refine o_q rfl rfl (q_ix Tryz.underlying25 Z3 rfl rfl hq72 hg73) (o_q rfl rfl (q_lde (off := 0) Y3 rfl rfl (fun w h => h.zat (i := 2) rfl) hg73 (fun _ _ h => h) rfl) (o_q rfl rfl (q_lss rfl rfl) (o_q rfl rfl (za3 rfl) (byB (decide (y74 < 0)) (fun hb75 => ?_) (fun hb75 => ?_)))))
      ·replace h := br_t hb75 h
       refine o_n (d := 52) (za2 rfl rfl rfl (vb_ hb75) rfl) (Eq.refl (some 52)) (o_n (d := 53) (za2 rfl rfl rfl (vb_ hb75) rfl) (Eq.refl (some 53)) (o_n (d := 54) (za2 rfl rfl rfl (vb_ hb75) rfl) (Eq.refl (some 54)) (o_n (d := 55) (za2 rfl rfl rfl (vb_ hb75) rfl) (Eq.refl (some 55)) (o_n (d := 56) (za2 rfl rfl rfl (vb_ hb75) rfl) (Eq.refl (some 56)) (o_n (d := 57) (za2 rfl rfl rfl (vb_ hb75) rfl) (Eq.refl (some 57)) (o_q rfl rfl (zai true (vb_ hb75) rfl) (o_end (zam true h ⟨rfl, trivial⟩ (fun w h => za8 [3, 2, 1, 0] dc_ rfl w h) ?_))))))))
       exact of_
      ·replace h := br_f hb75 h
       refine o_w (za4 rfl rfl rfl (vb_ hb75)) rfl (za3 rfl) (o_w (za4 rfl rfl rfl (vb_ hb75)) rfl (q_f F84_2 rfl) (o_w (za4 rfl rfl rfl (vb_ hb75)) rfl (q_ldb Y3 rfl (fun w h => h.zac (i := 0) rfl) rfl) (za6 h (fun y77 hg76 h => ?_) rfl)))
       refine o_w (za4 rfl rfl rfl (vb_ hb75)) rfl (q_ix Tryz.underlying25 Z3 rfl rfl hq72 hg76) (o_w (za4 rfl rfl rfl (vb_ hb75)) rfl (q_lde (off := 0) Y3 rfl rfl (fun w h => h.zat (i := 2) rfl) hg76 (fun _ _ h => h) rfl) (o_w (za4 rfl rfl rfl (vb_ hb75)) rfl (q_lss rfl rfl) (o_q rfl rfl (zai false (vb_ hb75) rfl) (o_end (zam (decide (y77 < 0)) h ⟨rfl, trivial⟩ (fun w h => za8 [3, 2, 1, 0] dc_ rfl w h) ?_)))))
       exact of_
     ·skip
      refine (fun b66 => fun U70 hJ71 => ?_)
      have e_ := si_ hJ71; have h := hR69; rw [← e_] at h; clear e_ hJ71 hR69 hl68
      refine zas _ rfl (fun hb78 => ?_) (fun hb78 => ?_)
      ·skip
       replace h := bb_t hb78 h
       refine c_seq (za0 (o_q rfl rfl (q_asg rfl) (o_q rfl rfl (q_asg rfl) (o_q rfl rfl (q_asg rfl) (o_end (za1 (c_ret (za9 (zan ?_)))))))))
       refine za9 (za9 ?_)
       have e_ := si_ h; replace h := hR51; rw [← e_] at h; clear e_
       refine zan (za9 (x_nil (Kd.int .i64) 3 (x_nil kStep 72 ?_)))
       have e0_ := si_ h; clear h
       obtain ⟨rfl, e1_⟩ := Prod.mk.inj e0_
       obtain ⟨rfl, e2_⟩ := Prod.mk.inj e1_
       subst e2_
       exact x_r3 (none, 0, none, 0) Tryz.results124 (zad rfl) (zad rfl) (zad rfl) rfl (fun w h => za8 [1, 0] dc_ rfl w h)
      ·skip
       replace h := bb_f hb78 h
       refine zal (za1 (c_seq (a_startS (ds := []) [some 0, some 1, none, some 3] MO rfl (zaa 0 rfl rfl rfl kr_ (fun _ _ _ h => h) (za3 rfl) (zaa 1 rfl rfl rfl kr_ (fun _ _ _ h => h) (za3 rfl) (zaa 2 rfl rfl rfl kr_ (fun _ _ _ h => h) (q_f F84_1 rfl) (zau 3 rfl rfl rfl kr_ (fun _ _ _ h => h) (fun w h => za5 [some 0, some 1, none, some 3] dc_ w h rfl) (q_ldb Y3 rfl (fun w h => h.zac (i := 3) rfl) rfl) (a_fact (p := Sh A5 l4.length l41.length) (fun w h => f_sh (dk := (Kd.int .i64)) h (fun w h => h.zat (i := 1) rfl)) (fun hq79 => za6 h (fun y81 hg80 h => ?_) rfl)))))))))
       refine zaa 4 rfl rfl rfl kr_ (fun _ _ _ h => h) (q_ix Tryz.underlying25 Z3 rfl rfl hq79 hg80) (zau 5 rfl rfl rfl kr_ (fun _ _ _ h => h) (fun w h => za5 [some 0, some 1, none, some 3] dc_ w h rfl) (q_lde (off := 0) Y3 rfl rfl (fun w h => h.zat (i := 1) rfl) hg80 (fun _ _ h => h) rfl) (zaa 6 rfl rfl rfl kr_ (fun _ _ _ h => h) (za3 rfl) (zaa 7 rfl rfl rfl kr_ (fun _ _ _ h => h) (q_f F84_2 rfl) (zau 8 rfl rfl rfl kr_ (fun _ _ _ h => h) (fun w h => za5 [some 0, some 1, none, some 3] dc_ w h rfl) (q_ldb Y3 rfl (fun w h => h.zac (i := 3) rfl) rfl) (za6 h (fun y83 hg82 h => ?_) rfl)))))
       refine zaa 9 rfl rfl rfl kr_ (fun _ _ _ h => h) (q_ix Tryz.underlying25 Z3 rfl rfl hq79 hg82) (zau 10 rfl rfl rfl kr_ (fun _ _ _ h => h) (fun w h => za5 [some 0, some 1, none, some 3] dc_ w h rfl) (q_lde (off := 0) Y3 rfl rfl (fun w h => h.zat (i := 1) rfl) hg82 (fun _ _ h => h) rfl) (za6 h (fun z85 hx84 h => ?_) rfl))
       refine a_one 11 rfl rfl kr_ rfl (za7 0 Z Tryz.func96 N96 rfl rfl rfl (fun w P1 hF hB hS hT => spec_plStep.calls y81 y83 hB hF _ hx84)) (fun s w h => za5 [some 0, some 1, none, some 3] dc_ w h rfl) (fun _ => a_one 12 rfl rfl kr_ rfl (e_lit (vs := [(0, .agg #[.int .i64 z85.f0, .int .i64 z85.f1])]) (cs := [.int .i64 z85.f0, .int .i64 z85.f1]) kStep ([z85] : List SStep) Tryz.underlying24 I72 dc_ rfl dc_ rfl rfl (fun _ _ => zb4 _)) (fun s w h => za5 [some 1, some 2, none, some 4] dc_ w h rfl) (cur2 (fun A86 c87 => za6 h (fun l89 ha90 h => ?_) rfl)))
       refine a_one 13 rfl rfl kr_ rfl (e_app (i := 3) (j := 0) Tryz.underlying24 I72 rfl dc_ dc_ rfl rfl rfl rfl rfl ha90) (fun s w h => za5 [some 1, some 2, none, some 4] dc_ w h rfl) (cur2 (fun A91 c92 => zaa 14 rfl rfl rfl kr_ (fun _ _ _ h => h) (q_asg rfl) (zar kr_ (za1 (za0 (o_q rfl rfl (za3 rfl) (o_q rfl rfl (q_f F84_0 rfl) (o_q rfl rfl (q_ldb Y3 rfl (fun w h => h.zac (i := 4) rfl) rfl) (o_q rfl rfl (q_f F38_1 rfl) (o_q rfl rfl (q_ldb Y25 rfl (fun w h => h.zac (i := 1) rfl) rfl) ?_))))))))))
       refine o_q rfl rfl (q_len Tryz.underlying25 rfl) (o_q rfl rfl (za3 rfl) (o_q rfl rfl (q_len Tryz.underlying24 rfl) (o_q rfl rfl (zb5 rfl rfl) (o_q rfl rfl (q_sub64 rfl rfl) (za6 h (fun y94 hg93 h => ?_) rfl)))))
       refine o_q rfl rfl (q_ix Tryz.underlying25 Z3 rfl rfl hq79 hg93) (za6 h (fun l95 hs96 h => ?_) rfl)
       refine o_e rfl (e_set (i := 2) rfl rfl rfl Z3 hs96) (fun _ => o_end (zak (za1 (za0 (o_q rfl rfl (q_up rfl rfl (hr49.up hm50)) (o_q rfl rfl (za3 rfl) (o_end (zaj ys47.length (ys47, l95, l89, i45 + 1, A91, c92) (by rw [← hk55]; exact Nat.lt_succ_self _) ⟨hr49.step, rfl, h⟩ ⟨rfl, rfl, trivial⟩ (fun w h => za8 [3, 2, 1] dc_ rfl w h) ?_))))))))
       exact of_
   ·skip
    clear hl34
    have hr31 := hJ_.1; have hk37 := hJ_.2.1; have h := hJ_.2.2; clear hJ_
    replace h : spec_reValues.l1 (y28 :: ys29) l26 i27 = some o35 := h
    rw [spec_reValues.l1] at h
    refine c_seq (za0 (o_q rfl rfl (q_lss rfl rfl) (o_end (za1 (c_seq (zay (vb_ hr31.lt) (zal (za1 (c_seq ?_)))))))))
    refine zah (c_seq (za0 (o_q rfl rfl (za3 rfl) (zb0 (p := Sh A0_1 l0_1.length l0_1.length) (fun w h => f_sh (dk := (Kd.int .i64)) h (fun w h => R0_1.now Z h)) (fun hq97 => o_q rfl rfl (q_ix Tryz.underlying25 Z3 rfl rfl hq97 hr31.get) (o_q rfl rfl (q_lde (off := 0) Y3 rfl rfl (fun w h => R0_1.now Z h) hr31.get (fun _ _ h => h) rfl) (o_q rfl rfl (q_asg rfl) (o_q rfl rfl (q_asg rfl) (o_end ?_)))))))))
    refine za1 (za0 (o_q rfl rfl (za3 rfl) (o_q rfl rfl (za3 rfl) (o_q rfl rfl (za3 rfl) (zb0 (p := Sh A5 l4.length l26.length) (fun w h => f_sh (dk := (Kd.int .i64)) h (fun w h => h.zat (i := 0) rfl)) (fun hq98 => za6 h (fun y100 hg99 h => ?_) rfl))))))
    refine o_q rfl rfl (q_ix Tryz.underlying25 Z3 rfl rfl hq98 hg99) (za6 h (fun l101 hs102 h => ?_) rfl)
    refine o_e rfl (e_set (i := 0) rfl rfl rfl Z3 hs102) (fun _ => o_end (zak (za1 (za0 (o_q rfl rfl (q_up rfl rfl (hr31.up hm32)) (o_q rfl rfl (za3 rfl) (o_end (zaj ys29.length (ys29, l101, i27 + 1) (by rw [← hk37]; exact Nat.lt_succ_self _) ⟨hr31.step, rfl, h⟩ ⟨rfl, trivial⟩ (fun w h => za8 [0, 1] dc_ rfl w h) ?_))))))))
    exact of_

def spec_rePlan.l0 (l9 : List Int) : (List Int) → (List Int) → Int → Option ((Int × (List SStep) × (List Int) × Bool) ⊕ ((List Int)))
 | [], l20, i23 => some (.inr l20)
 | y24 :: ys25, l20, i23 => (gt l9 y24).bind fun y39 => if y39 < 0 then (some (.inl (0, ([] : List SStep), ([] : List Int), false))) else ((gt l9 y24).bind fun y283 => (ap l20 ([y283] : List Int)).bind fun l462 => spec_rePlan.l0 l9 ys25 l462 (i23 + 1))
def spec_rePlan.f (k : Nat) (a0_0 : Int) (l0_1 : List Int) (l0_2 : List SRegOp) (l0_3 : List Int) : Option (Int × (List SStep) × (List Int) × Bool) := (spec_reShape.f a0_0 l0_1 l0_2 l0_3).bind fun b6 => if b6 = true then ((spec_reValues.f k a0_0 l0_1 l0_2 l0_3 (l0_2.length : Int)).bind fun (l9, l10, b11) => if b11 = true then ((spec_rePlan.l0 l9 l0_3 ([] : List Int) 0).bind fun o_ => match o_ with | .inl r_ => some r_ | .inr l20 => (spec_plGood.f k (l0_1.length : Int) l10 l20).bind fun b35 => some ((l0_1.length : Int), l10, l20, b35)) else (some (0, ([] : List SStep), ([] : List Int), false))) else (some (0, ([] : List SStep), ([] : List Int), false))
theorem spec_rePlan.calls (k : Nat) {w0 ws : World} {P0 : Nat → Prop} (a0_0 : Int) (A0_1 : Option Addr) (c0_1 : Nat) (n0_1 : Nat) (l0_1 : List Int) (A0_2 : Option Addr) (c0_2 : Nat) (n0_2 : Nat) (l0_2 : List SRegOp) (A0_3 : Option Addr) (c0_3 : Nat) (n0_3 : Nat) (l0_3 : List Int) (Z : Below w0.heap.size w0 ws) (hF : Fr w0 ws P0 [] ws) (R0_1 : Stable ws P0 (fun w => Kd.C (Kd.int .i64) w A0_1 n0_1 l0_1)) (hc0_1 : n0_1 ≤ c0_1) (R0_2 : Stable ws P0 (fun w => Kd.C zaq w A0_2 n0_2 l0_2)) (hc0_2 : n0_2 ≤ c0_2) (R0_3 : Stable ws P0 (fun w => Kd.C (Kd.int .i64) w A0_3 n0_3 l0_3)) (hc0_3 : n0_3 ≤ c0_3) (r_1 : Int) (r_2 : List SStep) (r_5 : List Int) (r_8 : Bool) (h : spec_rePlan.f k a0_0 l0_1 l0_2 l0_3 = some (r_1, r_2, r_5, r_8)) :
  Calls Tryz.prog 97 #[.agg #[.int .i64 a0_0, .slice A0_1 n0_1 c0_1, .slice A0_2 n0_2 c0_2, .slice A0_3 n0_3 c0_3]] ws (Post1 w0 ws P0 (fun ((q_3, q_4, q_6, q_7) : (Option Addr) × Nat × (Option Addr) × Nat) => .tuple #[.agg #[.int .i64 r_1, .slice q_3 r_2.length q_4, .slice q_6 r_5.length q_7], .bool r_8]) (fun ((q_3, q_4, q_6, q_7) : (Option Addr) × Nat × (Option Addr) × Nat) => [row kStep 72 (.slice q_3 r_2.length q_4) r_2, row (Kd.int .i64) 3 (.slice q_6 r_5.length q_7) r_5])) := by
 unfold spec_rePlan.f at h
 obtain rfl := (R0_1 ws (KeptB.refl _ _)).1
 obtain rfl := (R0_2 ws (KeptB.refl _ _)).1
 obtain rfl := (R0_3 ws (KeptB.refl _ _)).1
 refine enter Tryz.func97 rfl Tryz.ntmps97 rfl hF (c_seq (za0 (o_e rfl (e_box rfl) (fun g1 => o_e rfl (zao V27 rfl) (fun g3 => o_q rfl rfl (q_asg rfl) (o_end (za1 (c_seq (c_seq ?_)))))))))
 refine za0 (o_q rfl rfl (q_ldB G38 Z38 rfl (fun w h => h.zac (i := 1) rfl) rfl) (za6 h (fun b6 hx5 h => ?_) rfl))
 refine o_e rfl (za7 0 Z Tryz.func123 N123 rfl rfl rfl (fun w P1 hF hB hS hT => spec_reShape.calls a0_0 A0_1 c0_1 l0_1.length l0_1 A0_2 c0_2 l0_2.length l0_2 A0_3 c0_3 l0_3.length l0_3 hB hF (hS _ R0_1) hc0_1 (hS _ R0_2) hc0_2 (hS _ R0_3) hc0_3 _ hx5)) (fun _ => o_q rfl rfl (q_not rfl) (o_end (za1 (zas _ rfl (fun hb7 => ?_) (fun hb7 => ?_)))))
 ·replace hb7 := nt_t hb7
  replace h := bb_f hb7 h
  refine c_seq (za0 (o_q rfl rfl (zaw (vs := []) (cs := [.int .i64 0, .slice none 0 0, .slice none 0 0]) rfl rfl) (o_e rfl (zae (i := 0) rfl rfl rfl Z27 rfl rfl) (fun _ => o_q rfl rfl (q_asg rfl) (o_end (za1 (c_ret (za9 (x_nil kStep 72 ?_)))))))))
  refine x_nil (Kd.int .i64) 3 ?_
  have e0_ := si_ h; clear h
  obtain ⟨rfl, e1_⟩ := Prod.mk.inj e0_
  obtain ⟨rfl, e2_⟩ := Prod.mk.inj e1_
  obtain ⟨rfl, e3_⟩ := Prod.mk.inj e2_
  subst e3_
  exact x_r2 (none, 0, none, 0) Tryz.results97 (zb8 rfl G27 Z27 (fun w h => h.zac (i := 2) rfl) rfl) (zad rfl) rfl (fun w h => za8 [1, 0] dc_ rfl w h)
 ·replace hb7 := nt_f hb7
  replace h := bb_t hb7 h
  refine zal (za1 (c_seq (za0 (o_q rfl rfl (q_ldB G38 Z38 rfl (fun w h => h.zac (i := 1) rfl) rfl) (o_q rfl rfl (q_f F38_2 rfl) (o_q rfl rfl (q_ldb Y36 rfl (fun w h => h.zac (i := 1) rfl) rfl) (o_q rfl rfl (q_len Tryz.underlying36 rfl) (bindE3 h (fun l9 l10 b11 hx8 h => ?_) rfl))))))))
  refine o_e rfl (za7 0 Z Tryz.func124 N124 rfl rfl rfl (fun w P1 hF hB hS hT => spec_reValues.calls k a0_0 A0_1 c0_1 l0_1.length l0_1 A0_2 c0_2 l0_2.length l0_2 A0_3 c0_3 l0_3.length l0_3 (l0_2.length : Int) hB hF (hS _ R0_1) hc0_1 (hS _ R0_2) hc0_2 (hS _ R0_3) hc0_3 _ _ _ hx8)) (cur4 (fun A12 c13 A14 c15 => o_q rfl rfl (za3 rfl) (o_q rfl rfl (q_ext rfl rfl) (o_q rfl rfl (q_ext rfl rfl) (o_q rfl rfl (q_ext rfl rfl) (o_q rfl rfl (q_asg rfl) (o_q rfl rfl (q_asg rfl) (o_q rfl rfl (q_asg rfl) (o_end (za1 ?_))))))))))
  refine c_seq (c_seq (za0 (o_q rfl rfl (za3 rfl) (o_q rfl rfl (q_not rfl) (o_end (za1 (zas _ rfl (fun hb16 => ?_) (fun hb16 => ?_))))))))
  ·replace hb16 := nt_t hb16
   replace h := bb_f hb16 h
   refine c_seq (za0 (o_q rfl rfl (zaw (vs := []) (cs := [.int .i64 0, .slice none 0 0, .slice none 0 0]) rfl rfl) (o_e rfl (zae (i := 2) rfl rfl rfl Z27 rfl rfl) (fun _ => o_q rfl rfl (q_asg rfl) (o_end (za1 (c_ret (za9 (x_nil kStep 72 ?_)))))))))
   refine x_nil (Kd.int .i64) 3 ?_
   have e0_ := si_ h; clear h
   obtain ⟨rfl, e1_⟩ := Prod.mk.inj e0_
   obtain ⟨rfl, e2_⟩ := Prod.mk.inj e1_
   obtain ⟨rfl, e3_⟩ := Prod.mk.inj e2_
   subst e3_
   exact x_r2 (none, 0, none, 0) Tryz.results97 (zb8 rfl G27 Z27 (fun w h => h.zac (i := 4) rfl) rfl) (zad rfl) rfl (fun w h => za8 [1, 0] dc_ rfl w h)
  ·replace hb16 := nt_f hb16
   replace h := bb_t hb16 h
   refine zal (za1 (c_seq (za0 (o_q rfl rfl (q_f F38_1 rfl) (o_q rfl rfl (q_ldb Y25 rfl (fun w h => h.zac (i := 3) rfl) rfl) (o_q rfl rfl (q_len Tryz.underlying25 rfl) (o_q rfl rfl (za3 rfl) (o_q rfl rfl (zaw (vs := [(0, .int .i64 (l0_1.length : Int)), (1, .slice A14 l10.length c15)]) (cs := [.int .i64 (l0_1.length : Int), .slice A14 l10.length c15, .slice none 0 0]) rfl rfl) (o_e rfl (zao V27 rfl) (fun g17 => ?_))))))))))
   refine o_e rfl (zae (i := 0) rfl rfl rfl Z27 rfl rfl) (fun _ => o_end (za1 (c_seq (c_seq (za0 (o_q rfl rfl (q_f F38_3 rfl) (o_q rfl rfl (q_ldb Y25 rfl (fun w h => h.zac (i := 4) rfl) rfl) (o_q rfl rfl (q_len Tryz.underlying25 rfl) (o_q rfl rfl (za3 rfl) ?_)))))))))
   refine o_end (za1 (zah (c_nil (Kd.int .i64) 3 (za6 h (fun o31 hl30 hR29 => ?_) rfl))))
   clear h
   refine c_fact (p := l0_3.length ≤ 9223372036854775807) (fun w h => (R0_3.now Z h).2.1) (fun hm28 => zax (σ := (List Int) × (List Int) × Int × (Option Addr) × Nat) (fun k26 ((ys25, l20, i23, A21, c22) : (List Int) × (List Int) × Int × (Option Addr) × Nat) => Rg l0_3 i23 ys25 ∧ ys25.length = k26 ∧ spec_rePlan.l0 l9 ys25 l20 i23 = some o31) [3, 9, 34, 35, 36, 37, 38, 39, 40, 41, 42, 43, 44, 45, 46, 47, 48, 49, 50, 51, 52, 53] (fun ((ys25, l20, i23, A21, c22) : (List Int) × (List Int) × Int × (Option Addr) × Nat) => [(34, .int .i64 i23)]) (fun ((ys25, l20, i23, A21, c22) : (List Int) × (List Int) × Int × (Option Addr) × Nat) => [row (Kd.int .i64) 3 (.slice A21 l20.length c22) l20, box g17 27 #[.int .i64 (l0_1.length : Int), .slice A14 l10.length c15, .slice A21 l20.length c22], row (Kd.int .i64) 3 (.slice A12 l9.length c13) l9, row kStep 72 (.slice A14 l10.length c15) l10, box g3 27 #[.int .i64 0, .slice none 0 0, .slice none 0 0], box g1 38 #[.int .i64 a0_0, .slice A0_1 l0_1.length c0_1, .slice A0_2 l0_2.length c0_2, .slice A0_3 l0_3.length c0_3]]) l0_3.length (l0_3, ([] : List Int), 0, none, 0) ⟨Rg.start _, rfl, hl30⟩ ⟨rfl, trivial⟩ (fun w h => h) (fun k26 => cur5 (listC (fun l20 i23 A21 c22 U32 hJ_ => ?_) (fun y24 ys25 l20 i23 A21 c22 U32 hJ_ => ?_))))
   ·skip
    clear hl30
    have hr27 := hJ_.1; have hk33 := hJ_.2.1; have h := hJ_.2.2; clear hJ_
    replace h : spec_rePlan.l0 l9 [] l20 i23 = some o31 := h
    rw [spec_rePlan.l0] at h
    refine c_seq (za0 (o_q rfl rfl (q_lss rfl rfl) (o_end (za1 (c_seq (zb1 (vb_ hr27.ge) (zb2 (zab (zab ?_)))))))))
    have e_ := si_ h; replace h := hR29; rw [← e_] at h; clear e_
    refine x_hit (za1 (c_seq (a_startS (ds := []) [some 0, some 1, some 2, some 3, none, some 5] MO rfl (zau 0 rfl rfl rfl kr_ (fun _ _ _ h => h) (fun w h => za5 [some 0, some 1, some 2, some 3, none, some 5] dc_ w h rfl) (q_ldB G27 Z27 rfl (fun w h => h.zac (i := 1) rfl) rfl) (zau 1 rfl rfl rfl kr_ (fun _ _ _ h => h) (fun w h => za5 [some 0, some 1, some 2, some 3, none, some 5] dc_ w h rfl) (q_ldB G27 Z27 rfl (fun w h => h.zac (i := 1) rfl) rfl) (za6 h (fun b35 hx34 h => ?_) rfl))))))
    refine a_one 2 rfl rfl kr_ rfl (za7 0 Z Tryz.func33 N33 rfl rfl rfl (fun w P1 hF hB hS hT => spec_plGood.calls k (l0_1.length : Int) A14 c15 l10.length l10 A21 c22 l20.length l20 hB hF (hT 3 _ rfl).row (hT 3 _ rfl).cap (hT 0 _ rfl).row (hT 0 _ rfl).cap _ hx34)) (fun s w h => za5 [some 0, some 1, some 2, some 3, none, some 5] dc_ w h rfl) (fun _ => a_one 3 rfl rfl kr_ rfl (zae (i := 4) rfl rfl rfl Z27 rfl rfl) (fun s w h => za5 [some 0, some 1, some 2, some 3, none, some 5] dc_ w h rfl) (fun _ => zaa 4 rfl rfl rfl kr_ (fun _ _ _ h => h) (q_asg rfl) (zar kr_ (za1 (c_ret ?_)))))
    have e0_ := si_ h; clear h
    obtain ⟨rfl, e1_⟩ := Prod.mk.inj e0_
    obtain ⟨rfl, e2_⟩ := Prod.mk.inj e1_
    obtain ⟨rfl, e3_⟩ := Prod.mk.inj e2_
    subst e3_
    exact x_r2 (A14, c15, A21, c22) Tryz.results97 (zb8 rfl G27 Z27 (fun w h => h.zac (i := 4) rfl) rfl) (zad rfl) rfl (fun w h => za8 [3, 0] dc_ rfl w h)
   ·skip
    clear hl30
    have hr27 := hJ_.1; have hk33 := hJ_.2.1; have h := hJ_.2.2; clear hJ_
    replace h : spec_rePlan.l0 l9 (y24 :: ys25) l20 i23 = some o31 := h
    rw [spec_rePlan.l0] at h
    refine c_seq (za0 (o_q rfl rfl (q_lss rfl rfl) (o_end (za1 (c_seq (zay (vb_ hr27.lt) (zal (za1 (c_seq ?_)))))))))
    refine zah (c_seq (za0 (zb0 (p := Sh A0_3 l0_3.length l0_3.length) (fun w h => f_sh (dk := (Kd.int .i64)) h (fun w h => R0_3.now Z h)) (fun hq36 => o_q rfl rfl (q_ix Tryz.underlying25 Z3 rfl rfl hq36 hr27.get) (o_q rfl rfl (q_lde (off := 0) Y3 rfl rfl (fun w h => R0_3.now Z h) hr27.get (fun _ _ h => h) rfl) (o_q rfl rfl (q_asg rfl) (o_end (za1 (c_seq ?_)))))))))
    refine c_seq (za0 (o_q rfl rfl (za3 rfl) (o_q rfl rfl (za3 rfl) (zb0 (p := Sh A12 l9.length l9.length) (fun w h => f_sh (dk := (Kd.int .i64)) h (fun w h => h.zat (i := 2) rfl)) (fun hq37 => za6 h (fun y39 hg38 h => ?_) rfl)))))
    refine o_q rfl rfl (q_ix Tryz.underlying25 Z3 rfl rfl hq37 hg38) (o_q rfl rfl (q_lde (off := 0) Y3 rfl rfl (fun w h => h.zat (i := 2) rfl) hg38 (fun _ _ h => h) rfl) (o_q rfl rfl (q_lss rfl rfl) (o_end (za1 (zas _ rfl (fun hb40 => ?_) (fun hb40 => ?_))))))
    ·skip
     replace h := br_t hb40 h
     refine c_seq (za0 (o_q rfl rfl (zaw (vs := []) (cs := [.int .i64 0, .slice none 0 0, .slice none 0 0]) rfl rfl) (o_e rfl (zae (i := 4) rfl rfl rfl Z27 rfl rfl) (fun _ => o_q rfl rfl (q_asg rfl) (o_end (za1 (c_ret (za9 (zan ?_)))))))))
     refine za9 (za9 ?_)
     have e_ := si_ h; replace h := hR29; rw [← e_] at h; clear e_
     refine zan (za9 (x_nil kStep 72 (x_nil (Kd.int .i64) 3 ?_)))
     have e0_ := si_ h; clear h
     obtain ⟨rfl, e1_⟩ := Prod.mk.inj e0_
     obtain ⟨rfl, e2_⟩ := Prod.mk.inj e1_
     obtain ⟨rfl, e3_⟩ := Prod.mk.inj e2_
     subst e3_
     exact x_r2 (none, 0, none, 0) Tryz.results97 (zb8 rfl G27 Z27 (fun w h => h.zac (i := 6) rfl) rfl) (zad rfl) rfl (fun w h => za8 [1, 0] dc_ rfl w h)
    ·skip
     replace h := br_f hb40 h
     refine zal (za1 (za6 h (fun y283 hg282 h => ?_) rfl))
     refine za6 h (fun l462 ha463 h => ?_) rfl
     refine a_startS (ds := []) [none, none, some 2, some 3, some 4, some 5] MO rfl (zaa 0 rfl rfl rfl kr_ (fun _ _ _ h => h) (q_f F27_2 rfl) (zaa 2 rfl rfl rfl kr_ (fun _ _ _ h => h) (za3 rfl) (zaa 3 rfl rfl rfl kr_ (fun _ _ _ h => h) (za3 rfl) (zaa 4 rfl rfl rfl kr_ (fun _ _ _ h => h) (q_ix Tryz.underlying25 Z3 rfl rfl hq37 hg282) (zau 5 rfl rfl rfl kr_ (fun _ _ _ h => h) (fun w h => za5 [none, none, some 2, some 3, some 4, some 5] dc_ w h rfl) (q_lde (off := 0) Y3 rfl rfl (fun w h => h.zat (i := 2) rfl) hg282 (fun _ _ h => h) rfl) (a_two 1 6 rfl rfl rfl rfl kr_ rfl rfl (ev_q rfl (q_ldb Y25 rfl (fun w h => h.zac (i := 1) rfl) rfl)) (fun s w h => za5 [none, none, some 2, some 3, some 4, some 5] dc_ w h rfl) (e_lit (vs := [(0, .int .i64 y283)]) (cs := [.int .i64 y283]) (Kd.int .i64) ([y283] : List Int) Tryz.underlying25 I3 dc_ rfl dc_ rfl rfl (fun _ _ => Kd.zaf _)) (fun s w h => za5 [none, none, some 3, some 4, some 5, some 6] dc_ w h rfl) (fun _ => ?_) (cur2 (fun A402 c403 => ?_))))))))
     ·skip
      refine a_one 6 rfl rfl kr_ rfl (e_lit (vs := [(0, .int .i64 y283)]) (cs := [.int .i64 y283]) (Kd.int .i64) ([y283] : List Int) Tryz.underlying25 I3 dc_ rfl dc_ rfl rfl (fun _ _ => Kd.zaf _)) (fun s w h => za5 [none, none, some 3, some 4, some 5, some 6] dc_ w h rfl) (cur2 (fun A402 c403 => a_one 7 rfl rfl kr_ rfl (e_app (i := 1) (j := 0) Tryz.underlying25 I3 rfl dc_ dc_ rfl rfl rfl rfl rfl ha463) (fun s w h => za5 [none, none, some 3, some 4, some 5, some 6] dc_ w h rfl) (cur2 (fun A464 c465 => zaa 8 rfl rfl rfl kr_ (fun _ _ _ h => h) (q_f F27_2 rfl) (a_one 9 rfl rfl kr_ rfl (zav (i := 2) rfl rfl rfl rfl Z25 rfl rfl) (fun s w h => za5 [none, none, some 3, some 4, some 5, some 6] dc_ w h rfl) (fun _ => zar kr_ (zak (za1 (za0 (o_q rfl rfl (q_up rfl rfl (hr27.up hm28)) (o_q rfl rfl (za3 rfl) ?_)))))))))))
      refine o_end (zaj ys25.length (ys25, l462, i23 + 1, A464, c465) (by rw [← hk33]; exact Nat.lt_succ_self _) ⟨hr27.step, rfl, h⟩ ⟨rfl, trivial⟩ (fun w h => za8 [1, 2, 3, 4, 5, 6] dc_ rfl w h) ?_)
      exact of_
     ·skip
      refine a_one 1 rfl rfl kr_ rfl (ev_q rfl (q_ldb Y25 rfl (fun w h => h.zac (i := 2) rfl) rfl)) (fun s w h => za5 [none, none, some 3, some 4, some 5, some 6] dc_ w h rfl) (fun _ => a_one 7 rfl rfl kr_ rfl (e_app (i := 1) (j := 0) Tryz.underlying25 I3 rfl dc_ dc_ rfl rfl rfl rfl rfl ha463) (fun s w h => za5 [none, none, some 3, some 4, some 5, some 6] dc_ w h rfl) (cur2 (fun A464 c465 => zaa 8 rfl rfl rfl kr_ (fun _ _ _ h => h) (q_f F27_2 rfl) (a_one 9 rfl rfl kr_ rfl (zav (i := 2) rfl rfl rfl rfl Z25 rfl rfl) (fun s w h => za5 [none, none, some 3, some 4, some 5, some 6] dc_ w h rfl) (fun _ => zar kr_ (zak (za1 (za0 (o_q rfl rfl (q_up rfl rfl (hr27.up hm28)) (o_q rfl rfl (za3 rfl) ?_))))))))))
      refine o_end (zaj ys25.length (ys25, l462, i23 + 1, A464, c465) (by rw [← hk33]; exact Nat.lt_succ_self _) ⟨hr27.step, rfl, h⟩ ⟨rfl, trivial⟩ (fun w h => za8 [1, 2, 3, 4, 5, 6] dc_ rfl w h) ?_)
      exact of_

def spec_reCode.f (k : Nat) (a0_0 : Int) (l0_1 : List Int) (l0_2 : List SRegOp) (l0_3 : List Int) : Option Bool := (spec_rePlan.f k a0_0 l0_1 l0_2 l0_3).bind fun (i4, l5, l6, b7) => some b7
theorem spec_reCode.calls (k : Nat) {w0 ws : World} {P0 : Nat → Prop} (a0_0 : Int) (A0_1 : Option Addr) (c0_1 : Nat) (n0_1 : Nat) (l0_1 : List Int) (A0_2 : Option Addr) (c0_2 : Nat) (n0_2 : Nat) (l0_2 : List SRegOp) (A0_3 : Option Addr) (c0_3 : Nat) (n0_3 : Nat) (l0_3 : List Int) (Z : Below w0.heap.size w0 ws) (hF : Fr w0 ws P0 [] ws) (R0_1 : Stable ws P0 (fun w => Kd.C (Kd.int .i64) w A0_1 n0_1 l0_1)) (hc0_1 : n0_1 ≤ c0_1) (R0_2 : Stable ws P0 (fun w => Kd.C zaq w A0_2 n0_2 l0_2)) (hc0_2 : n0_2 ≤ c0_2) (R0_3 : Stable ws P0 (fun w => Kd.C (Kd.int .i64) w A0_3 n0_3 l0_3)) (hc0_3 : n0_3 ≤ c0_3) (r_1 : Bool) (h : spec_reCode.f k a0_0 l0_1 l0_2 l0_3 = some r_1) :
  Calls Tryz.prog 56 #[.agg #[.int .i64 a0_0, .slice A0_1 n0_1 c0_1, .slice A0_2 n0_2 c0_2, .slice A0_3 n0_3 c0_3]] ws (Post1 w0 ws P0 (fun (_ : Unit) => .bool r_1) (fun (_ : Unit) => [])) := by
 unfold spec_reCode.f at h
 obtain rfl := (R0_1 ws (KeptB.refl _ _)).1
 obtain rfl := (R0_2 ws (KeptB.refl _ _)).1
 obtain rfl := (R0_3 ws (KeptB.refl _ _)).1
 refine enter Tryz.func56 rfl Tryz.ntmps56 rfl hF (c_seq (za0 (o_e rfl (e_box rfl) (fun g1 => o_q rfl rfl (q_asg rfl) (o_end (za1 (c_seq (za0 (o_q rfl rfl (q_ldB G38 Z38 rfl (fun w h => h.zac (i := 0) rfl) rfl) ?_)))))))))
 refine bindE4 h (fun i4 l5 l6 b7 hx3 h => ?_) rfl
 refine o_e rfl (za7 0 Z Tryz.func97 N97 rfl rfl rfl (fun w P1 hF hB hS hT => spec_rePlan.calls k a0_0 A0_1 c0_1 l0_1.length l0_1 A0_2 c0_2 l0_2.length l0_2 A0_3 c0_3 l0_3.length l0_3 hB hF (hS _ R0_1) hc0_1 (hS _ R0_2) hc0_2 (hS _ R0_3) hc0_3 _ _ _ _ hx3)) (cur4 (fun A8 c9 A10 c11 => o_q rfl rfl (za3 rfl) (o_q rfl rfl (q_ext rfl rfl) (o_q rfl rfl (q_ext rfl rfl) (o_e rfl (zao V27 rfl) (fun g12 => o_e rfl (zae (i := 0) rfl rfl rfl Z27 rfl rfl) (fun _ => o_q rfl rfl (q_asg rfl) (o_end (za1 (c_seq ?_))))))))))
 refine za0 (o_q rfl rfl (za3 rfl) (o_q rfl rfl (q_asg rfl) (o_end (za1 (c_ret ?_)))))
 have e0_ := si_ h; clear h
 subst e0_
 exact x_r1 () Tryz.results56 (zad rfl) rfl (fun w h => za8 [] dc_ rfl w h)

def spec_moPick.l0 (l0 : List Int) : (List Int) → (List Int) → Int → Option (List Int)
 | [], l3, i6 => some l3
 | y7 :: ys8, l3, i6 => (gt l0 y7).bind fun y20 => (ap l3 ([y20] : List Int)).bind fun l24 => spec_moPick.l0 l0 ys8 l24 (i6 + 1)
def spec_moPick.f (l0 : List Int) (l1 : List Int) : Option (List Int) := (spec_moPick.l0 l0 l1 ([] : List Int) 0).bind fun l3 => some l3
theorem spec_moPick.calls {w0 ws : World} {P0 : Nat → Prop} (A0 : Option Addr) (c0 : Nat) (n0 : Nat) (l0 : List Int) (A1 : Option Addr) (c1 : Nat) (n1 : Nat) (l1 : List Int) (Z : Below w0.heap.size w0 ws) (hF : Fr w0 ws P0 [] ws) (R0 : Stable ws P0 (fun w => Kd.C (Kd.int .i64) w A0 n0 l0)) (hc0 : n0 ≤ c0) (R1 : Stable ws P0 (fun w => Kd.C (Kd.int .i64) w A1 n1 l1)) (hc1 : n1 ≤ c1) (r_1 : List Int) (h : spec_moPick.f l0 l1 = some r_1) :
  Calls Tryz.prog 109 #[.slice A0 n0 c0, .slice A1 n1 c1] ws (Post1 w0 ws P0 (fun ((q_2, q_3) : (Option Addr) × Nat) => .slice q_2 r_1.length q_3) (fun ((q_2, q_3) : (Option Addr) × Nat) => [row (Kd.int .i64) 3 (.slice q_2 r_1.length q_3) r_1])) := by
 unfold spec_moPick.f at h
 obtain rfl := (R0 ws (KeptB.refl _ _)).1
 obtain rfl := (R1 ws (KeptB.refl _ _)).1
 refine enter Tryz.func109 rfl Tryz.ntmps109 rfl hF (c_seq (za0 (o_q rfl rfl (q_asg rfl) (o_end (za1 (c_seq (za0 (o_q rfl rfl (q_asg rfl) (o_end ?_)))))))))
 refine za1 (c_seq (c_seq (za0 (o_q rfl rfl (za3 rfl) (o_q rfl rfl (q_len Tryz.underlying25 rfl) (o_q rfl rfl (za3 rfl) (o_end (za1 (zah ?_)))))))))
 refine c_nil (Kd.int .i64) 3 (za6 h (fun o14 hl13 hR12 => ?_) rfl)
 clear h
 refine c_fact (p := l1.length ≤ 9223372036854775807) (fun w h => (R1.now Z h).2.1) (fun hm11 => zax (σ := (List Int) × (List Int) × Int × (Option Addr) × Nat) (fun k9 ((ys8, l3, i6, A4, c5) : (List Int) × (List Int) × Int × (Option Addr) × Nat) => Rg l1 i6 ys8 ∧ ys8.length = k9 ∧ spec_moPick.l0 l0 ys8 l3 i6 = some o14) [5, 7, 10, 11, 12, 13, 14, 15, 16, 17, 18, 19, 20, 21] (fun ((ys8, l3, i6, A4, c5) : (List Int) × (List Int) × Int × (Option Addr) × Nat) => [(5, .slice A4 l3.length c5), (10, .int .i64 i6)]) (fun ((ys8, l3, i6, A4, c5) : (List Int) × (List Int) × Int × (Option Addr) × Nat) => [row (Kd.int .i64) 3 (.slice A4 l3.length c5) l3]) l1.length (l1, ([] : List Int), 0, none, 0) ⟨Rg.start _, rfl, hl13⟩ ⟨rfl, rfl, trivial⟩ (fun w h => h) (fun k9 => cur5 (listC (fun l3 i6 A4 c5 U15 hJ_ => ?_) (fun y7 ys8 l3 i6 A4 c5 U15 hJ_ => ?_))))
 ·skip
  clear hl13
  have hr10 := hJ_.1; have hk16 := hJ_.2.1; have h := hJ_.2.2; clear hJ_
  replace h : spec_moPick.l0 l0 [] l3 i6 = some o14 := h
  rw [spec_moPick.l0] at h
  refine c_seq (za0 (o_q rfl rfl (q_lss rfl rfl) (o_end (za1 (c_seq (zb1 (vb_ hr10.ge) (zb2 (zab (zab ?_)))))))))
  have e_ := si_ h; replace h := hR12; rw [← e_] at h; clear e_
  refine x_hit (za1 (c_seq (za0 (o_q rfl rfl (za3 rfl) (o_q rfl rfl (q_asg rfl) (o_end (za1 (c_ret ?_))))))))
  have e0_ := si_ h; clear h
  subst e0_
  exact x_r1 (A4, c5) Tryz.results109 (zad rfl) rfl (fun w h => za8 [0] dc_ rfl w h)
 ·skip
  clear hl13
  have hr10 := hJ_.1; have hk16 := hJ_.2.1; have h := hJ_.2.2; clear hJ_
  replace h : spec_moPick.l0 l0 (y7 :: ys8) l3 i6 = some o14 := h
  rw [spec_moPick.l0] at h
  refine c_seq (za0 (o_q rfl rfl (q_lss rfl rfl) (o_end (za1 (c_seq (zay (vb_ hr10.lt) (zal (za1 (c_seq ?_)))))))))
  refine zah (c_seq (za0 (zb0 (p := Sh A1 l1.length l1.length) (fun w h => f_sh (dk := (Kd.int .i64)) h (fun w h => R1.now Z h)) (fun hq17 => o_q rfl rfl (q_ix Tryz.underlying25 Z3 rfl rfl hq17 hr10.get) (o_q rfl rfl (q_lde (off := 0) Y3 rfl rfl (fun w h => R1.now Z h) hr10.get (fun _ _ h => h) rfl) (o_q rfl rfl (q_asg rfl) (o_end (za1 (za0 ?_)))))))))
  refine o_q rfl rfl (za3 rfl) (o_q rfl rfl (za3 rfl) (o_q rfl rfl (za3 rfl) (zb0 (p := Sh A0 l0.length l0.length) (fun w h => f_sh (dk := (Kd.int .i64)) h (fun w h => R0.now Z h)) (fun hq18 => za6 h (fun y20 hg19 h => ?_) rfl))))
  refine o_q rfl rfl (q_ix Tryz.underlying25 Z3 rfl rfl hq18 hg19) (o_q rfl rfl (q_lde (off := 0) Y3 rfl rfl (fun w h => R0.now Z h) hg19 (fun _ _ h => h) rfl) (o_e rfl (e_lit (vs := [(0, .int .i64 y20)]) (cs := [.int .i64 y20]) (Kd.int .i64) ([y20] : List Int) Tryz.underlying25 I3 dc_ rfl dc_ rfl rfl (fun _ _ => Kd.zaf _)) (cur2 (fun A21 c22 => za6 h (fun l24 ha25 h => ?_) rfl))))
  refine o_e rfl (e_app (i := 1) (j := 0) Tryz.underlying25 I3 rfl dc_ dc_ rfl rfl rfl rfl rfl ha25) (cur2 (fun A26 c27 => o_q rfl rfl (q_asg rfl) (o_end (zak (za1 (za0 (o_q rfl rfl (q_up rfl rfl (hr10.up hm11)) (o_q rfl rfl (za3 rfl) (o_end (zaj ys8.length (ys8, l24, i6 + 1, A26, c27) (by rw [← hk16]; exact Nat.lt_succ_self _) ⟨hr10.step, rfl, h⟩ ⟨rfl, rfl, trivial⟩ (fun w h => za8 [1] dc_ rfl w h) ?_))))))))))
  exact of_

end Go.Proofs.YtnnlfipcoahcnaaGreatDoor.G3
