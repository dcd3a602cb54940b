import Derived.Test.YtnnlfipcoahcnaaGreatDoorKFnRenamedRegistersG3p6
namespace Go.Proofs.YtnnlfipcoahcnaaGreatDoor.G3
set_option maxHeartbeats 8000000
set_option maxRecDepth 100000
open Go.RowKit Go.Proofs.YtnnlfipcoahcnaaGreatDoor.Frame Go.Proofs.YtnnlfipcoahcnaaGreatDoorW.PrintLast Go.Proofs.YtnnlfipcoahcnaaGreatDoor.Hand
open Go.Proofs.YtnnlfipcoahcnaaGreatDoorW.PrintWords hiding mn mx
set_option linter.unusedVariables false
def laws_FnRenamedRegisters.f (k : Nat) (l0 : List Int) (l1 : List Int) : Option Bool := (laws_big.f l0 l1).bind fun b2 => if b2 = true then (some true) else ((spec_DrawRenameRegisters.f k l0).bind fun (i5, l6, l7, l8, l9) => (impl_RenameRegisters.f k i5 l6 l7 l8 l9).bind fun (i21, l22, l23, l24, b25) => (spec_RenameRegisters.f k i5 l6 l7 l8 l9).bind fun (i35, l36, l37, l38, b39) => (impl_PackRegisters.f k i5 l6 l7 l8).bind fun (i49, l50, l51, l52, b53) => (spec_PackRegisters.f k i5 l6 l7 l8).bind fun (i63, l64, l65, l66, b67) => if (b25 != b39) = true then (some false) else ((laws_rSameCode.f i21 l22 l23 l24 i35 l36 l37 l38).bind fun b78 => if b78 = true then (if (b53 != b67) = true then (some false) else ((laws_rSameCode.f i49 l50 l51 l52 i63 l64 l65 l66).bind fun b82 => if b82 = true then ((impl_IsRegCode.f k i5 l6 l7 l8).bind fun b85 => if (b53 != b85) = true then (some false) else ((if b53 = true then ((impl_RegCodePlan.f k i5 l6 l7 l8).bind fun (i236, l237, l238, b239) => (impl_RegCodePlan.f k i49 l50 l51 l52).bind fun (i247, l248, l249, b250) => (impl_PackRegisters.f k i49 l50 l51 l52).bind fun (i258, l259, l260, l261, b262) => if b239 = true then (if b250 = true then ((laws_rSamePlan.f i236 l237 l238 i247 l248 l249).bind fun b274 => if b274 = true then (if i5 < i49 then (some (.inl false)) else (if b262 = true then ((laws_rSameCode.f i258 l259 l260 l261 i49 l50 l51 l52).bind fun b279 => if b279 = true then ((if b25 = true then ((impl_RegCodePlan.f k i21 l22 l23 l24).bind fun (i322, l323, l324, b325) => (impl_PackRegisters.f k i21 l22 l23 l24).bind fun (i333, l334, l335, l336, b337) => if b325 = true then ((laws_rSamePlan.f i322 l323 l324 i236 l237 l238).bind fun b348 => if b348 = true then (if b337 = true then ((laws_rSameCode.f i333 l334 l335 l336 i49 l50 l51 l52).bind fun b352 => if b352 = true then (some (.inr ())) else (some (.inl false))) else (some (.inl false))) else (some (.inl false))) else (some (.inl false))) else (some (.inr ())) : Option ((Bool) ⊕ (Unit))).bind fun o_ => match o_ with | .inl r_ => some (.inl r_) | .inr _ => (impl_RegCodeText.f k i5 l6 l7 l8).bind fun (s355, b356) => (impl_ParseRegCode.f k s355).bind fun (i358, l359, l360, l361, b362) => if b356 = true then (if b362 = true then ((laws_rSameCode.f i358 l359 l360 l361 i5 l6 l7 l8).bind fun b374 => if b374 = true then (some (.inr ())) else (some (.inl false))) else (some (.inl false))) else (some (.inl false))) else (some (.inl false))) else (some (.inl false)))) else (some (.inl false))) else (some (.inl false))) else (some (.inl false))) else (some (.inr ())) : Option ((Bool) ⊕ (Unit))).bind fun o_ => match o_ with | .inl r_ => some r_ | .inr _ => (spec_DrawParseRegCode.f k l1).bind fun s377 => (impl_ParseRegCode.f k s377).bind fun (i379, l380, l381, l382, b383) => (spec_ParseRegCode.f k s377).bind fun (i393, l394, l395, l396, b397) => if (b383 != b397) = true then (some false) else ((laws_rSameCode.f i379 l380 l381 l382 i393 l394 l395 l396).bind fun b408 => if b408 = true then (if b383 = true then ((impl_RegCodeText.f k i379 l380 l381 l382).bind fun (s412, b413) => if b413 = true then (some (decide (s412 = s377))) else (some false)) else (some true)) else (some false)))) else (some false))) else (some false)))
theorem laws_FnRenamedRegisters.calls (k : Nat) {w0 ws : World} {P0 : Nat → Prop} (A0 : Option Addr) (c0 : Nat) (n0 : Nat) (l0 : List Int) (A1 : Option Addr) (c1 : Nat) (n1 : Nat) (l1 : List Int) (Z : Below w0.heap.size w0 ws) (hF : Fr w0 ws P0 [] ws) (R0 : Stable ws P0 (fun w => Kd.C (Kd.int .u8) w A0 n0 l0)) (hc0 : n0 ≤ c0) (R1 : Stable ws P0 (fun w => Kd.C (Kd.int .u8) w A1 n1 l1)) (hc1 : n1 ≤ c1) (GW : Stable ws P0 GP) (r_1 : Bool) (h : laws_FnRenamedRegisters.f k l0 l1 = some r_1) :
  Calls Tryz.prog 5 #[.slice A0 n0 c0, .slice A1 n1 c1] ws (Post1 w0 ws P0 (fun (_ : Unit) => .bool r_1) (fun (_ : Unit) => [])) := by
 unfold laws_FnRenamedRegisters.f at h
 obtain rfl := (R0 ws (KeptB.refl _ _)).1
 obtain rfl := (R1 ws (KeptB.refl _ _)).1
 refine enter Tryz.func5 rfl Tryz.ntmps5 rfl hF (c_seq (za0 (o_q rfl rfl (q_asg rfl) (o_end (za1 (c_seq (c_seq (za0 (o_q rfl rfl (za3 rfl) ?_)))))))))
 refine o_q rfl rfl (za3 rfl) (za6 h (fun b2 hx1 h => ?_) rfl)
 refine o_e rfl (za7 0 Z Tryz.func6 N6 rfl rfl rfl (fun w P1 hF hB hS hT => laws_big.calls A0 c0 l0.length l0 A1 c1 l1.length l1 hB hF (hS _ R0) hc0 (hS _ R1) hc1 _ hx1)) (fun _ => o_end (za1 (zas _ rfl (fun hb3 => ?_) (fun hb3 => ?_))))
 ·skip
  replace h := bb_t hb3 h
  refine c_seq (za0 (o_q rfl rfl (q_asg rfl) (o_end (za1 (c_ret (za9 ?_))))))
  have e0_ := si_ h; clear h
  subst e0_
  exact x_r1 () Tryz.results5 (zad rfl) rfl (fun w h => za8 [] dc_ rfl w h)
 ·skip
  replace h := bb_f hb3 h
  refine zal (za1 (c_seq (za0 (o_q rfl rfl (za3 rfl) (bindE5 h (fun i5 l6 l7 l8 l9 hx4 h => ?_) rfl)))))
  refine o_e rfl (za7 0 Z Tryz.func20 N20 rfl rfl rfl (fun w P1 hF hB hS hT => spec_DrawRenameRegisters.calls k A0 c0 l0.length l0 hB hF (hS _ R0) hc0 _ _ _ _ _ hx4)) (cur8 (fun A10 c11 A12 c13 A14 c15 A16 c17 => o_q rfl rfl (za3 rfl) (o_q rfl rfl (q_ext rfl rfl) (o_q rfl rfl (q_ext rfl rfl) (o_e rfl (zao V38 rfl) (fun g18 => o_e rfl (zae (i := 0) rfl rfl rfl Z38 rfl rfl) (fun _ => o_q rfl rfl (q_asg rfl) (o_end (za1 (c_seq ?_))))))))))
  refine za0 (o_q rfl rfl (q_ldB G38 Z38 rfl (fun w h => h.zac (i := 0) rfl) rfl) (o_q rfl rfl (za3 rfl) (bindE5 h (fun i21 l22 l23 l24 b25 hx20 h => ?_) rfl)))
  refine o_e rfl (za7 0 Z Tryz.func21 N21 rfl rfl rfl (fun w P1 hF hB hS hT => impl_RenameRegisters.calls k i5 A10 c11 l6.length l6 A12 c13 l7.length l7 A14 c15 l8.length l8 A16 c17 l9.length l9 hB hF (hT 1 _ rfl).row (hT 1 _ rfl).cap (hT 2 _ rfl).row (hT 2 _ rfl).cap (hT 3 _ rfl).row (hT 3 _ rfl).cap (hT 4 _ rfl).row (hT 4 _ rfl).cap _ _ _ _ _ hx20)) (cur6 (fun A26 c27 A28 c29 A30 c31 => o_q rfl rfl (za3 rfl) (o_q rfl rfl (q_ext rfl rfl) (o_q rfl rfl (q_ext rfl rfl) (o_e rfl (zao V38 rfl) (fun g32 => o_e rfl (zae (i := 0) rfl rfl rfl Z38 rfl rfl) (fun _ => o_q rfl rfl (q_asg rfl) (o_end (za1 (c_seq ?_))))))))))
  refine za0 (o_q rfl rfl (q_ldB G38 Z38 rfl (fun w h => h.zac (i := 4) rfl) rfl) (o_q rfl rfl (za3 rfl) (bindE5 h (fun i35 l36 l37 l38 b39 hx34 h => ?_) rfl)))
  refine o_e rfl (za7 0 Z Tryz.func22 N22 rfl rfl rfl (fun w P1 hF hB hS hT => spec_RenameRegisters.calls k i5 A10 c11 l6.length l6 A12 c13 l7.length l7 A14 c15 l8.length l8 A16 c17 l9.length l9 hB hF (hT 5 _ rfl).row (hT 5 _ rfl).cap (hT 6 _ rfl).row (hT 6 _ rfl).cap (hT 7 _ rfl).row (hT 7 _ rfl).cap (hT 8 _ rfl).row (hT 8 _ rfl).cap _ _ _ _ _ hx34)) (cur6 (fun A40 c41 A42 c43 A44 c45 => o_q rfl rfl (za3 rfl) (o_q rfl rfl (q_ext rfl rfl) (o_q rfl rfl (q_ext rfl rfl) (o_e rfl (zao V38 rfl) (fun g46 => o_e rfl (zae (i := 0) rfl rfl rfl Z38 rfl rfl) (fun _ => o_q rfl rfl (q_asg rfl) (o_end (za1 (c_seq ?_))))))))))
  refine za0 (o_q rfl rfl (q_ldB G38 Z38 rfl (fun w h => h.zac (i := 8) rfl) rfl) (bindE5 h (fun i49 l50 l51 l52 b53 hx48 h => ?_) rfl))
  refine o_e rfl (za7 0 Z Tryz.func23 N23 rfl rfl rfl (fun w P1 hF hB hS hT => impl_PackRegisters.calls k i5 A10 c11 l6.length l6 A12 c13 l7.length l7 A14 c15 l8.length l8 hB hF (hT 9 _ rfl).row (hT 9 _ rfl).cap (hT 10 _ rfl).row (hT 10 _ rfl).cap (hT 11 _ rfl).row (hT 11 _ rfl).cap _ _ _ _ _ hx48)) (cur6 (fun A54 c55 A56 c57 A58 c59 => o_q rfl rfl (za3 rfl) (o_q rfl rfl (q_ext rfl rfl) (o_q rfl rfl (q_ext rfl rfl) (o_e rfl (zao V38 rfl) (fun g60 => o_e rfl (zae (i := 0) rfl rfl rfl Z38 rfl rfl) (fun _ => o_q rfl rfl (q_asg rfl) (o_end (za1 (c_seq ?_))))))))))
  refine za0 (o_q rfl rfl (q_ldB G38 Z38 rfl (fun w h => h.zac (i := 12) rfl) rfl) (bindE5 h (fun i63 l64 l65 l66 b67 hx62 h => ?_) rfl))
  refine o_e rfl (za7 0 Z Tryz.func24 N24 rfl rfl rfl (fun w P1 hF hB hS hT => spec_PackRegisters.calls k i5 A10 c11 l6.length l6 A12 c13 l7.length l7 A14 c15 l8.length l8 hB hF (hT 13 _ rfl).row (hT 13 _ rfl).cap (hT 14 _ rfl).row (hT 14 _ rfl).cap (hT 15 _ rfl).row (hT 15 _ rfl).cap _ _ _ _ _ hx62)) (cur6 (fun A68 c69 A70 c71 A72 c73 => o_q rfl rfl (za3 rfl) (o_q rfl rfl (q_ext rfl rfl) (o_q rfl rfl (q_ext rfl rfl) (o_e rfl (zao V38 rfl) (fun g74 => o_e rfl (zae (i := 0) rfl rfl rfl Z38 rfl rfl) (fun _ => o_q rfl rfl (q_asg rfl) (o_end (za1 (c_seq ?_))))))))))
  refine c_seq (za0 (o_q rfl rfl (za3 rfl) (o_q rfl rfl (za3 rfl) (o_q rfl rfl (q_bneq Tryz.underlying4 rfl rfl) (o_q rfl rfl (za3 rfl) (byB (b25 != b39) (fun hb76 => ?_) (fun hb76 => ?_)))))))
  ·replace h := bb_t hb76 h
   refine o_n (d := 70) (za2 rfl rfl rfl (vb_ hb76) rfl) (Eq.refl (some 70)) (o_n (d := 71) (za2 rfl rfl rfl (vb_ hb76) rfl) (Eq.refl (some 71)) (o_n (d := 72) (za2 rfl rfl rfl (vb_ hb76) rfl) (Eq.refl (some 72)) (o_n (d := 73) (za2 rfl rfl rfl (vb_ hb76) rfl) (Eq.refl (some 73)) (o_q rfl rfl (zai true (vb_ hb76) rfl) (o_q rfl rfl (za3 rfl) (o_n (d := 76) (za2 rfl rfl rfl rfl rfl) (Eq.refl (some 76)) (o_n (d := 77) (za2 rfl rfl rfl rfl rfl) (Eq.refl (some 77)) (o_n (d := 78) (za2 rfl rfl rfl rfl rfl) (Eq.refl (some 78)) (o_q rfl rfl (zai true rfl rfl) ?_)))))))))
   refine o_q rfl rfl (za3 rfl) (o_n (d := 81) (za2 rfl rfl rfl rfl rfl) (Eq.refl (some 81)) (o_n (d := 82) (za2 rfl rfl rfl rfl rfl) (Eq.refl (some 82)) (o_n (d := 83) (za2 rfl rfl rfl rfl rfl) (Eq.refl (some 83)) (o_n (d := 84) (za2 rfl rfl rfl rfl rfl) (Eq.refl (some 84)) (o_q rfl rfl (zai true rfl rfl) (o_q rfl rfl (za3 rfl) (o_n (d := 87) (za2 rfl rfl rfl rfl rfl) (Eq.refl (some 87)) (o_n (d := 88) (za2 rfl rfl rfl rfl rfl) (Eq.refl (some 88)) (o_n (d := 89) (za2 rfl rfl rfl rfl rfl) (Eq.refl (some 89)) ?_)))))))))
   refine o_n (d := 90) (za2 rfl rfl rfl rfl rfl) (Eq.refl (some 90)) (o_q rfl rfl (zai true rfl rfl) (o_end (za1 (zay rfl (c_seq (za0 (o_q rfl rfl (q_asg rfl) (o_end (za1 ?_)))))))))
   refine c_ret (za9 ?_)
   have e0_ := si_ h; clear h
   subst e0_
   exact x_r1 () Tryz.results5 (zad rfl) rfl (fun w h => za8 [] dc_ rfl w h)
  ·replace h := bb_f hb76 h
   refine o_w (za4 rfl rfl rfl (vb_ hb76)) rfl (q_ldB G38 Z38 rfl (fun w h => h.zac (i := 12) rfl) rfl) (o_w (za4 rfl rfl rfl (vb_ hb76)) rfl (q_ldB G38 Z38 rfl (fun w h => h.zac (i := 8) rfl) rfl) (za6 h (fun b78 hx77 h => ?_) rfl))
   refine o_ew (za4 rfl rfl rfl (vb_ hb76)) (za7 0 Z Tryz.func25 N25 rfl rfl rfl (fun w P1 hF hB hS hT => laws_rSameCode.calls i21 A26 c27 l22.length l22 A28 c29 l23.length l23 A30 c31 l24.length l24 i35 A40 c41 l36.length l36 A42 c43 l37.length l37 A44 c45 l38.length l38 hB hF (hT 13 _ rfl).row (hT 13 _ rfl).cap (hT 14 _ rfl).row (hT 14 _ rfl).cap (hT 15 _ rfl).row (hT 15 _ rfl).cap (hT 9 _ rfl).row (hT 9 _ rfl).cap (hT 10 _ rfl).row (hT 10 _ rfl).cap (hT 11 _ rfl).row (hT 11 _ rfl).cap _ hx77)) (fun _ => o_w (za4 rfl rfl rfl (vb_ hb76)) rfl (q_not rfl) (o_q rfl rfl (zai false (vb_ hb76) rfl) (o_q rfl rfl (za3 rfl) (byB b78 (fun hb79 => ?_) (fun hb79 => ?_)))))
   ·replace h := bb_t hb79 h
    refine o_w (za4 rfl rfl rfl (congrArg (fun b => Value.bool (!(b))) hb79)) rfl (za3 rfl) (o_w (za4 rfl rfl rfl (congrArg (fun b => Value.bool (!(b))) hb79)) rfl (za3 rfl) (o_w (za4 rfl rfl rfl (congrArg (fun b => Value.bool (!(b))) hb79)) rfl (q_bneq Tryz.underlying4 rfl rfl) (o_q rfl rfl (zai false (congrArg (fun b => Value.bool (!(b))) hb79) rfl) (o_q rfl rfl (za3 rfl) (byB (b53 != b67) (fun hb80 => ?_) (fun hb80 => ?_))))))
    ·replace h := bb_t hb80 h
     refine o_n (d := 81) (za2 rfl rfl rfl (vb_ hb80) rfl) (Eq.refl (some 81)) (o_n (d := 82) (za2 rfl rfl rfl (vb_ hb80) rfl) (Eq.refl (some 82)) (o_n (d := 83) (za2 rfl rfl rfl (vb_ hb80) rfl) (Eq.refl (some 83)) (o_n (d := 84) (za2 rfl rfl rfl (vb_ hb80) rfl) (Eq.refl (some 84)) (o_q rfl rfl (zai true (vb_ hb80) rfl) (o_q rfl rfl (za3 rfl) (o_n (d := 87) (za2 rfl rfl rfl rfl rfl) (Eq.refl (some 87)) (o_n (d := 88) (za2 rfl rfl rfl rfl rfl) (Eq.refl (some 88)) (o_n (d := 89) (za2 rfl rfl rfl rfl rfl) (Eq.refl (some 89)) (o_n (d := 90) (za2 rfl rfl rfl rfl rfl) (Eq.refl (some 90)) ?_)))))))))
     refine o_q rfl rfl (zai true rfl rfl) (o_end (za1 (zay rfl (c_seq (za0 (o_q rfl rfl (q_asg rfl) (o_end (za1 (c_ret ?_)))))))))
     refine za9 ?_
     have e0_ := si_ h; clear h
     subst e0_
     exact x_r1 () Tryz.results5 (zad rfl) rfl (fun w h => za8 [] dc_ rfl w h)
    ·replace h := bb_f hb80 h
     refine o_w (za4 rfl rfl rfl (vb_ hb80)) rfl (q_ldB G38 Z38 rfl (fun w h => h.zac (i := 4) rfl) rfl) (o_w (za4 rfl rfl rfl (vb_ hb80)) rfl (q_ldB G38 Z38 rfl (fun w h => h.zac (i := 0) rfl) rfl) (za6 h (fun b82 hx81 h => ?_) rfl))
     refine o_ew (za4 rfl rfl rfl (vb_ hb80)) (za7 0 Z Tryz.func25 N25 rfl rfl rfl (fun w P1 hF hB hS hT => laws_rSameCode.calls i49 A54 c55 l50.length l50 A56 c57 l51.length l51 A58 c59 l52.length l52 i63 A68 c69 l64.length l64 A70 c71 l65.length l65 A72 c73 l66.length l66 hB hF (hT 5 _ rfl).row (hT 5 _ rfl).cap (hT 6 _ rfl).row (hT 6 _ rfl).cap (hT 7 _ rfl).row (hT 7 _ rfl).cap (hT 1 _ rfl).row (hT 1 _ rfl).cap (hT 2 _ rfl).row (hT 2 _ rfl).cap (hT 3 _ rfl).row (hT 3 _ rfl).cap _ hx81)) (fun _ => o_w (za4 rfl rfl rfl (vb_ hb80)) rfl (q_not rfl) (o_q rfl rfl (zai false (vb_ hb80) rfl) (o_q rfl rfl (za3 rfl) (byB b82 (fun hb83 => ?_) (fun hb83 => ?_)))))
     ·replace h := bb_t hb83 h
      refine o_w (za4 rfl rfl rfl (congrArg (fun b => Value.bool (!(b))) hb83)) rfl (za3 rfl) (o_w (za4 rfl rfl rfl (congrArg (fun b => Value.bool (!(b))) hb83)) rfl (q_ldB G38 Z38 rfl (fun w h => h.zac (i := 16) rfl) rfl) (za6 h (fun b85 hx84 h => ?_) rfl))
      refine o_ew (za4 rfl rfl rfl (congrArg (fun b => Value.bool (!(b))) hb83)) (za7 0 Z Tryz.func26 N26 rfl rfl rfl (fun w P1 hF hB hS hT => impl_IsRegCode.calls k i5 A10 c11 l6.length l6 A12 c13 l7.length l7 A14 c15 l8.length l8 hB hF (hT 17 _ rfl).row (hT 17 _ rfl).cap (hT 18 _ rfl).row (hT 18 _ rfl).cap (hT 19 _ rfl).row (hT 19 _ rfl).cap _ hx84)) (fun _ => o_w (za4 rfl rfl rfl (congrArg (fun b => Value.bool (!(b))) hb83)) rfl (q_bneq Tryz.underlying4 rfl rfl) (o_q rfl rfl (zai false (congrArg (fun b => Value.bool (!(b))) hb83) rfl) (o_end (za1 (zas _ rfl (fun hb86 => ?_) (fun hb86 => ?_))))))
      ·skip
       replace h := bb_t hb86 h
       refine c_seq (za0 (o_q rfl rfl (q_asg rfl) (o_end (za1 (c_ret (za9 ?_))))))
       have e0_ := si_ h; clear h
       subst e0_
       exact x_r1 () Tryz.results5 (zad rfl) rfl (fun w h => za8 [] dc_ rfl w h)
      ·skip
       replace h := bb_f hb86 h
       refine zal (za1 (za6 h (fun o229 hl230 hR231 => ?_) rfl))
       clear h
       refine c_cutJ (σ := Unit) (fun _ => some (.inr ()) = some o229) [4, 15, 16, 17, 18, 19, 20, 21, 22, 23, 24, 25, 26, 27, 28, 92, 93, 94, 95, 96, 97, 98, 99, 100, 101, 102, 103, 104, 105, 106, 107, 108, 109, 110, 111, 112, 113, 114, 115, 116, 117, 118, 119, 120, 121, 122, 123, 124, 125, 126, 127, 128, 129, 130, 131, 132, 133, 134, 135, 136, 137, 138, 139, 140, 141, 142, 143, 144, 145, 146, 147, 148, 149, 150, 151, 152, 153, 154, 155, 156, 157, 158, 159, 160, 161, 162, 163, 164, 165, 166, 167, 168, 169, 170, 171, 172, 173, 174, 175, 176, 177, 178, 179, 180, 181, 182, 183, 184, 185, 186, 187] (fun _ => []) (fun _ => [box g74 38 #[.int .i64 i63, .slice A68 l64.length c69, .slice A70 l65.length c71, .slice A72 l66.length c73], row (Kd.int .i64) 3 (.slice A68 l64.length c69) l64, row zaq 84 (.slice A70 l65.length c71) l65, row (Kd.int .i64) 3 (.slice A72 l66.length c73) l66, box g60 38 #[.int .i64 i49, .slice A54 l50.length c55, .slice A56 l51.length c57, .slice A58 l52.length c59], row (Kd.int .i64) 3 (.slice A54 l50.length c55) l50, row zaq 84 (.slice A56 l51.length c57) l51, row (Kd.int .i64) 3 (.slice A58 l52.length c59) l52, box g46 38 #[.int .i64 i35, .slice A40 l36.length c41, .slice A42 l37.length c43, .slice A44 l38.length c45], row (Kd.int .i64) 3 (.slice A40 l36.length c41) l36, row zaq 84 (.slice A42 l37.length c43) l37, row (Kd.int .i64) 3 (.slice A44 l38.length c45) l38, box g32 38 #[.int .i64 i21, .slice A26 l22.length c27, .slice A28 l23.length c29, .slice A30 l24.length c31], row (Kd.int .i64) 3 (.slice A26 l22.length c27) l22, row zaq 84 (.slice A28 l23.length c29) l23, row (Kd.int .i64) 3 (.slice A30 l24.length c31) l24, box g18 38 #[.int .i64 i5, .slice A10 l6.length c11, .slice A12 l7.length c13, .slice A14 l8.length c15], row (Kd.int .i64) 3 (.slice A10 l6.length c11) l6, row zaq 84 (.slice A12 l7.length c13) l7, row (Kd.int .i64) 3 (.slice A14 l8.length c15) l8, row (Kd.int .i64) 3 (.slice A16 l9.length c17) l9]) ?_ ?_
       ·skip
        have h := hl230; clear hl230
        refine c_seq (za0 (o_q rfl rfl (za3 rfl) (o_end (za1 (zas _ rfl (fun hb234 => ?_) (fun hb234 => ?_))))))
        ·skip
         replace h := bb_t hb234 h
         refine c_seq (za0 (o_q rfl rfl (q_ldB G38 Z38 rfl (fun w h => h.zac (i := 16) rfl) rfl) (bindE4 h (fun i236 l237 l238 b239 hx235 h => ?_) rfl)))
         refine o_e rfl (za7 0 Z Tryz.func27 N27 rfl rfl rfl (fun w P1 hF hB hS hT => impl_RegCodePlan.calls k i5 A10 c11 l6.length l6 A12 c13 l7.length l7 A14 c15 l8.length l8 hB hF (hT 17 _ rfl).row (hT 17 _ rfl).cap (hT 18 _ rfl).row (hT 18 _ rfl).cap (hT 19 _ rfl).row (hT 19 _ rfl).cap _ _ _ _ hx235)) (cur4 (fun A240 c241 A242 c243 => o_q rfl rfl (za3 rfl) (o_q rfl rfl (q_ext rfl rfl) (o_q rfl rfl (q_ext rfl rfl) (o_e rfl (zao V27 rfl) (fun g244 => o_e rfl (zae (i := 0) rfl rfl rfl Z27 rfl rfl) (fun _ => o_q rfl rfl (q_asg rfl) (o_end (za1 (c_seq ?_))))))))))
         refine za0 (o_q rfl rfl (q_ldB G38 Z38 rfl (fun w h => h.zac (i := 7) rfl) rfl) (bindE4 h (fun i247 l248 l249 b250 hx246 h => ?_) rfl))
         refine o_e rfl (za7 0 Z Tryz.func27 N27 rfl rfl rfl (fun w P1 hF hB hS hT => impl_RegCodePlan.calls k i49 A54 c55 l50.length l50 A56 c57 l51.length l51 A58 c59 l52.length l52 hB hF (hT 8 _ rfl).row (hT 8 _ rfl).cap (hT 9 _ rfl).row (hT 9 _ rfl).cap (hT 10 _ rfl).row (hT 10 _ rfl).cap _ _ _ _ hx246)) (cur4 (fun A251 c252 A253 c254 => o_q rfl rfl (za3 rfl) (o_q rfl rfl (q_ext rfl rfl) (o_q rfl rfl (q_ext rfl rfl) (o_e rfl (zao V27 rfl) (fun g255 => o_e rfl (zae (i := 0) rfl rfl rfl Z27 rfl rfl) (fun _ => o_q rfl rfl (q_asg rfl) (o_end (za1 (c_seq ?_))))))))))
         refine za0 (o_q rfl rfl (q_ldB G38 Z38 rfl (fun w h => h.zac (i := 10) rfl) rfl) (bindE5 h (fun i258 l259 l260 l261 b262 hx257 h => ?_) rfl))
         refine o_e rfl (za7 0 Z Tryz.func23 N23 rfl rfl rfl (fun w P1 hF hB hS hT => impl_PackRegisters.calls k i49 A54 c55 l50.length l50 A56 c57 l51.length l51 A58 c59 l52.length l52 hB hF (hT 11 _ rfl).row (hT 11 _ rfl).cap (hT 12 _ rfl).row (hT 12 _ rfl).cap (hT 13 _ rfl).row (hT 13 _ rfl).cap _ _ _ _ _ hx257)) (cur6 (fun A263 c264 A265 c266 A267 c268 => o_q rfl rfl (za3 rfl) (o_q rfl rfl (q_ext rfl rfl) (o_q rfl rfl (q_ext rfl rfl) (o_e rfl (zao V38 rfl) (fun g269 => o_e rfl (zae (i := 0) rfl rfl rfl Z38 rfl rfl) (fun _ => o_q rfl rfl (q_asg rfl) (o_end (za1 (c_seq ?_))))))))))
         refine c_seq (za0 (o_q rfl rfl (za3 rfl) (o_q rfl rfl (q_not rfl) (o_q rfl rfl (za3 rfl) (byB b239 (fun hb271 => ?_) (fun hb271 => ?_))))))
         ·replace h := bb_t hb271 h
          refine o_w (za4 rfl rfl rfl (congrArg (fun b => Value.bool (!(b))) hb271)) rfl (za3 rfl) (o_w (za4 rfl rfl rfl (congrArg (fun b => Value.bool (!(b))) hb271)) rfl (q_not rfl) (o_q rfl rfl (zai false (congrArg (fun b => Value.bool (!(b))) hb271) rfl) (o_q rfl rfl (za3 rfl) (byB b250 (fun hb272 => ?_) (fun hb272 => ?_)))))
          ·replace h := bb_t hb272 h
           refine o_w (za4 rfl rfl rfl (congrArg (fun b => Value.bool (!(b))) hb272)) rfl (q_ldB G27 Z27 rfl (fun w h => h.zac (i := 7) rfl) rfl) (o_w (za4 rfl rfl rfl (congrArg (fun b => Value.bool (!(b))) hb272)) rfl (q_ldB G27 Z27 rfl (fun w h => h.zac (i := 4) rfl) rfl) (za6 h (fun b274 hx273 h => ?_) rfl))
           refine o_ew (za4 rfl rfl rfl (congrArg (fun b => Value.bool (!(b))) hb272)) (za7 0 Z Tryz.func28 N28 rfl rfl rfl (fun w P1 hF hB hS hT => laws_rSamePlan.calls i236 A240 c241 l237.length l237 A242 c243 l238.length l238 i247 A251 c252 l248.length l248 A253 c254 l249.length l249 hB hF (hT 8 _ rfl).row (hT 8 _ rfl).cap (hT 9 _ rfl).row (hT 9 _ rfl).cap (hT 5 _ rfl).row (hT 5 _ rfl).cap (hT 6 _ rfl).row (hT 6 _ rfl).cap _ hx273)) (fun _ => o_w (za4 rfl rfl rfl (congrArg (fun b => Value.bool (!(b))) hb272)) rfl (q_not rfl) (o_q rfl rfl (zai false (congrArg (fun b => Value.bool (!(b))) hb272) rfl) (o_q rfl rfl (za3 rfl) (byB b274 (fun hb275 => ?_) (fun hb275 => ?_)))))
           ·replace h := bb_t hb275 h
            refine o_w (za4 rfl rfl rfl (congrArg (fun b => Value.bool (!(b))) hb275)) rfl (q_f F38_0 rfl) (o_w (za4 rfl rfl rfl (congrArg (fun b => Value.bool (!(b))) hb275)) rfl (q_ldb Y3 rfl (fun w h => h.zac (i := 14) rfl) rfl) (o_w (za4 rfl rfl rfl (congrArg (fun b => Value.bool (!(b))) hb275)) rfl (q_f F38_0 rfl) (o_w (za4 rfl rfl rfl (congrArg (fun b => Value.bool (!(b))) hb275)) rfl (q_ldb Y3 rfl (fun w h => h.zac (i := 26) rfl) rfl) (o_w (za4 rfl rfl rfl (congrArg (fun b => Value.bool (!(b))) hb275)) rfl (q_gtr rfl rfl) (o_q rfl rfl (zai false (congrArg (fun b => Value.bool (!(b))) hb275) rfl) (o_q rfl rfl (za3 rfl) (byB (decide (i5 < i49)) (fun hb276 => ?_) (fun hb276 => ?_))))))))
            ·replace h := br_t hb276 h
             refine o_n (d := 128) (za2 rfl rfl rfl (vb_ hb276) rfl) (Eq.refl (some 128)) (o_n (d := 129) (za2 rfl rfl rfl (vb_ hb276) rfl) (Eq.refl (some 129)) (o_q rfl rfl (zai true (vb_ hb276) rfl) (o_q rfl rfl (za3 rfl) (o_n (d := 132) (za2 rfl rfl rfl rfl rfl) (Eq.refl (some 132)) (o_n (d := 133) (za2 rfl rfl rfl rfl rfl) (Eq.refl (some 133)) (o_n (d := 134) (za2 rfl rfl rfl rfl rfl) (Eq.refl (some 134)) (o_n (d := 135) (za2 rfl rfl rfl rfl rfl) (Eq.refl (some 135)) (o_q rfl rfl (zai true rfl rfl) (o_end ?_)))))))))
             refine za1 (zay rfl (c_seq (za0 (o_q rfl rfl (q_asg rfl) (o_end (za1 (c_ret (za9 (za9 ?_)))))))))
             have e_ := si_ h; replace h := hR231; rw [← e_] at h; clear e_
             have e0_ := si_ h; clear h
             subst e0_
             exact x_r1 () Tryz.results5 (zad rfl) rfl (fun w h => za8 [] dc_ rfl w h)
            ·replace h := br_f hb276 h
             refine o_w (za4 rfl rfl rfl (vb_ hb276)) rfl (za3 rfl) (o_w (za4 rfl rfl rfl (vb_ hb276)) rfl (q_not rfl) (o_q rfl rfl (zai false (vb_ hb276) rfl) (o_q rfl rfl (za3 rfl) (byB b262 (fun hb277 => ?_) (fun hb277 => ?_)))))
             ·replace h := bb_t hb277 h
              refine o_w (za4 rfl rfl rfl (congrArg (fun b => Value.bool (!(b))) hb277)) rfl (q_ldB G38 Z38 rfl (fun w h => h.zac (i := 0) rfl) rfl) (o_w (za4 rfl rfl rfl (congrArg (fun b => Value.bool (!(b))) hb277)) rfl (q_ldB G38 Z38 rfl (fun w h => h.zac (i := 14) rfl) rfl) (za6 h (fun b279 hx278 h => ?_) rfl))
              refine o_ew (za4 rfl rfl rfl (congrArg (fun b => Value.bool (!(b))) hb277)) (za7 0 Z Tryz.func25 N25 rfl rfl rfl (fun w P1 hF hB hS hT => laws_rSameCode.calls i258 A263 c264 l259.length l259 A265 c266 l260.length l260 A267 c268 l261.length l261 i49 A54 c55 l50.length l50 A56 c57 l51.length l51 A58 c59 l52.length l52 hB hF (hT 1 _ rfl).row (hT 1 _ rfl).cap (hT 2 _ rfl).row (hT 2 _ rfl).cap (hT 3 _ rfl).row (hT 3 _ rfl).cap (hT 15 _ rfl).row (hT 15 _ rfl).cap (hT 16 _ rfl).row (hT 16 _ rfl).cap (hT 17 _ rfl).row (hT 17 _ rfl).cap _ hx278)) (fun _ => o_w (za4 rfl rfl rfl (congrArg (fun b => Value.bool (!(b))) hb277)) rfl (q_not rfl) (o_q rfl rfl (zai false (congrArg (fun b => Value.bool (!(b))) hb277) rfl) (o_end (za1 (zas _ rfl (fun hb280 => ?_) (fun hb280 => ?_))))))
              ·replace hb280 := nt_t hb280
               replace h := bb_f hb280 h
               refine c_seq (za0 (o_q rfl rfl (q_asg rfl) (o_end (za1 (c_ret (za9 (za9 ?_)))))))
               have e_ := si_ h; replace h := hR231; rw [← e_] at h; clear e_
               have e0_ := si_ h; clear h
               subst e0_
               exact x_r1 () Tryz.results5 (zad rfl) rfl (fun w h => za8 [] dc_ rfl w h)
              ·replace hb280 := nt_f hb280
               replace h := bb_t hb280 h
               refine zal (za1 (za6 h (fun o315 hl316 hR317 => ?_) rfl))
               clear h
               refine c_cutJ (σ := Unit) (fun _ => some (.inr ()) = some o315) [4, 21, 22, 23, 24, 137, 138, 139, 140, 141, 142, 143, 144, 145, 146, 147, 148, 149, 150, 151, 152, 153, 154, 155, 156, 157, 158, 159, 160, 161, 162, 163, 164, 165] (fun _ => []) (fun _ => [box g18 38 #[.int .i64 i5, .slice A10 l6.length c11, .slice A12 l7.length c13, .slice A14 l8.length c15], row (Kd.int .i64) 3 (.slice A10 l6.length c11) l6, row zaq 84 (.slice A12 l7.length c13) l7, row (Kd.int .i64) 3 (.slice A14 l8.length c15) l8, box g269 38 #[.int .i64 i258, .slice A263 l259.length c264, .slice A265 l260.length c266, .slice A267 l261.length c268], row (Kd.int .i64) 3 (.slice A263 l259.length c264) l259, row zaq 84 (.slice A265 l260.length c266) l260, row (Kd.int .i64) 3 (.slice A267 l261.length c268) l261, box g255 27 #[.int .i64 i247, .slice A251 l248.length c252, .slice A253 l249.length c254], row kStep 72 (.slice A251 l248.length c252) l248, row (Kd.int .i64) 3 (.slice A253 l249.length c254) l249, box g244 27 #[.int .i64 i236, .slice A240 l237.length c241, .slice A242 l238.length c243], row kStep 72 (.slice A240 l237.length c241) l237, row (Kd.int .i64) 3 (.slice A242 l238.length c243) l238, box g74 38 #[.int .i64 i63, .slice A68 l64.length c69, .slice A70 l65.length c71, .slice A72 l66.length c73], row (Kd.int .i64) 3 (.slice A68 l64.length c69) l64, row zaq 84 (.slice A70 l65.length c71) l65, row (Kd.int .i64) 3 (.slice A72 l66.length c73) l66, box g60 38 #[.int .i64 i49, .slice A54 l50.length c55, .slice A56 l51.length c57, .slice A58 l52.length c59], row (Kd.int .i64) 3 (.slice A54 l50.length c55) l50, row zaq 84 (.slice A56 l51.length c57) l51, row (Kd.int .i64) 3 (.slice A58 l52.length c59) l52, box g46 38 #[.int .i64 i35, .slice A40 l36.length c41, .slice A42 l37.length c43, .slice A44 l38.length c45], row (Kd.int .i64) 3 (.slice A40 l36.length c41) l36, row zaq 84 (.slice A42 l37.length c43) l37, row (Kd.int .i64) 3 (.slice A44 l38.length c45) l38, box g32 38 #[.int .i64 i21, .slice A26 l22.length c27, .slice A28 l23.length c29, .slice A30 l24.length c31], row (Kd.int .i64) 3 (.slice A26 l22.length c27) l22, row zaq 84 (.slice A28 l23.length c29) l23, row (Kd.int .i64) 3 (.slice A30 l24.length c31) l24, row (Kd.int .i64) 3 (.slice A16 l9.length c17) l9]) ?_ ?_
               ·skip
                have h := hl316; clear hl316
                refine c_seq (za0 (o_q rfl rfl (za3 rfl) (o_end (za1 (zas _ rfl (fun hb320 => ?_) (fun hb320 => ?_))))))
                ·skip
                 replace h := bb_t hb320 h
                 refine c_seq (za0 (o_q rfl rfl (q_ldB G38 Z38 rfl (fun w h => h.zac (i := 22) rfl) rfl) (bindE4 h (fun i322 l323 l324 b325 hx321 h => ?_) rfl)))
                 refine o_e rfl (za7 0 Z Tryz.func27 N27 rfl rfl rfl (fun w P1 hF hB hS hT => impl_RegCodePlan.calls k i21 A26 c27 l22.length l22 A28 c29 l23.length l23 A30 c31 l24.length l24 hB hF (hT 23 _ rfl).row (hT 23 _ rfl).cap (hT 24 _ rfl).row (hT 24 _ rfl).cap (hT 25 _ rfl).row (hT 25 _ rfl).cap _ _ _ _ hx321)) (cur4 (fun A326 c327 A328 c329 => o_q rfl rfl (za3 rfl) (o_q rfl rfl (q_ext rfl rfl) (o_q rfl rfl (q_ext rfl rfl) (o_e rfl (zao V27 rfl) (fun g330 => o_e rfl (zae (i := 0) rfl rfl rfl Z27 rfl rfl) (fun _ => o_q rfl rfl (q_asg rfl) (o_end (za1 (c_seq ?_))))))))))
                 refine za0 (o_q rfl rfl (q_ldB G38 Z38 rfl (fun w h => h.zac (i := 25) rfl) rfl) (bindE5 h (fun i333 l334 l335 l336 b337 hx332 h => ?_) rfl))
                 refine o_e rfl (za7 0 Z Tryz.func23 N23 rfl rfl rfl (fun w P1 hF hB hS hT => impl_PackRegisters.calls k i21 A26 c27 l22.length l22 A28 c29 l23.length l23 A30 c31 l24.length l24 hB hF (hT 26 _ rfl).row (hT 26 _ rfl).cap (hT 27 _ rfl).row (hT 27 _ rfl).cap (hT 28 _ rfl).row (hT 28 _ rfl).cap _ _ _ _ _ hx332)) (cur6 (fun A338 c339 A340 c341 A342 c343 => o_q rfl rfl (za3 rfl) (o_q rfl rfl (q_ext rfl rfl) (o_q rfl rfl (q_ext rfl rfl) (o_e rfl (zao V38 rfl) (fun g344 => o_e rfl (zae (i := 0) rfl rfl rfl Z38 rfl rfl) (fun _ => o_q rfl rfl (q_asg rfl) (o_end (za1 (c_seq ?_))))))))))
                 refine za0 (o_q rfl rfl (za3 rfl) (o_q rfl rfl (q_not rfl) (o_q rfl rfl (za3 rfl) (byB b325 (fun hb346 => ?_) (fun hb346 => ?_)))))
                 ·replace h := bb_t hb346 h
                  refine o_w (za4 rfl rfl rfl (congrArg (fun b => Value.bool (!(b))) hb346)) rfl (q_ldB G27 Z27 rfl (fun w h => h.zac (i := 4) rfl) rfl) (o_w (za4 rfl rfl rfl (congrArg (fun b => Value.bool (!(b))) hb346)) rfl (q_ldB G27 Z27 rfl (fun w h => h.zac (i := 14) rfl) rfl) (za6 h (fun b348 hx347 h => ?_) rfl))
                  refine o_ew (za4 rfl rfl rfl (congrArg (fun b => Value.bool (!(b))) hb346)) (za7 0 Z Tryz.func28 N28 rfl rfl rfl (fun w P1 hF hB hS hT => laws_rSamePlan.calls i322 A326 c327 l323.length l323 A328 c329 l324.length l324 i236 A240 c241 l237.length l237 A242 c243 l238.length l238 hB hF (hT 5 _ rfl).row (hT 5 _ rfl).cap (hT 6 _ rfl).row (hT 6 _ rfl).cap (hT 15 _ rfl).row (hT 15 _ rfl).cap (hT 16 _ rfl).row (hT 16 _ rfl).cap _ hx347)) (fun _ => o_w (za4 rfl rfl rfl (congrArg (fun b => Value.bool (!(b))) hb346)) rfl (q_not rfl) (o_q rfl rfl (zai false (congrArg (fun b => Value.bool (!(b))) hb346) rfl) (o_q rfl rfl (za3 rfl) (byB b348 (fun hb349 => ?_) (fun hb349 => ?_)))))
                  ·replace h := bb_t hb349 h
                   refine o_w (za4 rfl rfl rfl (congrArg (fun b => Value.bool (!(b))) hb349)) rfl (za3 rfl) (o_w (za4 rfl rfl rfl (congrArg (fun b => Value.bool (!(b))) hb349)) rfl (q_not rfl) (o_q rfl rfl (zai false (congrArg (fun b => Value.bool (!(b))) hb349) rfl) (o_q rfl rfl (za3 rfl) (byB b337 (fun hb350 => ?_) (fun hb350 => ?_)))))
                   ·replace h := bb_t hb350 h
                    refine o_w (za4 rfl rfl rfl (congrArg (fun b => Value.bool (!(b))) hb350)) rfl (q_ldB G38 Z38 rfl (fun w h => h.zac (i := 0) rfl) rfl) (o_w (za4 rfl rfl rfl (congrArg (fun b => Value.bool (!(b))) hb350)) rfl (q_ldB G38 Z38 rfl (fun w h => h.zac (i := 21) rfl) rfl) (za6 h (fun b352 hx351 h => ?_) rfl))
                    refine o_ew (za4 rfl rfl rfl (congrArg (fun b => Value.bool (!(b))) hb350)) (za7 0 Z Tryz.func25 N25 rfl rfl rfl (fun w P1 hF hB hS hT => laws_rSameCode.calls i333 A338 c339 l334.length l334 A340 c341 l335.length l335 A342 c343 l336.length l336 i49 A54 c55 l50.length l50 A56 c57 l51.length l51 A58 c59 l52.length l52 hB hF (hT 1 _ rfl).row (hT 1 _ rfl).cap (hT 2 _ rfl).row (hT 2 _ rfl).cap (hT 3 _ rfl).row (hT 3 _ rfl).cap (hT 22 _ rfl).row (hT 22 _ rfl).cap (hT 23 _ rfl).row (hT 23 _ rfl).cap (hT 24 _ rfl).row (hT 24 _ rfl).cap _ hx351)) (fun _ => o_w (za4 rfl rfl rfl (congrArg (fun b => Value.bool (!(b))) hb350)) rfl (q_not rfl) (o_q rfl rfl (zai false (congrArg (fun b => Value.bool (!(b))) hb350) rfl) (o_end (za1 (zas _ rfl (fun hb353 => ?_) (fun hb353 => ?_))))))
                    ·replace hb353 := nt_t hb353
                     replace h := bb_f hb353 h
                     refine c_seq (za0 (o_q rfl rfl (q_asg rfl) (o_end (za1 (c_ret (za9 ?_))))))
                     have e_ := si_ h; replace h := hR317; rw [← e_] at h; clear e_
                     refine za9 ?_
                     have e_ := si_ h; replace h := hR231; rw [← e_] at h; clear e_
                     have e0_ := si_ h; clear h
                     subst e0_
                     exact x_r1 () Tryz.results5 (zad rfl) rfl (fun w h => za8 [] dc_ rfl w h)
                    ·replace hb353 := nt_f hb353
                     replace h := bb_t hb353 h
                     refine zal (zam () h trivial (fun w h => za8 [33, 34, 35, 36, 7, 8, 9, 10, 11, 12, 13, 14, 15, 16, 17, 18, 19, 20, 21, 22, 23, 24, 25, 26, 27, 28, 29, 30, 31, 32, 37] dc_ rfl w h) ?_)
                     exact of_
                   ·replace h := bb_f hb350 h
                    refine o_n (d := 161) (za2 rfl rfl rfl (congrArg (fun b => Value.bool (!(b))) hb350) rfl) (Eq.refl (some 161)) (o_n (d := 162) (za2 rfl rfl rfl (congrArg (fun b => Value.bool (!(b))) hb350) rfl) (Eq.refl (some 162)) (o_n (d := 163) (za2 rfl rfl rfl (congrArg (fun b => Value.bool (!(b))) hb350) rfl) (Eq.refl (some 163)) (o_n (d := 164) (za2 rfl rfl rfl (congrArg (fun b => Value.bool (!(b))) hb350) rfl) (Eq.refl (some 164)) (o_q rfl rfl (zai true (congrArg (fun b => Value.bool (!(b))) hb350) rfl) (o_end (za1 (zay rfl (c_seq (za0 ?_)))))))))
                    refine o_q rfl rfl (q_asg rfl) (o_end (za1 (c_ret (za9 ?_))))
                    have e_ := si_ h; replace h := hR317; rw [← e_] at h; clear e_
                    refine za9 ?_
                    have e_ := si_ h; replace h := hR231; rw [← e_] at h; clear e_
                    have e0_ := si_ h; clear h
                    subst e0_
                    exact x_r1 () Tryz.results5 (zad rfl) rfl (fun w h => za8 [] dc_ rfl w h)
                  ·replace h := bb_f hb349 h
                   refine o_n (d := 157) (za2 rfl rfl rfl (congrArg (fun b => Value.bool (!(b))) hb349) rfl) (Eq.refl (some 157)) (o_n (d := 158) (za2 rfl rfl rfl (congrArg (fun b => Value.bool (!(b))) hb349) rfl) (Eq.refl (some 158)) (o_q rfl rfl (zai true (congrArg (fun b => Value.bool (!(b))) hb349) rfl) (o_q rfl rfl (za3 rfl) (o_n (d := 161) (za2 rfl rfl rfl rfl rfl) (Eq.refl (some 161)) (o_n (d := 162) (za2 rfl rfl rfl rfl rfl) (Eq.refl (some 162)) (o_n (d := 163) (za2 rfl rfl rfl rfl rfl) (Eq.refl (some 163)) (o_n (d := 164) (za2 rfl rfl rfl rfl rfl) (Eq.refl (some 164)) (o_q rfl rfl (zai true rfl rfl) (o_end ?_)))))))))
                   refine za1 (zay rfl (c_seq (za0 (o_q rfl rfl (q_asg rfl) (o_end (za1 (c_ret (za9 ?_))))))))
                   have e_ := si_ h; replace h := hR317; rw [← e_] at h; clear e_
                   refine za9 ?_
                   have e_ := si_ h; replace h := hR231; rw [← e_] at h; clear e_
                   have e0_ := si_ h; clear h
                   subst e0_
                   exact x_r1 () Tryz.results5 (zad rfl) rfl (fun w h => za8 [] dc_ rfl w h)
                 ·replace h := bb_f hb346 h
                  refine o_n (d := 151) (za2 rfl rfl rfl (congrArg (fun b => Value.bool (!(b))) hb346) rfl) (Eq.refl (some 151)) (o_n (d := 152) (za2 rfl rfl rfl (congrArg (fun b => Value.bool (!(b))) hb346) rfl) (Eq.refl (some 152)) (o_n (d := 153) (za2 rfl rfl rfl (congrArg (fun b => Value.bool (!(b))) hb346) rfl) (Eq.refl (some 153)) (o_n (d := 154) (za2 rfl rfl rfl (congrArg (fun b => Value.bool (!(b))) hb346) rfl) (Eq.refl (some 154)) (o_q rfl rfl (zai true (congrArg (fun b => Value.bool (!(b))) hb346) rfl) (o_q rfl rfl (za3 rfl) (o_n (d := 157) (za2 rfl rfl rfl rfl rfl) (Eq.refl (some 157)) (o_n (d := 158) (za2 rfl rfl rfl rfl rfl) (Eq.refl (some 158)) (o_q rfl rfl (zai true rfl rfl) (o_q rfl rfl (za3 rfl) ?_)))))))))
                  refine o_n (d := 161) (za2 rfl rfl rfl rfl rfl) (Eq.refl (some 161)) (o_n (d := 162) (za2 rfl rfl rfl rfl rfl) (Eq.refl (some 162)) (o_n (d := 163) (za2 rfl rfl rfl rfl rfl) (Eq.refl (some 163)) (o_n (d := 164) (za2 rfl rfl rfl rfl rfl) (Eq.refl (some 164)) (o_q rfl rfl (zai true rfl rfl) (o_end (za1 (zay rfl (c_seq (za0 ?_)))))))))
                  refine o_q rfl rfl (q_asg rfl) (o_end (za1 (c_ret (za9 ?_))))
                  have e_ := si_ h; replace h := hR317; rw [← e_] at h; clear e_
                  refine za9 ?_
                  have e_ := si_ h; replace h := hR231; rw [← e_] at h; clear e_
                  have e0_ := si_ h; clear h
                  subst e0_
                  exact x_r1 () Tryz.results5 (zad rfl) rfl (fun w h => za8 [] dc_ rfl w h)
                ·skip
                 replace h := bb_f hb320 h
                 refine zal (zam () h trivial (fun w h => za8 [26, 27, 28, 29, 0, 1, 2, 3, 4, 5, 6, 7, 8, 9, 10, 11, 12, 13, 14, 15, 16, 17, 18, 19, 20, 21, 22, 23, 24, 25, 30] dc_ rfl w h) ?_)
                 exact of_
               ·skip
                refine (fun _ => fun U318 hJ319 => ?_)
                have e_ := si_ hJ319; have h := hR317; rw [← e_] at h; clear e_ hJ319 hR317 hl316
                refine c_seq (za0 (o_q rfl rfl (q_ldB G38 Z38 rfl (fun w h => h.zac (i := 0) rfl) rfl) (bindE2 h (fun s355 b356 hx354 h => ?_) rfl)))
                refine o_e rfl (za7 0 Z Tryz.func29 N29 rfl rfl rfl (fun w P1 hF hB hS hT => impl_RegCodeText.calls k i5 A10 c11 l6.length l6 A12 c13 l7.length l7 A14 c15 l8.length l8 hB hF (hT 1 _ rfl).row (hT 1 _ rfl).cap (hT 2 _ rfl).row (hT 2 _ rfl).cap (hT 3 _ rfl).row (hT 3 _ rfl).cap _ _ hx354)) (fun _ => o_q rfl rfl (za3 rfl) (o_q rfl rfl (q_ext rfl rfl) (o_q rfl rfl (q_ext rfl rfl) (o_q rfl rfl (q_asg rfl) (o_q rfl rfl (q_asg rfl) (o_end (za1 (c_seq (za0 ?_)))))))))
                refine o_q rfl rfl (za3 rfl) (bindE5 h (fun i358 l359 l360 l361 b362 hx357 h => ?_) rfl)
                refine o_e rfl (za7 0 Z Tryz.func16 N16 rfl rfl rfl (fun w P1 hF hB hS hT => impl_ParseRegCode.calls k s355 hB hF (hS _ GW) _ _ _ _ _ hx357)) (cur6 (fun A363 c364 A365 c366 A367 c368 => o_q rfl rfl (za3 rfl) (o_q rfl rfl (q_ext rfl rfl) (o_q rfl rfl (q_ext rfl rfl) (o_e rfl (zao V38 rfl) (fun g369 => o_e rfl (zae (i := 0) rfl rfl rfl Z38 rfl rfl) (fun _ => o_q rfl rfl (q_asg rfl) (o_end (za1 (c_seq ?_))))))))))
                refine za0 (o_q rfl rfl (za3 rfl) (o_q rfl rfl (q_not rfl) (o_q rfl rfl (za3 rfl) (byB b356 (fun hb371 => ?_) (fun hb371 => ?_)))))
                ·replace h := bb_t hb371 h
                 refine o_w (za4 rfl rfl rfl (congrArg (fun b => Value.bool (!(b))) hb371)) rfl (za3 rfl) (o_w (za4 rfl rfl rfl (congrArg (fun b => Value.bool (!(b))) hb371)) rfl (q_not rfl) (o_q rfl rfl (zai false (congrArg (fun b => Value.bool (!(b))) hb371) rfl) (o_q rfl rfl (za3 rfl) (byB b362 (fun hb372 => ?_) (fun hb372 => ?_)))))
                 ·replace h := bb_t hb372 h
                  refine o_w (za4 rfl rfl rfl (congrArg (fun b => Value.bool (!(b))) hb372)) rfl (q_ldB G38 Z38 rfl (fun w h => h.zac (i := 0) rfl) rfl) (o_w (za4 rfl rfl rfl (congrArg (fun b => Value.bool (!(b))) hb372)) rfl (q_ldB G38 Z38 rfl (fun w h => h.zac (i := 4) rfl) rfl) (za6 h (fun b374 hx373 h => ?_) rfl))
                  refine o_ew (za4 rfl rfl rfl (congrArg (fun b => Value.bool (!(b))) hb372)) (za7 0 Z Tryz.func25 N25 rfl rfl rfl (fun w P1 hF hB hS hT => laws_rSameCode.calls i358 A363 c364 l359.length l359 A365 c366 l360.length l360 A367 c368 l361.length l361 i5 A10 c11 l6.length l6 A12 c13 l7.length l7 A14 c15 l8.length l8 hB hF (hT 1 _ rfl).row (hT 1 _ rfl).cap (hT 2 _ rfl).row (hT 2 _ rfl).cap (hT 3 _ rfl).row (hT 3 _ rfl).cap (hT 5 _ rfl).row (hT 5 _ rfl).cap (hT 6 _ rfl).row (hT 6 _ rfl).cap (hT 7 _ rfl).row (hT 7 _ rfl).cap _ hx373)) (fun _ => o_w (za4 rfl rfl rfl (congrArg (fun b => Value.bool (!(b))) hb372)) rfl (q_not rfl) (o_q rfl rfl (zai false (congrArg (fun b => Value.bool (!(b))) hb372) rfl) (o_end (za1 (zas _ rfl (fun hb375 => ?_) (fun hb375 => ?_))))))
                  ·replace hb375 := nt_t hb375
                   replace h := bb_f hb375 h
                   refine c_seq (za0 (o_q rfl rfl (q_asg rfl) (o_end (za1 (c_ret (za9 ?_))))))
                   have e_ := si_ h; replace h := hR231; rw [← e_] at h; clear e_
                   have e0_ := si_ h; clear h
                   subst e0_
                   exact x_r1 () Tryz.results5 (zad rfl) rfl (fun w h => za8 [] dc_ rfl w h)
                  ·replace hb375 := nt_f hb375
                   replace h := bb_t hb375 h
                   refine zal (zam () h trivial (fun w h => za8 [18, 19, 20, 21, 22, 23, 24, 25, 26, 27, 28, 29, 30, 31, 32, 33, 4, 5, 6, 7, 34] dc_ rfl w h) ?_)
                   exact of_
                 ·replace h := bb_f hb372 h
                  refine o_n (d := 183) (za2 rfl rfl rfl (congrArg (fun b => Value.bool (!(b))) hb372) rfl) (Eq.refl (some 183)) (o_n (d := 184) (za2 rfl rfl rfl (congrArg (fun b => Value.bool (!(b))) hb372) rfl) (Eq.refl (some 184)) (o_n (d := 185) (za2 rfl rfl rfl (congrArg (fun b => Value.bool (!(b))) hb372) rfl) (Eq.refl (some 185)) (o_n (d := 186) (za2 rfl rfl rfl (congrArg (fun b => Value.bool (!(b))) hb372) rfl) (Eq.refl (some 186)) (o_q rfl rfl (zai true (congrArg (fun b => Value.bool (!(b))) hb372) rfl) (o_end (za1 (zay rfl (c_seq (za0 ?_)))))))))
                  refine o_q rfl rfl (q_asg rfl) (o_end (za1 (c_ret (za9 ?_))))
                  have e_ := si_ h; replace h := hR231; rw [← e_] at h; clear e_
                  have e0_ := si_ h; clear h
                  subst e0_
                  exact x_r1 () Tryz.results5 (zad rfl) rfl (fun w h => za8 [] dc_ rfl w h)
                ·replace h := bb_f hb371 h
                 refine o_n (d := 179) (za2 rfl rfl rfl (congrArg (fun b => Value.bool (!(b))) hb371) rfl) (Eq.refl (some 179)) (o_n (d := 180) (za2 rfl rfl rfl (congrArg (fun b => Value.bool (!(b))) hb371) rfl) (Eq.refl (some 180)) (o_q rfl rfl (zai true (congrArg (fun b => Value.bool (!(b))) hb371) rfl) (o_q rfl rfl (za3 rfl) (o_n (d := 183) (za2 rfl rfl rfl rfl rfl) (Eq.refl (some 183)) (o_n (d := 184) (za2 rfl rfl rfl rfl rfl) (Eq.refl (some 184)) (o_n (d := 185) (za2 rfl rfl rfl rfl rfl) (Eq.refl (some 185)) (o_n (d := 186) (za2 rfl rfl rfl rfl rfl) (Eq.refl (some 186)) (o_q rfl rfl (zai true rfl rfl) (o_end ?_)))))))))
                 refine za1 (zay rfl (c_seq (za0 (o_q rfl rfl (q_asg rfl) (o_end (za1 (c_ret (za9 ?_))))))))
                 have e_ := si_ h; replace h := hR231; rw [← e_] at h; clear e_
                 have e0_ := si_ h; clear h
                 subst e0_
                 exact x_r1 () Tryz.results5 (zad rfl) rfl (fun w h => za8 [] dc_ rfl w h)
             ·replace h := bb_f hb277 h
              refine o_n (d := 132) (za2 rfl rfl rfl (congrArg (fun b => Value.bool (!(b))) hb277) rfl) (Eq.refl (some 132)) (o_n (d := 133) (za2 rfl rfl rfl (congrArg (fun b => Value.bool (!(b))) hb277) rfl) (Eq.refl (some 133)) (o_n (d := 134) (za2 rfl rfl rfl (congrArg (fun b => Value.bool (!(b))) hb277) rfl) (Eq.refl (some 134)) (o_n (d := 135) (za2 rfl rfl rfl (congrArg (fun b => Value.bool (!(b))) hb277) rfl) (Eq.refl (some 135)) (o_q rfl rfl (zai true (congrArg (fun b => Value.bool (!(b))) hb277) rfl) (o_end (za1 (zay rfl (c_seq (za0 ?_)))))))))
              refine o_q rfl rfl (q_asg rfl) (o_end (za1 (c_ret (za9 (za9 ?_)))))
              have e_ := si_ h; replace h := hR231; rw [← e_] at h; clear e_
              have e0_ := si_ h; clear h
              subst e0_
              exact x_r1 () Tryz.results5 (zad rfl) rfl (fun w h => za8 [] dc_ rfl w h)
           ·replace h := bb_f hb275 h
            refine o_n (d := 121) (za2 rfl rfl rfl (congrArg (fun b => Value.bool (!(b))) hb275) rfl) (Eq.refl (some 121)) (o_n (d := 122) (za2 rfl rfl rfl (congrArg (fun b => Value.bool (!(b))) hb275) rfl) (Eq.refl (some 122)) (o_n (d := 123) (za2 rfl rfl rfl (congrArg (fun b => Value.bool (!(b))) hb275) rfl) (Eq.refl (some 123)) (o_n (d := 124) (za2 rfl rfl rfl (congrArg (fun b => Value.bool (!(b))) hb275) rfl) (Eq.refl (some 124)) (o_n (d := 125) (za2 rfl rfl rfl (congrArg (fun b => Value.bool (!(b))) hb275) rfl) (Eq.refl (some 125)) (o_q rfl rfl (zai true (congrArg (fun b => Value.bool (!(b))) hb275) rfl) (o_q rfl rfl (za3 rfl) (o_n (d := 128) (za2 rfl rfl rfl rfl rfl) (Eq.refl (some 128)) (o_n (d := 129) (za2 rfl rfl rfl rfl rfl) (Eq.refl (some 129)) (o_q rfl rfl (zai true rfl rfl) ?_)))))))))
            refine o_q rfl rfl (za3 rfl) (o_n (d := 132) (za2 rfl rfl rfl rfl rfl) (Eq.refl (some 132)) (o_n (d := 133) (za2 rfl rfl rfl rfl rfl) (Eq.refl (some 133)) (o_n (d := 134) (za2 rfl rfl rfl rfl rfl) (Eq.refl (some 134)) (o_n (d := 135) (za2 rfl rfl rfl rfl rfl) (Eq.refl (some 135)) (o_q rfl rfl (zai true rfl rfl) (o_end (za1 (zay rfl (c_seq ?_)))))))))
            refine za0 (o_q rfl rfl (q_asg rfl) (o_end (za1 (c_ret (za9 (za9 ?_))))))
            have e_ := si_ h; replace h := hR231; rw [← e_] at h; clear e_
            have e0_ := si_ h; clear h
            subst e0_
            exact x_r1 () Tryz.results5 (zad rfl) rfl (fun w h => za8 [] dc_ rfl w h)
          ·replace h := bb_f hb272 h
           refine o_n (d := 115) (za2 rfl rfl rfl (congrArg (fun b => Value.bool (!(b))) hb272) rfl) (Eq.refl (some 115)) (o_n (d := 116) (za2 rfl rfl rfl (congrArg (fun b => Value.bool (!(b))) hb272) rfl) (Eq.refl (some 116)) (o_n (d := 117) (za2 rfl rfl rfl (congrArg (fun b => Value.bool (!(b))) hb272) rfl) (Eq.refl (some 117)) (o_n (d := 118) (za2 rfl rfl rfl (congrArg (fun b => Value.bool (!(b))) hb272) rfl) (Eq.refl (some 118)) (o_q rfl rfl (zai true (congrArg (fun b => Value.bool (!(b))) hb272) rfl) (o_q rfl rfl (za3 rfl) (o_n (d := 121) (za2 rfl rfl rfl rfl rfl) (Eq.refl (some 121)) (o_n (d := 122) (za2 rfl rfl rfl rfl rfl) (Eq.refl (some 122)) (o_n (d := 123) (za2 rfl rfl rfl rfl rfl) (Eq.refl (some 123)) (o_n (d := 124) (za2 rfl rfl rfl rfl rfl) (Eq.refl (some 124)) ?_)))))))))
           refine o_n (d := 125) (za2 rfl rfl rfl rfl rfl) (Eq.refl (some 125)) (o_q rfl rfl (zai true rfl rfl) (o_q rfl rfl (za3 rfl) (o_n (d := 128) (za2 rfl rfl rfl rfl rfl) (Eq.refl (some 128)) (o_n (d := 129) (za2 rfl rfl rfl rfl rfl) (Eq.refl (some 129)) (o_q rfl rfl (zai true rfl rfl) (o_q rfl rfl (za3 rfl) (o_n (d := 132) (za2 rfl rfl rfl rfl rfl) (Eq.refl (some 132)) (o_n (d := 133) (za2 rfl rfl rfl rfl rfl) (Eq.refl (some 133)) (o_n (d := 134) (za2 rfl rfl rfl rfl rfl) (Eq.refl (some 134)) ?_)))))))))
           refine o_n (d := 135) (za2 rfl rfl rfl rfl rfl) (Eq.refl (some 135)) (o_q rfl rfl (zai true rfl rfl) (o_end (za1 (zay rfl (c_seq (za0 (o_q rfl rfl (q_asg rfl) (o_end (za1 ?_)))))))))
           refine c_ret (za9 (za9 ?_))
           have e_ := si_ h; replace h := hR231; rw [← e_] at h; clear e_
           have e0_ := si_ h; clear h
           subst e0_
           exact x_r1 () Tryz.results5 (zad rfl) rfl (fun w h => za8 [] dc_ rfl w h)
         ·replace h := bb_f hb271 h
          refine o_n (d := 111) (za2 rfl rfl rfl (congrArg (fun b => Value.bool (!(b))) hb271) rfl) (Eq.refl (some 111)) (o_n (d := 112) (za2 rfl rfl rfl (congrArg (fun b => Value.bool (!(b))) hb271) rfl) (Eq.refl (some 112)) (o_q rfl rfl (zai true (congrArg (fun b => Value.bool (!(b))) hb271) rfl) (o_q rfl rfl (za3 rfl) (o_n (d := 115) (za2 rfl rfl rfl rfl rfl) (Eq.refl (some 115)) (o_n (d := 116) (za2 rfl rfl rfl rfl rfl) (Eq.refl (some 116)) (o_n (d := 117) (za2 rfl rfl rfl rfl rfl) (Eq.refl (some 117)) (o_n (d := 118) (za2 rfl rfl rfl rfl rfl) (Eq.refl (some 118)) (o_q rfl rfl (zai true rfl rfl) (o_q rfl rfl (za3 rfl) ?_)))))))))
          refine o_n (d := 121) (za2 rfl rfl rfl rfl rfl) (Eq.refl (some 121)) (o_n (d := 122) (za2 rfl rfl rfl rfl rfl) (Eq.refl (some 122)) (o_n (d := 123) (za2 rfl rfl rfl rfl rfl) (Eq.refl (some 123)) (o_n (d := 124) (za2 rfl rfl rfl rfl rfl) (Eq.refl (some 124)) (o_n (d := 125) (za2 rfl rfl rfl rfl rfl) (Eq.refl (some 125)) (o_q rfl rfl (zai true rfl rfl) (o_q rfl rfl (za3 rfl) (o_n (d := 128) (za2 rfl rfl rfl rfl rfl) (Eq.refl (some 128)) (o_n (d := 129) (za2 rfl rfl rfl rfl rfl) (Eq.refl (some 129)) (o_q rfl rfl (zai true rfl rfl) ?_)))))))))
          refine o_q rfl rfl (za3 rfl) (o_n (d := 132) (za2 rfl rfl rfl rfl rfl) (Eq.refl (some 132)) (o_n (d := 133) (za2 rfl rfl rfl rfl rfl) (Eq.refl (some 133)) (o_n (d := 134) (za2 rfl rfl rfl rfl rfl) (Eq.refl (some 134)) (o_n (d := 135) (za2 rfl rfl rfl rfl rfl) (Eq.refl (some 135)) (o_q rfl rfl (zai true rfl rfl) (o_end (za1 (zay rfl (c_seq ?_)))))))))
          refine za0 (o_q rfl rfl (q_asg rfl) (o_end (za1 (c_ret (za9 (za9 ?_))))))
          have e_ := si_ h; replace h := hR231; rw [← e_] at h; clear e_
          have e0_ := si_ h; clear h
          subst e0_
          exact x_r1 () Tryz.results5 (zad rfl) rfl (fun w h => za8 [] dc_ rfl w h)
        ·skip
         replace h := bb_f hb234 h
         refine zal (zam () h trivial (fun w h => za8 [0, 1, 2, 3, 4, 5, 6, 7, 8, 9, 10, 11, 12, 13, 14, 15, 16, 17, 18, 19, 20] dc_ rfl w h) ?_)
         exact of_
       ·skip
        refine (fun _ => fun U232 hJ233 => ?_)
        have e_ := si_ hJ233; have h := hR231; rw [← e_] at h; clear e_ hJ233 hR231 hl230
        refine c_seq (za0 (o_q rfl rfl (za3 rfl) (za6 h (fun s377 hx376 h => ?_) rfl)))
        refine o_e rfl (za7 0 Z Tryz.func30 N30 rfl rfl rfl (fun w P1 hF hB hS hT => spec_DrawParseRegCode.calls k A1 c1 l1.length l1 hB hF (hS _ R1) hc1 _ hx376)) (fun _ => o_q rfl rfl (q_asg rfl) (o_end (za1 (c_seq (za0 (o_q rfl rfl (za3 rfl) (bindE5 h (fun i379 l380 l381 l382 b383 hx378 h => ?_) rfl)))))))
        refine o_e rfl (za7 0 Z Tryz.func16 N16 rfl rfl rfl (fun w P1 hF hB hS hT => impl_ParseRegCode.calls k s377 hB hF (hS _ GW) _ _ _ _ _ hx378)) (cur6 (fun A384 c385 A386 c387 A388 c389 => o_q rfl rfl (za3 rfl) (o_q rfl rfl (q_ext rfl rfl) (o_q rfl rfl (q_ext rfl rfl) (o_e rfl (zao V38 rfl) (fun g390 => o_e rfl (zae (i := 0) rfl rfl rfl Z38 rfl rfl) (fun _ => o_q rfl rfl (q_asg rfl) (o_end (za1 (c_seq ?_))))))))))
        refine za0 (o_q rfl rfl (za3 rfl) (bindE5 h (fun i393 l394 l395 l396 b397 hx392 h => ?_) rfl))
        refine o_e rfl (za7 0 Z Tryz.func15 N15 rfl rfl rfl (fun w P1 hF hB hS hT => spec_ParseRegCode.calls k s377 hB hF _ _ _ _ _ hx392)) (cur6 (fun A398 c399 A400 c401 A402 c403 => o_q rfl rfl (za3 rfl) (o_q rfl rfl (q_ext rfl rfl) (o_q rfl rfl (q_ext rfl rfl) (o_e rfl (zao V38 rfl) (fun g404 => o_e rfl (zae (i := 0) rfl rfl rfl Z38 rfl rfl) (fun _ => o_q rfl rfl (q_asg rfl) (o_end (za1 (c_seq ?_))))))))))
        refine c_seq (za0 (o_q rfl rfl (za3 rfl) (o_q rfl rfl (za3 rfl) (o_q rfl rfl (q_bneq Tryz.underlying4 rfl rfl) (o_q rfl rfl (za3 rfl) (byB (b383 != b397) (fun hb406 => ?_) (fun hb406 => ?_)))))))
        ·replace h := bb_t hb406 h
         refine o_n (d := 204) (za2 rfl rfl rfl (vb_ hb406) rfl) (Eq.refl (some 204)) (o_n (d := 205) (za2 rfl rfl rfl (vb_ hb406) rfl) (Eq.refl (some 205)) (o_n (d := 206) (za2 rfl rfl rfl (vb_ hb406) rfl) (Eq.refl (some 206)) (o_n (d := 207) (za2 rfl rfl rfl (vb_ hb406) rfl) (Eq.refl (some 207)) (o_q rfl rfl (zai true (vb_ hb406) rfl) (o_end (za1 (zay rfl (c_seq (za0 ?_)))))))))
         refine o_q rfl rfl (q_asg rfl) (o_end (za1 (c_ret (za9 ?_))))
         have e0_ := si_ h; clear h
         subst e0_
         exact x_r1 () Tryz.results5 (zad rfl) rfl (fun w h => za8 [] dc_ rfl w h)
        ·replace h := bb_f hb406 h
         refine o_w (za4 rfl rfl rfl (vb_ hb406)) rfl (q_ldB G38 Z38 rfl (fun w h => h.zac (i := 4) rfl) rfl) (o_w (za4 rfl rfl rfl (vb_ hb406)) rfl (q_ldB G38 Z38 rfl (fun w h => h.zac (i := 0) rfl) rfl) (za6 h (fun b408 hx407 h => ?_) rfl))
         refine o_ew (za4 rfl rfl rfl (vb_ hb406)) (za7 0 Z Tryz.func25 N25 rfl rfl rfl (fun w P1 hF hB hS hT => laws_rSameCode.calls i379 A384 c385 l380.length l380 A386 c387 l381.length l381 A388 c389 l382.length l382 i393 A398 c399 l394.length l394 A400 c401 l395.length l395 A402 c403 l396.length l396 hB hF (hT 5 _ rfl).row (hT 5 _ rfl).cap (hT 6 _ rfl).row (hT 6 _ rfl).cap (hT 7 _ rfl).row (hT 7 _ rfl).cap (hT 1 _ rfl).row (hT 1 _ rfl).cap (hT 2 _ rfl).row (hT 2 _ rfl).cap (hT 3 _ rfl).row (hT 3 _ rfl).cap _ hx407)) (fun _ => o_w (za4 rfl rfl rfl (vb_ hb406)) rfl (q_not rfl) (o_q rfl rfl (zai false (vb_ hb406) rfl) (o_end (za1 (zas _ rfl (fun hb409 => ?_) (fun hb409 => ?_))))))
         ·replace hb409 := nt_t hb409
          replace h := bb_f hb409 h
          refine c_seq (za0 (o_q rfl rfl (q_asg rfl) (o_end (za1 (c_ret (za9 ?_))))))
          have e0_ := si_ h; clear h
          subst e0_
          exact x_r1 () Tryz.results5 (zad rfl) rfl (fun w h => za8 [] dc_ rfl w h)
         ·replace hb409 := nt_f hb409
          replace h := bb_t hb409 h
          refine zal (za1 (c_seq (c_seq (za0 (o_q rfl rfl (za3 rfl) (o_end (za1 (zas _ rfl (fun hb410 => ?_) (fun hb410 => ?_)))))))))
          ·skip
           replace h := bb_t hb410 h
           refine c_seq (za0 (o_q rfl rfl (q_ldB G38 Z38 rfl (fun w h => h.zac (i := 4) rfl) rfl) (bindE2 h (fun s412 b413 hx411 h => ?_) rfl)))
           refine o_e rfl (za7 0 Z Tryz.func29 N29 rfl rfl rfl (fun w P1 hF hB hS hT => impl_RegCodeText.calls k i379 A384 c385 l380.length l380 A386 c387 l381.length l381 A388 c389 l382.length l382 hB hF (hT 5 _ rfl).row (hT 5 _ rfl).cap (hT 6 _ rfl).row (hT 6 _ rfl).cap (hT 7 _ rfl).row (hT 7 _ rfl).cap _ _ hx411)) (fun _ => o_q rfl rfl (za3 rfl) (o_q rfl rfl (q_ext rfl rfl) (o_q rfl rfl (q_ext rfl rfl) (o_q rfl rfl (q_asg rfl) (o_q rfl rfl (q_asg rfl) (o_end (za1 (c_seq (za0 ?_)))))))))
           refine o_q rfl rfl (za3 rfl) (o_q rfl rfl (za3 rfl) (byB b413 (fun hb414 => ?_) (fun hb414 => ?_)))
           ·replace h := bb_t hb414 h
            refine o_w (za4 rfl rfl rfl (vb_ hb414)) rfl (za3 rfl) (o_w (za4 rfl rfl rfl (vb_ hb414)) rfl (za3 rfl) (o_w (za4 rfl rfl rfl (vb_ hb414)) rfl (q_seql rfl rfl) (o_q rfl rfl (zai true (vb_ hb414) rfl) (o_q rfl rfl (q_asg rfl) (o_end (za1 (c_ret (za9 ?_))))))))
            have e0_ := si_ h; clear h
            subst e0_
            exact x_r1 () Tryz.results5 (zad rfl) rfl (fun w h => za8 [] dc_ rfl w h)
           ·replace h := bb_f hb414 h
            refine o_n (d := 217) (za2 rfl rfl rfl (vb_ hb414) rfl) (Eq.refl (some 217)) (o_n (d := 218) (za2 rfl rfl rfl (vb_ hb414) rfl) (Eq.refl (some 218)) (o_n (d := 219) (za2 rfl rfl rfl (vb_ hb414) rfl) (Eq.refl (some 219)) (o_q rfl rfl (zai false (vb_ hb414) rfl) (o_q rfl rfl (q_asg rfl) (o_end (za1 (c_ret (za9 ?_))))))))
            have e0_ := si_ h; clear h
            subst e0_
            exact x_r1 () Tryz.results5 (zad rfl) rfl (fun w h => za8 [] dc_ rfl w h)
          ·skip
           replace h := bb_f hb410 h
           refine zal (za1 (c_seq (za0 (o_q rfl rfl (q_asg rfl) (o_end (za1 (c_ret ?_)))))))
           have e0_ := si_ h; clear h
           subst e0_
           exact x_r1 () Tryz.results5 (zad rfl) rfl (fun w h => za8 [] dc_ rfl w h)
     ·replace h := bb_f hb83 h
      refine o_n (d := 87) (za2 rfl rfl rfl (congrArg (fun b => Value.bool (!(b))) hb83) rfl) (Eq.refl (some 87)) (o_n (d := 88) (za2 rfl rfl rfl (congrArg (fun b => Value.bool (!(b))) hb83) rfl) (Eq.refl (some 88)) (o_n (d := 89) (za2 rfl rfl rfl (congrArg (fun b => Value.bool (!(b))) hb83) rfl) (Eq.refl (some 89)) (o_n (d := 90) (za2 rfl rfl rfl (congrArg (fun b => Value.bool (!(b))) hb83) rfl) (Eq.refl (some 90)) (o_q rfl rfl (zai true (congrArg (fun b => Value.bool (!(b))) hb83) rfl) (o_end (za1 (zay rfl (c_seq (za0 ?_)))))))))
      refine o_q rfl rfl (q_asg rfl) (o_end (za1 (c_ret (za9 ?_))))
      have e0_ := si_ h; clear h
      subst e0_
      exact x_r1 () Tryz.results5 (zad rfl) rfl (fun w h => za8 [] dc_ rfl w h)
   ·replace h := bb_f hb79 h
    refine o_n (d := 76) (za2 rfl rfl rfl (congrArg (fun b => Value.bool (!(b))) hb79) rfl) (Eq.refl (some 76)) (o_n (d := 77) (za2 rfl rfl rfl (congrArg (fun b => Value.bool (!(b))) hb79) rfl) (Eq.refl (some 77)) (o_n (d := 78) (za2 rfl rfl rfl (congrArg (fun b => Value.bool (!(b))) hb79) rfl) (Eq.refl (some 78)) (o_q rfl rfl (zai true (congrArg (fun b => Value.bool (!(b))) hb79) rfl) (o_q rfl rfl (za3 rfl) (o_n (d := 81) (za2 rfl rfl rfl rfl rfl) (Eq.refl (some 81)) (o_n (d := 82) (za2 rfl rfl rfl rfl rfl) (Eq.refl (some 82)) (o_n (d := 83) (za2 rfl rfl rfl rfl rfl) (Eq.refl (some 83)) (o_n (d := 84) (za2 rfl rfl rfl rfl rfl) (Eq.refl (some 84)) (o_q rfl rfl (zai true rfl rfl) ?_)))))))))
    refine o_q rfl rfl (za3 rfl) (o_n (d := 87) (za2 rfl rfl rfl rfl rfl) (Eq.refl (some 87)) (o_n (d := 88) (za2 rfl rfl rfl rfl rfl) (Eq.refl (some 88)) (o_n (d := 89) (za2 rfl rfl rfl rfl rfl) (Eq.refl (some 89)) (o_n (d := 90) (za2 rfl rfl rfl rfl rfl) (Eq.refl (some 90)) (o_q rfl rfl (zai true rfl rfl) (o_end (za1 (zay rfl (c_seq ?_)))))))))
    refine za0 (o_q rfl rfl (q_asg rfl) (o_end (za1 (c_ret (za9 ?_)))))
    have e0_ := si_ h; clear h
    subst e0_
    exact x_r1 () Tryz.results5 (zad rfl) rfl (fun w h => za8 [] dc_ rfl w h)

/-- THE ONE PURE STATEMENT of laws_FnRenamedRegisters. -/
def laws_FnRenamedRegisters.Pure : Prop := ∀ (l0 : List Int) (l1 : List Int), l0.length ≤ maxLen → (∀ y ∈ l0, (Lit.int .u8 y).wf = true) → l1.length ≤ maxLen → (∀ y ∈ l1, (Lit.int .u8 y).wf = true) → ∃ k, laws_FnRenamedRegisters.f k l0 l1 = some true
theorem laws_FnRenamedRegisters.walk (P : laws_FnRenamedRegisters.Pure) (A0 : Option Addr) (c0 : Nat) (l0 : List Int) (A1 : Option Addr) (c1 : Nat) (l1 : List Int) (w : World) (hG : GP w) (hr0 : Kd.C (Kd.int .u8) w A0 l0.length l0) (hc0 : l0.length ≤ c0) (hr1 : Kd.C (Kd.int .u8) w A1 l1.length l1) (hc1 : l1.length ≤ c1) (q0 : l0.length ≤ maxLen) (q1 : (∀ y ∈ l0, (Lit.int .u8 y).wf = true)) (q2 : l1.length ≤ maxLen) (q3 : (∀ y ∈ l1, (Lit.int .u8 y).wf = true)) :
  Calls Tryz.prog 5 #[.slice A0 l0.length c0, .slice A1 l1.length c1] w fun e w' => e = .returned (.bool true) ∧ Below w.heap.size w w' := by
 obtain ⟨k, h⟩ := P l0 l1 q0 q1 q2 q3
 refine (laws_FnRenamedRegisters.calls k A0 c0 l0.length l0 A1 c1 l1.length l1 (Below.refl _ _) (Fr.start w) (fun W hW => Kd.C_below hr0 hW.below) hc0 (fun W hW => Kd.C_below hr1 hW.below) hc1 (fun W hW => GP_below hG hW.below) true h).mono ?_
 rintro e w' ⟨s, rfl, hF⟩
 exact ⟨rfl, hF.bel⟩
end Go.Proofs.YtnnlfipcoahcnaaGreatDoor.G3
