import Derived.Test.YtnnlfipcoahcnaaGreatDoorKFnRenamedRegistersG3p2
namespace Go.Proofs.YtnnlfipcoahcnaaGreatDoor.G3
set_option maxHeartbeats 8000000
set_option maxRecDepth 100000
open Go.RowKit Go.Proofs.YtnnlfipcoahcnaaGreatDoor.Frame Go.Proofs.YtnnlfipcoahcnaaGreatDoorW.PrintLast Go.Proofs.YtnnlfipcoahcnaaGreatDoor.Hand
open Go.Proofs.YtnnlfipcoahcnaaGreatDoorW.PrintWords hiding mn mx
set_option linter.unusedVariables false
def spec_l1Cur_code9.l0 (k : Nat) (l0_0 : List Int) (i166 : Int) : Nat → (List Int) → (List SRegOp) → Int → Int → Int → Option ((List Int) × (List SRegOp) × Int × Int)
 | 0, _, _, _, _, _ => none
 | k191 + 1, l180, l183, i186, i187, i188 => if 0 < i188 then ((spec_l1Cur_pick.f l0_0 i186 i187 (w64 (2 + i166))).bind fun (i201, i202, i203) => (spec_l1Cur_among.f l0_0 i202 i203 l180).bind fun (i205, i206, i207) => (spec_l1Cur_among.f l0_0 i206 i207 l180).bind fun (i209, i210, i211) => (ap l183 ([(⟨i201, i205, i209⟩ : SRegOp)] : List SRegOp)).bind fun l217 => (spec_l1Put.f k l180 i201).bind fun l222 => spec_l1Cur_code9.l0 k l0_0 i166 k191 l222 l217 i210 i211 (w64 (i188 - 1))) else (some (l180, l183, i186, i187))
def spec_l1Cur_code9.f (k : Nat) (l0_0 : List Int) (a0_1 : Int) (a0_2 : Int) : Option (Int × (List Int) × (List SRegOp) × (List Int) × Int × Int) := ((spec_l1Cur_one.f l0_0 a0_1 a0_2 2).bind fun (b128, i129, i130) => if b128 = true then ((spec_l1Cur_inputs.f l0_0 i129 i130).bind fun (i133, i134, i135) => (spec_l1Cur_among.f l0_0 i134 i135 ([2, 5, 9] : List Int)).bind fun (i140, i141, i142) => (spec_l1Cur_plan.f k l0_0 i141 i142 i133 i140).bind fun (i144, l145, l146, i147, i148) => (spec_AllocatePlan.f k i144 l145 l146).bind fun (i154, l155, l156, l157, b158) => some (i147, i148, i154, l155, l156, l157)) else ((spec_l1Cur_pick.f l0_0 i129 i130 4).bind fun (i166, i167, i168) => (spec_l1Cur_pick.f l0_0 i167 i168 7).bind fun (i176, i177, i178) => (spec_l1Cur_code9.l0 k l0_0 i166 k ([0] : List Int) ([] : List SRegOp) i177 i178 i176).bind fun (l180, l183, i186, i187) => (spec_l1Cur_among.f l0_0 i186 i187 l180).bind fun (i226, i227, i228) => some (i227, i228, w64 (2 + i166), ([0] : List Int), l183, ([i226] : List Int)))).bind fun (i110, i111, i112, l113, l116, l119) => ((spec_l1Cur_pick.f l0_0 i110 i111 24).bind fun (i2128, i2129, i2130) => if i2128 = 0 then ((spec_l1Cur_among.f l0_0 i2129 i2130 ([0, 1, (-1), 46, 47] : List Int)).bind fun (i2136, i2137, i2138) => some (i2136, l113, l116, l119, i2137, i2138)) else (if i2128 = 1 then ((spec_l1Cur_pick.f l0_0 i2129 i2130 4).bind fun (i2322, i2323, i2324) => (spec_l1Cur_among.f l0_0 i2323 i2324 ([0, 1, (-1), 99] : List Int)).bind fun (i2502, i2503, i2504) => (ap l116 ([(⟨0, i2322, i2502⟩ : SRegOp)] : List SRegOp)).bind fun l2681 => some (i112, l113, l2681, l119, i2503, i2504)) else (if i2128 = 2 then ((spec_l1Cur_pick.f l0_0 i2129 i2130 3).bind fun (i3104, i3105, i3106) => (ap l113 ([i3104] : List Int)).bind fun l3223 => some (i112, l3223, l116, l119, i3105, i3106)) else (if i2128 = 3 then ((spec_l1Cur_pick.f l0_0 i2129 i2130 6).bind fun (i3646, i3647, i3648) => (ap l119 ([i3646] : List Int)).bind fun l3765 => some (i112, l113, l116, l3765, i3647, i3648)) else (some (i112, l113, l116, l119, i2129, i2130)))))).bind fun (i2110, l2111, l2114, l2117, i2120, i2121) => some (i2110, l2111, l2114, l2117, i2120, i2121)
theorem spec_l1Cur_code9.calls (k : Nat) {w0 ws : World} {P0 : Nat → Prop} (g0 : Nat) (A0_0 : Option Addr) (c0_0 : Nat) (n0_0 : Nat) (l0_0 : List Int) (a0_1 : Int) (a0_2 : Int) (Z : Below w0.heap.size w0 ws) (hF : Fr w0 ws P0 [box g0 54 #[.slice A0_0 n0_0 c0_0, .int .i64 a0_1, .int .u64 a0_2]] ws) (R0_0 : Stable ws P0 (fun w => Kd.C (Kd.int .u8) w A0_0 n0_0 l0_0)) (hc0_0 : n0_0 ≤ c0_0) (r_1 : Int) (r_2 : List Int) (r_5 : List SRegOp) (r_8 : List Int) (r_11 : Int) (r_12 : Int) (h : spec_l1Cur_code9.f k l0_0 a0_1 a0_2 = some (r_1, r_2, r_5, r_8, r_11, r_12)) :
  Calls Tryz.prog 65 #[.pointer (some ⟨g0, 0, none⟩)] ws (Post1 w0 ws P0 (fun ((q_3, q_4, q_6, q_7, q_9, q_10) : (Option Addr) × Nat × (Option Addr) × Nat × (Option Addr) × Nat) => .agg #[.int .i64 r_1, .slice q_3 r_2.length q_4, .slice q_6 r_5.length q_7, .slice q_9 r_8.length q_10]) (fun ((q_3, q_4, q_6, q_7, q_9, q_10) : (Option Addr) × Nat × (Option Addr) × Nat × (Option Addr) × Nat) => [row (Kd.int .i64) 3 (.slice q_3 r_2.length q_4) r_2, row zaq 84 (.slice q_6 r_5.length q_7) r_5, row (Kd.int .i64) 3 (.slice q_9 r_8.length q_10) r_8, box g0 54 #[.slice A0_0 n0_0 c0_0, .int .i64 r_11, .int .u64 r_12]])) := by
 unfold spec_l1Cur_code9.f at h
 obtain rfl := (R0_0 ws (KeptB.refl _ _)).1
 refine enter Tryz.func65 rfl Tryz.ntmps65 rfl hF (c_seq (za0 (o_e rfl (zao V38 rfl) (fun g1 => o_end (za1 (c_seq (za0 (o_e rfl (zao V38 rfl) (fun g3 => o_end ?_)))))))))
 refine za1 (za6 h (fun o122 hl123 hR124 => ?_) rfl)
 clear h
 refine c_cutJ (σ := Int × Int × Int × (List Int) × (List SRegOp) × (List Int) × (Option Addr) × Nat × (Option Addr) × Nat × (Option Addr) × Nat) (fun (i110, i111, i112, l113, l116, l119, A114, c115, A117, c118, A120, c121) => some (i110, i111, i112, l113, l116, l119) = some o122) [4, 5, 6, 7, 8, 9, 10, 11, 12, 13, 14, 15, 16, 17, 18, 19, 20, 21, 22, 23, 24, 25, 26, 27, 28, 29, 30, 31, 32, 33, 34, 35, 36, 37, 38, 39, 40, 41, 42, 43, 44, 45, 46, 47, 48, 49, 50, 51, 52, 53, 54, 55, 56, 57] (fun (i110, i111, i112, l113, l116, l119, A114, c115, A117, c118, A120, c121) => []) (fun (i110, i111, i112, l113, l116, l119, A114, c115, A117, c118, A120, c121) => [box g0 54 #[.slice A0_0 l0_0.length c0_0, .int .i64 i110, .int .u64 i111], box g1 38 #[.int .i64 0, .slice none 0 0, .slice none 0 0, .slice none 0 0], box g3 38 #[.int .i64 i112, .slice A114 l113.length c115, .slice A117 l116.length c118, .slice A120 l119.length c121], row (Kd.int .i64) 3 (.slice A114 l113.length c115) l113, row zaq 84 (.slice A117 l116.length c118) l116, row (Kd.int .i64) 3 (.slice A120 l119.length c121) l119]) ?_ ?_
 ·skip
  have h := hl123; clear hl123
  clear hR124
  refine c_seq (za0 (o_q rfl rfl (za3 rfl) (o_pick [2, 0, 1] dc_ rfl (bindE3 h (fun b128 i129 i130 hx127 h => ?_) rfl))))
  refine o_e rfl (za7 1 Z Tryz.func48 N48 rfl rfl rfl (fun w P1 hF hB hS hT => spec_l1Cur_one.calls g0 A0_0 c0_0 l0_0.length l0_0 a0_1 a0_2 2 hB hF (hS _ R0_0) hc0_0 _ _ _ hx127)) (fun _ => o_end (za1 (zas _ rfl (fun hb131 => ?_) (fun hb131 => ?_))))
  ·skip
   replace h := bb_t hb131 h
   refine za0 (o_q rfl rfl (za3 rfl) (o_q rfl rfl (za3 rfl) (bindE3 h (fun i133 i134 i135 hx132 h => ?_) rfl)))
   refine o_e rfl (za7 1 Z Tryz.func102 N102 rfl rfl rfl (fun w P1 hF hB hS hT => spec_l1Cur_inputs.calls g0 A0_0 c0_0 l0_0.length l0_0 i129 i130 hB hF (hS _ R0_0) hc0_0 _ _ _ hx132)) (fun _ => o_q rfl rfl (za3 rfl) (o_e rfl (e_lit (vs := [(0, .int .i64 2), (1, .int .i64 5), (2, .int .i64 9)]) (cs := [.int .i64 2, .int .i64 5, .int .i64 9]) (Kd.int .i64) ([2, 5, 9] : List Int) Tryz.underlying25 I3 dc_ rfl dc_ rfl rfl (fun _ _ => Kd.zaf _)) (cur2 (fun A136 c137 => o_pick [1, 0, 2, 3] dc_ rfl (bindE3 h (fun i140 i141 i142 hx139 h => ?_) rfl)))))
   refine o_e rfl (za7 1 Z Tryz.func80 N80 rfl rfl rfl (fun w P1 hF hB hS hT => spec_l1Cur_among.calls g0 A0_0 c0_0 l0_0.length l0_0 i134 i135 A136 c137 (([2, 5, 9] : List Int).length) ([2, 5, 9] : List Int) hB hF (hS _ R0_0) hc0_0 (hT 0 _ rfl).row (hT 0 _ rfl).cap _ _ _ hx139)) (fun _ => bindE5 h (fun i144 l145 l146 i147 i148 hx143 h => ?_) rfl)
   refine o_e rfl (za7 1 Z Tryz.func47 N47 rfl rfl rfl (fun w P1 hF hB hS hT => spec_l1Cur_plan.calls k g0 A0_0 c0_0 l0_0.length l0_0 i141 i142 i133 i140 hB hF (hS _ R0_0) hc0_0 _ _ _ _ _ hx143)) (cur4 (fun A149 c150 A151 c152 => bindE5 h (fun i154 l155 l156 l157 b158 hx153 h => ?_) rfl))
   refine o_e rfl (za7 0 Z Tryz.func101 N101 rfl rfl rfl (fun w P1 hF hB hS hT => spec_AllocatePlan.calls k i144 A149 c150 l145.length l145 A151 c152 l146.length l146 hB hF (hT 0 _ rfl).row (hT 0 _ rfl).cap (hT 1 _ rfl).row (hT 1 _ rfl).cap _ _ _ _ _ hx153)) (cur6 (fun A159 c160 A161 c162 A163 c164 => o_q rfl rfl (za3 rfl) (o_q rfl rfl (q_ext rfl rfl) (o_q rfl rfl (q_ext rfl rfl) (o_e rfl (zae (i := 7) rfl rfl rfl Z38 rfl rfl) (fun _ => o_end (zam (i147, i148, i154, l155, l156, l157, A159, c160, A161, c162, A163, c164) h trivial (fun w h => za8 [5, 8, 7, 0, 1, 2] dc_ rfl w h) ?_)))))))
   exact of_
  ·skip
   replace h := bb_f hb131 h
   refine c_seq (za0 (o_q rfl rfl (za3 rfl) (bindE3 h (fun i166 i167 i168 hx165 h => ?_) rfl)))
   refine o_e rfl (za7 1 Z Tryz.func79 N79 rfl rfl rfl (fun w P1 hF hB hS hT => spec_l1Cur_pick.calls g0 A0_0 c0_0 l0_0.length l0_0 i129 i130 4 hB hF (hS _ R0_0) hc0_0 _ _ _ hx165)) (fun _ => o_q rfl rfl (zb5 rfl rfl) (o_e rfl (e_lit (vs := [(0, .int .i64 0)]) (cs := [.int .i64 0]) (Kd.int .i64) ([0] : List Int) Tryz.underlying25 I3 dc_ rfl dc_ rfl rfl (fun _ _ => Kd.zaf _)) (cur2 (fun A169 c170 => o_q rfl rfl (zaw (vs := [(0, .int .i64 (w64 (2 + i166))), (1, .slice A169 (([0] : List Int).length) c170)]) (cs := [.int .i64 (w64 (2 + i166)), .slice A169 (([0] : List Int).length) c170, .slice none 0 0, .slice none 0 0]) rfl rfl) (o_e rfl (zae (i := 2) rfl rfl rfl Z38 rfl rfl) (fun _ => o_end (za1 (c_seq (za0 (o_e rfl (e_lit (vs := [(0, .int .i64 0)]) (cs := [.int .i64 0]) (Kd.int .i64) ([0] : List Int) Tryz.underlying25 I3 dc_ rfl dc_ rfl rfl (fun _ _ => Kd.zaf _)) (cur2 (fun A172 c173 => ?_))))))))))))
   refine o_q rfl rfl (q_asg rfl) (o_end (za1 (c_seq (c_seq (za0 (o_q rfl rfl (za3 rfl) (o_pick [2, 0, 1, 3, 4] dc_ rfl (bindE3 h (fun i176 i177 i178 hx175 h => ?_) rfl))))))))
   refine o_e rfl (za7 1 Z Tryz.func79 N79 rfl rfl rfl (fun w P1 hF hB hS hT => spec_l1Cur_pick.calls g0 A0_0 c0_0 l0_0.length l0_0 i167 i168 7 hB hF (hS _ R0_0) hc0_0 _ _ _ hx175)) (fun _ => o_q rfl rfl (q_asg rfl) (o_end (za1 (zah (c_nil zaq 84 (za6 h (fun o196 hl195 hR194 => ?_) rfl))))))
   clear h
   refine zax (σ := (List Int) × (List SRegOp) × Int × Int × Int × (Option Addr) × Nat × (Option Addr) × Nat) (fun k191 ((l180, l183, i186, i187, i188, A181, c182, A184, c185) : (List Int) × (List SRegOp) × Int × Int × Int × (Option Addr) × Nat × (Option Addr) × Nat) => spec_l1Cur_code9.l0 k l0_0 i166 k191 l180 l183 i186 i187 i188 = some o196) [4, 5, 6, 28, 29, 30, 31, 32, 33, 34, 35, 36, 37, 38, 39, 40, 41, 42, 43, 44, 45, 46, 47, 48, 49, 50, 51, 52] (fun ((l180, l183, i186, i187, i188, A181, c182, A184, c185) : (List Int) × (List SRegOp) × Int × Int × Int × (Option Addr) × Nat × (Option Addr) × Nat) => [(4, .slice A181 l180.length c182), (5, .int .i64 i188)]) (fun ((l180, l183, i186, i187, i188, A181, c182, A184, c185) : (List Int) × (List SRegOp) × Int × Int × Int × (Option Addr) × Nat × (Option Addr) × Nat) => [row zaq 84 (.slice A184 l183.length c185) l183, box g0 54 #[.slice A0_0 l0_0.length c0_0, .int .i64 i186, .int .u64 i187], row (Kd.int .i64) 3 (.slice A181 l180.length c182) l180, row (Kd.int .i64) 3 (.slice A169 (([0] : List Int).length) c170) ([0] : List Int), box g3 38 #[.int .i64 (w64 (2 + i166)), .slice A169 (([0] : List Int).length) c170, .slice A184 l183.length c185, .slice none 0 0], box g1 38 #[.int .i64 0, .slice none 0 0, .slice none 0 0, .slice none 0 0]]) k (([0] : List Int), ([] : List SRegOp), i177, i178, i176, A172, c173, none, 0) hl195 ⟨rfl, rfl, trivial⟩ (fun w h => h) (natC (cur9 (fun l180 l183 i186 i187 i188 A181 c182 A184 c185 => fun U197 hJ_ => ?_)) (fun k191 => (cur9 (fun l180 l183 i186 i187 i188 A181 c182 A184 c185 => fun U197 hJ_ => ?_))))
   ·skip
    replace hJ_ : spec_l1Cur_code9.l0 k l0_0 i166 0 l180 l183 i186 i187 i188 = some o196 := hJ_
    rw [spec_l1Cur_code9.l0] at hJ_
    exact noneE hJ_
   ·skip
    clear hl195
    have h := hJ_; clear hJ_
    replace h : spec_l1Cur_code9.l0 k l0_0 i166 (k191 + 1) l180 l183 i186 i187 i188 = some o196 := h
    rw [spec_l1Cur_code9.l0] at h
    refine c_seq (c_seq (za0 (o_q rfl rfl (za3 rfl) (o_q rfl rfl (q_gtr rfl rfl) (o_end (za1 (zas _ rfl (fun hb199 => ?_) (fun hb199 => ?_))))))))
    ·skip
     replace h := br_t hb199 h
     refine zal (za1 (c_seq (zah (c_seq (za0 (o_q rfl rfl (za3 rfl) (o_q rfl rfl (q_f F38_0 rfl) (o_q rfl rfl (q_ldb Y3 rfl (fun w h => h.zac (i := 4) rfl) rfl) (o_pick [1, 0, 2, 3, 4, 5] dc_ rfl ?_)))))))))
     refine bindE3 h (fun i201 i202 i203 hx200 h => ?_) rfl
     refine o_e rfl (za7 1 Z Tryz.func79 N79 rfl rfl rfl (fun w P1 hF hB hS hT => spec_l1Cur_pick.calls g0 A0_0 c0_0 l0_0.length l0_0 i186 i187 (w64 (2 + i166)) hB hF (hS _ R0_0) hc0_0 _ _ _ hx200)) (fun _ => o_q rfl rfl (za3 rfl) (o_q rfl rfl (za3 rfl) (bindE3 h (fun i205 i206 i207 hx204 h => ?_) rfl)))
     refine o_e rfl (za7 1 Z Tryz.func80 N80 rfl rfl rfl (fun w P1 hF hB hS hT => spec_l1Cur_among.calls g0 A0_0 c0_0 l0_0.length l0_0 i202 i203 A181 c182 l180.length l180 hB hF (hS _ R0_0) hc0_0 (hT 1 _ rfl).row (hT 1 _ rfl).cap _ _ _ hx204)) (fun _ => o_q rfl rfl (za3 rfl) (o_q rfl rfl (za3 rfl) (bindE3 h (fun i209 i210 i211 hx208 h => ?_) rfl)))
     refine o_e rfl (za7 1 Z Tryz.func80 N80 rfl rfl rfl (fun w P1 hF hB hS hT => spec_l1Cur_among.calls g0 A0_0 c0_0 l0_0.length l0_0 i206 i207 A181 c182 l180.length l180 hB hF (hS _ R0_0) hc0_0 (hT 1 _ rfl).row (hT 1 _ rfl).cap _ _ _ hx208)) (fun _ => o_q rfl rfl (zaw (vs := [(0, .int .i64 i201), (1, .int .i64 i205), (2, .int .i64 i209)]) (cs := [.int .i64 i201, .int .i64 i205, .int .i64 i209]) rfl rfl) (o_e rfl (zao V84 rfl) (fun g212 => o_e rfl (zae (i := 0) rfl rfl rfl Z84 rfl rfl) (fun _ => o_end (za1 (c_seq (za0 (o_q rfl rfl (q_f F38_2 rfl) (o_q rfl rfl (q_ldb Y36 rfl (fun w h => h.zac (i := 5) rfl) rfl) ?_)))))))))
     refine o_q rfl rfl (q_ldB G84 Z84 rfl (fun w h => h.zac (i := 0) rfl) rfl) (o_e rfl (e_lit (vs := [(0, .agg #[.int .i64 i201, .int .i64 i205, .int .i64 i209])]) (cs := [.int .i64 i201, .int .i64 i205, .int .i64 i209]) zaq ([(⟨i201, i205, i209⟩ : SRegOp)] : List SRegOp) Tryz.underlying36 I84 dc_ rfl dc_ rfl rfl (fun _ _ => zb4 _)) (cur2 (fun A214 c215 => za6 h (fun l217 ha218 h => ?_) rfl)))
     refine o_e rfl (e_app (i := 3) (j := 0) Tryz.underlying36 I84 rfl dc_ dc_ rfl rfl rfl rfl rfl ha218) (cur2 (fun A219 c220 => o_q rfl rfl (q_f F38_2 rfl) (o_e rfl (zav (i := 6) rfl rfl rfl rfl Z36 rfl rfl) (fun _ => o_end (za1 (za0 (o_q rfl rfl (za3 rfl) (o_q rfl rfl (q_f F84_0 rfl) (o_q rfl rfl (q_ldb Y3 rfl (fun w h => h.zac (i := 1) rfl) rfl) (o_pick [4, 1, 2, 3, 5, 6, 7] dc_ rfl ?_))))))))))
     refine za6 h (fun l222 hx221 h => ?_) rfl
     refine o_e rfl (za7 1 Z Tryz.func103 N103 rfl rfl rfl (fun w P1 hF hB hS hT => spec_l1Put.calls k A181 c182 l180.length l180 i201 hB hF _ hx221)) (cur2 (fun A223 c224 => o_q rfl rfl (q_asg rfl) (o_end (zak (za1 (za0 (o_q rfl rfl (za3 rfl) (o_q rfl rfl (q_sub64 rfl rfl) (o_q rfl rfl (q_asg rfl) (o_end ?_))))))))))
     refine zaj k191 (l222, l217, i210, i211, w64 (i188 - 1), A223, c224, A219, c220) (Nat.lt_succ_self _) h ⟨rfl, rfl, trivial⟩ (fun w h => za8 [3, 2, 0, 4, 5, 6] dc_ rfl w h) ?_
     exact of_
    ·skip
     replace h := br_f hb199 h
     refine zb2 (zab (zab ?_))
     have e_ := si_ h; replace h := hR194; rw [← e_] at h; clear e_
     refine x_hit (za1 (za0 (o_q rfl rfl (za3 rfl) (o_q rfl rfl (za3 rfl) (o_pick [1, 0, 2, 3, 4, 5] dc_ rfl (bindE3 h (fun i226 i227 i228 hx225 h => ?_) rfl))))))
     refine o_e rfl (za7 1 Z Tryz.func80 N80 rfl rfl rfl (fun w P1 hF hB hS hT => spec_l1Cur_among.calls g0 A0_0 c0_0 l0_0.length l0_0 i186 i187 A181 c182 l180.length l180 hB hF (hS _ R0_0) hc0_0 (hT 1 _ rfl).row (hT 1 _ rfl).cap _ _ _ hx225)) (fun _ => o_e rfl (e_lit (vs := [(0, .int .i64 i226)]) (cs := [.int .i64 i226]) (Kd.int .i64) ([i226] : List Int) Tryz.underlying25 I3 dc_ rfl dc_ rfl rfl (fun _ _ => Kd.zaf _)) (cur2 (fun A229 c230 => o_q rfl rfl (q_f F38_3 rfl) (o_e rfl (zav (i := 5) rfl rfl rfl rfl Z25 rfl rfl) (fun _ => o_end (zam (i227, i228, w64 (2 + i166), ([0] : List Int), l183, ([i226] : List Int), A169, c170, A184, c185, A229, c230) h trivial (fun w h => za8 [1, 6, 5, 4, 2, 0] dc_ rfl w h) ?_))))))
     exact of_
 ·skip
  refine (cur12 (fun i110 i111 i112 l113 l116 l119 A114 c115 A117 c118 A120 c121 => fun U125 hJ126 => ?_))
  have e_ := si_ hJ126; have h := hR124; rw [← e_] at h; clear e_ hJ126 hR124 hl123
  refine za6 h (fun o2122 hl2123 hR2124 => ?_) rfl
  clear h
  refine c_cutJ (σ := Int × (List Int) × (List SRegOp) × (List Int) × Int × Int × (Option Addr) × Nat × (Option Addr) × Nat × (Option Addr) × Nat) (fun (i2110, l2111, l2114, l2117, i2120, i2121, A2112, c2113, A2115, c2116, A2118, c2119) => some (i2110, l2111, l2114, l2117, i2120, i2121) = some o2122) [58, 59, 60, 61, 62, 63, 64, 65, 66, 67, 68, 69, 70, 71, 72, 73, 74, 75, 76, 77, 78, 79, 80, 81, 82, 83, 84, 85, 86, 87, 88, 89, 90, 91, 92, 93, 94, 95, 96] (fun (i2110, l2111, l2114, l2117, i2120, i2121, A2112, c2113, A2115, c2116, A2118, c2119) => []) (fun (i2110, l2111, l2114, l2117, i2120, i2121, A2112, c2113, A2115, c2116, A2118, c2119) => [box g1 38 #[.int .i64 0, .slice none 0 0, .slice none 0 0, .slice none 0 0], box g3 38 #[.int .i64 i2110, .slice A2112 l2111.length c2113, .slice A2115 l2114.length c2116, .slice A2118 l2117.length c2119], row (Kd.int .i64) 3 (.slice A2112 l2111.length c2113) l2111, row zaq 84 (.slice A2115 l2114.length c2116) l2114, row (Kd.int .i64) 3 (.slice A2118 l2117.length c2119) l2117, box g0 54 #[.slice A0_0 l0_0.length c0_0, .int .i64 i2120, .int .u64 i2121]]) ?_ ?_
  ·skip
   have h := hl2123; clear hl2123
   clear hR2124
   refine c_seq (za0 (o_q rfl rfl (za3 rfl) (bindE3 h (fun i2128 i2129 i2130 hx2127 h => ?_) rfl)))
   refine o_e rfl (za7 1 Z Tryz.func79 N79 rfl rfl rfl (fun w P1 hF hB hS hT => spec_l1Cur_pick.calls g0 A0_0 c0_0 l0_0.length l0_0 i110 i111 24 hB hF (hS _ R0_0) hc0_0 _ _ _ hx2127)) (fun _ => o_end (za1 (zah (c_seq (za0 (o_q rfl rfl (q_eql rfl rfl) (o_q rfl rfl (q_asg rfl) (o_end (za1 ?_)))))))))
   refine zas _ rfl (fun hb2131 => ?_) (fun hb2131 => ?_)
   ·skip
    replace h := br_t hb2131 h
    refine za0 (o_q rfl rfl (za3 rfl) (o_e rfl (e_lit (vs := [(0, .int .i64 0), (1, .int .i64 1), (2, .int .i64 (-1)), (3, .int .i64 46), (4, .int .i64 47)]) (cs := [.int .i64 0, .int .i64 1, .int .i64 (-1), .int .i64 46, .int .i64 47]) (Kd.int .i64) ([0, 1, (-1), 46, 47] : List Int) Tryz.underlying25 I3 dc_ rfl dc_ rfl rfl (fun _ _ => Kd.zaf _)) (cur2 (fun A2132 c2133 => o_pick [1, 0, 2, 3, 4, 5, 6] dc_ rfl (bindE3 h (fun i2136 i2137 i2138 hx2135 h => ?_) rfl)))))
    refine o_e rfl (za7 1 Z Tryz.func80 N80 rfl rfl rfl (fun w P1 hF hB hS hT => spec_l1Cur_among.calls g0 A0_0 c0_0 l0_0.length l0_0 i2129 i2130 A2132 c2133 (([0, 1, (-1), 46, 47] : List Int).length) ([0, 1, (-1), 46, 47] : List Int) hB hF (hS _ R0_0) hc0_0 (hT 0 _ rfl).row (hT 0 _ rfl).cap _ _ _ hx2135)) (fun _ => o_q rfl rfl (q_f F38_0 rfl) (o_e rfl (zav (i := 3) rfl rfl rfl rfl Z3 rfl rfl) (fun _ => o_end (zak (zam (i2136, l113, l116, l119, i2137, i2138, A114, c115, A117, c118, A120, c121) h trivial (fun w h => za8 [2, 3, 4, 5, 6, 0] dc_ rfl w h) ?_)))))
    exact of_
   ·skip
    replace h := br_f hb2131 h
    refine c_seq (za0 (o_q rfl rfl (q_eql rfl rfl) (o_q rfl rfl (q_asg rfl) (o_end (za1 (zas _ rfl (fun hb2139 => ?_) (fun hb2139 => ?_)))))))
    ·skip
     replace h := br_t hb2139 h
     refine bindE3 h (fun i2322 i2323 i2324 hx2321 h => ?_) rfl
     refine bindE3 h (fun i2502 i2503 i2504 hx2501 h => ?_) rfl
     refine za6 h (fun l2681 ha2682 h => ?_) rfl
     refine a_startS (ds := []) [none, some 1, none, some 3, none, some 5] MO rfl (zaa 0 rfl rfl rfl kr_ (fun _ _ _ h => h) (q_f F38_2 rfl) (zaa 2 rfl rfl rfl kr_ (fun _ _ _ h => h) (za3 rfl) (zaa 4 rfl rfl rfl kr_ (fun _ _ _ h => h) (za3 rfl) (a_three 1 3 5 rfl rfl rfl rfl rfl rfl kr_ rfl rfl rfl (ev_q rfl (q_ldb Y36 rfl (fun w h => h.zac (i := 2) rfl) rfl)) (fun s w h => za5 [none, some 1, none, some 3, none, some 5] dc_ w h rfl) (za7 1 Z Tryz.func79 N79 rfl rfl rfl (fun w P1 hF hB hS hT => spec_l1Cur_pick.calls g0 A0_0 c0_0 l0_0.length l0_0 i2129 i2130 4 hB hF (hS _ R0_0) hc0_0 _ _ _ hx2321)) (fun s w h => za5 [none, some 1, none, some 3, none, some 5] dc_ w h rfl) (e_lit (vs := [(0, .int .i64 0), (1, .int .i64 1), (2, .int .i64 (-1)), (3, .int .i64 99)]) (cs := [.int .i64 0, .int .i64 1, .int .i64 (-1), .int .i64 99]) (Kd.int .i64) ([0, 1, (-1), 99] : List Int) Tryz.underlying25 I3 dc_ rfl dc_ rfl rfl (fun _ _ => Kd.zaf _)) (fun s w h => za5 [none, some 2, none, some 4, none, some 6] dc_ w h rfl) (fun _ => ?_) (fun _ => ?_) (cur2 (fun A2441 c2442 => ?_))))))
     ·skip
      refine a_two 3 5 rfl rfl rfl rfl kr_ rfl rfl (za7 1 Z Tryz.func79 N79 rfl rfl rfl (fun w P1 hF hB hS hT => spec_l1Cur_pick.calls g0 A0_0 c0_0 l0_0.length l0_0 i2129 i2130 4 hB hF (hS _ R0_0) hc0_0 _ _ _ hx2321)) (fun s w h => za5 [none, some 1, none, some 3, none, some 5] dc_ w h rfl) (e_lit (vs := [(0, .int .i64 0), (1, .int .i64 1), (2, .int .i64 (-1)), (3, .int .i64 99)]) (cs := [.int .i64 0, .int .i64 1, .int .i64 (-1), .int .i64 99]) (Kd.int .i64) ([0, 1, (-1), 99] : List Int) Tryz.underlying25 I3 dc_ rfl dc_ rfl rfl (fun _ _ => Kd.zaf _)) (fun s w h => za5 [none, some 2, none, some 4, none, some 6] dc_ w h rfl) (fun _ => ?_) (cur2 (fun A2441 c2442 => ?_))
      ·skip
       refine a_one 5 rfl rfl kr_ rfl (e_lit (vs := [(0, .int .i64 0), (1, .int .i64 1), (2, .int .i64 (-1)), (3, .int .i64 99)]) (cs := [.int .i64 0, .int .i64 1, .int .i64 (-1), .int .i64 99]) (Kd.int .i64) ([0, 1, (-1), 99] : List Int) Tryz.underlying25 I3 dc_ rfl dc_ rfl rfl (fun _ _ => Kd.zaf _)) (fun s w h => za5 [none, some 2, none, some 4, none, some 6] dc_ w h rfl) (cur2 (fun A2441 c2442 => a_pick [1, 0, 2, 3, 4, 5, 6] dc_ rfl (a_one 6 rfl rfl kr_ rfl (za7 1 Z Tryz.func80 N80 rfl rfl rfl (fun w P1 hF hB hS hT => spec_l1Cur_among.calls g0 A0_0 c0_0 l0_0.length l0_0 i2323 i2324 A2441 c2442 (([0, 1, (-1), 99] : List Int).length) ([0, 1, (-1), 99] : List Int) hB hF (hS _ R0_0) hc0_0 (hT 0 _ rfl).row (hT 0 _ rfl).cap _ _ _ hx2501)) (fun s w h => za5 [none, some 2, none, some 4, none, some 6] dc_ w h rfl) (fun _ => zaa 7 rfl rfl rfl kr_ (fun _ _ _ h => h) (zaw (vs := [(0, .int .i64 0), (1, .int .i64 i2322), (2, .int .i64 i2502)]) (cs := [.int .i64 0, .int .i64 i2322, .int .i64 i2502]) rfl rfl) (a_one 8 rfl rfl kr_ rfl (e_lit (vs := [(0, .agg #[.int .i64 0, .int .i64 i2322, .int .i64 i2502])]) (cs := [.int .i64 0, .int .i64 i2322, .int .i64 i2502]) zaq ([(⟨0, i2322, i2502⟩ : SRegOp)] : List SRegOp) Tryz.underlying36 I84 dc_ rfl dc_ rfl rfl (fun _ _ => zb4 _)) (fun s w h => za5 [none, some 3, none, some 5, none, some 7] dc_ w h rfl) (cur2 (fun A2621 c2622 => a_one 9 rfl rfl kr_ rfl (e_app (i := 6) (j := 0) Tryz.underlying36 I84 rfl dc_ dc_ rfl rfl rfl rfl rfl ha2682) (fun s w h => za5 [none, some 3, none, some 5, none, some 7] dc_ w h rfl) (cur2 (fun A2683 c2684 => zaa 10 rfl rfl rfl kr_ (fun _ _ _ h => h) (q_f F38_2 rfl) (a_one 11 rfl rfl kr_ rfl (zav (i := 4) rfl rfl rfl rfl Z36 rfl rfl) (fun s w h => za5 [none, some 3, none, some 5, none, some 7] dc_ w h rfl) (fun _ => zar kr_ (zak ?_))))))))))))
       refine zam (i112, l113, l2681, l119, i2503, i2504, A114, c115, A2683, c2684, A120, c121) h trivial (fun w h => za8 [3, 4, 5, 6, 7, 1] dc_ rfl w h) ?_
       exact of_
      ·skip
       refine a_pick [1, 0, 2, 3, 4, 5, 6] dc_ rfl (a_one 3 rfl rfl kr_ rfl (za7 1 Z Tryz.func79 N79 rfl rfl rfl (fun w P1 hF hB hS hT => spec_l1Cur_pick.calls g0 A0_0 c0_0 l0_0.length l0_0 i2129 i2130 4 hB hF (hS _ R0_0) hc0_0 _ _ _ hx2321)) (fun s w h => za5 [none, some 2, none, some 4, none, some 6] dc_ w h rfl) (fun _ => a_one 6 rfl rfl kr_ rfl (za7 1 Z Tryz.func80 N80 rfl rfl rfl (fun w P1 hF hB hS hT => spec_l1Cur_among.calls g0 A0_0 c0_0 l0_0.length l0_0 i2323 i2324 A2441 c2442 (([0, 1, (-1), 99] : List Int).length) ([0, 1, (-1), 99] : List Int) hB hF (hS _ R0_0) hc0_0 (hT 0 _ rfl).row (hT 0 _ rfl).cap _ _ _ hx2501)) (fun s w h => za5 [none, some 2, none, some 4, none, some 6] dc_ w h rfl) (fun _ => zaa 7 rfl rfl rfl kr_ (fun _ _ _ h => h) (zaw (vs := [(0, .int .i64 0), (1, .int .i64 i2322), (2, .int .i64 i2502)]) (cs := [.int .i64 0, .int .i64 i2322, .int .i64 i2502]) rfl rfl) (a_one 8 rfl rfl kr_ rfl (e_lit (vs := [(0, .agg #[.int .i64 0, .int .i64 i2322, .int .i64 i2502])]) (cs := [.int .i64 0, .int .i64 i2322, .int .i64 i2502]) zaq ([(⟨0, i2322, i2502⟩ : SRegOp)] : List SRegOp) Tryz.underlying36 I84 dc_ rfl dc_ rfl rfl (fun _ _ => zb4 _)) (fun s w h => za5 [none, some 3, none, some 5, none, some 7] dc_ w h rfl) (cur2 (fun A2621 c2622 => a_one 9 rfl rfl kr_ rfl (e_app (i := 6) (j := 0) Tryz.underlying36 I84 rfl dc_ dc_ rfl rfl rfl rfl rfl ha2682) (fun s w h => za5 [none, some 3, none, some 5, none, some 7] dc_ w h rfl) (cur2 (fun A2683 c2684 => zaa 10 rfl rfl rfl kr_ (fun _ _ _ h => h) (q_f F38_2 rfl) (a_one 11 rfl rfl kr_ rfl (zav (i := 4) rfl rfl rfl rfl Z36 rfl rfl) (fun s w h => za5 [none, some 3, none, some 5, none, some 7] dc_ w h rfl) (fun _ => zar kr_ (zak ?_)))))))))))
       refine zam (i112, l113, l2681, l119, i2503, i2504, A114, c115, A2683, c2684, A120, c121) h trivial (fun w h => za8 [3, 4, 5, 6, 7, 1] dc_ rfl w h) ?_
       exact of_
     ·skip
      refine a_two 1 5 rfl rfl rfl rfl kr_ rfl rfl (ev_q rfl (q_ldb Y36 rfl (fun w h => h.zac (i := 2) rfl) rfl)) (fun s w h => za5 [none, some 1, none, some 3, none, some 5] dc_ w h rfl) (e_lit (vs := [(0, .int .i64 0), (1, .int .i64 1), (2, .int .i64 (-1)), (3, .int .i64 99)]) (cs := [.int .i64 0, .int .i64 1, .int .i64 (-1), .int .i64 99]) (Kd.int .i64) ([0, 1, (-1), 99] : List Int) Tryz.underlying25 I3 dc_ rfl dc_ rfl rfl (fun _ _ => Kd.zaf _)) (fun s w h => za5 [none, some 2, none, some 4, none, some 6] dc_ w h rfl) (fun _ => ?_) (cur2 (fun A2441 c2442 => ?_))
      ·skip
       refine a_one 5 rfl rfl kr_ rfl (e_lit (vs := [(0, .int .i64 0), (1, .int .i64 1), (2, .int .i64 (-1)), (3, .int .i64 99)]) (cs := [.int .i64 0, .int .i64 1, .int .i64 (-1), .int .i64 99]) (Kd.int .i64) ([0, 1, (-1), 99] : List Int) Tryz.underlying25 I3 dc_ rfl dc_ rfl rfl (fun _ _ => Kd.zaf _)) (fun s w h => za5 [none, some 2, none, some 4, none, some 6] dc_ w h rfl) (cur2 (fun A2441 c2442 => a_pick [1, 0, 2, 3, 4, 5, 6] dc_ rfl (a_one 6 rfl rfl kr_ rfl (za7 1 Z Tryz.func80 N80 rfl rfl rfl (fun w P1 hF hB hS hT => spec_l1Cur_among.calls g0 A0_0 c0_0 l0_0.length l0_0 i2323 i2324 A2441 c2442 (([0, 1, (-1), 99] : List Int).length) ([0, 1, (-1), 99] : List Int) hB hF (hS _ R0_0) hc0_0 (hT 0 _ rfl).row (hT 0 _ rfl).cap _ _ _ hx2501)) (fun s w h => za5 [none, some 2, none, some 4, none, some 6] dc_ w h rfl) (fun _ => zaa 7 rfl rfl rfl kr_ (fun _ _ _ h => h) (zaw (vs := [(0, .int .i64 0), (1, .int .i64 i2322), (2, .int .i64 i2502)]) (cs := [.int .i64 0, .int .i64 i2322, .int .i64 i2502]) rfl rfl) (a_one 8 rfl rfl kr_ rfl (e_lit (vs := [(0, .agg #[.int .i64 0, .int .i64 i2322, .int .i64 i2502])]) (cs := [.int .i64 0, .int .i64 i2322, .int .i64 i2502]) zaq ([(⟨0, i2322, i2502⟩ : SRegOp)] : List SRegOp) Tryz.underlying36 I84 dc_ rfl dc_ rfl rfl (fun _ _ => zb4 _)) (fun s w h => za5 [none, some 3, none, some 5, none, some 7] dc_ w h rfl) (cur2 (fun A2621 c2622 => a_one 9 rfl rfl kr_ rfl (e_app (i := 6) (j := 0) Tryz.underlying36 I84 rfl dc_ dc_ rfl rfl rfl rfl rfl ha2682) (fun s w h => za5 [none, some 3, none, some 5, none, some 7] dc_ w h rfl) (cur2 (fun A2683 c2684 => zaa 10 rfl rfl rfl kr_ (fun _ _ _ h => h) (q_f F38_2 rfl) (a_one 11 rfl rfl kr_ rfl (zav (i := 4) rfl rfl rfl rfl Z36 rfl rfl) (fun s w h => za5 [none, some 3, none, some 5, none, some 7] dc_ w h rfl) (fun _ => zar kr_ (zak ?_))))))))))))
       refine zam (i112, l113, l2681, l119, i2503, i2504, A114, c115, A2683, c2684, A120, c121) h trivial (fun w h => za8 [3, 4, 5, 6, 7, 1] dc_ rfl w h) ?_
       exact of_
      ·skip
       refine a_two 1 6 rfl rfl rfl rfl kr_ rfl rfl (ev_q rfl (q_ldb Y36 rfl (fun w h => h.zac (i := 3) rfl) rfl)) (fun s w h => za5 [none, some 2, none, some 4, none, some 6] dc_ w h rfl) (ev_pick [1, 0, 2, 3, 4, 5, 6] dc_ rfl (za7 1 Z Tryz.func80 N80 rfl rfl rfl (fun w P1 hF hB hS hT => spec_l1Cur_among.calls g0 A0_0 c0_0 l0_0.length l0_0 i2323 i2324 A2441 c2442 (([0, 1, (-1), 99] : List Int).length) ([0, 1, (-1), 99] : List Int) hB hF (hS _ R0_0) hc0_0 (hT 0 _ rfl).row (hT 0 _ rfl).cap _ _ _ hx2501))) (fun s w h => za5 [none, some 2, none, some 4, none, some 6] dc_ w h rfl) (fun _ => ?_) (fun _ => ?_)
       ·skip
        refine a_pick [1, 0, 2, 3, 4, 5, 6] dc_ rfl (a_one 6 rfl rfl kr_ rfl (za7 1 Z Tryz.func80 N80 rfl rfl rfl (fun w P1 hF hB hS hT => spec_l1Cur_among.calls g0 A0_0 c0_0 l0_0.length l0_0 i2323 i2324 A2441 c2442 (([0, 1, (-1), 99] : List Int).length) ([0, 1, (-1), 99] : List Int) hB hF (hS _ R0_0) hc0_0 (hT 0 _ rfl).row (hT 0 _ rfl).cap _ _ _ hx2501)) (fun s w h => za5 [none, some 2, none, some 4, none, some 6] dc_ w h rfl) (fun _ => zaa 7 rfl rfl rfl kr_ (fun _ _ _ h => h) (zaw (vs := [(0, .int .i64 0), (1, .int .i64 i2322), (2, .int .i64 i2502)]) (cs := [.int .i64 0, .int .i64 i2322, .int .i64 i2502]) rfl rfl) (a_one 8 rfl rfl kr_ rfl (e_lit (vs := [(0, .agg #[.int .i64 0, .int .i64 i2322, .int .i64 i2502])]) (cs := [.int .i64 0, .int .i64 i2322, .int .i64 i2502]) zaq ([(⟨0, i2322, i2502⟩ : SRegOp)] : List SRegOp) Tryz.underlying36 I84 dc_ rfl dc_ rfl rfl (fun _ _ => zb4 _)) (fun s w h => za5 [none, some 3, none, some 5, none, some 7] dc_ w h rfl) (cur2 (fun A2621 c2622 => a_one 9 rfl rfl kr_ rfl (e_app (i := 6) (j := 0) Tryz.underlying36 I84 rfl dc_ dc_ rfl rfl rfl rfl rfl ha2682) (fun s w h => za5 [none, some 3, none, some 5, none, some 7] dc_ w h rfl) (cur2 (fun A2683 c2684 => zaa 10 rfl rfl rfl kr_ (fun _ _ _ h => h) (q_f F38_2 rfl) (a_one 11 rfl rfl kr_ rfl (zav (i := 4) rfl rfl rfl rfl Z36 rfl rfl) (fun s w h => za5 [none, some 3, none, some 5, none, some 7] dc_ w h rfl) (fun _ => zar kr_ (zak (zam (i112, l113, l2681, l119, i2503, i2504, A114, c115, A2683, c2684, A120, c121) h trivial (fun w h => za8 [3, 4, 5, 6, 7, 1] dc_ rfl w h) ?_)))))))))))
        exact of_
       ·skip
        refine zaa 7 rfl rfl rfl kr_ (fun _ _ _ h => h) (zaw (vs := [(0, .int .i64 0), (1, .int .i64 i2322), (2, .int .i64 i2502)]) (cs := [.int .i64 0, .int .i64 i2322, .int .i64 i2502]) rfl rfl) (a_two 1 8 rfl rfl rfl rfl kr_ rfl rfl (ev_q rfl (q_ldb Y36 rfl (fun w h => h.zac (i := 3) rfl) rfl)) (fun s w h => za5 [none, some 2, none, some 4, none, some 6] dc_ w h rfl) (e_lit (vs := [(0, .agg #[.int .i64 0, .int .i64 i2322, .int .i64 i2502])]) (cs := [.int .i64 0, .int .i64 i2322, .int .i64 i2502]) zaq ([(⟨0, i2322, i2502⟩ : SRegOp)] : List SRegOp) Tryz.underlying36 I84 dc_ rfl dc_ rfl rfl (fun _ _ => zb4 _)) (fun s w h => za5 [none, some 3, none, some 5, none, some 7] dc_ w h rfl) (fun _ => ?_) (cur2 (fun A2621 c2622 => ?_)))
        ·skip
         refine a_one 8 rfl rfl kr_ rfl (e_lit (vs := [(0, .agg #[.int .i64 0, .int .i64 i2322, .int .i64 i2502])]) (cs := [.int .i64 0, .int .i64 i2322, .int .i64 i2502]) zaq ([(⟨0, i2322, i2502⟩ : SRegOp)] : List SRegOp) Tryz.underlying36 I84 dc_ rfl dc_ rfl rfl (fun _ _ => zb4 _)) (fun s w h => za5 [none, some 3, none, some 5, none, some 7] dc_ w h rfl) (cur2 (fun A2621 c2622 => a_one 9 rfl rfl kr_ rfl (e_app (i := 6) (j := 0) Tryz.underlying36 I84 rfl dc_ dc_ rfl rfl rfl rfl rfl ha2682) (fun s w h => za5 [none, some 3, none, some 5, none, some 7] dc_ w h rfl) (cur2 (fun A2683 c2684 => zaa 10 rfl rfl rfl kr_ (fun _ _ _ h => h) (q_f F38_2 rfl) (a_one 11 rfl rfl kr_ rfl (zav (i := 4) rfl rfl rfl rfl Z36 rfl rfl) (fun s w h => za5 [none, some 3, none, some 5, none, some 7] dc_ w h rfl) (fun _ => zar kr_ (zak (zam (i112, l113, l2681, l119, i2503, i2504, A114, c115, A2683, c2684, A120, c121) h trivial (fun w h => za8 [3, 4, 5, 6, 7, 1] dc_ rfl w h) ?_))))))))
         exact of_
        ·skip
         refine a_one 1 rfl rfl kr_ rfl (ev_q rfl (q_ldb Y36 rfl (fun w h => h.zac (i := 4) rfl) rfl)) (fun s w h => za5 [none, some 3, none, some 5, none, some 7] dc_ w h rfl) (fun _ => a_one 9 rfl rfl kr_ rfl (e_app (i := 6) (j := 0) Tryz.underlying36 I84 rfl dc_ dc_ rfl rfl rfl rfl rfl ha2682) (fun s w h => za5 [none, some 3, none, some 5, none, some 7] dc_ w h rfl) (cur2 (fun A2683 c2684 => zaa 10 rfl rfl rfl kr_ (fun _ _ _ h => h) (q_f F38_2 rfl) (a_one 11 rfl rfl kr_ rfl (zav (i := 4) rfl rfl rfl rfl Z36 rfl rfl) (fun s w h => za5 [none, some 3, none, some 5, none, some 7] dc_ w h rfl) (fun _ => zar kr_ (zak (zam (i112, l113, l2681, l119, i2503, i2504, A114, c115, A2683, c2684, A120, c121) h trivial (fun w h => za8 [3, 4, 5, 6, 7, 1] dc_ rfl w h) ?_)))))))
         exact of_
     ·skip
      refine a_two 1 3 rfl rfl rfl rfl kr_ rfl rfl (ev_q rfl (q_ldb Y36 rfl (fun w h => h.zac (i := 3) rfl) rfl)) (fun s w h => za5 [none, some 2, none, some 4, none, some 6] dc_ w h rfl) (ev_pick [1, 0, 2, 3, 4, 5, 6] dc_ rfl (za7 1 Z Tryz.func79 N79 rfl rfl rfl (fun w P1 hF hB hS hT => spec_l1Cur_pick.calls g0 A0_0 c0_0 l0_0.length l0_0 i2129 i2130 4 hB hF (hS _ R0_0) hc0_0 _ _ _ hx2321))) (fun s w h => za5 [none, some 2, none, some 4, none, some 6] dc_ w h rfl) (fun _ => ?_) (fun _ => ?_)
      ·skip
       refine a_pick [1, 0, 2, 3, 4, 5, 6] dc_ rfl (a_one 3 rfl rfl kr_ rfl (za7 1 Z Tryz.func79 N79 rfl rfl rfl (fun w P1 hF hB hS hT => spec_l1Cur_pick.calls g0 A0_0 c0_0 l0_0.length l0_0 i2129 i2130 4 hB hF (hS _ R0_0) hc0_0 _ _ _ hx2321)) (fun s w h => za5 [none, some 2, none, some 4, none, some 6] dc_ w h rfl) (fun _ => a_one 6 rfl rfl kr_ rfl (za7 1 Z Tryz.func80 N80 rfl rfl rfl (fun w P1 hF hB hS hT => spec_l1Cur_among.calls g0 A0_0 c0_0 l0_0.length l0_0 i2323 i2324 A2441 c2442 (([0, 1, (-1), 99] : List Int).length) ([0, 1, (-1), 99] : List Int) hB hF (hS _ R0_0) hc0_0 (hT 0 _ rfl).row (hT 0 _ rfl).cap _ _ _ hx2501)) (fun s w h => za5 [none, some 2, none, some 4, none, some 6] dc_ w h rfl) (fun _ => zaa 7 rfl rfl rfl kr_ (fun _ _ _ h => h) (zaw (vs := [(0, .int .i64 0), (1, .int .i64 i2322), (2, .int .i64 i2502)]) (cs := [.int .i64 0, .int .i64 i2322, .int .i64 i2502]) rfl rfl) (a_one 8 rfl rfl kr_ rfl (e_lit (vs := [(0, .agg #[.int .i64 0, .int .i64 i2322, .int .i64 i2502])]) (cs := [.int .i64 0, .int .i64 i2322, .int .i64 i2502]) zaq ([(⟨0, i2322, i2502⟩ : SRegOp)] : List SRegOp) Tryz.underlying36 I84 dc_ rfl dc_ rfl rfl (fun _ _ => zb4 _)) (fun s w h => za5 [none, some 3, none, some 5, none, some 7] dc_ w h rfl) (cur2 (fun A2621 c2622 => a_one 9 rfl rfl kr_ rfl (e_app (i := 6) (j := 0) Tryz.underlying36 I84 rfl dc_ dc_ rfl rfl rfl rfl rfl ha2682) (fun s w h => za5 [none, some 3, none, some 5, none, some 7] dc_ w h rfl) (cur2 (fun A2683 c2684 => zaa 10 rfl rfl rfl kr_ (fun _ _ _ h => h) (q_f F38_2 rfl) (a_one 11 rfl rfl kr_ rfl (zav (i := 4) rfl rfl rfl rfl Z36 rfl rfl) (fun s w h => za5 [none, some 3, none, some 5, none, some 7] dc_ w h rfl) (fun _ => zar kr_ (zak ?_)))))))))))
       refine zam (i112, l113, l2681, l119, i2503, i2504, A114, c115, A2683, c2684, A120, c121) h trivial (fun w h => za8 [3, 4, 5, 6, 7, 1] dc_ rfl w h) ?_
       exact of_
      ·skip
       refine a_two 1 6 rfl rfl rfl rfl kr_ rfl rfl (ev_q rfl (q_ldb Y36 rfl (fun w h => h.zac (i := 3) rfl) rfl)) (fun s w h => za5 [none, some 2, none, some 4, none, some 6] dc_ w h rfl) (za7 1 Z Tryz.func80 N80 rfl rfl rfl (fun w P1 hF hB hS hT => spec_l1Cur_among.calls g0 A0_0 c0_0 l0_0.length l0_0 i2323 i2324 A2441 c2442 (([0, 1, (-1), 99] : List Int).length) ([0, 1, (-1), 99] : List Int) hB hF (hS _ R0_0) hc0_0 (hT 0 _ rfl).row (hT 0 _ rfl).cap _ _ _ hx2501)) (fun s w h => za5 [none, some 2, none, some 4, none, some 6] dc_ w h rfl) (fun _ => ?_) (fun _ => ?_)
       ·skip
        refine a_one 6 rfl rfl kr_ rfl (za7 1 Z Tryz.func80 N80 rfl rfl rfl (fun w P1 hF hB hS hT => spec_l1Cur_among.calls g0 A0_0 c0_0 l0_0.length l0_0 i2323 i2324 A2441 c2442 (([0, 1, (-1), 99] : List Int).length) ([0, 1, (-1), 99] : List Int) hB hF (hS _ R0_0) hc0_0 (hT 0 _ rfl).row (hT 0 _ rfl).cap _ _ _ hx2501)) (fun s w h => za5 [none, some 2, none, some 4, none, some 6] dc_ w h rfl) (fun _ => zaa 7 rfl rfl rfl kr_ (fun _ _ _ h => h) (zaw (vs := [(0, .int .i64 0), (1, .int .i64 i2322), (2, .int .i64 i2502)]) (cs := [.int .i64 0, .int .i64 i2322, .int .i64 i2502]) rfl rfl) (a_one 8 rfl rfl kr_ rfl (e_lit (vs := [(0, .agg #[.int .i64 0, .int .i64 i2322, .int .i64 i2502])]) (cs := [.int .i64 0, .int .i64 i2322, .int .i64 i2502]) zaq ([(⟨0, i2322, i2502⟩ : SRegOp)] : List SRegOp) Tryz.underlying36 I84 dc_ rfl dc_ rfl rfl (fun _ _ => zb4 _)) (fun s w h => za5 [none, some 3, none, some 5, none, some 7] dc_ w h rfl) (cur2 (fun A2621 c2622 => a_one 9 rfl rfl kr_ rfl (e_app (i := 6) (j := 0) Tryz.underlying36 I84 rfl dc_ dc_ rfl rfl rfl rfl rfl ha2682) (fun s w h => za5 [none, some 3, none, some 5, none, some 7] dc_ w h rfl) (cur2 (fun A2683 c2684 => zaa 10 rfl rfl rfl kr_ (fun _ _ _ h => h) (q_f F38_2 rfl) (a_one 11 rfl rfl kr_ rfl (zav (i := 4) rfl rfl rfl rfl Z36 rfl rfl) (fun s w h => za5 [none, some 3, none, some 5, none, some 7] dc_ w h rfl) (fun _ => zar kr_ (zak (zam (i112, l113, l2681, l119, i2503, i2504, A114, c115, A2683, c2684, A120, c121) h trivial (fun w h => za8 [3, 4, 5, 6, 7, 1] dc_ rfl w h) ?_))))))))))
        exact of_
       ·skip
        refine zaa 7 rfl rfl rfl kr_ (fun _ _ _ h => h) (zaw (vs := [(0, .int .i64 0), (1, .int .i64 i2322), (2, .int .i64 i2502)]) (cs := [.int .i64 0, .int .i64 i2322, .int .i64 i2502]) rfl rfl) (a_two 1 8 rfl rfl rfl rfl kr_ rfl rfl (ev_q rfl (q_ldb Y36 rfl (fun w h => h.zac (i := 3) rfl) rfl)) (fun s w h => za5 [none, some 2, none, some 4, none, some 6] dc_ w h rfl) (e_lit (vs := [(0, .agg #[.int .i64 0, .int .i64 i2322, .int .i64 i2502])]) (cs := [.int .i64 0, .int .i64 i2322, .int .i64 i2502]) zaq ([(⟨0, i2322, i2502⟩ : SRegOp)] : List SRegOp) Tryz.underlying36 I84 dc_ rfl dc_ rfl rfl (fun _ _ => zb4 _)) (fun s w h => za5 [none, some 3, none, some 5, none, some 7] dc_ w h rfl) (fun _ => ?_) (cur2 (fun A2621 c2622 => ?_)))
        ·skip
         refine a_one 8 rfl rfl kr_ rfl (e_lit (vs := [(0, .agg #[.int .i64 0, .int .i64 i2322, .int .i64 i2502])]) (cs := [.int .i64 0, .int .i64 i2322, .int .i64 i2502]) zaq ([(⟨0, i2322, i2502⟩ : SRegOp)] : List SRegOp) Tryz.underlying36 I84 dc_ rfl dc_ rfl rfl (fun _ _ => zb4 _)) (fun s w h => za5 [none, some 3, none, some 5, none, some 7] dc_ w h rfl) (cur2 (fun A2621 c2622 => a_one 9 rfl rfl kr_ rfl (e_app (i := 6) (j := 0) Tryz.underlying36 I84 rfl dc_ dc_ rfl rfl rfl rfl rfl ha2682) (fun s w h => za5 [none, some 3, none, some 5, none, some 7] dc_ w h rfl) (cur2 (fun A2683 c2684 => zaa 10 rfl rfl rfl kr_ (fun _ _ _ h => h) (q_f F38_2 rfl) (a_one 11 rfl rfl kr_ rfl (zav (i := 4) rfl rfl rfl rfl Z36 rfl rfl) (fun s w h => za5 [none, some 3, none, some 5, none, some 7] dc_ w h rfl) (fun _ => zar kr_ (zak (zam (i112, l113, l2681, l119, i2503, i2504, A114, c115, A2683, c2684, A120, c121) h trivial (fun w h => za8 [3, 4, 5, 6, 7, 1] dc_ rfl w h) ?_))))))))
         exact of_
        ·skip
         refine a_one 1 rfl rfl kr_ rfl (ev_q rfl (q_ldb Y36 rfl (fun w h => h.zac (i := 4) rfl) rfl)) (fun s w h => za5 [none, some 3, none, some 5, none, some 7] dc_ w h rfl) (fun _ => a_one 9 rfl rfl kr_ rfl (e_app (i := 6) (j := 0) Tryz.underlying36 I84 rfl dc_ dc_ rfl rfl rfl rfl rfl ha2682) (fun s w h => za5 [none, some 3, none, some 5, none, some 7] dc_ w h rfl) (cur2 (fun A2683 c2684 => zaa 10 rfl rfl rfl kr_ (fun _ _ _ h => h) (q_f F38_2 rfl) (a_one 11 rfl rfl kr_ rfl (zav (i := 4) rfl rfl rfl rfl Z36 rfl rfl) (fun s w h => za5 [none, some 3, none, some 5, none, some 7] dc_ w h rfl) (fun _ => zar kr_ (zak (zam (i112, l113, l2681, l119, i2503, i2504, A114, c115, A2683, c2684, A120, c121) h trivial (fun w h => za8 [3, 4, 5, 6, 7, 1] dc_ rfl w h) ?_)))))))
         exact of_
    ·skip
     replace h := br_f hb2139 h
     refine c_seq (za0 (o_q rfl rfl (q_eql rfl rfl) (o_q rfl rfl (q_asg rfl) (o_end (za1 (zas _ rfl (fun hb2921 => ?_) (fun hb2921 => ?_)))))))
     ·skip
      replace h := br_t hb2921 h
      refine bindE3 h (fun i3104 i3105 i3106 hx3103 h => ?_) rfl
      refine za6 h (fun l3223 ha3224 h => ?_) rfl
      refine a_startS (ds := []) [none, some 1, none, none, some 4, some 5] MO rfl (zaa 0 rfl rfl rfl kr_ (fun _ _ _ h => h) (q_f F38_1 rfl) (zaa 2 rfl rfl rfl kr_ (fun _ _ _ h => h) (za3 rfl) (a_two 1 3 rfl rfl rfl rfl kr_ rfl rfl (ev_q rfl (q_ldb Y25 rfl (fun w h => h.zac (i := 2) rfl) rfl)) (fun s w h => za5 [none, some 1, none, none, some 4, some 5] dc_ w h rfl) (za7 1 Z Tryz.func79 N79 rfl rfl rfl (fun w P1 hF hB hS hT => spec_l1Cur_pick.calls g0 A0_0 c0_0 l0_0.length l0_0 i2129 i2130 3 hB hF (hS _ R0_0) hc0_0 _ _ _ hx3103)) (fun s w h => za5 [none, some 1, none, none, some 4, some 5] dc_ w h rfl) (fun _ => ?_) (fun _ => ?_))))
      ·skip
       refine a_one 3 rfl rfl kr_ rfl (za7 1 Z Tryz.func79 N79 rfl rfl rfl (fun w P1 hF hB hS hT => spec_l1Cur_pick.calls g0 A0_0 c0_0 l0_0.length l0_0 i2129 i2130 3 hB hF (hS _ R0_0) hc0_0 _ _ _ hx3103)) (fun s w h => za5 [none, some 1, none, none, some 4, some 5] dc_ w h rfl) (fun _ => a_one 4 rfl rfl kr_ rfl (e_lit (vs := [(0, .int .i64 i3104)]) (cs := [.int .i64 i3104]) (Kd.int .i64) ([i3104] : List Int) Tryz.underlying25 I3 dc_ rfl dc_ rfl rfl (fun _ _ => Kd.zaf _)) (fun s w h => za5 [none, some 2, none, none, some 5, some 6] dc_ w h rfl) (cur2 (fun A3163 c3164 => a_one 5 rfl rfl kr_ rfl (e_app (i := 4) (j := 0) Tryz.underlying25 I3 rfl dc_ dc_ rfl rfl rfl rfl rfl ha3224) (fun s w h => za5 [none, some 2, none, none, some 5, some 6] dc_ w h rfl) (cur2 (fun A3225 c3226 => zaa 6 rfl rfl rfl kr_ (fun _ _ _ h => h) (q_f F38_1 rfl) (a_one 7 rfl rfl kr_ rfl (zav (i := 3) rfl rfl rfl rfl Z25 rfl rfl) (fun s w h => za5 [none, some 2, none, none, some 5, some 6] dc_ w h rfl) (fun _ => zar kr_ (zak (zam (i112, l3223, l116, l119, i3105, i3106, A3225, c3226, A117, c118, A120, c121) h trivial (fun w h => za8 [2, 3, 4, 5, 6, 1] dc_ rfl w h) ?_)))))))))
       exact of_
      ·skip
       refine a_two 1 4 rfl rfl rfl rfl kr_ rfl rfl (ev_q rfl (q_ldb Y25 rfl (fun w h => h.zac (i := 2) rfl) rfl)) (fun s w h => za5 [none, some 1, none, none, some 4, some 5] dc_ w h rfl) (e_lit (vs := [(0, .int .i64 i3104)]) (cs := [.int .i64 i3104]) (Kd.int .i64) ([i3104] : List Int) Tryz.underlying25 I3 dc_ rfl dc_ rfl rfl (fun _ _ => Kd.zaf _)) (fun s w h => za5 [none, some 2, none, none, some 5, some 6] dc_ w h rfl) (fun _ => ?_) (cur2 (fun A3163 c3164 => ?_))
       ·skip
        refine a_one 4 rfl rfl kr_ rfl (e_lit (vs := [(0, .int .i64 i3104)]) (cs := [.int .i64 i3104]) (Kd.int .i64) ([i3104] : List Int) Tryz.underlying25 I3 dc_ rfl dc_ rfl rfl (fun _ _ => Kd.zaf _)) (fun s w h => za5 [none, some 2, none, none, some 5, some 6] dc_ w h rfl) (cur2 (fun A3163 c3164 => a_one 5 rfl rfl kr_ rfl (e_app (i := 4) (j := 0) Tryz.underlying25 I3 rfl dc_ dc_ rfl rfl rfl rfl rfl ha3224) (fun s w h => za5 [none, some 2, none, none, some 5, some 6] dc_ w h rfl) (cur2 (fun A3225 c3226 => zaa 6 rfl rfl rfl kr_ (fun _ _ _ h => h) (q_f F38_1 rfl) (a_one 7 rfl rfl kr_ rfl (zav (i := 3) rfl rfl rfl rfl Z25 rfl rfl) (fun s w h => za5 [none, some 2, none, none, some 5, some 6] dc_ w h rfl) (fun _ => zar kr_ (zak (zam (i112, l3223, l116, l119, i3105, i3106, A3225, c3226, A117, c118, A120, c121) h trivial (fun w h => za8 [2, 3, 4, 5, 6, 1] dc_ rfl w h) ?_))))))))
        exact of_
       ·skip
        refine a_one 1 rfl rfl kr_ rfl (ev_q rfl (q_ldb Y25 rfl (fun w h => h.zac (i := 3) rfl) rfl)) (fun s w h => za5 [none, some 2, none, none, some 5, some 6] dc_ w h rfl) (fun _ => a_one 5 rfl rfl kr_ rfl (e_app (i := 4) (j := 0) Tryz.underlying25 I3 rfl dc_ dc_ rfl rfl rfl rfl rfl ha3224) (fun s w h => za5 [none, some 2, none, none, some 5, some 6] dc_ w h rfl) (cur2 (fun A3225 c3226 => zaa 6 rfl rfl rfl kr_ (fun _ _ _ h => h) (q_f F38_1 rfl) (a_one 7 rfl rfl kr_ rfl (zav (i := 3) rfl rfl rfl rfl Z25 rfl rfl) (fun s w h => za5 [none, some 2, none, none, some 5, some 6] dc_ w h rfl) (fun _ => zar kr_ (zak (zam (i112, l3223, l116, l119, i3105, i3106, A3225, c3226, A117, c118, A120, c121) h trivial (fun w h => za8 [2, 3, 4, 5, 6, 1] dc_ rfl w h) ?_)))))))
        exact of_
     ·skip
      replace h := br_f hb2921 h
      refine c_seq (za0 (o_q rfl rfl (q_eql rfl rfl) (o_q rfl rfl (q_asg rfl) (o_end (za1 (zas _ rfl (fun hb3463 => ?_) (fun hb3463 => ?_)))))))
      ·skip
       replace h := br_t hb3463 h
       refine bindE3 h (fun i3646 i3647 i3648 hx3645 h => ?_) rfl
       refine za6 h (fun l3765 ha3766 h => ?_) rfl
       refine a_startS (ds := []) [none, some 1, none, some 3, some 4, none] MO rfl (zaa 0 rfl rfl rfl kr_ (fun _ _ _ h => h) (q_f F38_3 rfl) (zaa 2 rfl rfl rfl kr_ (fun _ _ _ h => h) (za3 rfl) (a_two 1 3 rfl rfl rfl rfl kr_ rfl rfl (ev_q rfl (q_ldb Y25 rfl (fun w h => h.zac (i := 2) rfl) rfl)) (fun s w h => za5 [none, some 1, none, some 3, some 4, none] dc_ w h rfl) (za7 1 Z Tryz.func79 N79 rfl rfl rfl (fun w P1 hF hB hS hT => spec_l1Cur_pick.calls g0 A0_0 c0_0 l0_0.length l0_0 i2129 i2130 6 hB hF (hS _ R0_0) hc0_0 _ _ _ hx3645)) (fun s w h => za5 [none, some 1, none, some 3, some 4, none] dc_ w h rfl) (fun _ => ?_) (fun _ => ?_))))
       ·skip
        refine a_one 3 rfl rfl kr_ rfl (za7 1 Z Tryz.func79 N79 rfl rfl rfl (fun w P1 hF hB hS hT => spec_l1Cur_pick.calls g0 A0_0 c0_0 l0_0.length l0_0 i2129 i2130 6 hB hF (hS _ R0_0) hc0_0 _ _ _ hx3645)) (fun s w h => za5 [none, some 1, none, some 3, some 4, none] dc_ w h rfl) (fun _ => a_one 4 rfl rfl kr_ rfl (e_lit (vs := [(0, .int .i64 i3646)]) (cs := [.int .i64 i3646]) (Kd.int .i64) ([i3646] : List Int) Tryz.underlying25 I3 dc_ rfl dc_ rfl rfl (fun _ _ => Kd.zaf _)) (fun s w h => za5 [none, some 2, none, some 4, some 5, none] dc_ w h rfl) (cur2 (fun A3705 c3706 => a_one 5 rfl rfl kr_ rfl (e_app (i := 6) (j := 0) Tryz.underlying25 I3 rfl dc_ dc_ rfl rfl rfl rfl rfl ha3766) (fun s w h => za5 [none, some 2, none, some 4, some 5, none] dc_ w h rfl) (cur2 (fun A3767 c3768 => zaa 6 rfl rfl rfl kr_ (fun _ _ _ h => h) (q_f F38_3 rfl) (a_one 7 rfl rfl kr_ rfl (zav (i := 3) rfl rfl rfl rfl Z25 rfl rfl) (fun s w h => za5 [none, some 2, none, some 4, some 5, none] dc_ w h rfl) (fun _ => zar kr_ (zak (zam (i112, l113, l116, l3765, i3647, i3648, A114, c115, A117, c118, A3767, c3768) h trivial (fun w h => za8 [2, 3, 4, 5, 6, 1] dc_ rfl w h) ?_)))))))))
        exact of_
       ·skip
        refine a_two 1 4 rfl rfl rfl rfl kr_ rfl rfl (ev_q rfl (q_ldb Y25 rfl (fun w h => h.zac (i := 2) rfl) rfl)) (fun s w h => za5 [none, some 1, none, some 3, some 4, none] dc_ w h rfl) (e_lit (vs := [(0, .int .i64 i3646)]) (cs := [.int .i64 i3646]) (Kd.int .i64) ([i3646] : List Int) Tryz.underlying25 I3 dc_ rfl dc_ rfl rfl (fun _ _ => Kd.zaf _)) (fun s w h => za5 [none, some 2, none, some 4, some 5, none] dc_ w h rfl) (fun _ => ?_) (cur2 (fun A3705 c3706 => ?_))
        ·skip
         refine a_one 4 rfl rfl kr_ rfl (e_lit (vs := [(0, .int .i64 i3646)]) (cs := [.int .i64 i3646]) (Kd.int .i64) ([i3646] : List Int) Tryz.underlying25 I3 dc_ rfl dc_ rfl rfl (fun _ _ => Kd.zaf _)) (fun s w h => za5 [none, some 2, none, some 4, some 5, none] dc_ w h rfl) (cur2 (fun A3705 c3706 => a_one 5 rfl rfl kr_ rfl (e_app (i := 6) (j := 0) Tryz.underlying25 I3 rfl dc_ dc_ rfl rfl rfl rfl rfl ha3766) (fun s w h => za5 [none, some 2, none, some 4, some 5, none] dc_ w h rfl) (cur2 (fun A3767 c3768 => zaa 6 rfl rfl rfl kr_ (fun _ _ _ h => h) (q_f F38_3 rfl) (a_one 7 rfl rfl kr_ rfl (zav (i := 3) rfl rfl rfl rfl Z25 rfl rfl) (fun s w h => za5 [none, some 2, none, some 4, some 5, none] dc_ w h rfl) (fun _ => zar kr_ (zak (zam (i112, l113, l116, l3765, i3647, i3648, A114, c115, A117, c118, A3767, c3768) h trivial (fun w h => za8 [2, 3, 4, 5, 6, 1] dc_ rfl w h) ?_))))))))
         exact of_
        ·skip
         refine a_one 1 rfl rfl kr_ rfl (ev_q rfl (q_ldb Y25 rfl (fun w h => h.zac (i := 3) rfl) rfl)) (fun s w h => za5 [none, some 2, none, some 4, some 5, none] dc_ w h rfl) (fun _ => a_one 5 rfl rfl kr_ rfl (e_app (i := 6) (j := 0) Tryz.underlying25 I3 rfl dc_ dc_ rfl rfl rfl rfl rfl ha3766) (fun s w h => za5 [none, some 2, none, some 4, some 5, none] dc_ w h rfl) (cur2 (fun A3767 c3768 => zaa 6 rfl rfl rfl kr_ (fun _ _ _ h => h) (q_f F38_3 rfl) (a_one 7 rfl rfl kr_ rfl (zav (i := 3) rfl rfl rfl rfl Z25 rfl rfl) (fun s w h => za5 [none, some 2, none, some 4, some 5, none] dc_ w h rfl) (fun _ => zar kr_ (zak (zam (i112, l113, l116, l3765, i3647, i3648, A114, c115, A117, c118, A3767, c3768) h trivial (fun w h => za8 [2, 3, 4, 5, 6, 1] dc_ rfl w h) ?_)))))))
         exact of_
      ·skip
       replace h := br_f hb3463 h
       refine zal (zak (zam (i112, l113, l116, l119, i2129, i2130, A114, c115, A117, c118, A120, c121) h trivial (fun w h => za8 [1, 2, 3, 4, 5, 0] dc_ rfl w h) ?_))
       exact of_
  ·skip
   refine (cur12 (fun i2110 l2111 l2114 l2117 i2120 i2121 A2112 c2113 A2115 c2116 A2118 c2119 => fun U2125 hJ2126 => ?_))
   have e_ := si_ hJ2126; have h := hR2124; rw [← e_] at h; clear e_ hJ2126 hR2124 hl2123
   refine c_seq (za0 (o_q rfl rfl (q_ldB G38 Z38 rfl (fun w h => h.zac (i := 1) rfl) rfl) (o_e rfl (zae (i := 0) rfl rfl rfl Z38 rfl rfl) (fun _ => o_end (za1 (c_ret ?_))))))
   have e0_ := si_ h; clear h
   obtain ⟨rfl, e1_⟩ := Prod.mk.inj e0_
   obtain ⟨rfl, e2_⟩ := Prod.mk.inj e1_
   obtain ⟨rfl, e3_⟩ := Prod.mk.inj e2_
   obtain ⟨rfl, e4_⟩ := Prod.mk.inj e3_
   obtain ⟨rfl, e5_⟩ := Prod.mk.inj e4_
   subst e5_
   exact x_r1 (A2112, c2113, A2115, c2116, A2118, c2119) Tryz.results65 (zb8 rfl G38 Z38 (fun w h => h.zac (i := 0) rfl) rfl) rfl (fun w h => za8 [2, 3, 4, 5] dc_ rfl w h)

def spec_l1Cur_permutation.l0 (l0_0 : List Int) (a1 : Int) : Nat → (List Int) → Int → Int → Int → Option ((List Int) × Int × Int)
 | 0, _, _, _, _ => none
 | k10 + 1, l2, i5, i6, i7 => if i7 < a1 then ((spec_l1Cur_pick.f l0_0 i5 i6 (w64 (i7 + 1))).bind fun (i20, i21, i22) => (ct l2 (0 : Int) i20).bind fun l26 => (ap ([] : List Int) l26).bind fun l29 => (ap l29 ([i7] : List Int)).bind fun l36 => (ct l2 i20 (l2.length : Int)).bind fun l40 => (ap l36 l40).bind fun l43 => spec_l1Cur_permutation.l0 l0_0 a1 k10 l43 i21 i22 (w64 (i7 + 1))) else (some (l2, i5, i6))
def spec_l1Cur_permutation.f (k : Nat) (l0_0 : List Int) (a0_1 : Int) (a0_2 : Int) (a1 : Int) : Option ((List Int) × Int × Int) := (spec_l1Cur_permutation.l0 l0_0 a1 k ([] : List Int) a0_1 a0_2 0).bind fun (l2, i5, i6) => (if 0 < (l2.length : Int) then ((spec_l1Cur_one.f l0_0 i5 i6 40).bind fun (b62, i63, i64) => some (i63, i64, b62)) else (some (i5, i6, false))).bind fun (i52, i53, b54) => if b54 = true then ((spec_l1Cur_pick.f l0_0 i52 i53 (l2.length : Int)).bind fun (i67, i68, i69) => (spec_l1Cur_among.f l0_0 i68 i69 ([(-1), 0, a1, 4611686018427387904] : List Int)).bind fun (i74, i75, i76) => (gt l2 i67).bind fun y79 => (st l2 i67 i74).bind fun l80 => some (l80, i75, i76)) else (some (l2, i52, i53))
theorem spec_l1Cur_permutation.calls (k : Nat) {w0 ws : World} {P0 : Nat → Prop} (g0 : Nat) (A0_0 : Option Addr) (c0_0 : Nat) (n0_0 : Nat) (l0_0 : List Int) (a0_1 : Int) (a0_2 : Int) (a1 : Int) (Z : Below w0.heap.size w0 ws) (hF : Fr w0 ws P0 [box g0 54 #[.slice A0_0 n0_0 c0_0, .int .i64 a0_1, .int .u64 a0_2]] ws) (R0_0 : Stable ws P0 (fun w => Kd.C (Kd.int .u8) w A0_0 n0_0 l0_0)) (hc0_0 : n0_0 ≤ c0_0) (r_1 : List Int) (r_4 : Int) (r_5 : Int) (h : spec_l1Cur_permutation.f k l0_0 a0_1 a0_2 a1 = some (r_1, r_4, r_5)) :
  Calls Tryz.prog 66 #[.pointer (some ⟨g0, 0, none⟩), .int .i64 a1] ws (Post1 w0 ws P0 (fun ((q_2, q_3) : (Option Addr) × Nat) => .slice q_2 r_1.length q_3) (fun ((q_2, q_3) : (Option Addr) × Nat) => [row (Kd.int .i64) 3 (.slice q_2 r_1.length q_3) r_1, box g0 54 #[.slice A0_0 n0_0 c0_0, .int .i64 r_4, .int .u64 r_5]])) := by
 unfold spec_l1Cur_permutation.f at h
 obtain rfl := (R0_0 ws (KeptB.refl _ _)).1
 refine enter Tryz.func66 rfl Tryz.ntmps66 rfl hF (c_seq (za0 (o_q rfl rfl (q_asg rfl) (o_end (za1 (c_seq (za0 (o_q rfl rfl (q_asg rfl) (o_end ?_)))))))))
 refine za1 (c_seq (c_seq (za0 (o_q rfl rfl (q_asg rfl) (o_end (za1 (zah (c_nil (Kd.int .i64) 3 (za6 h (fun o15 hl14 hR13 => ?_) rfl)))))))))
 clear h
 refine zax (σ := (List Int) × Int × Int × Int × (Option Addr) × Nat) (fun k10 ((l2, i5, i6, i7, A3, c4) : (List Int) × Int × Int × Int × (Option Addr) × Nat) => spec_l1Cur_permutation.l0 l0_0 a1 k10 l2 i5 i6 i7 = some o15) [5, 6, 7, 8, 9, 10, 11, 12, 13, 14, 15, 16, 17, 18, 19, 20, 21, 22, 23, 24, 25, 26, 27, 28, 29, 30, 31] (fun ((l2, i5, i6, i7, A3, c4) : (List Int) × Int × Int × Int × (Option Addr) × Nat) => [(5, .slice A3 l2.length c4), (6, .int .i64 i7)]) (fun ((l2, i5, i6, i7, A3, c4) : (List Int) × Int × Int × Int × (Option Addr) × Nat) => [row (Kd.int .i64) 3 (.slice A3 l2.length c4) l2, box g0 54 #[.slice A0_0 l0_0.length c0_0, .int .i64 i5, .int .u64 i6]]) k (([] : List Int), a0_1, a0_2, 0, none, 0) hl14 ⟨rfl, rfl, trivial⟩ (fun w h => h) (natC (cur6 (fun l2 i5 i6 i7 A3 c4 => fun U16 hJ_ => ?_)) (fun k10 => (cur6 (fun l2 i5 i6 i7 A3 c4 => fun U16 hJ_ => ?_))))
 ·skip
  replace hJ_ : spec_l1Cur_permutation.l0 l0_0 a1 0 l2 i5 i6 i7 = some o15 := hJ_
  rw [spec_l1Cur_permutation.l0] at hJ_
  exact noneE hJ_
 ·skip
  clear hl14
  have h := hJ_; clear hJ_
  replace h : spec_l1Cur_permutation.l0 l0_0 a1 (k10 + 1) l2 i5 i6 i7 = some o15 := h
  rw [spec_l1Cur_permutation.l0] at h
  refine c_seq (c_seq (za0 (o_q rfl rfl (za3 rfl) (o_q rfl rfl (za3 rfl) (o_q rfl rfl (q_lss rfl rfl) (o_end (za1 (zas _ rfl (fun hb18 => ?_) (fun hb18 => ?_)))))))))
  ·skip
   replace h := br_t hb18 h
   refine zal (za1 (c_seq (zah (c_seq (za0 (o_q rfl rfl (za3 rfl) (o_q rfl rfl (za3 rfl) (o_q rfl rfl (zb5 rfl rfl) (o_pick [1, 0] dc_ rfl ?_)))))))))
   refine bindE3 h (fun i20 i21 i22 hx19 h => ?_) rfl
   refine o_e rfl (za7 1 Z Tryz.func79 N79 rfl rfl rfl (fun w P1 hF hB hS hT => spec_l1Cur_pick.calls g0 A0_0 c0_0 l0_0.length l0_0 i5 i6 (w64 (i7 + 1)) hB hF (hS _ R0_0) hc0_0 _ _ _ hx19)) (fun _ => o_q rfl rfl (q_asg rfl) (o_end (za1 (c_seq (za0 (o_e rfl (e_lit0 (Kd.int .i64) Tryz.underlying25 I3) (cur2 (fun A23 c24 => o_q rfl rfl (za3 rfl) (o_q rfl rfl (za3 rfl) (za6 h (fun l26 hz27 h => ?_) rfl))))))))))
   refine zb0 (p := l2.length = l2.length ∧ l2.length ≤ c4) (fun w h => h.row_nc (i := 2) rfl) (fun hk28 => o_q rfl rfl (q_ctv Tryz.underlying25 Z3 rfl rfl ⟨_, rfl⟩ hk28.1 hk28.2 hz27) (za6 h (fun l29 ha30 h => ?_) rfl))
   refine o_e rfl (e_appr (i := 0) Tryz.underlying25 I3 rfl dc_ dc_ (fun _ _ _ _ h => h) rfl (fun w h => C_cut (dk := (Kd.int .i64)) rfl hz27 hk28.2 (h.zat (i := 2) rfl)) rfl rfl ha30) (cur2 (fun A31 c32 => o_q rfl rfl (q_asg rfl) (o_end (za1 (c_seq (za0 (o_q rfl rfl (za3 rfl) (o_q rfl rfl (za3 rfl) (o_e rfl (e_lit (vs := [(0, .int .i64 i7)]) (cs := [.int .i64 i7]) (Kd.int .i64) ([i7] : List Int) Tryz.underlying25 I3 dc_ rfl dc_ rfl rfl (fun _ _ => Kd.zaf _)) (cur2 (fun A33 c34 => za6 h (fun l36 ha37 h => ?_) rfl)))))))))))
   refine o_e rfl (e_app (i := 1) (j := 0) Tryz.underlying25 I3 rfl dc_ dc_ rfl rfl rfl rfl rfl ha37) (cur2 (fun A38 c39 => o_q rfl rfl (q_asg rfl) (o_end (za1 (za0 (o_q rfl rfl (za3 rfl) (o_q rfl rfl (za3 rfl) (o_q rfl rfl (za3 rfl) (za6 h (fun l40 hz41 h => ?_) rfl)))))))))
   refine zb0 (p := l2.length = l2.length ∧ l2.length ≤ c4) (fun w h => h.row_nc (i := 3) rfl) (fun hk42 => o_q rfl rfl (q_ctv Tryz.underlying25 Z3 rfl ⟨_, rfl⟩ rfl hk42.1 hk42.2 hz41) (za6 h (fun l43 ha44 h => ?_) rfl))
   refine o_e rfl (e_appr (i := 1) Tryz.underlying25 I3 rfl dc_ dc_ (fun _ _ _ _ h => h) rfl (fun w h => C_cut (dk := (Kd.int .i64)) rfl hz41 hk42.2 (h.zat (i := 3) rfl)) rfl rfl ha44) (cur2 (fun A45 c46 => o_q rfl rfl (q_asg rfl) (o_end (zak (za1 (za0 (o_q rfl rfl (za3 rfl) (o_q rfl rfl (zb5 rfl rfl) (o_q rfl rfl (q_asg rfl) (o_end ?_))))))))))
   refine zaj k10 (l43, i21, i22, w64 (i7 + 1), A45, c46) (Nat.lt_succ_self _) h ⟨rfl, rfl, trivial⟩ (fun w h => za8 [1, 2] dc_ rfl w h) ?_
   exact of_
  ·skip
   replace h := br_f hb18 h
   refine zb2 (zab (zab ?_))
   have e_ := si_ h; replace h := hR13; rw [← e_] at h; clear e_
   refine x_hit (za1 (c_seq (za6 h (fun o55 hl56 hR57 => ?_) rfl)))
   clear h
   refine c_cutJ (σ := Int × Int × Bool) (fun (i52, i53, b54) => some (i52, i53, b54) = some o55) [32, 33, 34, 35, 36, 37, 38] (fun (i52, i53, b54) => [(38, .bool b54)]) (fun (i52, i53, b54) => [box g0 54 #[.slice A0_0 l0_0.length c0_0, .int .i64 i52, .int .u64 i53], row (Kd.int .i64) 3 (.slice A3 l2.length c4) l2]) ?_ ?_
   ·skip
    have h := hl56; clear hl56
    clear hR57
    refine za0 (o_q rfl rfl (za3 rfl) (o_q rfl rfl (q_len Tryz.underlying25 rfl) (o_q rfl rfl (q_gtr rfl rfl) (o_q rfl rfl (za3 rfl) (byB (decide (0 < (l2.length : Int))) (fun hb60 => ?_) (fun hb60 => ?_))))))
    ·replace h := br_t hb60 h
     refine o_w (za4 rfl rfl rfl (vb_ hb60)) rfl (za3 rfl) (o_pick [1, 0] dc_ rfl (bindE3 h (fun b62 i63 i64 hx61 h => ?_) rfl))
     refine o_ew (za4 rfl rfl rfl (vb_ hb60)) (za7 1 Z Tryz.func48 N48 rfl rfl rfl (fun w P1 hF hB hS hT => spec_l1Cur_one.calls g0 A0_0 c0_0 l0_0.length l0_0 i5 i6 40 hB hF (hS _ R0_0) hc0_0 _ _ _ hx61)) (fun _ => o_q rfl rfl (zai true (vb_ hb60) rfl) (o_end (zam (i63, i64, b62) h ⟨rfl, trivial⟩ (fun w h => za8 [0, 1] dc_ rfl w h) ?_)))
     exact of_
    ·replace h := br_f hb60 h
     refine o_n (d := 36) (za2 rfl rfl rfl (vb_ hb60) rfl) (Eq.refl (some 36)) (o_n (d := 37) (za2 rfl rfl rfl (vb_ hb60) rfl) (Eq.refl (some 37)) (o_q rfl rfl (zai false (vb_ hb60) rfl) (o_end (zam (i5, i6, false) h ⟨rfl, trivial⟩ (fun w h => za8 [1, 0] dc_ rfl w h) ?_))))
     exact of_
   ·skip
    refine (cur3 (fun i52 i53 b54 => fun U58 hJ59 => ?_))
    have e_ := si_ hJ59; have h := hR57; rw [← e_] at h; clear e_ hJ59 hR57 hl56
    refine zas _ rfl (fun hb65 => ?_) (fun hb65 => ?_)
    ·skip
     replace h := bb_t hb65 h
     refine za0 (o_q rfl rfl (za3 rfl) (o_q rfl rfl (za3 rfl) (o_q rfl rfl (za3 rfl) (o_q rfl rfl (q_len Tryz.underlying25 rfl) (bindE3 h (fun i67 i68 i69 hx66 h => ?_) rfl)))))
     refine o_e rfl (za7 1 Z Tryz.func79 N79 rfl rfl rfl (fun w P1 hF hB hS hT => spec_l1Cur_pick.calls g0 A0_0 c0_0 l0_0.length l0_0 i52 i53 (l2.length : Int) hB hF (hS _ R0_0) hc0_0 _ _ _ hx66)) (fun _ => o_q rfl rfl (za3 rfl) (o_q rfl rfl (za3 rfl) (o_e rfl (e_lit (vs := [(0, .int .i64 (-1)), (1, .int .i64 0), (2, .int .i64 a1), (3, .int .i64 4611686018427387904)]) (cs := [.int .i64 (-1), .int .i64 0, .int .i64 a1, .int .i64 4611686018427387904]) (Kd.int .i64) ([(-1), 0, a1, 4611686018427387904] : List Int) Tryz.underlying25 I3 dc_ rfl dc_ rfl rfl (fun _ _ => Kd.zaf _)) (cur2 (fun A70 c71 => o_pick [1, 0, 2] dc_ rfl (bindE3 h (fun i74 i75 i76 hx73 h => ?_) rfl))))))
     refine o_e rfl (za7 1 Z Tryz.func80 N80 rfl rfl rfl (fun w P1 hF hB hS hT => spec_l1Cur_among.calls g0 A0_0 c0_0 l0_0.length l0_0 i68 i69 A70 c71 (([(-1), 0, a1, 4611686018427387904] : List Int).length) ([(-1), 0, a1, 4611686018427387904] : List Int) hB hF (hS _ R0_0) hc0_0 (hT 0 _ rfl).row (hT 0 _ rfl).cap _ _ _ hx73)) (fun _ => zb0 (p := Sh A3 l2.length l2.length) (fun w h => f_sh (dk := (Kd.int .i64)) h (fun w h => h.zat (i := 2) rfl)) (fun hq77 => za6 h (fun y79 hg78 h => ?_) rfl))
     refine o_q rfl rfl (q_ix Tryz.underlying25 Z3 rfl rfl hq77 hg78) (za6 h (fun l80 hs81 h => ?_) rfl)
     refine o_e rfl (e_set (i := 2) rfl rfl rfl Z3 hs81) (fun _ => o_end (za1 (c_seq (za0 (o_q rfl rfl (za3 rfl) (o_q rfl rfl (q_asg rfl) (o_end (za1 (c_ret ?_)))))))))
     refine x_fact (p := l2.length = l80.length) (fun w h => (h.row_C (i := 2) rfl).2.1) (fun hn82 => ?_)
     have e0_ := si_ h; clear h
     obtain ⟨rfl, e1_⟩ := Prod.mk.inj e0_
     obtain ⟨rfl, e2_⟩ := Prod.mk.inj e1_
     subst e2_
     exact x_r1 (A3, c4) Tryz.results66 (zad (v := .slice A3 l2.length c4) rfl) (by (try rw [hn82]); first | done | rfl) (f_pickE (L1 := [box g0 54 #[.slice A0_0 l0_0.length c0_0, .int .i64 i75, .int .u64 i76], row (Kd.int .i64) 3 (.slice A70 (([(-1), 0, a1, 4611686018427387904] : List Int).length) c71) ([(-1), 0, a1, 4611686018427387904] : List Int), row (Kd.int .i64) 3 (.slice A3 l2.length c4) l80]) rfl [2, 0] dc_ rfl (by (try rw [hn82]); first | done | rfl))
    ·skip
     replace h := bb_f hb65 h
     refine zal (za1 (c_seq (za0 (o_q rfl rfl (za3 rfl) (o_q rfl rfl (q_asg rfl) (o_end (za1 (c_ret ?_))))))))
     have e0_ := si_ h; clear h
     obtain ⟨rfl, e1_⟩ := Prod.mk.inj e0_
     obtain ⟨rfl, e2_⟩ := Prod.mk.inj e1_
     subst e2_
     exact x_r1 (A3, c4) Tryz.results66 (zad rfl) rfl (fun w h => za8 [1, 0] dc_ rfl w h)

def spec_DrawRenameRegisters.f (k : Nat) (l0 : List Int) : Option (Int × (List Int) × (List SRegOp) × (List Int) × (List Int)) := (spec_l1Cur_code9.f k l0 0 0).bind fun (i6, l7, l8, l9, i10, i11) => (spec_l1Least.f i6 50).bind fun i21 => (spec_l1Most.f 0 i21).bind fun i23 => (spec_l1Cur_permutation.f k l0 i10 i11 i23).bind fun (l25, i26, i27) => ((spec_l1Cur_one.f l0 i26 i27 10).bind fun (b53, i54, i55) => if b53 = true then ((ap l25 ([0] : List Int)).bind fun l60 => some (l60, i54, i55)) else (some (l25, i54, i55))).bind fun (l42, i45, i46) => some (i6, l7, l8, l9, l42)
theorem spec_DrawRenameRegisters.calls (k : Nat) {w0 ws : World} {P0 : Nat → Prop} (A0 : Option Addr) (c0 : Nat) (n0 : Nat) (l0 : List Int) (Z : Below w0.heap.size w0 ws) (hF : Fr w0 ws P0 [] ws) (R0 : Stable ws P0 (fun w => Kd.C (Kd.int .u8) w A0 n0 l0)) (hc0 : n0 ≤ c0) (r_1 : Int) (r_2 : List Int) (r_5 : List SRegOp) (r_8 : List Int) (r_11 : List Int) (h : spec_DrawRenameRegisters.f k l0 = some (r_1, r_2, r_5, r_8, r_11)) :
  Calls Tryz.prog 20 #[.slice A0 n0 c0] ws (Post1 w0 ws P0 (fun ((q_3, q_4, q_6, q_7, q_9, q_10, q_12, q_13) : (Option Addr) × Nat × (Option Addr) × Nat × (Option Addr) × Nat × (Option Addr) × Nat) => .tuple #[.agg #[.int .i64 r_1, .slice q_3 r_2.length q_4, .slice q_6 r_5.length q_7, .slice q_9 r_8.length q_10], .slice q_12 r_11.length q_13]) (fun ((q_3, q_4, q_6, q_7, q_9, q_10, q_12, q_13) : (Option Addr) × Nat × (Option Addr) × Nat × (Option Addr) × Nat × (Option Addr) × Nat) => [row (Kd.int .i64) 3 (.slice q_3 r_2.length q_4) r_2, row zaq 84 (.slice q_6 r_5.length q_7) r_5, row (Kd.int .i64) 3 (.slice q_9 r_8.length q_10) r_8, row (Kd.int .i64) 3 (.slice q_12 r_11.length q_13) r_11])) := by
 unfold spec_DrawRenameRegisters.f at h
 obtain rfl := (R0 ws (KeptB.refl _ _)).1
 refine enter Tryz.func20 rfl Tryz.ntmps20 rfl hF (c_seq (za0 (o_e rfl (zao V38 rfl) (fun g1 => o_q rfl rfl (q_asg rfl) (o_end (za1 (c_seq (za0 (o_q rfl rfl (za3 rfl) ?_)))))))))
 refine o_q rfl rfl (zaw (vs := [(0, .slice A0 l0.length c0)]) (cs := [.slice A0 l0.length c0, .int .i64 0, .int .u64 0]) rfl rfl) (o_e rfl (e_box rfl) (fun g3 => o_q rfl rfl (q_asg rfl) (o_end (za1 (c_seq (za0 (o_q rfl rfl (za3 rfl) (bindE6 h (fun i6 l7 l8 l9 i10 i11 hx5 h => ?_) rfl))))))))
 refine o_e rfl (za7 1 Z Tryz.func65 N65 rfl rfl rfl (fun w P1 hF hB hS hT => spec_l1Cur_code9.calls k g3 A0 c0 l0.length l0 0 0 hB hF (hS _ R0) hc0 _ _ _ _ _ _ hx5)) (cur6 (fun A12 c13 A14 c15 A16 c17 => o_e rfl (zao V38 rfl) (fun g18 => o_e rfl (zae (i := 0) rfl rfl rfl Z38 rfl rfl) (fun _ => o_end (za1 (c_seq (za0 (o_q rfl rfl (za3 rfl) (o_q rfl rfl (q_f F38_0 rfl) (o_q rfl rfl (q_ldb Y3 rfl (fun w h => h.zac (i := 0) rfl) rfl) ?_))))))))))
 refine za6 h (fun i21 hx20 h => ?_) rfl
 refine o_e rfl (za7 0 Z Tryz.func68 N68 rfl rfl rfl (fun w P1 hF hB hS hT => spec_l1Least.calls i6 50 hB hF _ hx20)) (fun _ => za6 h (fun i23 hx22 h => ?_) rfl)
 refine o_e rfl (za7 0 Z Tryz.func67 N67 rfl rfl rfl (fun w P1 hF hB hS hT => spec_l1Most.calls 0 i21 hB hF _ hx22)) (fun _ => o_pick [4, 0, 1, 2, 3, 5] dc_ rfl (bindE3 h (fun l25 i26 i27 hx24 h => ?_) rfl))
 refine o_e rfl (za7 1 Z Tryz.func66 N66 rfl rfl rfl (fun w P1 hF hB hS hT => spec_l1Cur_permutation.calls k g3 A0 c0 l0.length l0 i10 i11 i23 hB hF (hS _ R0) hc0 _ _ _ hx24)) (cur2 (fun A28 c29 => o_q rfl rfl (q_asg rfl) (o_end (za1 (za6 h (fun o47 hl48 hR49 => ?_) rfl)))))
 clear h
 refine c_cutJ (σ := (List Int) × Int × Int × (Option Addr) × Nat) (fun (l42, i45, i46, A43, c44) => some (l42, i45, i46) = some o47) [6, 18, 19, 20, 21, 22] (fun (l42, i45, i46, A43, c44) => [(6, .slice A43 l42.length c44)]) (fun (l42, i45, i46, A43, c44) => [box g1 38 #[.int .i64 0, .slice none 0 0, .slice none 0 0, .slice none 0 0], box g18 38 #[.int .i64 i6, .slice A12 l7.length c13, .slice A14 l8.length c15, .slice A16 l9.length c17], row (Kd.int .i64) 3 (.slice A12 l7.length c13) l7, row zaq 84 (.slice A14 l8.length c15) l8, row (Kd.int .i64) 3 (.slice A16 l9.length c17) l9, row (Kd.int .i64) 3 (.slice A43 l42.length c44) l42, box g3 54 #[.slice A0 l0.length c0, .int .i64 i45, .int .u64 i46]]) ?_ ?_
 ·skip
  have h := hl48; clear hl48
  clear hR49
  refine c_seq (za0 (o_q rfl rfl (za3 rfl) (o_pick [1, 0, 2, 3, 4, 5, 6] dc_ rfl (bindE3 h (fun b53 i54 i55 hx52 h => ?_) rfl))))
  refine o_e rfl (za7 1 Z Tryz.func48 N48 rfl rfl rfl (fun w P1 hF hB hS hT => spec_l1Cur_one.calls g3 A0 c0 l0.length l0 i26 i27 10 hB hF (hS _ R0) hc0 _ _ _ hx52)) (fun _ => o_end (za1 (zas _ rfl (fun hb56 => ?_) (fun hb56 => ?_))))
  ·skip
   replace h := bb_t hb56 h
   refine za0 (o_q rfl rfl (za3 rfl) (o_e rfl (e_lit (vs := [(0, .int .i64 0)]) (cs := [.int .i64 0]) (Kd.int .i64) ([0] : List Int) Tryz.underlying25 I3 dc_ rfl dc_ rfl rfl (fun _ _ => Kd.zaf _)) (cur2 (fun A57 c58 => za6 h (fun l60 ha61 h => ?_) rfl))))
   refine o_e rfl (e_app (i := 2) (j := 0) Tryz.underlying25 I3 rfl dc_ dc_ rfl rfl rfl rfl rfl ha61) (cur2 (fun A62 c63 => o_q rfl rfl (q_asg rfl) (o_end (zam (l60, i54, i55, A62, c63) h ⟨rfl, trivial⟩ (fun w h => za8 [7, 3, 4, 5, 6, 2, 1] dc_ rfl w h) ?_))))
   exact of_
  ·skip
   replace h := bb_f hb56 h
   refine zal (zam (l25, i54, i55, A28, c29) h ⟨rfl, trivial⟩ (fun w h => za8 [6, 2, 3, 4, 5, 1, 0] dc_ rfl w h) ?_)
   exact of_
 ·skip
  refine (cur5 (fun l42 i45 i46 A43 c44 => fun U50 hJ51 => ?_))
  have e_ := si_ hJ51; have h := hR49; rw [← e_] at h; clear e_ hJ51 hR49 hl48
  refine c_seq (za0 (o_q rfl rfl (q_ldB G38 Z38 rfl (fun w h => h.zac (i := 1) rfl) rfl) (o_q rfl rfl (za3 rfl) (o_e rfl (zae (i := 0) rfl rfl rfl Z38 rfl rfl) (fun _ => o_q rfl rfl (q_asg rfl) (o_end (za1 (c_ret ?_))))))))
  have e0_ := si_ h; clear h
  obtain ⟨rfl, e1_⟩ := Prod.mk.inj e0_
  obtain ⟨rfl, e2_⟩ := Prod.mk.inj e1_
  obtain ⟨rfl, e3_⟩ := Prod.mk.inj e2_
  obtain ⟨rfl, e4_⟩ := Prod.mk.inj e3_
  subst e4_
  exact x_r2 (A12, c13, A14, c15, A16, c17, A43, c44) Tryz.results20 (zb8 rfl G38 Z38 (fun w h => h.zac (i := 0) rfl) rfl) (zad rfl) rfl (fun w h => za8 [2, 3, 4, 5] dc_ rfl w h)

def impl_RegCode_read_1.f (a0 : Int) (l1_0 : List Int) : Option Bool := (impl_in.f a0 0 (w64 ((l1_0.length : Int) - 1))).bind fun b2 => some b2
theorem impl_RegCode_read_1.calls {w0 ws : World} {P0 : Nat → Prop} (a0 : Int) (g1 : Nat) (A1_0 : Option Addr) (c1_0 : Nat) (n1_0 : Nat) (l1_0 : List Int) (Z : Below w0.heap.size w0 ws) (hF : Fr w0 ws P0 [] ws) (R1_0 : Stable ws P0 (fun w => Kd.C (Kd.int .i64) w A1_0 n1_0 l1_0)) (hc1_0 : n1_0 ≤ c1_0) (B1 : Stable ws P0 (fun w => w.heap[g1]? = some (.cells #[.slice A1_0 n1_0 c1_0] 25 (0, 0)))) (r_1 : Bool) (h : impl_RegCode_read_1.f a0 l1_0 = some r_1) :
  Calls Tryz.prog 137 #[.int .i64 a0, .pointer (some ⟨g1, 0, none⟩)] ws (Post1 w0 ws P0 (fun (_ : Unit) => .bool r_1) (fun (_ : Unit) => [])) := by
 unfold impl_RegCode_read_1.f at h
 obtain rfl := (R1_0 ws (KeptB.refl _ _)).1
 refine enter Tryz.func137 rfl Tryz.ntmps137 rfl hF (c_seq (za0 (o_q rfl rfl (q_asg rfl) (o_end (za1 (c_seq (za0 (o_q rfl rfl (za3 rfl) (o_q rfl rfl (q_ldb Y25 rfl (fun w h => B1.now Z h) rfl) ?_)))))))))
 refine o_q rfl rfl (q_len Tryz.underlying25 rfl) (o_q rfl rfl (q_sub64 rfl rfl) (za6 h (fun b2 hx1 h => ?_) rfl))
 refine o_e rfl (za7 0 Z Tryz.func88 N88 rfl rfl rfl (fun w P1 hF hB hS hT => impl_in.calls a0 0 (w64 ((l1_0.length : Int) - 1)) hB hF _ hx1)) (fun _ => o_q rfl rfl (q_asg rfl) (o_end (za1 (c_ret ?_))))
 have e0_ := si_ h; clear h
 subst e0_
 exact x_r1 () Tryz.results137 (zad rfl) rfl (fun w h => za8 [] dc_ rfl w h)

def impl_step.f (a0 : Int) (a1 : Int) : Option Unit := some ()
theorem impl_step.calls {w0 ws : World} {P0 : Nat → Prop} (a0 : Int) (a1 : Int) (Z : Below w0.heap.size w0 ws) (hF : Fr w0 ws P0 [] ws)   (h : impl_step.f a0 a1 = some ()) :
  Calls Tryz.prog 138 #[.int .i64 a0, .int .i64 a1] ws (Post1 w0 ws P0 (fun (_ : Unit) => .agg #[.int .i64 (mn a0 a1), .int .i64 (mx a0 a1)]) (fun (_ : Unit) => [])) := by
 unfold impl_step.f at h
 refine enter Tryz.func138 rfl Tryz.ntmps138 rfl hF (c_seq (za0 (o_e rfl (zao V72 rfl) (fun g1 => o_end (za1 (c_seq (za0 (o_q rfl rfl (za3 rfl) (o_q rfl rfl (za3 rfl) ?_)))))))))
 refine o_q rfl rfl (q_min rfl rfl) (o_q rfl rfl (za3 rfl) (o_q rfl rfl (za3 rfl) (o_q rfl rfl (q_max rfl rfl) (o_q rfl rfl (zaw (vs := [(0, .int .i64 (mn a0 a1)), (1, .int .i64 (mx a0 a1))]) (cs := [.int .i64 (mn a0 a1), .int .i64 (mx a0 a1)]) rfl rfl) (o_e rfl (zae (i := 0) rfl rfl rfl Z72 rfl rfl) (fun _ => o_end (za1 (c_ret ?_))))))))
 exact x_r1 () Tryz.results138 (zb8 rfl G72 Z72 (fun w h => h.zac (i := 0) rfl) rfl) rfl (fun w h => za8 [] dc_ rfl w h)

def impl_RegCode_read.l2 (l2308 : List Int) : (List Int) → (List Int) → Int → Option ((Int × (List SStep) × (List Int) × Bool) ⊕ ((List Int)))
 | [], l2324, i2327 => some (.inr l2324)
 | y2328 :: ys2329, l2324, i2327 => ((impl_RegCode_read_1.f y2328 l2308).bind fun b2354 => if b2354 = true then ((gt l2308 y2328).bind fun y2358 => some (decide (y2358 = (-1)))) else (some true)).bind fun b2347 => if b2347 = true then (some (.inl (0, ([] : List SStep), ([] : List Int), false))) else ((gt l2308 y2328).bind fun y2603 => (ap l2324 ([y2603] : List Int)).bind fun l2781 => impl_RegCode_read.l2 l2308 ys2329 l2781 (i2327 + 1))
def impl_RegCode_read.l1 (l0_1 : List Int) : (List SRegOp) → (List Int) → (List SStep) → Int → Option ((Int × (List SStep) × (List Int) × Bool) ⊕ ((List Int) × (List SStep)))
 | [], l2308, l2309, i2312 => some (.inr (l2308, l2309))
 | y2313 :: ys2314, l2308, l2309, i2312 => ((impl_RegCode_read_1.f y2313.f0 l2308).bind fun b3046 => if b3046 = true then ((impl_RegCode_read_1.f y2313.f1 l2308).bind fun b3049 => if b3049 = true then ((impl_RegCode_read_1.f y2313.f2 l2308).bind fun b3052 => if b3052 = true then ((gt l2308 y2313.f1).bind fun y3056 => if y3056 = (-1) then (some true) else ((gt l2308 y2313.f2).bind fun y3059 => some (decide (y3059 = (-1))))) else (some true)) else (some true)) else (some true)).bind fun b3039 => if b3039 = true then (some (.inl (0, ([] : List SStep), ([] : List Int), false))) else (((gt l2308 y2313.f1).bind fun y4453 => (gt l2308 y2313.f2).bind fun y4752 => (impl_step.f y4453 y4752).bind fun _ => (ap l2309 ([(⟨mn y4453 y4752, mx y4453 y4752⟩ : SStep)] : List SStep)).bind fun l4991 => some l4991).bind fun l4142 => (impl_Plan_many.f (l0_1.length : Int) l4142 []).bind fun _ => (gt l2308 y2313.f0).bind fun y5234 => (st l2308 y2313.f0 (w64 (w64 ((l0_1.length : Int) + (l4142.length : Int)) - 1))).bind fun l5235 => impl_RegCode_read.l1 l0_1 ys2314 l5235 l4142 (i2312 + 1))
def impl_RegCode_read.l0 : (List Int) → (List Int) → Int → Option ((Int × (List SStep) × (List Int) × Bool) ⊕ ((List Int)))
 | [], l2295, i2296 => some (.inr l2295)
 | y2297 :: ys2298, l2295, i2296 => ((impl_RegCode_read_1.f y2297 l2295).bind fun b5251 => if b5251 = true then ((gt l2295 y2297).bind fun y5255 => some (decide (y5255 ≠ (-1)))) else (some true)).bind fun b5244 => if b5244 = true then (some (.inl (0, ([] : List SStep), ([] : List Int), false))) else ((gt l2295 y2297).bind fun y5259 => (st l2295 y2297 i2296).bind fun l5260 => impl_RegCode_read.l0 ys2298 l5260 (i2296 + 1))
def impl_RegCode_read.f (a0_0 : Int) (l0_1 : List Int) (l0_2 : List SRegOp) (l0_3 : List Int) : Option (Int × (List SStep) × (List Int) × Bool) := ((slices_Repeat_int_int.f ([(-1)] : List Int) (mx (mn a0_0 46) 0)).bind fun l1936 => some l1936).bind fun l1146 => (impl_RegCode_read.l0 l0_1 l1146 0).bind fun o_ => match o_ with | .inl r_ => some r_ | .inr l2295 => (impl_RegCode_read.l1 l0_1 l0_2 l2295 ([] : List SStep) 0).bind fun o_ => match o_ with | .inl r_ => some r_ | .inr (l2308, l2309) => (impl_RegCode_read.l2 l2308 l0_3 ([] : List Int) 0).bind fun o_ => match o_ with | .inl r_ => some r_ | .inr l2324 => (impl_in.f a0_0 1 46).bind fun b2339 => some ((l0_1.length : Int), l2309, l2324, b2339)
theorem impl_RegCode_read.calls {w0 ws : World} {P0 : Nat → Prop} (g0 : Nat) (a0_0 : Int) (A0_1 : Option Addr) (c0_1 : Nat) (n0_1 : Nat) (l0_1 : List Int) (A0_2 : Option Addr) (c0_2 : Nat) (n0_2 : Nat) (l0_2 : List SRegOp) (A0_3 : Option Addr) (c0_3 : Nat) (n0_3 : Nat) (l0_3 : List Int) (Z : Below w0.heap.size w0 ws) (hF : Fr w0 ws P0 [] ws) (R0_1 : Stable ws P0 (fun w => Kd.C (Kd.int .i64) w A0_1 n0_1 l0_1)) (hc0_1 : n0_1 ≤ c0_1) (R0_2 : Stable ws P0 (fun w => Kd.C zaq w A0_2 n0_2 l0_2)) (hc0_2 : n0_2 ≤ c0_2) (R0_3 : Stable ws P0 (fun w => Kd.C (Kd.int .i64) w A0_3 n0_3 l0_3)) (hc0_3 : n0_3 ≤ c0_3) (B0 : Stable ws P0 (fun w => w.heap[g0]? = some (.cells #[.int .i64 a0_0, .slice A0_1 n0_1 c0_1, .slice A0_2 n0_2 c0_2, .slice A0_3 n0_3 c0_3] 38 (0, 0)))) (r_1 : Int) (r_2 : List SStep) (r_5 : List Int) (r_8 : Bool) (h : impl_RegCode_read.f a0_0 l0_1 l0_2 l0_3 = some (r_1, r_2, r_5, r_8)) :
  Calls Tryz.prog 111 #[.pointer (some ⟨g0, 0, none⟩)] ws (Post1 w0 ws P0 (fun ((q_3, q_4, q_6, q_7) : (Option Addr) × Nat × (Option Addr) × Nat) => .tuple #[.agg #[.int .i64 r_1, .slice q_3 r_2.length q_4, .slice q_6 r_5.length q_7], .bool r_8]) (fun ((q_3, q_4, q_6, q_7) : (Option Addr) × Nat × (Option Addr) × Nat) => [row kStep 72 (.slice q_3 r_2.length q_4) r_2, row (Kd.int .i64) 3 (.slice q_6 r_5.length q_7) r_5])) := by
 unfold impl_RegCode_read.f at h
 obtain rfl := (R0_1 ws (KeptB.refl _ _)).1
 obtain rfl := (R0_2 ws (KeptB.refl _ _)).1
 obtain rfl := (R0_3 ws (KeptB.refl _ _)).1
 refine enter Tryz.func111 rfl Tryz.ntmps111 rfl hF (c_seq (za0 (o_e rfl (zao V27 rfl) (fun g1 => o_q rfl rfl (q_asg rfl) (o_end (za1 (za6 h (fun o1149 hl1150 hR1151 => ?_) rfl)))))))
 clear h
 refine c_cutJ (σ := (List Int) × Nat × Nat × (Option Addr) × Nat) (fun (l1146, g1144, g1145, A1147, c1148) => some l1146 = some o1149) [4, 5, 13, 14, 15, 16, 17, 18, 19, 20, 21, 22, 23, 24, 25, 26] (fun (l1146, g1144, g1145, A1147, c1148) => [(4, .pointer (some ⟨g1144, 0, none⟩)), (5, .pointer (some ⟨g1145, 0, none⟩))]) (fun (l1146, g1144, g1145, A1147, c1148) => [box g1 27 #[.int .i64 0, .slice none 0 0, .slice none 0 0], box g1144 27 #[.int .i64 (l0_1.length : Int), .slice none 0 0, .slice none 0 0], box g1145 25 #[.slice A1147 l1146.length c1148], row (Kd.int .i64) 3 (.slice A1147 l1146.length c1148) l1146]) ?_ ?_
 ·skip
  have h := hl1150; clear hl1150
  clear hR1151
  refine za6 h (fun l1936 hx1935 h => ?_) rfl
  refine a_start (ds := []) MO rfl (zaa 0 rfl rfl rfl kr_ (fun _ _ _ h => h) (za3 rfl) (zaa 1 rfl rfl rfl kr_ (fun _ _ _ h => h) (q_nil rfl) (zaa 2 rfl rfl rfl kr_ (fun _ _ _ h => h) (q_f F38_1 rfl) (zau 3 rfl rfl rfl kr_ (fun _ _ _ h => h) (fun w h => h) (q_ldb Y25 rfl (fun w h => B0.now Z h) rfl) (zaa 4 rfl rfl rfl kr_ (fun _ _ _ h => h) (q_len Tryz.underlying25 rfl) (zaa 5 rfl rfl rfl kr_ (fun _ _ _ h => h) (zaw (vs := [(0, .int .i64 (l0_1.length : Int))]) (cs := [.int .i64 (l0_1.length : Int), .slice none 0 0, .slice none 0 0]) rfl rfl) (zaa 7 rfl rfl rfl kr_ (fun _ _ _ h => h) (za3 rfl) (zaa 8 rfl rfl rfl kr_ (fun _ _ _ h => h) (q_nil rfl) (zaa 9 rfl rfl rfl kr_ (fun _ _ _ h => h) (q_f F38_0 rfl) ?_)))))))))
  refine zau 10 rfl rfl rfl kr_ (fun _ _ _ h => h) (fun w h => h) (q_ldb Y3 rfl (fun w h => B0.now Z h) rfl) (zaa 11 rfl rfl rfl kr_ (fun _ _ _ h => h) (q_min rfl rfl) (zaa 12 rfl rfl rfl kr_ (fun _ _ _ h => h) (q_max rfl rfl) (a_three 6 14 15 rfl rfl rfl rfl rfl rfl kr_ rfl rfl rfl (e_lit (vs := [(0, .int .i64 (-1))]) (cs := [.int .i64 (-1)]) (Kd.int .i64) ([(-1)] : List Int) Tryz.underlying25 I3 dc_ rfl dc_ rfl rfl (fun _ _ => Kd.zaf _)) (fun s w h => za5 [some 1] dc_ w h rfl) (zao V27 rfl) (fun s w h => za5 [some 1] dc_ w h rfl) (zao V25 rfl) (fun s w h => za5 [some 1] dc_ w h rfl) (cur2 (fun A1515 c1516 => ?_)) (fun g1995 => ?_) (fun g2055 => ?_))))
  ·skip
   refine a_three 13 14 15 rfl rfl rfl rfl rfl rfl kr_ rfl rfl rfl (za7 0 Z Tryz.func74 N74 rfl rfl rfl (fun w P1 hF hB hS hT => slices_Repeat_int_int.calls A1515 c1516 (([(-1)] : List Int).length) ([(-1)] : List Int) (mx (mn a0_0 46) 0) hB hF (hT 0 _ rfl).row (hT 0 _ rfl).cap _ hx1935)) (fun s w h => za5 [some 2] dc_ w h rfl) (zao V27 rfl) (fun s w h => za5 [some 2] dc_ w h rfl) (zao V25 rfl) (fun s w h => za5 [some 2] dc_ w h rfl) (cur2 (fun A1937 c1938 => ?_)) (fun g1995 => ?_) (fun g2055 => ?_)
   ·skip
    refine a_two 14 15 rfl rfl rfl rfl kr_ rfl rfl (zao V27 rfl) (fun s w h => za5 [some 3] dc_ w h rfl) (zao V25 rfl) (fun s w h => za5 [some 3] dc_ w h rfl) (fun g1995 => ?_) (fun g2055 => ?_)
    ·skip
     refine a_one 15 rfl rfl kr_ rfl (zao V25 rfl) (fun s w h => za5 [some 4] dc_ w h rfl) (fun g2055 => a_one 16 rfl rfl kr_ rfl (zae (i := 1) rfl rfl rfl Z27 rfl rfl) (fun s w h => za5 [some 4] dc_ w h rfl) (fun _ => a_one 17 rfl rfl kr_ rfl (zav (i := 0) rfl rfl rfl rfl Z25 rfl rfl) (fun s w h => za5 [some 4] dc_ w h rfl) (fun _ => zar kr_ (zam (l1936, g1995, g2055, A1937, c1938) h ⟨rfl, rfl, trivial⟩ (fun w h => za8 [4, 1, 0, 2] dc_ rfl w h) ?_))))
     exact of_
    ·skip
     refine a_one 14 rfl rfl kr_ rfl (zao V27 rfl) (fun s w h => za5 [some 4] dc_ w h rfl) (fun g1995 => a_one 16 rfl rfl kr_ rfl (zae (i := 0) rfl rfl rfl Z27 rfl rfl) (fun s w h => za5 [some 4] dc_ w h rfl) (fun _ => a_one 17 rfl rfl kr_ rfl (zav (i := 1) rfl rfl rfl rfl Z25 rfl rfl) (fun s w h => za5 [some 4] dc_ w h rfl) (fun _ => zar kr_ (zam (l1936, g1995, g2055, A1937, c1938) h ⟨rfl, rfl, trivial⟩ (fun w h => za8 [4, 0, 1, 2] dc_ rfl w h) ?_))))
     exact of_
   ·skip
    refine a_two 13 15 rfl rfl rfl rfl kr_ rfl rfl (za7 0 Z Tryz.func74 N74 rfl rfl rfl (fun w P1 hF hB hS hT => slices_Repeat_int_int.calls A1515 c1516 (([(-1)] : List Int).length) ([(-1)] : List Int) (mx (mn a0_0 46) 0) hB hF (hT 1 _ rfl).row (hT 1 _ rfl).cap _ hx1935)) (fun s w h => za5 [some 3] dc_ w h rfl) (zao V25 rfl) (fun s w h => za5 [some 3] dc_ w h rfl) (cur2 (fun A1937 c1938 => ?_)) (fun g2055 => ?_)
    ·skip
     refine a_one 15 rfl rfl kr_ rfl (zao V25 rfl) (fun s w h => za5 [some 4] dc_ w h rfl) (fun g2055 => a_one 16 rfl rfl kr_ rfl (zae (i := 2) rfl rfl rfl Z27 rfl rfl) (fun s w h => za5 [some 4] dc_ w h rfl) (fun _ => a_one 17 rfl rfl kr_ rfl (zav (i := 0) rfl rfl rfl rfl Z25 rfl rfl) (fun s w h => za5 [some 4] dc_ w h rfl) (fun _ => zar kr_ (zam (l1936, g1995, g2055, A1937, c1938) h ⟨rfl, rfl, trivial⟩ (fun w h => za8 [4, 2, 0, 1] dc_ rfl w h) ?_))))
     exact of_
    ·skip
     refine a_one 13 rfl rfl kr_ rfl (za7 0 Z Tryz.func74 N74 rfl rfl rfl (fun w P1 hF hB hS hT => slices_Repeat_int_int.calls A1515 c1516 (([(-1)] : List Int).length) ([(-1)] : List Int) (mx (mn a0_0 46) 0) hB hF (hT 2 _ rfl).row (hT 2 _ rfl).cap _ hx1935)) (fun s w h => za5 [some 4] dc_ w h rfl) (cur2 (fun A1937 c1938 => a_one 16 rfl rfl kr_ rfl (zae (i := 2) rfl rfl rfl Z27 rfl rfl) (fun s w h => za5 [some 4] dc_ w h rfl) (fun _ => a_one 17 rfl rfl kr_ rfl (zav (i := 1) rfl rfl rfl rfl Z25 rfl rfl) (fun s w h => za5 [some 4] dc_ w h rfl) (fun _ => zar kr_ (zam (l1936, g1995, g2055, A1937, c1938) h ⟨rfl, rfl, trivial⟩ (fun w h => za8 [4, 2, 1, 0] dc_ rfl w h) ?_)))))
     exact of_
   ·skip
    refine a_two 13 14 rfl rfl rfl rfl kr_ rfl rfl (za7 0 Z Tryz.func74 N74 rfl rfl rfl (fun w P1 hF hB hS hT => slices_Repeat_int_int.calls A1515 c1516 (([(-1)] : List Int).length) ([(-1)] : List Int) (mx (mn a0_0 46) 0) hB hF (hT 1 _ rfl).row (hT 1 _ rfl).cap _ hx1935)) (fun s w h => za5 [some 3] dc_ w h rfl) (zao V27 rfl) (fun s w h => za5 [some 3] dc_ w h rfl) (cur2 (fun A1937 c1938 => ?_)) (fun g1995 => ?_)
    ·skip
     refine a_one 14 rfl rfl kr_ rfl (zao V27 rfl) (fun s w h => za5 [some 4] dc_ w h rfl) (fun g1995 => a_one 16 rfl rfl kr_ rfl (zae (i := 0) rfl rfl rfl Z27 rfl rfl) (fun s w h => za5 [some 4] dc_ w h rfl) (fun _ => a_one 17 rfl rfl kr_ rfl (zav (i := 2) rfl rfl rfl rfl Z25 rfl rfl) (fun s w h => za5 [some 4] dc_ w h rfl) (fun _ => zar kr_ (zam (l1936, g1995, g2055, A1937, c1938) h ⟨rfl, rfl, trivial⟩ (fun w h => za8 [4, 0, 2, 1] dc_ rfl w h) ?_))))
     exact of_
    ·skip
     refine a_one 13 rfl rfl kr_ rfl (za7 0 Z Tryz.func74 N74 rfl rfl rfl (fun w P1 hF hB hS hT => slices_Repeat_int_int.calls A1515 c1516 (([(-1)] : List Int).length) ([(-1)] : List Int) (mx (mn a0_0 46) 0) hB hF (hT 2 _ rfl).row (hT 2 _ rfl).cap _ hx1935)) (fun s w h => za5 [some 4] dc_ w h rfl) (cur2 (fun A1937 c1938 => a_one 16 rfl rfl kr_ rfl (zae (i := 1) rfl rfl rfl Z27 rfl rfl) (fun s w h => za5 [some 4] dc_ w h rfl) (fun _ => a_one 17 rfl rfl kr_ rfl (zav (i := 2) rfl rfl rfl rfl Z25 rfl rfl) (fun s w h => za5 [some 4] dc_ w h rfl) (fun _ => zar kr_ (zam (l1936, g1995, g2055, A1937, c1938) h ⟨rfl, rfl, trivial⟩ (fun w h => za8 [4, 1, 2, 0] dc_ rfl w h) ?_)))))
     exact of_
  ·skip
   refine a_two 6 15 rfl rfl rfl rfl kr_ rfl rfl (e_lit (vs := [(0, .int .i64 (-1))]) (cs := [.int .i64 (-1)]) (Kd.int .i64) ([(-1)] : List Int) Tryz.underlying25 I3 dc_ rfl dc_ rfl rfl (fun _ _ => Kd.zaf _)) (fun s w h => za5 [some 2] dc_ w h rfl) (zao V25 rfl) (fun s w h => za5 [some 2] dc_ w h rfl) (cur2 (fun A1515 c1516 => ?_)) (fun g2055 => ?_)
   ·skip
    refine a_two 13 15 rfl rfl rfl rfl kr_ rfl rfl (za7 0 Z Tryz.func74 N74 rfl rfl rfl (fun w P1 hF hB hS hT => slices_Repeat_int_int.calls A1515 c1516 (([(-1)] : List Int).length) ([(-1)] : List Int) (mx (mn a0_0 46) 0) hB hF (hT 0 _ rfl).row (hT 0 _ rfl).cap _ hx1935)) (fun s w h => za5 [some 3] dc_ w h rfl) (zao V25 rfl) (fun s w h => za5 [some 3] dc_ w h rfl) (cur2 (fun A1937 c1938 => ?_)) (fun g2055 => ?_)
    ·skip
     refine a_one 15 rfl rfl kr_ rfl (zao V25 rfl) (fun s w h => za5 [some 4] dc_ w h rfl) (fun g2055 => a_one 16 rfl rfl kr_ rfl (zae (i := 3) rfl rfl rfl Z27 rfl rfl) (fun s w h => za5 [some 4] dc_ w h rfl) (fun _ => a_one 17 rfl rfl kr_ rfl (zav (i := 0) rfl rfl rfl rfl Z25 rfl rfl) (fun s w h => za5 [some 4] dc_ w h rfl) (fun _ => zar kr_ (zam (l1936, g1995, g2055, A1937, c1938) h ⟨rfl, rfl, trivial⟩ (fun w h => za8 [4, 3, 0, 1] dc_ rfl w h) ?_))))
     exact of_
    ·skip
     refine a_one 13 rfl rfl kr_ rfl (za7 0 Z Tryz.func74 N74 rfl rfl rfl (fun w P1 hF hB hS hT => slices_Repeat_int_int.calls A1515 c1516 (([(-1)] : List Int).length) ([(-1)] : List Int) (mx (mn a0_0 46) 0) hB hF (hT 1 _ rfl).row (hT 1 _ rfl).cap _ hx1935)) (fun s w h => za5 [some 4] dc_ w h rfl) (cur2 (fun A1937 c1938 => a_one 16 rfl rfl kr_ rfl (zae (i := 3) rfl rfl rfl Z27 rfl rfl) (fun s w h => za5 [some 4] dc_ w h rfl) (fun _ => a_one 17 rfl rfl kr_ rfl (zav (i := 1) rfl rfl rfl rfl Z25 rfl rfl) (fun s w h => za5 [some 4] dc_ w h rfl) (fun _ => zar kr_ (zam (l1936, g1995, g2055, A1937, c1938) h ⟨rfl, rfl, trivial⟩ (fun w h => za8 [4, 3, 1, 0] dc_ rfl w h) ?_)))))
     exact of_
   ·skip
    refine a_one 6 rfl rfl kr_ rfl (e_lit (vs := [(0, .int .i64 (-1))]) (cs := [.int .i64 (-1)]) (Kd.int .i64) ([(-1)] : List Int) Tryz.underlying25 I3 dc_ rfl dc_ rfl rfl (fun _ _ => Kd.zaf _)) (fun s w h => za5 [some 3] dc_ w h rfl) (cur2 (fun A1515 c1516 => a_one 13 rfl rfl kr_ rfl (za7 0 Z Tryz.func74 N74 rfl rfl rfl (fun w P1 hF hB hS hT => slices_Repeat_int_int.calls A1515 c1516 (([(-1)] : List Int).length) ([(-1)] : List Int) (mx (mn a0_0 46) 0) hB hF (hT 0 _ rfl).row (hT 0 _ rfl).cap _ hx1935)) (fun s w h => za5 [some 4] dc_ w h rfl) (cur2 (fun A1937 c1938 => a_one 16 rfl rfl kr_ rfl (zae (i := 3) rfl rfl rfl Z27 rfl rfl) (fun s w h => za5 [some 4] dc_ w h rfl) (fun _ => a_one 17 rfl rfl kr_ rfl (zav (i := 2) rfl rfl rfl rfl Z25 rfl rfl) (fun s w h => za5 [some 4] dc_ w h rfl) (fun _ => zar kr_ (zam (l1936, g1995, g2055, A1937, c1938) h ⟨rfl, rfl, trivial⟩ (fun w h => za8 [4, 3, 2, 0] dc_ rfl w h) ?_)))))))
    exact of_
  ·skip
   refine a_two 6 14 rfl rfl rfl rfl kr_ rfl rfl (e_lit (vs := [(0, .int .i64 (-1))]) (cs := [.int .i64 (-1)]) (Kd.int .i64) ([(-1)] : List Int) Tryz.underlying25 I3 dc_ rfl dc_ rfl rfl (fun _ _ => Kd.zaf _)) (fun s w h => za5 [some 2] dc_ w h rfl) (zao V27 rfl) (fun s w h => za5 [some 2] dc_ w h rfl) (cur2 (fun A1515 c1516 => ?_)) (fun g1995 => ?_)
   ·skip
    refine a_two 13 14 rfl rfl rfl rfl kr_ rfl rfl (za7 0 Z Tryz.func74 N74 rfl rfl rfl (fun w P1 hF hB hS hT => slices_Repeat_int_int.calls A1515 c1516 (([(-1)] : List Int).length) ([(-1)] : List Int) (mx (mn a0_0 46) 0) hB hF (hT 0 _ rfl).row (hT 0 _ rfl).cap _ hx1935)) (fun s w h => za5 [some 3] dc_ w h rfl) (zao V27 rfl) (fun s w h => za5 [some 3] dc_ w h rfl) (cur2 (fun A1937 c1938 => ?_)) (fun g1995 => ?_)
    ·skip
     refine a_one 14 rfl rfl kr_ rfl (zao V27 rfl) (fun s w h => za5 [some 4] dc_ w h rfl) (fun g1995 => a_one 16 rfl rfl kr_ rfl (zae (i := 0) rfl rfl rfl Z27 rfl rfl) (fun s w h => za5 [some 4] dc_ w h rfl) (fun _ => a_one 17 rfl rfl kr_ rfl (zav (i := 3) rfl rfl rfl rfl Z25 rfl rfl) (fun s w h => za5 [some 4] dc_ w h rfl) (fun _ => zar kr_ (zam (l1936, g1995, g2055, A1937, c1938) h ⟨rfl, rfl, trivial⟩ (fun w h => za8 [4, 0, 3, 1] dc_ rfl w h) ?_))))
     exact of_
    ·skip
     refine a_one 13 rfl rfl kr_ rfl (za7 0 Z Tryz.func74 N74 rfl rfl rfl (fun w P1 hF hB hS hT => slices_Repeat_int_int.calls A1515 c1516 (([(-1)] : List Int).length) ([(-1)] : List Int) (mx (mn a0_0 46) 0) hB hF (hT 1 _ rfl).row (hT 1 _ rfl).cap _ hx1935)) (fun s w h => za5 [some 4] dc_ w h rfl) (cur2 (fun A1937 c1938 => a_one 16 rfl rfl kr_ rfl (zae (i := 1) rfl rfl rfl Z27 rfl rfl) (fun s w h => za5 [some 4] dc_ w h rfl) (fun _ => a_one 17 rfl rfl kr_ rfl (zav (i := 3) rfl rfl rfl rfl Z25 rfl rfl) (fun s w h => za5 [some 4] dc_ w h rfl) (fun _ => zar kr_ (zam (l1936, g1995, g2055, A1937, c1938) h ⟨rfl, rfl, trivial⟩ (fun w h => za8 [4, 1, 3, 0] dc_ rfl w h) ?_)))))
     exact of_
   ·skip
    refine a_one 6 rfl rfl kr_ rfl (e_lit (vs := [(0, .int .i64 (-1))]) (cs := [.int .i64 (-1)]) (Kd.int .i64) ([(-1)] : List Int) Tryz.underlying25 I3 dc_ rfl dc_ rfl rfl (fun _ _ => Kd.zaf _)) (fun s w h => za5 [some 3] dc_ w h rfl) (cur2 (fun A1515 c1516 => a_one 13 rfl rfl kr_ rfl (za7 0 Z Tryz.func74 N74 rfl rfl rfl (fun w P1 hF hB hS hT => slices_Repeat_int_int.calls A1515 c1516 (([(-1)] : List Int).length) ([(-1)] : List Int) (mx (mn a0_0 46) 0) hB hF (hT 0 _ rfl).row (hT 0 _ rfl).cap _ hx1935)) (fun s w h => za5 [some 4] dc_ w h rfl) (cur2 (fun A1937 c1938 => a_one 16 rfl rfl kr_ rfl (zae (i := 2) rfl rfl rfl Z27 rfl rfl) (fun s w h => za5 [some 4] dc_ w h rfl) (fun _ => a_one 17 rfl rfl kr_ rfl (zav (i := 3) rfl rfl rfl rfl Z25 rfl rfl) (fun s w h => za5 [some 4] dc_ w h rfl) (fun _ => zar kr_ (zam (l1936, g1995, g2055, A1937, c1938) h ⟨rfl, rfl, trivial⟩ (fun w h => za8 [4, 2, 3, 0] dc_ rfl w h) ?_)))))))
    exact of_
 ·skip
  refine (cur5 (fun l1146 g1144 g1145 A1147 c1148 => fun U1152 hJ1153 => ?_))
  have e_ := si_ hJ1153; have h := hR1151; rw [← e_] at h; clear e_ hJ1153 hR1151 hl1150
  refine c_seq (za0 (o_q rfl rfl (q_func rfl rfl) (o_q rfl rfl (q_asg rfl) (o_end (za1 (c_seq (c_seq (za0 (o_q rfl rfl (za3 rfl) ?_)))))))))
  refine o_q rfl rfl (q_nil rfl) (o_q rfl rfl (q_f F38_1 rfl) (o_q rfl rfl (q_ldb Y25 rfl (fun w h => B0.now Z h) rfl) (o_q rfl rfl (q_len Tryz.underlying25 rfl) (o_q rfl rfl (za3 rfl) (o_end (za1 (zah (za6 h (fun o2304 hl2303 hR2302 => ?_) rfl))))))))
  clear h
  refine c_fact (p := l0_1.length ≤ 9223372036854775807) (fun w h => (R0_1.now Z h).2.1) (fun hm2301 => zax (σ := (List Int) × (List Int) × Int) (fun k2299 ((ys2298, l2295, i2296) : (List Int) × (List Int) × Int) => Rg l0_1 i2296 ys2298 ∧ ys2298.length = k2299 ∧ impl_RegCode_read.l0 ys2298 l2295 i2296 = some o2304) [3, 7, 8, 33, 34, 35, 36, 37, 38, 39, 40, 41, 42, 43, 44, 45, 46, 47, 48, 49, 50, 51, 52, 53, 54] (fun ((ys2298, l2295, i2296) : (List Int) × (List Int) × Int) => [(33, .int .i64 i2296)]) (fun ((ys2298, l2295, i2296) : (List Int) × (List Int) × Int) => [box g1 27 #[.int .i64 0, .slice none 0 0, .slice none 0 0], box g1144 27 #[.int .i64 (l0_1.length : Int), .slice none 0 0, .slice none 0 0], box g1145 25 #[.slice A1147 l1146.length c1148], row (Kd.int .i64) 3 (.slice A1147 l1146.length c1148) l2295]) l0_1.length (l0_1, l1146, 0) ⟨Rg.start _, rfl, hl2303⟩ ⟨rfl, trivial⟩ (fun w h => h) (fun k2299 => cur3 (listC (fun l2295 i2296 U2305 hJ_ => ?_) (fun y2297 ys2298 l2295 i2296 U2305 hJ_ => ?_))))
  ·skip
   clear hl2303
   have hr2300 := hJ_.1; have hk2306 := hJ_.2.1; have h := hJ_.2.2; clear hJ_
   replace h : impl_RegCode_read.l0 [] l2295 i2296 = some o2304 := h
   rw [impl_RegCode_read.l0] at h
   refine c_seq (za0 (o_q rfl rfl (q_lss rfl rfl) (o_end (za1 (c_seq (zb1 (vb_ hr2300.ge) (zb2 (zab (zab ?_)))))))))
   have e_ := si_ h; replace h := hR2302; rw [← e_] at h; clear e_
   refine x_hit (za1 (c_seq (c_seq (za0 (o_q rfl rfl (za3 rfl) (o_q rfl rfl (q_nil rfl) (o_q rfl rfl (q_f F38_2 rfl) (o_q rfl rfl (q_ldb Y36 rfl (fun w h => B0.now Z h) rfl) (o_q rfl rfl (q_len Tryz.underlying36 rfl) ?_)))))))))
   refine o_q rfl rfl (za3 rfl) (o_end (za1 (zah (c_nil kStep 72 (za6 h (fun o2320 hl2319 hR2318 => ?_) rfl)))))
   clear h
   refine c_fact (p := l0_2.length ≤ 9223372036854775807) (fun w h => (R0_2.now Z h).2.1) (fun hm2317 => zax (σ := (List SRegOp) × (List Int) × (List SStep) × Int × (Option Addr) × Nat) (fun k2315 ((ys2314, l2308, l2309, i2312, A2310, c2311) : (List SRegOp) × (List Int) × (List SStep) × Int × (Option Addr) × Nat) => Rg l0_2 i2312 ys2314 ∧ ys2314.length = k2315 ∧ impl_RegCode_read.l1 l0_1 ys2314 l2308 l2309 i2312 = some o2320) [3, 10, 60, 61, 62, 63, 64, 65, 66, 67, 68, 69, 70, 71, 72, 73, 74, 75, 76, 77, 78, 79, 80, 81, 82, 83, 84, 85, 86, 87, 88, 89, 90, 91, 92, 93, 94, 95, 96, 97, 98, 99, 100, 101, 102, 103, 104, 105, 106, 107, 108, 109, 110, 111, 112, 113, 114, 115, 116, 117, 118, 119, 120, 121, 122] (fun ((ys2314, l2308, l2309, i2312, A2310, c2311) : (List SRegOp) × (List Int) × (List SStep) × Int × (Option Addr) × Nat) => [(60, .int .i64 i2312)]) (fun ((ys2314, l2308, l2309, i2312, A2310, c2311) : (List SRegOp) × (List Int) × (List SStep) × Int × (Option Addr) × Nat) => [row kStep 72 (.slice A2310 l2309.length c2311) l2309, box g1 27 #[.int .i64 0, .slice none 0 0, .slice none 0 0], box g1144 27 #[.int .i64 (l0_1.length : Int), .slice A2310 l2309.length c2311, .slice none 0 0], box g1145 25 #[.slice A1147 l1146.length c1148], row (Kd.int .i64) 3 (.slice A1147 l1146.length c1148) l2308]) l0_2.length (l0_2, l2295, ([] : List SStep), 0, none, 0) ⟨Rg.start _, rfl, hl2319⟩ ⟨rfl, trivial⟩ (fun w h => h) (fun k2315 => cur6 (listC (fun l2308 l2309 i2312 A2310 c2311 U2321 hJ_ => ?_) (fun y2313 ys2314 l2308 l2309 i2312 A2310 c2311 U2321 hJ_ => ?_))))
   ·skip
    clear hl2319
    have hr2316 := hJ_.1; have hk2322 := hJ_.2.1; have h := hJ_.2.2; clear hJ_
    replace h : impl_RegCode_read.l1 l0_1 [] l2308 l2309 i2312 = some o2320 := h
    rw [impl_RegCode_read.l1] at h
    refine c_seq (za0 (o_q rfl rfl (q_lss rfl rfl) (o_end (za1 (c_seq (zb1 (vb_ hr2316.ge) (zb2 (zab (zab ?_)))))))))
    have e_ := si_ h; replace h := hR2318; rw [← e_] at h; clear e_
    refine x_hit (za1 (c_seq (c_seq (za0 (o_q rfl rfl (za3 rfl) (o_q rfl rfl (q_nil rfl) (o_q rfl rfl (q_f F38_3 rfl) (o_q rfl rfl (q_ldb Y25 rfl (fun w h => B0.now Z h) rfl) (o_q rfl rfl (q_len Tryz.underlying25 rfl) ?_)))))))))
    refine o_q rfl rfl (za3 rfl) (o_end (za1 (zah (c_nil (Kd.int .i64) 3 (za6 h (fun o2335 hl2334 hR2333 => ?_) rfl)))))
    clear h
    refine c_fact (p := l0_3.length ≤ 9223372036854775807) (fun w h => (R0_3.now Z h).2.1) (fun hm2332 => zax (σ := (List Int) × (List Int) × Int × (Option Addr) × Nat) (fun k2330 ((ys2329, l2324, i2327, A2325, c2326) : (List Int) × (List Int) × Int × (Option Addr) × Nat) => Rg l0_3 i2327 ys2329 ∧ ys2329.length = k2330 ∧ impl_RegCode_read.l2 l2308 ys2329 l2324 i2327 = some o2335) [3, 12, 128, 129, 130, 131, 132, 133, 134, 135, 136, 137, 138, 139, 140, 141, 142, 143, 144, 145, 146, 147, 148, 149, 150, 151, 152, 153] (fun ((ys2329, l2324, i2327, A2325, c2326) : (List Int) × (List Int) × Int × (Option Addr) × Nat) => [(128, .int .i64 i2327)]) (fun ((ys2329, l2324, i2327, A2325, c2326) : (List Int) × (List Int) × Int × (Option Addr) × Nat) => [row (Kd.int .i64) 3 (.slice A2325 l2324.length c2326) l2324, row kStep 72 (.slice A2310 l2309.length c2311) l2309, box g1 27 #[.int .i64 0, .slice none 0 0, .slice none 0 0], box g1144 27 #[.int .i64 (l0_1.length : Int), .slice A2310 l2309.length c2311, .slice A2325 l2324.length c2326], box g1145 25 #[.slice A1147 l1146.length c1148], row (Kd.int .i64) 3 (.slice A1147 l1146.length c1148) l2308]) l0_3.length (l0_3, ([] : List Int), 0, none, 0) ⟨Rg.start _, rfl, hl2334⟩ ⟨rfl, trivial⟩ (fun w h => h) (fun k2330 => cur5 (listC (fun l2324 i2327 A2325 c2326 U2336 hJ_ => ?_) (fun y2328 ys2329 l2324 i2327 A2325 c2326 U2336 hJ_ => ?_))))
    ·skip
     clear hl2334
     have hr2331 := hJ_.1; have hk2337 := hJ_.2.1; have h := hJ_.2.2; clear hJ_
     replace h : impl_RegCode_read.l2 l2308 [] l2324 i2327 = some o2335 := h
     rw [impl_RegCode_read.l2] at h
     refine c_seq (za0 (o_q rfl rfl (q_lss rfl rfl) (o_end (za1 (c_seq (zb1 (vb_ hr2331.ge) (zb2 (zab (zab ?_)))))))))
     have e_ := si_ h; replace h := hR2333; rw [← e_] at h; clear e_
     refine x_hit (za1 (c_seq (a_startS (ds := []) [some 0, some 1, none, some 3, some 4, some 5] MO rfl (zau 0 rfl rfl rfl kr_ (fun _ _ _ h => h) (fun w h => za5 [some 0, some 1, none, some 3, some 4, some 5] dc_ w h rfl) (q_ldB G27 Z27 rfl (fun w h => h.zac (i := 3) rfl) rfl) (zaa 1 rfl rfl rfl kr_ (fun _ _ _ h => h) (za3 rfl) (zaa 2 rfl rfl rfl kr_ (fun _ _ _ h => h) (q_nil rfl) (zaa 3 rfl rfl rfl kr_ (fun _ _ _ h => h) (q_f F38_0 rfl) (zau 4 rfl rfl rfl kr_ (fun _ _ _ h => h) (fun w h => za5 [some 0, some 1, none, some 3, some 4, some 5] dc_ w h rfl) (q_ldb Y3 rfl (fun w h => B0.now Z h) rfl) (za6 h (fun b2339 hx2338 h => ?_) rfl)))))))))
     refine a_one 5 rfl rfl kr_ rfl (za7 0 Z Tryz.func88 N88 rfl rfl rfl (fun w P1 hF hB hS hT => impl_in.calls a0_0 1 46 hB hF _ hx2338)) (fun s w h => za5 [some 0, some 1, none, some 3, some 4, some 5] dc_ w h rfl) (fun _ => a_one 6 rfl rfl kr_ rfl (zae (i := 2) rfl rfl rfl Z27 rfl rfl) (fun s w h => za5 [some 0, some 1, none, some 3, some 4, some 5] dc_ w h rfl) (fun _ => zaa 7 rfl rfl rfl kr_ (fun _ _ _ h => h) (q_asg rfl) (zar kr_ (za1 (c_ret ?_)))))
     have e0_ := si_ h; clear h
     obtain ⟨rfl, e1_⟩ := Prod.mk.inj e0_
     obtain ⟨rfl, e2_⟩ := Prod.mk.inj e1_
     obtain ⟨rfl, e3_⟩ := Prod.mk.inj e2_
     subst e3_
     exact x_r2 (A2310, c2311, A2325, c2326) Tryz.results111 (zb8 rfl G27 Z27 (fun w h => h.zac (i := 2) rfl) rfl) (zad rfl) rfl (fun w h => za8 [1, 0] dc_ rfl w h)
    ·skip
     clear hl2334
     have hr2331 := hJ_.1; have hk2337 := hJ_.2.1; have h := hJ_.2.2; clear hJ_
     replace h : impl_RegCode_read.l2 l2308 (y2328 :: ys2329) l2324 i2327 = some o2335 := h
     rw [impl_RegCode_read.l2] at h
     refine c_seq (za0 (o_q rfl rfl (q_lss rfl rfl) (o_end (za1 (c_seq (zay (vb_ hr2331.lt) (zal (za1 (c_seq ?_)))))))))
     refine zah (c_seq (za0 (zb0 (p := Sh A0_3 l0_3.length l0_3.length) (fun w h => f_sh (dk := (Kd.int .i64)) h (fun w h => R0_3.now Z h)) (fun hq2340 => o_q rfl rfl (q_ix Tryz.underlying25 Z3 rfl rfl hq2340 hr2331.get) (o_q rfl rfl (q_lde (off := 0) Y3 rfl rfl (fun w h => R0_3.now Z h) hr2331.get (fun _ _ h => h) rfl) (o_q rfl rfl (q_asg rfl) (o_end (za1 (c_seq ?_)))))))))
     refine za6 h (fun o2348 hl2349 hR2350 => ?_) rfl
     clear h
     refine c_cutJ (σ := Bool) (fun b2347 => some b2347 = some o2348) [132, 133, 134, 135, 136, 137, 138, 139, 140, 141, 142] (fun b2347 => [(142, .bool b2347)]) (fun b2347 => [box g1 27 #[.int .i64 0, .slice none 0 0, .slice none 0 0], box g1144 27 #[.int .i64 (l0_1.length : Int), .slice A2310 l2309.length c2311, .slice A2325 l2324.length c2326], row kStep 72 (.slice A2310 l2309.length c2311) l2309, row (Kd.int .i64) 3 (.slice A2325 l2324.length c2326) l2324, box g1145 25 #[.slice A1147 l1146.length c1148], row (Kd.int .i64) 3 (.slice A1147 l1146.length c1148) l2308]) ?_ ?_
     ·skip
      have h := hl2349; clear hl2349
      clear hR2350
      refine za0 (o_q rfl rfl (za3 rfl) (o_q rfl rfl (za3 rfl) (za6 h (fun b2354 hx2353 h => ?_) rfl)))
      refine o_e rfl (za7 0 Z Tryz.func137 N137 rfl rfl rfl (fun w P1 hF hB hS hT => impl_RegCode_read_1.calls y2328 g1145 A1147 c1148 l1146.length l2308 hB hF (hT 5 _ rfl).row (hT 5 _ rfl).cap (hT 4 _ rfl).box _ hx2353)) (fun _ => o_q rfl rfl (q_not rfl) (o_q rfl rfl (za3 rfl) (byB b2354 (fun hb2355 => ?_) (fun hb2355 => ?_))))
      ·replace h := bb_t hb2355 h
       refine o_w (za4 rfl rfl rfl (congrArg (fun b => Value.bool (!(b))) hb2355)) rfl (q_ldb Y25 rfl (fun w h => h.zac (i := 4) rfl) rfl) (o_w (za4 rfl rfl rfl (congrArg (fun b => Value.bool (!(b))) hb2355)) rfl (za3 rfl) (zb0 (p := Sh A1147 l1146.length l2308.length) (fun w h => f_sh (dk := (Kd.int .i64)) h (fun w h => h.zat (i := 5) rfl)) (fun hq2356 => za6 h (fun y2358 hg2357 h => ?_) rfl)))
       refine o_w (za4 rfl rfl rfl (congrArg (fun b => Value.bool (!(b))) hb2355)) rfl (q_ix Tryz.underlying25 Z3 rfl rfl hq2356 hg2357) (o_w (za4 rfl rfl rfl (congrArg (fun b => Value.bool (!(b))) hb2355)) rfl (q_lde (off := 0) Y3 rfl rfl (fun w h => h.zat (i := 5) rfl) hg2357 (fun _ _ h => h) rfl) (o_w (za4 rfl rfl rfl (congrArg (fun b => Value.bool (!(b))) hb2355)) rfl (q_eql rfl rfl) (o_q rfl rfl (zai false (congrArg (fun b => Value.bool (!(b))) hb2355) rfl) (o_end (zam (decide (y2358 = (-1))) h ⟨rfl, trivial⟩ (fun w h => za8 [2, 3, 1, 0, 4, 5] dc_ rfl w h) ?_)))))
       exact of_
      ·replace h := bb_f hb2355 h
       refine o_n (d := 137) (za2 rfl rfl rfl (congrArg (fun b => Value.bool (!(b))) hb2355) rfl) (Eq.refl (some 137)) (o_n (d := 138) (za2 rfl rfl rfl (congrArg (fun b => Value.bool (!(b))) hb2355) rfl) (Eq.refl (some 138)) (o_n (d := 139) (za2 rfl rfl rfl (congrArg (fun b => Value.bool (!(b))) hb2355) rfl) (Eq.refl (some 139)) (o_n (d := 140) (za2 rfl rfl rfl (congrArg (fun b => Value.bool (!(b))) hb2355) rfl) (Eq.refl (some 140)) (o_n (d := 141) (za2 rfl rfl rfl (congrArg (fun b => Value.bool (!(b))) hb2355) rfl) (Eq.refl (some 141)) (o_q rfl rfl (zai true (congrArg (fun b => Value.bool (!(b))) hb2355) rfl) (o_end (zam true h ⟨rfl, trivial⟩ (fun w h => za8 [2, 3, 1, 0, 4, 5] dc_ rfl w h) ?_)))))))
       exact of_
     ·skip
      refine (fun b2347 => fun U2351 hJ2352 => ?_)
      have e_ := si_ hJ2352; have h := hR2350; rw [← e_] at h; clear e_ hJ2352 hR2350 hl2349
      refine zas _ rfl (fun hb2359 => ?_) (fun hb2359 => ?_)
      ·skip
       replace h := bb_t hb2359 h
       refine c_seq (za0 (o_q rfl rfl (zaw (vs := []) (cs := [.int .i64 0, .slice none 0 0, .slice none 0 0]) rfl rfl) (o_e rfl (zae (i := 0) rfl rfl rfl Z27 rfl rfl) (fun _ => o_q rfl rfl (q_asg rfl) (o_end (za1 (c_ret (za9 (zan ?_)))))))))
       refine za9 (za9 ?_)
       have e_ := si_ h; replace h := hR2333; rw [← e_] at h; clear e_
       refine zan (za9 (x_nil kStep 72 (x_nil (Kd.int .i64) 3 ?_)))
       have e0_ := si_ h; clear h
       obtain ⟨rfl, e1_⟩ := Prod.mk.inj e0_
       obtain ⟨rfl, e2_⟩ := Prod.mk.inj e1_
       obtain ⟨rfl, e3_⟩ := Prod.mk.inj e2_
       subst e3_
       exact x_r2 (none, 0, none, 0) Tryz.results111 (zb8 rfl G27 Z27 (fun w h => h.zac (i := 2) rfl) rfl) (zad rfl) rfl (fun w h => za8 [1, 0] dc_ rfl w h)
      ·skip
       replace h := bb_f hb2359 h
       refine zal (za1 (za6 h (fun y2603 hg2602 h => ?_) rfl))
       refine za6 h (fun l2781 ha2782 h => ?_) rfl
       refine a_startS (ds := []) [some 0, none, some 2, none, some 4, some 5] MO rfl (zaa 0 rfl rfl rfl kr_ (fun _ _ _ h => h) (q_f F27_2 rfl) (zau 2 rfl rfl rfl kr_ (fun _ _ _ h => h) (fun w h => za5 [some 0, none, some 2, none, some 4, some 5] dc_ w h rfl) (q_ldb Y25 rfl (fun w h => h.zac (i := 4) rfl) rfl) (zaa 3 rfl rfl rfl kr_ (fun _ _ _ h => h) (za3 rfl) (a_fact (p := Sh A1147 l1146.length l2308.length) (fun w h => f_sh (dk := (Kd.int .i64)) h (fun w h => h.zat (i := 5) rfl)) (fun hq2601 => zaa 4 rfl rfl rfl kr_ (fun _ _ _ h => h) (q_ix Tryz.underlying25 Z3 rfl rfl hq2601 hg2602) (zau 5 rfl rfl rfl kr_ (fun _ _ _ h => h) (fun w h => za5 [some 0, none, some 2, none, some 4, some 5] dc_ w h rfl) (q_lde (off := 0) Y3 rfl rfl (fun w h => h.zat (i := 5) rfl) hg2602 (fun _ _ h => h) rfl) (a_two 1 6 rfl rfl rfl rfl kr_ rfl rfl (ev_q rfl (q_ldb Y25 rfl (fun w h => h.zac (i := 1) rfl) rfl)) (fun s w h => za5 [some 0, none, some 2, none, some 4, some 5] dc_ w h rfl) (e_lit (vs := [(0, .int .i64 y2603)]) (cs := [.int .i64 y2603]) (Kd.int .i64) ([y2603] : List Int) Tryz.underlying25 I3 dc_ rfl dc_ rfl rfl (fun _ _ => Kd.zaf _)) (fun s w h => za5 [some 1, none, some 3, none, some 5, some 6] dc_ w h rfl) (fun _ => ?_) (cur2 (fun A2721 c2722 => ?_)))))))))
       ·skip
        refine a_one 6 rfl rfl kr_ rfl (e_lit (vs := [(0, .int .i64 y2603)]) (cs := [.int .i64 y2603]) (Kd.int .i64) ([y2603] : List Int) Tryz.underlying25 I3 dc_ rfl dc_ rfl rfl (fun _ _ => Kd.zaf _)) (fun s w h => za5 [some 1, none, some 3, none, some 5, some 6] dc_ w h rfl) (cur2 (fun A2721 c2722 => a_one 7 rfl rfl kr_ rfl (e_app (i := 4) (j := 0) Tryz.underlying25 I3 rfl dc_ dc_ rfl rfl rfl rfl rfl ha2782) (fun s w h => za5 [some 1, none, some 3, none, some 5, some 6] dc_ w h rfl) (cur2 (fun A2783 c2784 => zaa 8 rfl rfl rfl kr_ (fun _ _ _ h => h) (q_f F27_2 rfl) (a_one 9 rfl rfl kr_ rfl (zav (i := 2) rfl rfl rfl rfl Z25 rfl rfl) (fun s w h => za5 [some 1, none, some 3, none, some 5, some 6] dc_ w h rfl) (fun _ => zar kr_ (zak (za1 (za0 (o_q rfl rfl (q_up rfl rfl (hr2331.up hm2332)) (o_q rfl rfl (za3 rfl) ?_)))))))))))
        refine o_end (zaj ys2329.length (ys2329, l2781, i2327 + 1, A2783, c2784) (by rw [← hk2337]; exact Nat.lt_succ_self _) ⟨hr2331.step, rfl, h⟩ ⟨rfl, trivial⟩ (fun w h => za8 [4, 3, 1, 2, 5, 6] dc_ rfl w h) ?_)
        exact of_
       ·skip
        refine a_one 1 rfl rfl kr_ rfl (ev_q rfl (q_ldb Y25 rfl (fun w h => h.zac (i := 2) rfl) rfl)) (fun s w h => za5 [some 1, none, some 3, none, some 5, some 6] dc_ w h rfl) (fun _ => a_one 7 rfl rfl kr_ rfl (e_app (i := 4) (j := 0) Tryz.underlying25 I3 rfl dc_ dc_ rfl rfl rfl rfl rfl ha2782) (fun s w h => za5 [some 1, none, some 3, none, some 5, some 6] dc_ w h rfl) (cur2 (fun A2783 c2784 => zaa 8 rfl rfl rfl kr_ (fun _ _ _ h => h) (q_f F27_2 rfl) (a_one 9 rfl rfl kr_ rfl (zav (i := 2) rfl rfl rfl rfl Z25 rfl rfl) (fun s w h => za5 [some 1, none, some 3, none, some 5, some 6] dc_ w h rfl) (fun _ => zar kr_ (zak (za1 (za0 (o_q rfl rfl (q_up rfl rfl (hr2331.up hm2332)) (o_q rfl rfl (za3 rfl) ?_))))))))))
        refine o_end (zaj ys2329.length (ys2329, l2781, i2327 + 1, A2783, c2784) (by rw [← hk2337]; exact Nat.lt_succ_self _) ⟨hr2331.step, rfl, h⟩ ⟨rfl, trivial⟩ (fun w h => za8 [4, 3, 1, 2, 5, 6] dc_ rfl w h) ?_)
        exact of_
   ·skip
    clear hl2319
    have hr2316 := hJ_.1; have hk2322 := hJ_.2.1; have h := hJ_.2.2; clear hJ_
    replace h : impl_RegCode_read.l1 l0_1 (y2313 :: ys2314) l2308 l2309 i2312 = some o2320 := h
    rw [impl_RegCode_read.l1] at h
    refine c_seq (za0 (o_q rfl rfl (q_lss rfl rfl) (o_end (za1 (c_seq (zay (vb_ hr2316.lt) (zal (za1 (c_seq ?_)))))))))
    refine zah (c_seq (za0 (zb0 (p := Sh A0_2 l0_2.length l0_2.length) (fun w h => f_sh (dk := zaq) h (fun w h => R0_2.now Z h)) (fun hq3021 => o_q rfl rfl (q_ix Tryz.underlying36 Z84 rfl rfl hq3021 hr2316.get) (o_q rfl rfl (q_ldE G84 Z84 rfl rfl (fun w h => R0_2.now Z h) hr2316.get (fun _ _ h => h) rfl) (o_e rfl (zao V84 rfl) (fun g3022 => o_e rfl (zae (i := 0) rfl rfl rfl Z84 rfl rfl) (fun _ => o_end (za1 ?_)))))))))
    refine c_seq (za6 h (fun o3040 hl3041 hR3042 => ?_) rfl)
    clear h
    refine c_cutJ (σ := Bool) (fun b3039 => some b3039 = some o3040) [64, 65, 66, 67, 68, 69, 70, 71, 72, 73, 74, 75, 76, 77, 78, 79, 80, 81, 82, 83, 84, 85, 86, 87, 88, 89, 90, 91, 92, 93, 94, 95, 96, 97, 98] (fun b3039 => [(98, .bool b3039)]) (fun b3039 => [box g1 27 #[.int .i64 0, .slice none 0 0, .slice none 0 0], box g1144 27 #[.int .i64 (l0_1.length : Int), .slice A2310 l2309.length c2311, .slice none 0 0], row kStep 72 (.slice A2310 l2309.length c2311) l2309, box g1145 25 #[.slice A1147 l1146.length c1148], row (Kd.int .i64) 3 (.slice A1147 l1146.length c1148) l2308, box g3022 84 #[.int .i64 y2313.f0, .int .i64 y2313.f1, .int .i64 y2313.f2]]) ?_ ?_
    ·skip
     have h := hl3041; clear hl3041
     clear hR3042
     refine za0 (o_q rfl rfl (za3 rfl) (o_q rfl rfl (q_f F84_0 rfl) (o_q rfl rfl (q_ldb Y3 rfl (fun w h => h.zac (i := 0) rfl) rfl) (za6 h (fun b3046 hx3045 h => ?_) rfl))))
     refine o_e rfl (za7 0 Z Tryz.func137 N137 rfl rfl rfl (fun w P1 hF hB hS hT => impl_RegCode_read_1.calls y2313.f0 g1145 A1147 c1148 l1146.length l2308 hB hF (hT 5 _ rfl).row (hT 5 _ rfl).cap (hT 4 _ rfl).box _ hx3045)) (fun _ => o_q rfl rfl (q_not rfl) (o_q rfl rfl (za3 rfl) (byB b3046 (fun hb3047 => ?_) (fun hb3047 => ?_))))
     ·replace h := bb_t hb3047 h
      refine o_w (za4 rfl rfl rfl (congrArg (fun b => Value.bool (!(b))) hb3047)) rfl (za3 rfl) (o_w (za4 rfl rfl rfl (congrArg (fun b => Value.bool (!(b))) hb3047)) rfl (q_f F84_1 rfl) (o_w (za4 rfl rfl rfl (congrArg (fun b => Value.bool (!(b))) hb3047)) rfl (q_ldb Y3 rfl (fun w h => h.zac (i := 0) rfl) rfl) (za6 h (fun b3049 hx3048 h => ?_) rfl)))
      refine o_ew (za4 rfl rfl rfl (congrArg (fun b => Value.bool (!(b))) hb3047)) (za7 0 Z Tryz.func137 N137 rfl rfl rfl (fun w P1 hF hB hS hT => impl_RegCode_read_1.calls y2313.f1 g1145 A1147 c1148 l1146.length l2308 hB hF (hT 5 _ rfl).row (hT 5 _ rfl).cap (hT 4 _ rfl).box _ hx3048)) (fun _ => o_w (za4 rfl rfl rfl (congrArg (fun b => Value.bool (!(b))) hb3047)) rfl (q_not rfl) (o_q rfl rfl (zai false (congrArg (fun b => Value.bool (!(b))) hb3047) rfl) (o_q rfl rfl (za3 rfl) (byB b3049 (fun hb3050 => ?_) (fun hb3050 => ?_)))))
      ·replace h := bb_t hb3050 h
       refine o_w (za4 rfl rfl rfl (congrArg (fun b => Value.bool (!(b))) hb3050)) rfl (za3 rfl) (o_w (za4 rfl rfl rfl (congrArg (fun b => Value.bool (!(b))) hb3050)) rfl (q_f F84_2 rfl) (o_w (za4 rfl rfl rfl (congrArg (fun b => Value.bool (!(b))) hb3050)) rfl (q_ldb Y3 rfl (fun w h => h.zac (i := 0) rfl) rfl) (za6 h (fun b3052 hx3051 h => ?_) rfl)))
       refine o_ew (za4 rfl rfl rfl (congrArg (fun b => Value.bool (!(b))) hb3050)) (za7 0 Z Tryz.func137 N137 rfl rfl rfl (fun w P1 hF hB hS hT => impl_RegCode_read_1.calls y2313.f2 g1145 A1147 c1148 l1146.length l2308 hB hF (hT 5 _ rfl).row (hT 5 _ rfl).cap (hT 4 _ rfl).box _ hx3051)) (fun _ => o_w (za4 rfl rfl rfl (congrArg (fun b => Value.bool (!(b))) hb3050)) rfl (q_not rfl) (o_q rfl rfl (zai false (congrArg (fun b => Value.bool (!(b))) hb3050) rfl) (o_q rfl rfl (za3 rfl) (byB b3052 (fun hb3053 => ?_) (fun hb3053 => ?_)))))
       ·replace h := bb_t hb3053 h
        refine o_w (za4 rfl rfl rfl (congrArg (fun b => Value.bool (!(b))) hb3053)) rfl (q_ldb Y25 rfl (fun w h => h.zac (i := 4) rfl) rfl) (o_w (za4 rfl rfl rfl (congrArg (fun b => Value.bool (!(b))) hb3053)) rfl (q_f F84_1 rfl) (o_w (za4 rfl rfl rfl (congrArg (fun b => Value.bool (!(b))) hb3053)) rfl (q_ldb Y3 rfl (fun w h => h.zac (i := 0) rfl) rfl) (zb0 (p := Sh A1147 l1146.length l2308.length) (fun w h => f_sh (dk := (Kd.int .i64)) h (fun w h => h.zat (i := 5) rfl)) (fun hq3054 => za6 h (fun y3056 hg3055 h => ?_) rfl))))
        refine o_w (za4 rfl rfl rfl (congrArg (fun b => Value.bool (!(b))) hb3053)) rfl (q_ix Tryz.underlying25 Z3 rfl rfl hq3054 hg3055) (o_w (za4 rfl rfl rfl (congrArg (fun b => Value.bool (!(b))) hb3053)) rfl (q_lde (off := 0) Y3 rfl rfl (fun w h => h.zat (i := 5) rfl) hg3055 (fun _ _ h => h) rfl) (o_w (za4 rfl rfl rfl (congrArg (fun b => Value.bool (!(b))) hb3053)) rfl (q_eql rfl rfl) (o_q rfl rfl (zai false (congrArg (fun b => Value.bool (!(b))) hb3053) rfl) (o_q rfl rfl (za3 rfl) (byB (decide (y3056 = (-1))) (fun hb3057 => ?_) (fun hb3057 => ?_))))))
        ·replace h := br_t hb3057 h
         refine o_n (d := 92) (za2 rfl rfl rfl (vb_ hb3057) rfl) (Eq.refl (some 92)) (o_n (d := 93) (za2 rfl rfl rfl (vb_ hb3057) rfl) (Eq.refl (some 93)) (o_n (d := 94) (za2 rfl rfl rfl (vb_ hb3057) rfl) (Eq.refl (some 94)) (o_n (d := 95) (za2 rfl rfl rfl (vb_ hb3057) rfl) (Eq.refl (some 95)) (o_n (d := 96) (za2 rfl rfl rfl (vb_ hb3057) rfl) (Eq.refl (some 96)) (o_n (d := 97) (za2 rfl rfl rfl (vb_ hb3057) rfl) (Eq.refl (some 97)) (o_q rfl rfl (zai true (vb_ hb3057) rfl) (o_end (zam true h ⟨rfl, trivial⟩ (fun w h => za8 [2, 3, 1, 4, 5, 0] dc_ rfl w h) ?_))))))))
         exact of_
        ·replace h := br_f hb3057 h
         refine o_w (za4 rfl rfl rfl (vb_ hb3057)) rfl (q_ldb Y25 rfl (fun w h => h.zac (i := 4) rfl) rfl) (o_w (za4 rfl rfl rfl (vb_ hb3057)) rfl (q_f F84_2 rfl) (o_w (za4 rfl rfl rfl (vb_ hb3057)) rfl (q_ldb Y3 rfl (fun w h => h.zac (i := 0) rfl) rfl) (za6 h (fun y3059 hg3058 h => ?_) rfl)))
         refine o_w (za4 rfl rfl rfl (vb_ hb3057)) rfl (q_ix Tryz.underlying25 Z3 rfl rfl hq3054 hg3058) (o_w (za4 rfl rfl rfl (vb_ hb3057)) rfl (q_lde (off := 0) Y3 rfl rfl (fun w h => h.zat (i := 5) rfl) hg3058 (fun _ _ h => h) rfl) (o_w (za4 rfl rfl rfl (vb_ hb3057)) rfl (q_eql rfl rfl) (o_q rfl rfl (zai false (vb_ hb3057) rfl) (o_end (zam (decide (y3059 = (-1))) h ⟨rfl, trivial⟩ (fun w h => za8 [2, 3, 1, 4, 5, 0] dc_ rfl w h) ?_)))))
         exact of_
       ·replace h := bb_f hb3053 h
        refine o_n (d := 84) (za2 rfl rfl rfl (congrArg (fun b => Value.bool (!(b))) hb3053) rfl) (Eq.refl (some 84)) (o_n (d := 85) (za2 rfl rfl rfl (congrArg (fun b => Value.bool (!(b))) hb3053) rfl) (Eq.refl (some 85)) (o_n (d := 86) (za2 rfl rfl rfl (congrArg (fun b => Value.bool (!(b))) hb3053) rfl) (Eq.refl (some 86)) (o_n (d := 87) (za2 rfl rfl rfl (congrArg (fun b => Value.bool (!(b))) hb3053) rfl) (Eq.refl (some 87)) (o_n (d := 88) (za2 rfl rfl rfl (congrArg (fun b => Value.bool (!(b))) hb3053) rfl) (Eq.refl (some 88)) (o_n (d := 89) (za2 rfl rfl rfl (congrArg (fun b => Value.bool (!(b))) hb3053) rfl) (Eq.refl (some 89)) (o_q rfl rfl (zai true (congrArg (fun b => Value.bool (!(b))) hb3053) rfl) (o_q rfl rfl (za3 rfl) (o_n (d := 92) (za2 rfl rfl rfl rfl rfl) (Eq.refl (some 92)) (o_n (d := 93) (za2 rfl rfl rfl rfl rfl) (Eq.refl (some 93)) ?_)))))))))
        refine o_n (d := 94) (za2 rfl rfl rfl rfl rfl) (Eq.refl (some 94)) (o_n (d := 95) (za2 rfl rfl rfl rfl rfl) (Eq.refl (some 95)) (o_n (d := 96) (za2 rfl rfl rfl rfl rfl) (Eq.refl (some 96)) (o_n (d := 97) (za2 rfl rfl rfl rfl rfl) (Eq.refl (some 97)) (o_q rfl rfl (zai true rfl rfl) (o_end (zam true h ⟨rfl, trivial⟩ (fun w h => za8 [2, 3, 1, 4, 5, 0] dc_ rfl w h) ?_))))))
        exact of_
      ·replace h := bb_f hb3050 h
       refine o_n (d := 77) (za2 rfl rfl rfl (congrArg (fun b => Value.bool (!(b))) hb3050) rfl) (Eq.refl (some 77)) (o_n (d := 78) (za2 rfl rfl rfl (congrArg (fun b => Value.bool (!(b))) hb3050) rfl) (Eq.refl (some 78)) (o_n (d := 79) (za2 rfl rfl rfl (congrArg (fun b => Value.bool (!(b))) hb3050) rfl) (Eq.refl (some 79)) (o_n (d := 80) (za2 rfl rfl rfl (congrArg (fun b => Value.bool (!(b))) hb3050) rfl) (Eq.refl (some 80)) (o_n (d := 81) (za2 rfl rfl rfl (congrArg (fun b => Value.bool (!(b))) hb3050) rfl) (Eq.refl (some 81)) (o_q rfl rfl (zai true (congrArg (fun b => Value.bool (!(b))) hb3050) rfl) (o_q rfl rfl (za3 rfl) (o_n (d := 84) (za2 rfl rfl rfl rfl rfl) (Eq.refl (some 84)) (o_n (d := 85) (za2 rfl rfl rfl rfl rfl) (Eq.refl (some 85)) (o_n (d := 86) (za2 rfl rfl rfl rfl rfl) (Eq.refl (some 86)) ?_)))))))))
       refine o_n (d := 87) (za2 rfl rfl rfl rfl rfl) (Eq.refl (some 87)) (o_n (d := 88) (za2 rfl rfl rfl rfl rfl) (Eq.refl (some 88)) (o_n (d := 89) (za2 rfl rfl rfl rfl rfl) (Eq.refl (some 89)) (o_q rfl rfl (zai true rfl rfl) (o_q rfl rfl (za3 rfl) (o_n (d := 92) (za2 rfl rfl rfl rfl rfl) (Eq.refl (some 92)) (o_n (d := 93) (za2 rfl rfl rfl rfl rfl) (Eq.refl (some 93)) (o_n (d := 94) (za2 rfl rfl rfl rfl rfl) (Eq.refl (some 94)) (o_n (d := 95) (za2 rfl rfl rfl rfl rfl) (Eq.refl (some 95)) (o_n (d := 96) (za2 rfl rfl rfl rfl rfl) (Eq.refl (some 96)) ?_)))))))))
       refine o_n (d := 97) (za2 rfl rfl rfl rfl rfl) (Eq.refl (some 97)) (o_q rfl rfl (zai true rfl rfl) (o_end (zam true h ⟨rfl, trivial⟩ (fun w h => za8 [2, 3, 1, 4, 5, 0] dc_ rfl w h) ?_)))
       exact of_
     ·replace h := bb_f hb3047 h
      refine o_n (d := 70) (za2 rfl rfl rfl (congrArg (fun b => Value.bool (!(b))) hb3047) rfl) (Eq.refl (some 70)) (o_n (d := 71) (za2 rfl rfl rfl (congrArg (fun b => Value.bool (!(b))) hb3047) rfl) (Eq.refl (some 71)) (o_n (d := 72) (za2 rfl rfl rfl (congrArg (fun b => Value.bool (!(b))) hb3047) rfl) (Eq.refl (some 72)) (o_n (d := 73) (za2 rfl rfl rfl (congrArg (fun b => Value.bool (!(b))) hb3047) rfl) (Eq.refl (some 73)) (o_n (d := 74) (za2 rfl rfl rfl (congrArg (fun b => Value.bool (!(b))) hb3047) rfl) (Eq.refl (some 74)) (o_q rfl rfl (zai true (congrArg (fun b => Value.bool (!(b))) hb3047) rfl) (o_q rfl rfl (za3 rfl) (o_n (d := 77) (za2 rfl rfl rfl rfl rfl) (Eq.refl (some 77)) (o_n (d := 78) (za2 rfl rfl rfl rfl rfl) (Eq.refl (some 78)) (o_n (d := 79) (za2 rfl rfl rfl rfl rfl) (Eq.refl (some 79)) ?_)))))))))
      refine o_n (d := 80) (za2 rfl rfl rfl rfl rfl) (Eq.refl (some 80)) (o_n (d := 81) (za2 rfl rfl rfl rfl rfl) (Eq.refl (some 81)) (o_q rfl rfl (zai true rfl rfl) (o_q rfl rfl (za3 rfl) (o_n (d := 84) (za2 rfl rfl rfl rfl rfl) (Eq.refl (some 84)) (o_n (d := 85) (za2 rfl rfl rfl rfl rfl) (Eq.refl (some 85)) (o_n (d := 86) (za2 rfl rfl rfl rfl rfl) (Eq.refl (some 86)) (o_n (d := 87) (za2 rfl rfl rfl rfl rfl) (Eq.refl (some 87)) (o_n (d := 88) (za2 rfl rfl rfl rfl rfl) (Eq.refl (some 88)) (o_n (d := 89) (za2 rfl rfl rfl rfl rfl) (Eq.refl (some 89)) ?_)))))))))
      refine o_q rfl rfl (zai true rfl rfl) (o_q rfl rfl (za3 rfl) (o_n (d := 92) (za2 rfl rfl rfl rfl rfl) (Eq.refl (some 92)) (o_n (d := 93) (za2 rfl rfl rfl rfl rfl) (Eq.refl (some 93)) (o_n (d := 94) (za2 rfl rfl rfl rfl rfl) (Eq.refl (some 94)) (o_n (d := 95) (za2 rfl rfl rfl rfl rfl) (Eq.refl (some 95)) (o_n (d := 96) (za2 rfl rfl rfl rfl rfl) (Eq.refl (some 96)) (o_n (d := 97) (za2 rfl rfl rfl rfl rfl) (Eq.refl (some 97)) (o_q rfl rfl (zai true rfl rfl) (o_end ?_)))))))))
      refine zam true h ⟨rfl, trivial⟩ (fun w h => za8 [2, 3, 1, 4, 5, 0] dc_ rfl w h) ?_
      exact of_
    ·skip
     refine (fun b3039 => fun U3043 hJ3044 => ?_)
     have e_ := si_ hJ3044; have h := hR3042; rw [← e_] at h; clear e_ hJ3044 hR3042 hl3041
     refine zas _ rfl (fun hb3060 => ?_) (fun hb3060 => ?_)
     ·skip
      replace h := bb_t hb3060 h
      refine c_seq (za0 (o_q rfl rfl (zaw (vs := []) (cs := [.int .i64 0, .slice none 0 0, .slice none 0 0]) rfl rfl) (o_e rfl (zae (i := 0) rfl rfl rfl Z27 rfl rfl) (fun _ => o_q rfl rfl (q_asg rfl) (o_end (za1 (c_ret (za9 (zan ?_)))))))))
      refine za9 (za9 ?_)
      have e_ := si_ h; replace h := hR2318; rw [← e_] at h; clear e_
      refine zan (za9 (x_nil kStep 72 (x_nil (Kd.int .i64) 3 ?_)))
      have e0_ := si_ h; clear h
      obtain ⟨rfl, e1_⟩ := Prod.mk.inj e0_
      obtain ⟨rfl, e2_⟩ := Prod.mk.inj e1_
      obtain ⟨rfl, e3_⟩ := Prod.mk.inj e2_
      subst e3_
      exact x_r2 (none, 0, none, 0) Tryz.results111 (zb8 rfl G27 Z27 (fun w h => h.zac (i := 2) rfl) rfl) (zad rfl) rfl (fun w h => za8 [1, 0] dc_ rfl w h)
     ·skip
      replace h := bb_f hb3060 h
      refine zal (za1 (za6 h (fun o4145 hl4146 hR4147 => ?_) rfl))
      clear h
      refine c_cutJ (σ := (List SStep) × (Option Addr) × Nat) (fun (l4142, A4143, c4144) => some l4142 = some o4145) [100, 101, 102, 103, 104, 105, 106, 107, 108, 109, 110, 111, 112, 113, 114, 115] (fun (l4142, A4143, c4144) => []) (fun (l4142, A4143, c4144) => [box g1 27 #[.int .i64 0, .slice none 0 0, .slice none 0 0], box g1144 27 #[.int .i64 (l0_1.length : Int), .slice A4143 l4142.length c4144, .slice none 0 0], row kStep 72 (.slice A4143 l4142.length c4144) l4142, box g1145 25 #[.slice A1147 l1146.length c1148], row (Kd.int .i64) 3 (.slice A1147 l1146.length c1148) l2308, box g3022 84 #[.int .i64 y2313.f0, .int .i64 y2313.f1, .int .i64 y2313.f2]]) ?_ ?_
      ·skip
       have h := hl4146; clear hl4146
       clear hR4147
       refine za6 h (fun y4453 hg4452 h => ?_) rfl
       refine za6 h (fun y4752 hg4751 h => ?_) rfl
       refine za6 h (fun _ hx4871 h => ?_) rfl
       refine za6 h (fun l4991 ha4992 h => ?_) rfl
       refine a_startS (ds := []) [some 0, none, none, some 3, some 4, some 5] MO rfl (zaa 0 rfl rfl rfl kr_ (fun _ _ _ h => h) (q_f F27_1 rfl) (zau 2 rfl rfl rfl kr_ (fun _ _ _ h => h) (fun w h => za5 [some 0, none, none, some 3, some 4, some 5] dc_ w h rfl) (q_ldb Y25 rfl (fun w h => h.zac (i := 3) rfl) rfl) (zaa 3 rfl rfl rfl kr_ (fun _ _ _ h => h) (q_f F84_1 rfl) (zau 4 rfl rfl rfl kr_ (fun _ _ _ h => h) (fun w h => za5 [some 0, none, none, some 3, some 4, some 5] dc_ w h rfl) (q_ldb Y3 rfl (fun w h => h.zac (i := 5) rfl) rfl) (a_fact (p := Sh A1147 l1146.length l2308.length) (fun w h => f_sh (dk := (Kd.int .i64)) h (fun w h => h.zat (i := 4) rfl)) (fun hq4451 => zaa 5 rfl rfl rfl kr_ (fun _ _ _ h => h) (q_ix Tryz.underlying25 Z3 rfl rfl hq4451 hg4452) (zau 6 rfl rfl rfl kr_ (fun _ _ _ h => h) (fun w h => za5 [some 0, none, none, some 3, some 4, some 5] dc_ w h rfl) (q_lde (off := 0) Y3 rfl rfl (fun w h => h.zat (i := 4) rfl) hg4452 (fun _ _ h => h) rfl) (zau 7 rfl rfl rfl kr_ (fun _ _ _ h => h) (fun w h => za5 [some 0, none, none, some 3, some 4, some 5] dc_ w h rfl) (q_ldb Y25 rfl (fun w h => h.zac (i := 3) rfl) rfl) (zaa 8 rfl rfl rfl kr_ (fun _ _ _ h => h) (q_f F84_2 rfl) ?_)))))))))
       refine zau 9 rfl rfl rfl kr_ (fun _ _ _ h => h) (fun w h => za5 [some 0, none, none, some 3, some 4, some 5] dc_ w h rfl) (q_ldb Y3 rfl (fun w h => h.zac (i := 5) rfl) rfl) (zaa 10 rfl rfl rfl kr_ (fun _ _ _ h => h) (q_ix Tryz.underlying25 Z3 rfl rfl hq4451 hg4751) (zau 11 rfl rfl rfl kr_ (fun _ _ _ h => h) (fun w h => za5 [some 0, none, none, some 3, some 4, some 5] dc_ w h rfl) (q_lde (off := 0) Y3 rfl rfl (fun w h => h.zat (i := 4) rfl) hg4751 (fun _ _ h => h) rfl) (a_two 1 12 rfl rfl rfl rfl kr_ rfl rfl (ev_q rfl (q_ldb Y24 rfl (fun w h => h.zac (i := 1) rfl) rfl)) (fun s w h => za5 [some 0, none, none, some 3, some 4, some 5] dc_ w h rfl) (za7 0 Z Tryz.func138 N138 rfl rfl rfl (fun w P1 hF hB hS hT => impl_step.calls y4453 y4752 hB hF hx4871)) (fun s w h => za5 [some 0, none, none, some 3, some 4, some 5] dc_ w h rfl) (fun _ => ?_) (fun _ => ?_))))
       ·skip
        refine a_one 12 rfl rfl kr_ rfl (za7 0 Z Tryz.func138 N138 rfl rfl rfl (fun w P1 hF hB hS hT => impl_step.calls y4453 y4752 hB hF hx4871)) (fun s w h => za5 [some 0, none, none, some 3, some 4, some 5] dc_ w h rfl) (fun _ => a_one 13 rfl rfl kr_ rfl (e_lit (vs := [(0, .agg #[.int .i64 (mn y4453 y4752), .int .i64 (mx y4453 y4752)])]) (cs := [.int .i64 (mn y4453 y4752), .int .i64 (mx y4453 y4752)]) kStep ([(⟨mn y4453 y4752, mx y4453 y4752⟩ : SStep)] : List SStep) Tryz.underlying24 I72 dc_ rfl dc_ rfl rfl (fun _ _ => zb4 _)) (fun s w h => za5 [some 1, none, none, some 4, some 5, some 6] dc_ w h rfl) (cur2 (fun A4931 c4932 => a_one 14 rfl rfl kr_ rfl (e_app (i := 3) (j := 0) Tryz.underlying24 I72 rfl dc_ dc_ rfl rfl rfl rfl rfl ha4992) (fun s w h => za5 [some 1, none, none, some 4, some 5, some 6] dc_ w h rfl) (cur2 (fun A4993 c4994 => zaa 15 rfl rfl rfl kr_ (fun _ _ _ h => h) (q_f F27_1 rfl) (a_one 16 rfl rfl kr_ rfl (zav (i := 2) rfl rfl rfl rfl Z24 rfl rfl) (fun s w h => za5 [some 1, none, none, some 4, some 5, some 6] dc_ w h rfl) (fun _ => zar kr_ (zam (l4991, A4993, c4994) h trivial (fun w h => za8 [1, 2, 3, 4, 5, 6] dc_ rfl w h) ?_))))))))
        exact of_
       ·skip
        refine a_two 1 13 rfl rfl rfl rfl kr_ rfl rfl (ev_q rfl (q_ldb Y24 rfl (fun w h => h.zac (i := 1) rfl) rfl)) (fun s w h => za5 [some 0, none, none, some 3, some 4, some 5] dc_ w h rfl) (e_lit (vs := [(0, .agg #[.int .i64 (mn y4453 y4752), .int .i64 (mx y4453 y4752)])]) (cs := [.int .i64 (mn y4453 y4752), .int .i64 (mx y4453 y4752)]) kStep ([(⟨mn y4453 y4752, mx y4453 y4752⟩ : SStep)] : List SStep) Tryz.underlying24 I72 dc_ rfl dc_ rfl rfl (fun _ _ => zb4 _)) (fun s w h => za5 [some 1, none, none, some 4, some 5, some 6] dc_ w h rfl) (fun _ => ?_) (cur2 (fun A4931 c4932 => ?_))
        ·skip
         refine a_one 13 rfl rfl kr_ rfl (e_lit (vs := [(0, .agg #[.int .i64 (mn y4453 y4752), .int .i64 (mx y4453 y4752)])]) (cs := [.int .i64 (mn y4453 y4752), .int .i64 (mx y4453 y4752)]) kStep ([(⟨mn y4453 y4752, mx y4453 y4752⟩ : SStep)] : List SStep) Tryz.underlying24 I72 dc_ rfl dc_ rfl rfl (fun _ _ => zb4 _)) (fun s w h => za5 [some 1, none, none, some 4, some 5, some 6] dc_ w h rfl) (cur2 (fun A4931 c4932 => a_one 14 rfl rfl kr_ rfl (e_app (i := 3) (j := 0) Tryz.underlying24 I72 rfl dc_ dc_ rfl rfl rfl rfl rfl ha4992) (fun s w h => za5 [some 1, none, none, some 4, some 5, some 6] dc_ w h rfl) (cur2 (fun A4993 c4994 => zaa 15 rfl rfl rfl kr_ (fun _ _ _ h => h) (q_f F27_1 rfl) (a_one 16 rfl rfl kr_ rfl (zav (i := 2) rfl rfl rfl rfl Z24 rfl rfl) (fun s w h => za5 [some 1, none, none, some 4, some 5, some 6] dc_ w h rfl) (fun _ => zar kr_ (zam (l4991, A4993, c4994) h trivial (fun w h => za8 [1, 2, 3, 4, 5, 6] dc_ rfl w h) ?_)))))))
         exact of_
        ·skip
         refine a_one 1 rfl rfl kr_ rfl (ev_q rfl (q_ldb Y24 rfl (fun w h => h.zac (i := 2) rfl) rfl)) (fun s w h => za5 [some 1, none, none, some 4, some 5, some 6] dc_ w h rfl) (fun _ => a_one 14 rfl rfl kr_ rfl (e_app (i := 3) (j := 0) Tryz.underlying24 I72 rfl dc_ dc_ rfl rfl rfl rfl rfl ha4992) (fun s w h => za5 [some 1, none, none, some 4, some 5, some 6] dc_ w h rfl) (cur2 (fun A4993 c4994 => zaa 15 rfl rfl rfl kr_ (fun _ _ _ h => h) (q_f F27_1 rfl) (a_one 16 rfl rfl kr_ rfl (zav (i := 2) rfl rfl rfl rfl Z24 rfl rfl) (fun s w h => za5 [some 1, none, none, some 4, some 5, some 6] dc_ w h rfl) (fun _ => zar kr_ (zam (l4991, A4993, c4994) h trivial (fun w h => za8 [1, 2, 3, 4, 5, 6] dc_ rfl w h) ?_))))))
         exact of_
      ·skip
       refine (cur3 (fun l4142 A4143 c4144 => fun U4148 hJ4149 => ?_))
       have e_ := si_ hJ4149; have h := hR4147; rw [← e_] at h; clear e_ hJ4149 hR4147 hl4146
       refine a_startS (ds := []) [some 0, some 1, some 2, some 3, none, some 5] MO rfl (zau 0 rfl rfl rfl kr_ (fun _ _ _ h => h) (fun w h => za5 [some 0, some 1, some 2, some 3, none, some 5] dc_ w h rfl) (q_ldb Y25 rfl (fun w h => h.zac (i := 3) rfl) rfl) (zaa 1 rfl rfl rfl kr_ (fun _ _ _ h => h) (q_f F84_0 rfl) (zau 2 rfl rfl rfl kr_ (fun _ _ _ h => h) (fun w h => za5 [some 0, some 1, some 2, some 3, none, some 5] dc_ w h rfl) (q_ldb Y3 rfl (fun w h => h.zac (i := 5) rfl) rfl) (za6 h (fun _ hx5231 h => ?_) rfl))))
       refine a_one 3 rfl rfl kr_ rfl (za7 0 Z Tryz.func91 N91 rfl rfl rfl (fun w P1 hF hB hS hT => impl_Plan_many.calls g1144 (l0_1.length : Int) A4143 c4144 l4142.length l4142 none 0 0 [] hB hF (hT 2 _ rfl).row (hT 2 _ rfl).cap (stab_nil _) (Nat.le_refl 0) (hT 1 _ rfl).box hx5231)) (fun s w h => za5 [some 0, some 1, some 2, some 3, none, some 5] dc_ w h rfl) (fun _ => zaa 4 rfl rfl rfl kr_ (fun _ _ _ h => h) (q_sub64 rfl rfl) (a_fact (p := Sh A1147 l1146.length l2308.length) (fun w h => f_sh (dk := (Kd.int .i64)) h (fun w h => h.zat (i := 4) rfl)) (fun hq5232 => za6 h (fun y5234 hg5233 h => ?_) rfl)))
       refine zaa 5 rfl rfl rfl kr_ (fun _ _ _ h => h) (q_ix Tryz.underlying25 Z3 rfl rfl hq5232 hg5233) (za6 h (fun l5235 hs5236 h => ?_) rfl)
       refine a_one 6 rfl rfl kr_ rfl (e_set (i := 4) rfl rfl rfl Z3 hs5236) (fun s w h => za5 [some 0, some 1, some 2, some 3, none, some 5] dc_ w h rfl) (fun _ => zar kr_ (zak (za1 (za0 (o_q rfl rfl (q_up rfl rfl (hr2316.up hm2317)) (o_q rfl rfl (za3 rfl) (o_end (zaj ys2314.length (ys2314, l5235, l4142, i2312 + 1, A4143, c4144) (by rw [← hk2322]; exact Nat.lt_succ_self _) ⟨hr2316.step, rfl, h⟩ ⟨rfl, trivial⟩ (fun w h => za8 [2, 0, 1, 3, 4] dc_ rfl w h) ?_))))))))
       exact of_
  ·skip
   clear hl2303
   have hr2300 := hJ_.1; have hk2306 := hJ_.2.1; have h := hJ_.2.2; clear hJ_
   replace h : impl_RegCode_read.l0 (y2297 :: ys2298) l2295 i2296 = some o2304 := h
   rw [impl_RegCode_read.l0] at h
   refine c_seq (za0 (o_q rfl rfl (q_lss rfl rfl) (o_end (za1 (c_seq (zay (vb_ hr2300.lt) (zal (za1 (c_seq ?_)))))))))
   refine zah (c_seq (za0 (o_q rfl rfl (za3 rfl) (zb0 (p := Sh A0_1 l0_1.length l0_1.length) (fun w h => f_sh (dk := (Kd.int .i64)) h (fun w h => R0_1.now Z h)) (fun hq5237 => o_q rfl rfl (q_ix Tryz.underlying25 Z3 rfl rfl hq5237 hr2300.get) (o_q rfl rfl (q_lde (off := 0) Y3 rfl rfl (fun w h => R0_1.now Z h) hr2300.get (fun _ _ h => h) rfl) (o_q rfl rfl (q_asg rfl) (o_q rfl rfl (q_asg rfl) (o_end ?_)))))))))
   refine za1 (c_seq (za6 h (fun o5245 hl5246 hR5247 => ?_) rfl))
   clear h
   refine c_cutJ (σ := Bool) (fun b5244 => some b5244 = some o5245) [38, 39, 40, 41, 42, 43, 44, 45, 46, 47, 48] (fun b5244 => [(48, .bool b5244)]) (fun b5244 => [box g1 27 #[.int .i64 0, .slice none 0 0, .slice none 0 0], box g1144 27 #[.int .i64 (l0_1.length : Int), .slice none 0 0, .slice none 0 0], box g1145 25 #[.slice A1147 l1146.length c1148], row (Kd.int .i64) 3 (.slice A1147 l1146.length c1148) l2295]) ?_ ?_
   ·skip
    have h := hl5246; clear hl5246
    clear hR5247
    refine za0 (o_q rfl rfl (za3 rfl) (o_q rfl rfl (za3 rfl) (za6 h (fun b5251 hx5250 h => ?_) rfl)))
    refine o_e rfl (za7 0 Z Tryz.func137 N137 rfl rfl rfl (fun w P1 hF hB hS hT => impl_RegCode_read_1.calls y2297 g1145 A1147 c1148 l1146.length l2295 hB hF (hT 3 _ rfl).row (hT 3 _ rfl).cap (hT 2 _ rfl).box _ hx5250)) (fun _ => o_q rfl rfl (q_not rfl) (o_q rfl rfl (za3 rfl) (byB b5251 (fun hb5252 => ?_) (fun hb5252 => ?_))))
    ·replace h := bb_t hb5252 h
     refine o_w (za4 rfl rfl rfl (congrArg (fun b => Value.bool (!(b))) hb5252)) rfl (q_ldb Y25 rfl (fun w h => h.zac (i := 2) rfl) rfl) (o_w (za4 rfl rfl rfl (congrArg (fun b => Value.bool (!(b))) hb5252)) rfl (za3 rfl) (zb0 (p := Sh A1147 l1146.length l2295.length) (fun w h => f_sh (dk := (Kd.int .i64)) h (fun w h => h.zat (i := 3) rfl)) (fun hq5253 => za6 h (fun y5255 hg5254 h => ?_) rfl)))
     refine o_w (za4 rfl rfl rfl (congrArg (fun b => Value.bool (!(b))) hb5252)) rfl (q_ix Tryz.underlying25 Z3 rfl rfl hq5253 hg5254) (o_w (za4 rfl rfl rfl (congrArg (fun b => Value.bool (!(b))) hb5252)) rfl (q_lde (off := 0) Y3 rfl rfl (fun w h => h.zat (i := 3) rfl) hg5254 (fun _ _ h => h) rfl) (o_w (za4 rfl rfl rfl (congrArg (fun b => Value.bool (!(b))) hb5252)) rfl (q_neq rfl rfl) (o_q rfl rfl (zai false (congrArg (fun b => Value.bool (!(b))) hb5252) rfl) (o_end (zam (decide (y5255 ≠ (-1))) h ⟨rfl, trivial⟩ (fun w h => za8 [0, 1, 2, 3] dc_ rfl w h) ?_)))))
     exact of_
    ·replace h := bb_f hb5252 h
     refine o_n (d := 43) (za2 rfl rfl rfl (congrArg (fun b => Value.bool (!(b))) hb5252) rfl) (Eq.refl (some 43)) (o_n (d := 44) (za2 rfl rfl rfl (congrArg (fun b => Value.bool (!(b))) hb5252) rfl) (Eq.refl (some 44)) (o_n (d := 45) (za2 rfl rfl rfl (congrArg (fun b => Value.bool (!(b))) hb5252) rfl) (Eq.refl (some 45)) (o_n (d := 46) (za2 rfl rfl rfl (congrArg (fun b => Value.bool (!(b))) hb5252) rfl) (Eq.refl (some 46)) (o_n (d := 47) (za2 rfl rfl rfl (congrArg (fun b => Value.bool (!(b))) hb5252) rfl) (Eq.refl (some 47)) (o_q rfl rfl (zai true (congrArg (fun b => Value.bool (!(b))) hb5252) rfl) (o_end (zam true h ⟨rfl, trivial⟩ (fun w h => za8 [0, 1, 2, 3] dc_ rfl w h) ?_)))))))
     exact of_
   ·skip
    refine (fun b5244 => fun U5248 hJ5249 => ?_)
    have e_ := si_ hJ5249; have h := hR5247; rw [← e_] at h; clear e_ hJ5249 hR5247 hl5246
    refine zas _ rfl (fun hb5256 => ?_) (fun hb5256 => ?_)
    ·skip
     replace h := bb_t hb5256 h
     refine c_seq (za0 (o_q rfl rfl (zaw (vs := []) (cs := [.int .i64 0, .slice none 0 0, .slice none 0 0]) rfl rfl) (o_e rfl (zae (i := 0) rfl rfl rfl Z27 rfl rfl) (fun _ => o_q rfl rfl (q_asg rfl) (o_end (za1 (c_ret (za9 (zan ?_)))))))))
     refine za9 (za9 ?_)
     have e_ := si_ h; replace h := hR2302; rw [← e_] at h; clear e_
     refine zan (za9 (x_nil kStep 72 (x_nil (Kd.int .i64) 3 ?_)))
     have e0_ := si_ h; clear h
     obtain ⟨rfl, e1_⟩ := Prod.mk.inj e0_
     obtain ⟨rfl, e2_⟩ := Prod.mk.inj e1_
     obtain ⟨rfl, e3_⟩ := Prod.mk.inj e2_
     subst e3_
     exact x_r2 (none, 0, none, 0) Tryz.results111 (zb8 rfl G27 Z27 (fun w h => h.zac (i := 2) rfl) rfl) (zad rfl) rfl (fun w h => za8 [1, 0] dc_ rfl w h)
    ·skip
     replace h := bb_f hb5256 h
     refine zal (za1 (za0 (o_q rfl rfl (q_ldb Y25 rfl (fun w h => h.zac (i := 2) rfl) rfl) (o_q rfl rfl (za3 rfl) (o_q rfl rfl (za3 rfl) (zb0 (p := Sh A1147 l1146.length l2295.length) (fun w h => f_sh (dk := (Kd.int .i64)) h (fun w h => h.zat (i := 3) rfl)) (fun hq5257 => za6 h (fun y5259 hg5258 h => ?_) rfl)))))))
     refine o_q rfl rfl (q_ix Tryz.underlying25 Z3 rfl rfl hq5257 hg5258) (za6 h (fun l5260 hs5261 h => ?_) rfl)
     refine o_e rfl (e_set (i := 3) rfl rfl rfl Z3 hs5261) (fun _ => o_end (zak (za1 (za0 (o_q rfl rfl (q_up rfl rfl (hr2300.up hm2301)) (o_q rfl rfl (za3 rfl) (o_end (zaj ys2298.length (ys2298, l5260, i2296 + 1) (by rw [← hk2306]; exact Nat.lt_succ_self _) ⟨hr2300.step, rfl, h⟩ ⟨rfl, trivial⟩ (fun w h => za8 [0, 1, 2, 3] dc_ rfl w h) ?_))))))))
     exact of_

end Go.Proofs.YtnnlfipcoahcnaaGreatDoor.G3
