import Derived.Test.YtdicngjloiphkaaKFnCodesRunL6p1
namespace Go.Proofs.Ytdicngjloiphkaa.L6
open Go.RowKit Go.Proofs.Ytdicngjloiphkaa.Frame Go.Proofs.YtdicngjloiphkaaW.PrintLast Go.Proofs.Ytdicngjloiphkaa.Hand
open Go.Proofs.YtdicngjloiphkaaW.PrintWords hiding mn mx
set_option linter.unusedVariables false
/-! ### loop.example/g01098/spec.l1Put: function 127 -/
def spec_l1Put.l0 (l0 : List Int) (a1 : Int) : Nat → Int → Option Int
 | 0, _ => none
 | k26 + 1, i23 => if i23 < (l0.length : Int) then ((gt l0 i23).bind fun y37 => if y37 < a1 then (spec_l1Put.l0 l0 a1 k26 (w64 (i23 + 1))) else (some i23)) else (some i23)
def spec_l1Put.f (k : Nat) (l0 : List Int) (a1 : Int) : Option (List Int) := ((spec_l1Put.l0 l0 a1 k 0)).bind fun i17 => (if i17 < (l0.length : Int) then ((gt l0 i17).bind fun y52 => if y52 = a1 then (some (.inl l0)) else (some (.inr ()))) else (some (.inr ())) : Option (((List Int)) ⊕ (Unit))).bind fun o_ => match o_ with | .inl r_ => some r_ | .inr _ => (ct l0 (0 : Int) i17).bind fun l57 => (ap ([] : List Int) l57).bind fun l60 => (ap l60 ([a1] : List Int)).bind fun l67 => (ct l0 i17 (l0.length : Int)).bind fun l71 => (ap l67 l71).bind fun l74 => some l74
set_option maxHeartbeats 600000 in
set_option maxRecDepth 100000 in
theorem spec_l1Put.calls (k : Nat) {w0 ws : World} {P0 : Nat → Prop} (A0 : Option Addr) (c0 : Nat) (n0 : Nat) (l0 : List Int) (a1 : Int) (Z : Below w0.heap.size w0 ws) (hF : Fr w0 ws P0 [row (Kd.int .i64) 3 (.slice A0 n0 c0) l0] ws)  (r_1 : List Int) (h : spec_l1Put.f k l0 a1 = some r_1) :
  Calls Try.prog 127 #[.slice A0 n0 c0, .int .i64 a1] ws (Post1 w0 ws P0 (fun ((q_2, q_3) : (Option Addr) × Nat) => .slice q_2 r_1.length q_3) (fun ((q_2, q_3) : (Option Addr) × Nat) => [row (Kd.int .i64) 3 (.slice q_2 r_1.length q_3) r_1])) := by
 unfold spec_l1Put.f at h
 obtain rfl := (hF.row_C (i := 0) rfl).2.1
 refine enter Try.func127 rfl Try.ntmps127 rfl hF ?_
 refine c_seq ?_
 refine za0 ?_
 refine o_q rfl rfl (q_asg rfl) ?_
 refine o_end ?_
 refine za1 ?_
 refine c_seq ?_
 refine za0 ?_
 refine o_q rfl rfl (q_asg rfl) ?_
 refine o_end ?_
 refine za1 ?_
 refine za7 h (fun o18 hl19 hR20 => ?_) rfl
 clear h
 refine c_cutJ (σ := Int) (fun i17 => some i17 = some o18) [5, 7, 8, 9, 10, 11, 12, 13, 14, 15, 16, 17, 18, 19, 20] (fun i17 => [(5, .int .i64 i17)]) (fun i17 => [row (Kd.int .i64) 3 (.slice A0 l0.length c0) l0]) ?_ ?_
 ·skip
  have h := hl19; clear hl19
  clear hR20
  refine zaj ?_
  have hl30 := h; clear h
  refine zax (σ := Int) (fun k26 (i23 : Int) => spec_l1Put.l0 l0 a1 k26 i23 = some o18) [5, 7, 8, 9, 10, 11, 12, 13, 14, 15, 16, 17, 18, 19, 20] (fun (i23 : Int) => [(5, .int .i64 i23)]) (fun (i23 : Int) => [row (Kd.int .i64) 3 (.slice A0 l0.length c0) l0]) k 0 hl30 ⟨rfl, trivial⟩ (fun w h => h) ?_
  refine natC (fun i23 => fun U32 hJ_ => ?_) (fun k26 => (fun i23 => fun U32 hJ_ => ?_))
  ·skip
   replace hJ_ : spec_l1Put.l0 l0 a1 0 i23 = some o18 := hJ_
   rw [spec_l1Put.l0] at hJ_
   exact noneE hJ_
  ·skip
   clear hl30
   have h := hJ_; clear hJ_
   replace h : spec_l1Put.l0 l0 a1 (k26 + 1) i23 = some o18 := h
   rw [spec_l1Put.l0] at h
   refine c_seq ?_
   refine c_seq ?_
   refine za0 ?_
   refine o_q rfl rfl (za2 rfl) ?_
   refine o_q rfl rfl (za2 rfl) ?_
   refine o_q rfl rfl (q_len Try.underlying25 rfl) ?_
   refine o_q rfl rfl (q_lss rfl rfl) ?_
   refine o_q rfl rfl (za2 rfl) ?_
   refine byB (decide (i23 < (l0.length : Int))) (fun hb34 => ?_) (fun hb34 => ?_)
   ·replace h := br_t hb34 h
    refine o_w (za4 rfl rfl rfl (congrArg Value.bool hb34)) rfl (za2 rfl) ?_
    refine o_w (za4 rfl rfl rfl (congrArg Value.bool hb34)) rfl (za2 rfl) ?_
    refine zaz (p := Sh A0 l0.length l0.length) (fun w h => f_sh (dk := (Kd.int .i64)) h (fun w h => h.zaw (i := 0) rfl)) (fun hq35 => ?_)
    refine za7 h (fun y37 hg36 h => ?_) rfl
    refine o_w (za4 rfl rfl rfl (congrArg Value.bool hb34)) rfl (q_ix Try.underlying25 Z3 rfl rfl hq35 hg36) ?_
    refine o_w (za4 rfl rfl rfl (congrArg Value.bool hb34)) rfl (q_lde (off := 0) Y3 rfl rfl (fun w h => h.zaw (i := 0) rfl) hg36 (fun _ _ h => h) rfl) ?_
    refine o_w (za4 rfl rfl rfl (congrArg Value.bool hb34)) rfl (za2 rfl) ?_
    refine o_w (za4 rfl rfl rfl (congrArg Value.bool hb34)) rfl (q_lss rfl rfl) ?_
    refine o_q rfl rfl (zaq true (congrArg Value.bool hb34) rfl) ?_
    refine o_end ?_
    refine za1 ?_
    refine zau _ rfl (fun hb38 => ?_) (fun hb38 => ?_)
    ·skip
     replace h := br_t hb38 h
     refine zao ?_
     refine za1 ?_
     refine zaj ?_
     refine za0 ?_
     refine o_q rfl rfl (za2 rfl) ?_
     refine o_q rfl rfl (zb8 rfl rfl) ?_
     refine o_q rfl rfl (q_asg rfl) ?_
     refine o_end ?_
     refine zal ?_
     refine zam k26 (w64 (i23 + 1)) (Nat.lt_succ_self _) h ⟨rfl, trivial⟩ (fun w h => za6 [0] (by decide) rfl w h) ?_
     repeat (first | exact zac _ _ | refine zaf rfl ?_ | refine zad rfl ?_ | refine zah rfl ?_)
    ·skip
     replace h := br_f hb38 h
     refine zb4 ?_
     refine za8 ?_
     refine za8 ?_
     refine x_hit ?_
     refine zas i23 h ⟨rfl, trivial⟩ (fun w h => za6 [0] (by decide) rfl w h) ?_
     repeat (first | exact zac _ _ | refine zaf rfl ?_ | refine zad rfl ?_ | refine zah rfl ?_)
   ·replace h := br_f hb34 h
    refine @o_n _ _ _ _ _ _ _ _ _ _ _ 12 (za3 rfl rfl rfl (congrArg Value.bool hb34) rfl) (Eq.refl (some 12)) ?_
    refine @o_n _ _ _ _ _ _ _ _ _ _ _ 13 (za3 rfl rfl rfl (congrArg Value.bool hb34) rfl) (Eq.refl (some 13)) ?_
    refine @o_n _ _ _ _ _ _ _ _ _ _ _ 14 (za3 rfl rfl rfl (congrArg Value.bool hb34) rfl) (Eq.refl (some 14)) ?_
    refine @o_n _ _ _ _ _ _ _ _ _ _ _ 15 (za3 rfl rfl rfl (congrArg Value.bool hb34) rfl) (Eq.refl (some 15)) ?_
    refine @o_n _ _ _ _ _ _ _ _ _ _ _ 16 (za3 rfl rfl rfl (congrArg Value.bool hb34) rfl) (Eq.refl (some 16)) ?_
    refine @o_n _ _ _ _ _ _ _ _ _ _ _ 17 (za3 rfl rfl rfl (congrArg Value.bool hb34) rfl) (Eq.refl (some 17)) ?_
    refine o_q rfl rfl (zaq false (congrArg Value.bool hb34) rfl) ?_
    refine o_end ?_
    refine za1 ?_
    refine zb3 rfl ?_
    refine zb4 ?_
    refine za8 ?_
    refine za8 ?_
    refine x_hit ?_
    refine zas i23 h ⟨rfl, trivial⟩ (fun w h => za6 [0] (by decide) rfl w h) ?_
    repeat (first | exact zac _ _ | refine zaf rfl ?_ | refine zad rfl ?_ | refine zah rfl ?_)
 ·skip
  refine (fun i17 => fun U21 hJ22 => ?_)
  have e_ := Option.some.inj hJ22; have h := hR20; rw [← e_] at h; clear e_ hJ22 hR20 hl19
  refine za7 h (fun o44 hl45 hR46 => ?_) rfl
  clear h
  refine c_cutJ (σ := Unit) (fun _ => some (.inr ()) = some o44) [4, 21, 22, 23, 24, 25, 26, 27, 28, 29, 30, 31, 32, 33] (fun _ => []) (fun _ => [row (Kd.int .i64) 3 (.slice A0 l0.length c0) l0]) ?_ ?_
  ·skip
   have h := hl45; clear hl45
   refine c_seq ?_
   refine za0 ?_
   refine o_q rfl rfl (za2 rfl) ?_
   refine o_q rfl rfl (za2 rfl) ?_
   refine o_q rfl rfl (q_len Try.underlying25 rfl) ?_
   refine o_q rfl rfl (q_lss rfl rfl) ?_
   refine o_q rfl rfl (za2 rfl) ?_
   refine byB (decide (i17 < (l0.length : Int))) (fun hb49 => ?_) (fun hb49 => ?_)
   ·replace h := br_t hb49 h
    refine o_w (za4 rfl rfl rfl (congrArg Value.bool hb49)) rfl (za2 rfl) ?_
    refine o_w (za4 rfl rfl rfl (congrArg Value.bool hb49)) rfl (za2 rfl) ?_
    refine zaz (p := Sh A0 l0.length l0.length) (fun w h => f_sh (dk := (Kd.int .i64)) h (fun w h => h.zaw (i := 0) rfl)) (fun hq50 => ?_)
    refine za7 h (fun y52 hg51 h => ?_) rfl
    refine o_w (za4 rfl rfl rfl (congrArg Value.bool hb49)) rfl (q_ix Try.underlying25 Z3 rfl rfl hq50 hg51) ?_
    refine o_w (za4 rfl rfl rfl (congrArg Value.bool hb49)) rfl (q_lde (off := 0) Y3 rfl rfl (fun w h => h.zaw (i := 0) rfl) hg51 (fun _ _ h => h) rfl) ?_
    refine o_w (za4 rfl rfl rfl (congrArg Value.bool hb49)) rfl (za2 rfl) ?_
    refine o_w (za4 rfl rfl rfl (congrArg Value.bool hb49)) rfl (q_eql rfl rfl) ?_
    refine o_q rfl rfl (zaq true (congrArg Value.bool hb49) rfl) ?_
    refine o_end ?_
    refine za1 ?_
    refine zau _ rfl (fun hb53 => ?_) (fun hb53 => ?_)
    ·skip
     replace h := br_t hb53 h
     refine c_seq ?_
     refine za0 ?_
     refine o_q rfl rfl (za2 rfl) ?_
     refine o_q rfl rfl (q_asg rfl) ?_
     refine o_end ?_
     refine za1 ?_
     refine c_ret ?_
     refine zaa ?_
     have e_ := Option.some.inj h; replace h := hR46; rw [← e_] at h; clear e_
     have e0_ := Option.some.inj h; clear h
     subst e0_
     exact x_r1 (A0, c0) Try.results127 (zai rfl) rfl (fun w h => za6 [0] (by decide) rfl w h)
    ·skip
     replace h := br_f hb53 h
     refine zao ?_
     refine zas () h trivial (fun w h => za6 [0] (by decide) rfl w h) ?_
     repeat (first | exact zac _ _ | refine zaf rfl ?_ | refine zad rfl ?_ | refine zah rfl ?_)
   ·replace h := br_f hb49 h
    refine @o_n _ _ _ _ _ _ _ _ _ _ _ 26 (za3 rfl rfl rfl (congrArg Value.bool hb49) rfl) (Eq.refl (some 26)) ?_
    refine @o_n _ _ _ _ _ _ _ _ _ _ _ 27 (za3 rfl rfl rfl (congrArg Value.bool hb49) rfl) (Eq.refl (some 27)) ?_
    refine @o_n _ _ _ _ _ _ _ _ _ _ _ 28 (za3 rfl rfl rfl (congrArg Value.bool hb49) rfl) (Eq.refl (some 28)) ?_
    refine @o_n _ _ _ _ _ _ _ _ _ _ _ 29 (za3 rfl rfl rfl (congrArg Value.bool hb49) rfl) (Eq.refl (some 29)) ?_
    refine @o_n _ _ _ _ _ _ _ _ _ _ _ 30 (za3 rfl rfl rfl (congrArg Value.bool hb49) rfl) (Eq.refl (some 30)) ?_
    refine @o_n _ _ _ _ _ _ _ _ _ _ _ 31 (za3 rfl rfl rfl (congrArg Value.bool hb49) rfl) (Eq.refl (some 31)) ?_
    refine o_q rfl rfl (zaq false (congrArg Value.bool hb49) rfl) ?_
    refine o_end ?_
    refine za1 ?_
    refine zb3 rfl ?_
    refine zao ?_
    refine zas () h trivial (fun w h => za6 [0] (by decide) rfl w h) ?_
    repeat (first | exact zac _ _ | refine zaf rfl ?_ | refine zad rfl ?_ | refine zah rfl ?_)
  ·skip
   refine (fun _ => fun U47 hJ48 => ?_)
   have e_ := Option.some.inj hJ48; have h := hR46; rw [← e_] at h; clear e_ hJ48 hR46 hl45
   refine c_seq ?_
   refine za0 ?_
   refine o_e rfl (e_lit0 (Kd.int .i64) Try.underlying25 I3) (cur2 (fun A54 c55 => ?_))
   refine o_q rfl rfl (za2 rfl) ?_
   refine o_q rfl rfl (za2 rfl) ?_
   refine za7 h (fun l57 hz58 h => ?_) rfl
   refine zaz (p := l0.length = l0.length ∧ l0.length ≤ c0) (fun w h => h.row_nc (i := 1) rfl) (fun hk59 => ?_)
   refine o_q rfl rfl (q_ctv Try.underlying25 Z3 rfl rfl ⟨_, rfl⟩ hk59.1 hk59.2 hz58) ?_
   refine za7 h (fun l60 ha61 h => ?_) rfl
   refine o_e rfl (e_appr (i := 0) Try.underlying25 I3 rfl (by decide) (by decide) (fun _ _ _ _ h => h) rfl (fun w h => C_cut (dk := (Kd.int .i64)) rfl hz58 hk59.2 (h.zaw (i := 1) rfl)) rfl rfl ha61) (cur2 (fun A62 c63 => ?_))
   refine o_q rfl rfl (q_asg rfl) ?_
   refine o_end ?_
   refine za1 ?_
   refine c_seq ?_
   refine za0 ?_
   refine o_q rfl rfl (za2 rfl) ?_
   refine o_q rfl rfl (za2 rfl) ?_
   refine o_e rfl (e_lit (vs := [(0, .int .i64 a1)]) (cs := [.int .i64 a1]) (Kd.int .i64) ([a1] : List Int) Try.underlying25 I3 (by decide) rfl (by decide) rfl rfl (fun _ _ => Kd.zak _)) (cur2 (fun A64 c65 => ?_))
   refine za7 h (fun l67 ha68 h => ?_) rfl
   refine o_e rfl (e_app (i := 1) (j := 0) Try.underlying25 I3 rfl (by decide) (by decide) rfl rfl rfl rfl rfl ha68) (cur2 (fun A69 c70 => ?_))
   refine o_q rfl rfl (q_asg rfl) ?_
   refine o_end ?_
   refine za1 ?_
   refine c_seq ?_
   refine za0 ?_
   refine o_q rfl rfl (za2 rfl) ?_
   refine o_q rfl rfl (za2 rfl) ?_
   refine o_q rfl rfl (za2 rfl) ?_
   refine za7 h (fun l71 hz72 h => ?_) rfl
   refine zaz (p := l0.length = l0.length ∧ l0.length ≤ c0) (fun w h => h.row_nc (i := 2) rfl) (fun hk73 => ?_)
   refine o_q rfl rfl (q_ctv Try.underlying25 Z3 rfl ⟨_, rfl⟩ rfl hk73.1 hk73.2 hz72) ?_
   refine za7 h (fun l74 ha75 h => ?_) rfl
   refine o_e rfl (e_appr (i := 1) Try.underlying25 I3 rfl (by decide) (by decide) (fun _ _ _ _ h => h) rfl (fun w h => C_cut (dk := (Kd.int .i64)) rfl hz72 hk73.2 (h.zaw (i := 2) rfl)) rfl rfl ha75) (cur2 (fun A76 c77 => ?_))
   refine o_q rfl rfl (q_asg rfl) ?_
   refine o_end ?_
   refine za1 ?_
   refine c_ret ?_
   have e0_ := Option.some.inj h; clear h
   subst e0_
   exact x_r1 (A76, c77) Try.results127 (zai rfl) rfl (fun w h => za6 [1] (by decide) rfl w h)

/-! ### loop.example/g01098/spec.rePressure: function 63 -/
def spec_rePressure.l0 (k : Nat) (a0_0 : Int) (l0_1 : List SStep) (l0_2 : List Int) (l1 : List Int) : (List Int) → Int → Int → Option Int
 | [], i3, i4 => some i4
 | y5 :: ys6, i3, i4 => (ct l1 (0 : Int) (i3 + 1)).bind fun l16 => (spec_reNeeded.f k a0_0 l0_1 l0_2 l16).bind fun l19 => (spec_l1Put.f k l19 (w64 (a0_0 + y5))).bind fun l23 => (spec_l1Most.f i4 (l23.length : Int)).bind fun i27 => spec_rePressure.l0 k a0_0 l0_1 l0_2 l1 ys6 (i3 + 1) i27
def spec_rePressure.f (k : Nat) (a0_0 : Int) (l0_1 : List SStep) (l0_2 : List Int) (l1 : List Int) : Option Int := (spec_rePressure.l0 k a0_0 l0_1 l0_2 l1 l1 0 a0_0).bind fun i4 => some i4
set_option maxHeartbeats 600000 in
set_option maxRecDepth 100000 in
theorem spec_rePressure.calls (k : Nat) {w0 ws : World} {P0 : Nat → Prop} (a0_0 : Int) (A0_1 : Option Addr) (c0_1 : Nat) (n0_1 : Nat) (l0_1 : List SStep) (A0_2 : Option Addr) (c0_2 : Nat) (n0_2 : Nat) (l0_2 : List Int) (A1 : Option Addr) (c1 : Nat) (n1 : Nat) (l1 : List Int) (Z : Below w0.heap.size w0 ws) (hF : Fr w0 ws P0 [] ws) (R0_1 : Stable ws P0 (fun w => Kd.C kStep w A0_1 n0_1 l0_1)) (hc0_1 : n0_1 ≤ c0_1) (R0_2 : Stable ws P0 (fun w => Kd.C (Kd.int .i64) w A0_2 n0_2 l0_2)) (hc0_2 : n0_2 ≤ c0_2) (R1 : Stable ws P0 (fun w => Kd.C (Kd.int .i64) w A1 n1 l1)) (hc1 : n1 ≤ c1) (r_1 : Int) (h : spec_rePressure.f k a0_0 l0_1 l0_2 l1 = some r_1) :
  Calls Try.prog 63 #[.agg #[.int .i64 a0_0, .slice A0_1 n0_1 c0_1, .slice A0_2 n0_2 c0_2], .slice A1 n1 c1] ws (Post1 w0 ws P0 (fun (_ : Unit) => .int .i64 r_1) (fun (_ : Unit) => [])) := by
 unfold spec_rePressure.f at h
 obtain rfl := (R0_1 ws (KeptB.refl _ _)).1
 obtain rfl := (R0_2 ws (KeptB.refl _ _)).1
 obtain rfl := (R1 ws (KeptB.refl _ _)).1
 refine enter Try.func63 rfl Try.ntmps63 rfl hF ?_
 refine c_seq ?_
 refine za0 ?_
 refine o_e rfl (e_box rfl) (fun g1 => ?_)
 refine o_q rfl rfl (q_asg rfl) ?_
 refine o_end ?_
 refine za1 ?_
 refine c_seq ?_
 refine za0 ?_
 refine o_q rfl rfl (q_f F27_0 rfl) ?_
 refine o_q rfl rfl (q_ldb Y3 rfl (fun w h => h.zae (i := 0) rfl) rfl) ?_
 refine o_q rfl rfl (q_asg rfl) ?_
 refine o_end ?_
 refine za1 ?_
 refine c_seq ?_
 refine c_seq ?_
 refine za0 ?_
 refine o_q rfl rfl (za2 rfl) ?_
 refine o_q rfl rfl (q_len Try.underlying25 rfl) ?_
 refine o_q rfl rfl (za2 rfl) ?_
 refine o_end ?_
 refine za1 ?_
 refine zaj ?_
 refine za7 h (fun o12 hl11 hR10 => ?_) rfl
 clear h
 refine zba (p := l1.length ≤ 9223372036854775807) (fun w h => (R1.now Z h).2.1) (fun hm9 => ?_)
 refine zax (σ := (List Int) × Int × Int) (fun k7 ((ys6, i3, i4) : (List Int) × Int × Int) => Rg l1 i3 ys6 ∧ ys6.length = k7 ∧ spec_rePressure.l0 k a0_0 l0_1 l0_2 l1 ys6 i3 i4 = some o12) [5, 6, 7, 12, 13, 14, 15, 16, 17, 18, 19, 20, 21, 22, 23, 24, 25, 26, 27, 28, 29, 30, 31] (fun ((ys6, i3, i4) : (List Int) × Int × Int) => [(5, .int .i64 i4), (12, .int .i64 i3)]) (fun ((ys6, i3, i4) : (List Int) × Int × Int) => [box g1 27 #[.int .i64 a0_0, .slice A0_1 l0_1.length c0_1, .slice A0_2 l0_2.length c0_2]]) l1.length (l1, 0, a0_0) ⟨Rg.start _, rfl, hl11⟩ ⟨rfl, rfl, trivial⟩ (fun w h => h) ?_
 refine fun k7 => cur3 (listC (fun i3 i4 U13 hJ_ => ?_) (fun y5 ys6 i3 i4 U13 hJ_ => ?_))
 ·skip
  clear hl11
  have hr8 := hJ_.1; have hk14 := hJ_.2.1; have h := hJ_.2.2; clear hJ_
  replace h : spec_rePressure.l0 k a0_0 l0_1 l0_2 l1 [] i3 i4 = some o12 := h
  rw [spec_rePressure.l0] at h
  refine c_seq ?_
  refine za0 ?_
  refine o_q rfl rfl (q_lss rfl rfl) ?_
  refine o_end ?_
  refine za1 ?_
  refine c_seq ?_
  refine zb3 (congrArg Value.bool hr8.ge) ?_
  refine zb4 ?_
  refine za8 ?_
  refine za8 ?_
  have e_ := Option.some.inj h; replace h := hR10; rw [← e_] at h; clear e_
  refine x_hit ?_
  refine za1 ?_
  refine c_seq ?_
  refine za0 ?_
  refine o_q rfl rfl (za2 rfl) ?_
  refine o_q rfl rfl (q_asg rfl) ?_
  refine o_end ?_
  refine za1 ?_
  refine c_ret ?_
  have e0_ := Option.some.inj h; clear h
  subst e0_
  exact x_r1 () Try.results63 (zai rfl) rfl (fun w h => za6 [] (by decide) rfl w h)
 ·skip
  clear hl11
  have hr8 := hJ_.1; have hk14 := hJ_.2.1; have h := hJ_.2.2; clear hJ_
  replace h : spec_rePressure.l0 k a0_0 l0_1 l0_2 l1 (y5 :: ys6) i3 i4 = some o12 := h
  rw [spec_rePressure.l0] at h
  refine c_seq ?_
  refine za0 ?_
  refine o_q rfl rfl (q_lss rfl rfl) ?_
  refine o_end ?_
  refine za1 ?_
  refine c_seq ?_
  refine zb1 (congrArg Value.bool hr8.lt) ?_
  refine zao ?_
  refine za1 ?_
  refine c_seq ?_
  refine zaj ?_
  refine c_seq ?_
  refine za0 ?_
  refine o_q rfl rfl (za2 rfl) ?_
  refine zaz (p := Sh A1 l1.length l1.length) (fun w h => f_sh (dk := (Kd.int .i64)) h (fun w h => R1.now Z h)) (fun hq15 => ?_)
  refine o_q rfl rfl (q_ix Try.underlying25 Z3 rfl rfl hq15 hr8.get) ?_
  refine o_q rfl rfl (q_lde (off := 0) Y3 rfl rfl (fun w h => R1.now Z h) hr8.get (fun _ _ h => h) rfl) ?_
  refine o_q rfl rfl (q_asg rfl) ?_
  refine o_q rfl rfl (q_asg rfl) ?_
  refine o_end ?_
  refine za1 ?_
  refine a_start (ds := []) MO rfl ?_
  refine za9 0 rfl rfl rfl (by kernel_rfl) (fun _ _ _ h => h) (za2 rfl) ?_
  refine zb0 1 rfl rfl rfl (by kernel_rfl) (fun _ _ _ h => h) (fun w h => h) (q_ldB G27 Z27 rfl (fun w h => h.zae (i := 0) rfl) rfl) ?_
  refine za9 2 rfl rfl rfl (by kernel_rfl) (fun _ _ _ h => h) (za2 rfl) ?_
  refine za9 3 rfl rfl rfl (by kernel_rfl) (fun _ _ _ h => h) (za2 rfl) ?_
  refine za9 4 rfl rfl rfl (by kernel_rfl) (fun _ _ _ h => h) (q_up rfl rfl (hr8.up hm9)) ?_
  refine za7 h (fun l16 hz17 h => ?_) rfl
  refine za9 5 rfl rfl rfl (by kernel_rfl) (fun _ _ _ h => h) (q_ctv Try.underlying25 Z3 rfl rfl ⟨_, rfl⟩ rfl hc1 hz17) ?_
  refine za9 7 rfl rfl rfl (by kernel_rfl) (fun _ _ _ h => h) (q_f F27_0 rfl) ?_
  refine zb0 8 rfl rfl rfl (by kernel_rfl) (fun _ _ _ h => h) (fun w h => h) (q_ldb Y3 rfl (fun w h => h.zae (i := 0) rfl) rfl) ?_
  refine za9 9 rfl rfl rfl (by kernel_rfl) (fun _ _ _ h => h) (za2 rfl) ?_
  refine za9 10 rfl rfl rfl (by kernel_rfl) (fun _ _ _ h => h) (zb8 rfl rfl) ?_
  refine za7 h (fun l19 hx18 h => ?_) rfl
  refine a_one 6 rfl rfl (by kernel_rfl) rfl (zab 0 Z Try.func71 N71 rfl rfl rfl (fun w P1 hF hB hS hT => spec_reNeeded.calls k a0_0 A0_1 c0_1 l0_1.length l0_1 A0_2 c0_2 l0_2.length l0_2 (cutA A1 c1 (0 : Int).toNat 1) (c1 - (0 : Int).toNat) l16.length l16 hB hF (hS _ R0_1) hc0_1 (hS _ R0_2) hc0_2 (stab_cut (dk := (Kd.int .i64)) rfl hz17 hc1 (hS _ R1)) (ct_cap hz17 rfl hc1) _ hx18)) (fun s w h => za5 [some 1] (by decide) w h rfl) (cur2 (fun A20 c21 => ?_))
  refine za7 h (fun l23 hx22 h => ?_) rfl
  refine a_one 11 rfl rfl (by kernel_rfl) rfl (zab 1 Z Try.func127 N127 rfl rfl rfl (fun w P1 hF hB hS hT => spec_l1Put.calls k A20 c21 l19.length l19 (w64 (a0_0 + y5)) hB hF _ hx22)) (fun s w h => za5 [some 1] (by decide) w h rfl) (cur2 (fun A24 c25 => ?_))
  refine za9 12 rfl rfl rfl (by kernel_rfl) (fun _ _ _ h => h) (q_len Try.underlying25 rfl) ?_
  refine za7 h (fun i27 hx26 h => ?_) rfl
  refine a_one 13 rfl rfl (by kernel_rfl) rfl (zab 0 Z Try.func126 N126 rfl rfl rfl (fun w P1 hF hB hS hT => spec_l1Most.calls i4 (l23.length : Int) hB hF _ hx26)) (fun s w h => za5 [some 1] (by decide) w h rfl) (fun _ => ?_)
  refine za9 14 rfl rfl rfl (by kernel_rfl) (fun _ _ _ h => h) (q_asg rfl) ?_
  refine zav (by kernel_rfl) ?_
  refine zal ?_
  refine za1 ?_
  refine za0 ?_
  refine o_q rfl rfl (q_up rfl rfl (hr8.up hm9)) ?_
  refine o_q rfl rfl (za2 rfl) ?_
  refine o_end ?_
  refine zam ys6.length (ys6, i3 + 1, i27) (by rw [← hk14]; exact Nat.lt_succ_self _) ⟨hr8.step, rfl, h⟩ ⟨rfl, rfl, trivial⟩ (fun w h => za6 [1] (by decide) rfl w h) ?_
  repeat (first | exact zac _ _ | refine zaf rfl ?_ | refine zad rfl ?_ | refine zah rfl ?_)

/-! ### loop.example/g01098/spec.plPlace: function 86 -/
def spec_plPlace.l0 (a1 : Int) : (List Int) → Int → Option ((Int) ⊕ (Unit))
 | [], i1 => some (.inr ())
 | y2 :: ys3, i1 => if y2 = a1 then (some (.inl i1)) else (spec_plPlace.l0 a1 ys3 (i1 + 1))
def spec_plPlace.f (l0 : List Int) (a1 : Int) : Option Int := (spec_plPlace.l0 a1 l0 0).bind fun o_ => match o_ with | .inl r_ => some r_ | .inr _ => some (-1)
set_option maxHeartbeats 600000 in
set_option maxRecDepth 100000 in
theorem spec_plPlace.calls {w0 ws : World} {P0 : Nat → Prop} (A0 : Option Addr) (c0 : Nat) (n0 : Nat) (l0 : List Int) (a1 : Int) (Z : Below w0.heap.size w0 ws) (hF : Fr w0 ws P0 [] ws) (R0 : Stable ws P0 (fun w => Kd.C (Kd.int .i64) w A0 n0 l0)) (hc0 : n0 ≤ c0) (r_1 : Int) (h : spec_plPlace.f l0 a1 = some r_1) :
  Calls Try.prog 86 #[.slice A0 n0 c0, .int .i64 a1] ws (Post1 w0 ws P0 (fun (_ : Unit) => .int .i64 r_1) (fun (_ : Unit) => [])) := by
 unfold spec_plPlace.f at h
 obtain rfl := (R0 ws (KeptB.refl _ _)).1
 refine enter Try.func86 rfl Try.ntmps86 rfl hF ?_
 refine c_seq ?_
 refine za0 ?_
 refine o_q rfl rfl (q_asg rfl) ?_
 refine o_end ?_
 refine za1 ?_
 refine c_seq ?_
 refine c_seq ?_
 refine za0 ?_
 refine o_q rfl rfl (za2 rfl) ?_
 refine o_q rfl rfl (q_len Try.underlying25 rfl) ?_
 refine o_q rfl rfl (za2 rfl) ?_
 refine o_end ?_
 refine za1 ?_
 refine zaj ?_
 refine za7 h (fun o9 hl8 hR7 => ?_) rfl
 clear h
 refine zba (p := l0.length ≤ 9223372036854775807) (fun w h => (R0.now Z h).2.1) (fun hm6 => ?_)
 refine zax (σ := (List Int) × Int) (fun k4 ((ys3, i1) : (List Int) × Int) => Rg l0 i1 ys3 ∧ ys3.length = k4 ∧ spec_plPlace.l0 a1 ys3 i1 = some o9) [4, 5, 6, 9, 10, 11, 12, 13, 14, 15, 16, 17, 18] (fun ((ys3, i1) : (List Int) × Int) => [(9, .int .i64 i1)]) (fun ((ys3, i1) : (List Int) × Int) => []) l0.length (l0, 0) ⟨Rg.start _, rfl, hl8⟩ ⟨rfl, trivial⟩ (fun w h => h) ?_
 refine fun k4 => cur2 (listC (fun i1 U10 hJ_ => ?_) (fun y2 ys3 i1 U10 hJ_ => ?_))
 ·skip
  clear hl8
  have hr5 := hJ_.1; have hk11 := hJ_.2.1; have h := hJ_.2.2; clear hJ_
  replace h : spec_plPlace.l0 a1 [] i1 = some o9 := h
  rw [spec_plPlace.l0] at h
  refine c_seq ?_
  refine za0 ?_
  refine o_q rfl rfl (q_lss rfl rfl) ?_
  refine o_end ?_
  refine za1 ?_
  refine c_seq ?_
  refine zb3 (congrArg Value.bool hr5.ge) ?_
  refine zb4 ?_
  refine za8 ?_
  refine za8 ?_
  have e_ := Option.some.inj h; replace h := hR7; rw [← e_] at h; clear e_
  refine x_hit ?_
  refine za1 ?_
  refine c_seq ?_
  refine za0 ?_
  refine o_q rfl rfl (q_asg rfl) ?_
  refine o_end ?_
  refine za1 ?_
  refine c_ret ?_
  have e0_ := Option.some.inj h; clear h
  subst e0_
  exact x_r1 () Try.results86 (zai rfl) rfl (fun w h => za6 [] (by decide) rfl w h)
 ·skip
  clear hl8
  have hr5 := hJ_.1; have hk11 := hJ_.2.1; have h := hJ_.2.2; clear hJ_
  replace h : spec_plPlace.l0 a1 (y2 :: ys3) i1 = some o9 := h
  rw [spec_plPlace.l0] at h
  refine c_seq ?_
  refine za0 ?_
  refine o_q rfl rfl (q_lss rfl rfl) ?_
  refine o_end ?_
  refine za1 ?_
  refine c_seq ?_
  refine zb1 (congrArg Value.bool hr5.lt) ?_
  refine zao ?_
  refine za1 ?_
  refine c_seq ?_
  refine zaj ?_
  refine c_seq ?_
  refine za0 ?_
  refine o_q rfl rfl (za2 rfl) ?_
  refine zaz (p := Sh A0 l0.length l0.length) (fun w h => f_sh (dk := (Kd.int .i64)) h (fun w h => R0.now Z h)) (fun hq12 => ?_)
  refine o_q rfl rfl (q_ix Try.underlying25 Z3 rfl rfl hq12 hr5.get) ?_
  refine o_q rfl rfl (q_lde (off := 0) Y3 rfl rfl (fun w h => R0.now Z h) hr5.get (fun _ _ h => h) rfl) ?_
  refine o_q rfl rfl (q_asg rfl) ?_
  refine o_q rfl rfl (q_asg rfl) ?_
  refine o_end ?_
  refine za1 ?_
  refine c_seq ?_
  refine za0 ?_
  refine o_q rfl rfl (za2 rfl) ?_
  refine o_q rfl rfl (za2 rfl) ?_
  refine o_q rfl rfl (q_eql rfl rfl) ?_
  refine o_end ?_
  refine za1 ?_
  refine zau _ rfl (fun hb13 => ?_) (fun hb13 => ?_)
  ·skip
   replace h := br_t hb13 h
   refine c_seq ?_
   refine za0 ?_
   refine o_q rfl rfl (za2 rfl) ?_
   refine o_q rfl rfl (q_asg rfl) ?_
   refine o_end ?_
   refine za1 ?_
   refine c_ret ?_
   refine zar ?_
   refine zaa ?_
   refine zaa ?_
   have e_ := Option.some.inj h; replace h := hR7; rw [← e_] at h; clear e_
   refine zar ?_
   refine zaa ?_
   have e0_ := Option.some.inj h; clear h
   subst e0_
   exact x_r1 () Try.results86 (zai rfl) rfl (fun w h => za6 [] (by decide) rfl w h)
  ·skip
   replace h := br_f hb13 h
   refine zao ?_
   refine zal ?_
   refine za1 ?_
   refine za0 ?_
   refine o_q rfl rfl (q_up rfl rfl (hr5.up hm6)) ?_
   refine o_q rfl rfl (za2 rfl) ?_
   refine o_end ?_
   refine zam ys3.length (ys3, i1 + 1) (by rw [← hk11]; exact Nat.lt_succ_self _) ⟨hr5.step, rfl, h⟩ ⟨rfl, trivial⟩ (fun w h => za6 [] (by decide) rfl w h) ?_
   repeat (first | exact zac _ _ | refine zaf rfl ?_ | refine zad rfl ?_ | refine zah rfl ?_)

/-! ### loop.example/g01098/spec.AllocatePlan: function 26 -/
def spec_AllocatePlan.l2 (l1612 : List Int) : (List Int) → (List Int) → Int → Option (List Int)
 | [], l1628, i1631 => some l1628
 | y1632 :: ys1633, l1628, i1631 => (spec_plPlace.f l1612 y1632).bind fun i1885 => (ap l1628 ([i1885] : List Int)).bind fun l2004 => spec_AllocatePlan.l2 l1612 ys1633 l2004 (i1631 + 1)
def spec_AllocatePlan.l3 (l3702 : List Int) : Nat → (List Int) → Int → Option (List Int)
 | 0, l3705, i3706 => some l3705
 | k3709 + 1, l3705, i3706 => (gt l3705 i3706).bind fun y3733 => (spec_l1Has.f l3702 y3733).bind fun b3735 => if b3735 = true then (spec_AllocatePlan.l3 l3702 k3709 l3705 (i3706 + 1)) else ((gt l3705 i3706).bind fun y3738 => (st l3705 i3706 (-1)).bind fun l3739 => spec_AllocatePlan.l3 l3702 k3709 l3739 (i3706 + 1))
def spec_AllocatePlan.l1 (k : Nat) (a0_0 : Int) (l0_1 : List SStep) (l0_2 : List Int) (l1581 : List Int) : (List SStep) → (List Int) → (List SRegOp) → Int → Option ((List Int) × (List SRegOp))
 | [], l1612, l1613, i1616 => some (l1612, l1613)
 | y1617 :: ys1618, l1612, l1613, i1616 => ((spec_plPlace.f l1612 y1617.f0).bind fun i3158 => (spec_plPlace.f l1612 y1617.f1).bind fun i3398 => some (i3158, i3398)).bind fun (i2969, i2970) => (spec_plUpTo.f k (i1616 + 1)).bind fun l3698 => (spec_reNeeded.f k a0_0 l0_1 l0_2 l3698).bind fun l3702 => (spec_AllocatePlan.l3 l3702 (((l1581.length : Int)).toNat) l1612 0).bind fun l3705 => (spec_plPlace.f l3705 (-1)).bind fun i3718 => (gt l3705 i3718).bind fun y3721 => (st l3705 i3718 (w64 (a0_0 + i1616))).bind fun l3722 => (ap l1613 ([(⟨i3718, i2969, i2970⟩ : SRegOp)] : List SRegOp)).bind fun l3727 => spec_AllocatePlan.l1 k a0_0 l0_1 l0_2 l1581 ys1618 l3722 l3727 (i1616 + 1)
def spec_AllocatePlan.l0 (a0_0 : Int) (i790 : Int) : Nat → (List Int) → Int → Option (List Int)
 | 0, _, _ => none
 | k1587 + 1, l1581, i1584 => if i1584 < i790 then (if i1584 < a0_0 then ((ap l1581 ([i1584] : List Int)).bind fun l1600 => spec_AllocatePlan.l0 a0_0 i790 k1587 l1600 (w64 (i1584 + 1))) else ((ap l1581 ([(-1)] : List Int)).bind fun l1607 => spec_AllocatePlan.l0 a0_0 i790 k1587 l1607 (w64 (i1584 + 1)))) else (some l1581)
def spec_AllocatePlan.f (k : Nat) (a0_0 : Int) (l0_1 : List SStep) (l0_2 : List Int) : Option (Int × (List Int) × (List SRegOp) × (List Int) × Bool) := (spec_plGood.f k a0_0 l0_1 l0_2).bind fun b6 => if b6 = true then (((spec_plUpTo.f k (l0_1.length : Int)).bind fun l1041 => (spec_rePressure.f k a0_0 l0_1 l0_2 l1041).bind fun i1101 => (spec_plUpTo.f k a0_0).bind fun l1281 => some (i1101, l1281)).bind fun (i790, l791) => (spec_AllocatePlan.l0 a0_0 i790 k ([] : List Int) 0).bind fun l1581 => (spec_AllocatePlan.l1 k a0_0 l0_1 l0_2 l1581 l0_1 l1581 ([] : List SRegOp) 0).bind fun (l1612, l1613) => (spec_AllocatePlan.l2 l1612 l0_2 ([] : List Int) 0).bind fun l1628 => some (i790, l791, l1613, l1628, true)) else (some (0, ([] : List Int), ([] : List SRegOp), ([] : List Int), false))
set_option maxHeartbeats 600000 in
set_option maxRecDepth 100000 in
theorem spec_AllocatePlan.calls (k : Nat) {w0 ws : World} {P0 : Nat → Prop} (a0_0 : Int) (A0_1 : Option Addr) (c0_1 : Nat) (n0_1 : Nat) (l0_1 : List SStep) (A0_2 : Option Addr) (c0_2 : Nat) (n0_2 : Nat) (l0_2 : List Int) (Z : Below w0.heap.size w0 ws) (hF : Fr w0 ws P0 [] ws) (R0_1 : Stable ws P0 (fun w => Kd.C kStep w A0_1 n0_1 l0_1)) (hc0_1 : n0_1 ≤ c0_1) (R0_2 : Stable ws P0 (fun w => Kd.C (Kd.int .i64) w A0_2 n0_2 l0_2)) (hc0_2 : n0_2 ≤ c0_2) (r_1 : Int) (r_2 : List Int) (r_5 : List SRegOp) (r_8 : List Int) (r_11 : Bool) (h : spec_AllocatePlan.f k a0_0 l0_1 l0_2 = some (r_1, r_2, r_5, r_8, r_11)) :
  Calls Try.prog 26 #[.agg #[.int .i64 a0_0, .slice A0_1 n0_1 c0_1, .slice A0_2 n0_2 c0_2]] ws (Post1 w0 ws P0 (fun ((q_3, q_4, q_6, q_7, q_9, q_10) : (Option Addr) × Nat × (Option Addr) × Nat × (Option Addr) × Nat) => .tuple #[.agg #[.int .i64 r_1, .slice q_3 r_2.length q_4, .slice q_6 r_5.length q_7, .slice q_9 r_8.length q_10], .bool r_11]) (fun ((q_3, q_4, q_6, q_7, q_9, q_10) : (Option Addr) × Nat × (Option Addr) × Nat × (Option Addr) × Nat) => [row (Kd.int .i64) 3 (.slice q_3 r_2.length q_4) r_2, row zb6 94 (.slice q_6 r_5.length q_7) r_5, row (Kd.int .i64) 3 (.slice q_9 r_8.length q_10) r_8])) := by
 unfold spec_AllocatePlan.f at h
 obtain rfl := (R0_1 ws (KeptB.refl _ _)).1
 obtain rfl := (R0_2 ws (KeptB.refl _ _)).1
 refine enter Try.func26 rfl Try.ntmps26 rfl hF ?_
 refine c_seq ?_
 refine za0 ?_
 refine o_e rfl (e_box rfl) (fun g1 => ?_)
 refine o_e rfl (zat V43 rfl) (fun g3 => ?_)
 refine o_q rfl rfl (q_asg rfl) ?_
 refine o_end ?_
 refine za1 ?_
 refine c_seq ?_
 refine c_seq ?_
 refine za0 ?_
 refine o_q rfl rfl (q_ldB G27 Z27 rfl (fun w h => h.zae (i := 1) rfl) rfl) ?_
 refine za7 h (fun b6 hx5 h => ?_) rfl
 refine o_e rfl (zab 0 Z Try.func70 N70 rfl rfl rfl (fun w P1 hF hB hS hT => spec_plGood.calls k a0_0 A0_1 c0_1 l0_1.length l0_1 A0_2 c0_2 l0_2.length l0_2 hB hF (hS _ R0_1) hc0_1 (hS _ R0_2) hc0_2 _ hx5)) (fun _ => ?_)
 refine o_q rfl rfl (q_not rfl) ?_
 refine o_end ?_
 refine za1 ?_
 refine zau _ rfl (fun hb7 => ?_) (fun hb7 => ?_)
 ·replace hb7 := nt_t hb7
  replace h := bb_f hb7 h
  refine c_seq ?_
  refine za0 ?_
  refine o_q rfl rfl (zb5 (vs := []) (cs := [.int .i64 0, .slice none 0 0, .slice none 0 0, .slice none 0 0]) rfl rfl) ?_
  refine o_e rfl (zan (i := 0) rfl rfl rfl Z43 rfl rfl) (fun _ => ?_)
  refine o_q rfl rfl (q_asg rfl) ?_
  refine o_end ?_
  refine za1 ?_
  refine c_ret ?_
  refine zaa ?_
  refine x_nil (Kd.int .i64) 3 ?_
  refine x_nil zb6 94 ?_
  refine x_nil (Kd.int .i64) 3 ?_
  have e0_ := Option.some.inj h; clear h
  have d0_ := (Prod.mk.inj e0_).1; have e1_ := (Prod.mk.inj e0_).2; clear e0_; subst d0_
  have d1_ := (Prod.mk.inj e1_).1; have e2_ := (Prod.mk.inj e1_).2; clear e1_; subst d1_
  have d2_ := (Prod.mk.inj e2_).1; have e3_ := (Prod.mk.inj e2_).2; clear e2_; subst d2_
  have d3_ := (Prod.mk.inj e3_).1; have e4_ := (Prod.mk.inj e3_).2; clear e3_; subst d3_
  subst e4_
  exact x_r2 (none, 0, none, 0, none, 0) Try.results26 (rv_cell rfl G43 Z43 (fun w h => h.zae (i := 3) rfl) rfl) (zai rfl) rfl (fun w h => za6 [2, 1, 0] (by decide) rfl w h)
 ·replace hb7 := nt_f hb7
  replace h := bb_t hb7 h
  refine zao ?_
  refine za1 ?_
  refine za7 h (fun o794 hl795 hR796 => ?_) rfl
  clear h
  refine c_cutJ (σ := Int × (List Int) × Nat × (Option Addr) × Nat) (fun (i790, l791, g789, A792, c793) => some (i790, l791) = some o794) [4, 19, 20, 21, 22, 23, 24, 25, 26, 27, 28] (fun (i790, l791, g789, A792, c793) => [(4, .pointer (some ⟨g789, 0, none⟩))]) (fun (i790, l791, g789, A792, c793) => [box g1 27 #[.int .i64 a0_0, .slice A0_1 l0_1.length c0_1, .slice A0_2 l0_2.length c0_2], box g3 43 #[.int .i64 0, .slice none 0 0, .slice none 0 0, .slice none 0 0], box g789 43 #[.int .i64 i790, .slice A792 l791.length c793, .slice none 0 0, .slice none 0 0], row (Kd.int .i64) 3 (.slice A792 l791.length c793) l791]) ?_ ?_
  ·skip
   have h := hl795; clear hl795
   clear hR796
   refine za7 h (fun l1041 hx1040 h => ?_) rfl
   refine za7 h (fun i1101 hx1100 h => ?_) rfl
   refine za7 h (fun l1281 hx1280 h => ?_) rfl
   refine a_start (ds := []) MO rfl ?_
   refine zb0 0 rfl rfl rfl (by kernel_rfl) (fun _ _ _ h => h) (fun w h => h) (q_ldB G27 Z27 rfl (fun w h => h.zae (i := 1) rfl) rfl) ?_
   refine za9 1 rfl rfl rfl (by kernel_rfl) (fun _ _ _ h => h) (q_f F27_1 rfl) ?_
   refine zb0 2 rfl rfl rfl (by kernel_rfl) (fun _ _ _ h => h) (fun w h => h) (q_ldb Y24 rfl (fun w h => h.zae (i := 1) rfl) rfl) ?_
   refine za9 3 rfl rfl rfl (by kernel_rfl) (fun _ _ _ h => h) (q_len Try.underlying24 rfl) ?_
   refine za9 6 rfl rfl rfl (by kernel_rfl) (fun _ _ _ h => h) (q_f F27_0 rfl) ?_
   refine zb0 7 rfl rfl rfl (by kernel_rfl) (fun _ _ _ h => h) (fun w h => h) (q_ldb Y3 rfl (fun w h => h.zae (i := 1) rfl) rfl) ?_
   refine a_two 4 10 rfl rfl rfl rfl (by kernel_rfl) rfl rfl (zab 0 Z Try.func72 N72 rfl rfl rfl (fun w P1 hF hB hS hT => spec_plUpTo.calls k (l0_1.length : Int) hB hF _ hx1040)) (fun s w h => za5 [some 1, some 2] (by decide) w h rfl) (zat V43 rfl) (fun s w h => za5 [some 1, some 2] (by decide) w h rfl) (cur2 (fun A1042 c1043 => ?_)) (fun g1400 => ?_)
   ·skip
    refine a_two 5 10 rfl rfl rfl rfl (by kernel_rfl) rfl rfl (zab 0 Z Try.func63 N63 rfl rfl rfl (fun w P1 hF hB hS hT => spec_rePressure.calls k a0_0 A0_1 c0_1 l0_1.length l0_1 A0_2 c0_2 l0_2.length l0_2 A1042 c1043 l1041.length l1041 hB hF (hS _ R0_1) hc0_1 (hS _ R0_2) hc0_2 (hT 0 _ rfl).row (hT 0 _ rfl).cap _ hx1100)) (fun s w h => za5 [some 1, some 2] (by decide) w h rfl) (zat V43 rfl) (fun s w h => za5 [some 2, some 3] (by decide) w h rfl) (fun _ => ?_) (fun g1400 => ?_)
    ·skip
     refine a_two 8 10 rfl rfl rfl rfl (by kernel_rfl) rfl rfl (zab 0 Z Try.func72 N72 rfl rfl rfl (fun w P1 hF hB hS hT => spec_plUpTo.calls k a0_0 hB hF _ hx1280)) (fun s w h => za5 [some 2, some 3] (by decide) w h rfl) (zat V43 rfl) (fun s w h => za5 [some 2, some 3] (by decide) w h rfl) (cur2 (fun A1282 c1283 => ?_)) (fun g1400 => ?_)
     ·skip
      refine za9 9 rfl rfl rfl (by kernel_rfl) (fun _ _ _ h => h) (zb5 (vs := [(0, .int .i64 i1101), (1, .slice A1282 l1281.length c1283)]) (cs := [.int .i64 i1101, .slice A1282 l1281.length c1283, .slice none 0 0, .slice none 0 0]) rfl rfl) ?_
      refine a_one 10 rfl rfl (by kernel_rfl) rfl (zat V43 rfl) (fun s w h => za5 [some 3, some 4] (by decide) w h rfl) (fun g1400 => ?_)
      refine a_one 11 rfl rfl (by kernel_rfl) rfl (zan (i := 0) rfl rfl rfl Z43 rfl rfl) (fun s w h => za5 [some 3, some 4] (by decide) w h rfl) (fun _ => ?_)
      refine zav (by kernel_rfl) ?_
      refine zas (i1101, l1281, g1400, A1282, c1283) h ⟨rfl, trivial⟩ (fun w h => za6 [4, 3, 0, 1] (by decide) rfl w h) ?_
      repeat (first | exact zac _ _ | refine zaf rfl ?_ | refine zad rfl ?_ | refine zah rfl ?_)
     ·skip
      refine a_one 8 rfl rfl (by kernel_rfl) rfl (zab 0 Z Try.func72 N72 rfl rfl rfl (fun w P1 hF hB hS hT => spec_plUpTo.calls k a0_0 hB hF _ hx1280)) (fun s w h => za5 [some 3, some 4] (by decide) w h rfl) (cur2 (fun A1282 c1283 => ?_))
      refine za9 9 rfl rfl rfl (by kernel_rfl) (fun _ _ _ h => h) (zb5 (vs := [(0, .int .i64 i1101), (1, .slice A1282 l1281.length c1283)]) (cs := [.int .i64 i1101, .slice A1282 l1281.length c1283, .slice none 0 0, .slice none 0 0]) rfl rfl) ?_
      refine a_one 11 rfl rfl (by kernel_rfl) rfl (zan (i := 1) rfl rfl rfl Z43 rfl rfl) (fun s w h => za5 [some 3, some 4] (by decide) w h rfl) (fun _ => ?_)
      refine zav (by kernel_rfl) ?_
      refine zas (i1101, l1281, g1400, A1282, c1283) h ⟨rfl, trivial⟩ (fun w h => za6 [4, 3, 1, 0] (by decide) rfl w h) ?_
      repeat (first | exact zac _ _ | refine zaf rfl ?_ | refine zad rfl ?_ | refine zah rfl ?_)
    ·skip
     refine a_one 5 rfl rfl (by kernel_rfl) rfl (zab 0 Z Try.func63 N63 rfl rfl rfl (fun w P1 hF hB hS hT => spec_rePressure.calls k a0_0 A0_1 c0_1 l0_1.length l0_1 A0_2 c0_2 l0_2.length l0_2 A1042 c1043 l1041.length l1041 hB hF (hS _ R0_1) hc0_1 (hS _ R0_2) hc0_2 (hT 1 _ rfl).row (hT 1 _ rfl).cap _ hx1100)) (fun s w h => za5 [some 2, some 3] (by decide) w h rfl) (fun _ => ?_)
     refine a_one 8 rfl rfl (by kernel_rfl) rfl (zab 0 Z Try.func72 N72 rfl rfl rfl (fun w P1 hF hB hS hT => spec_plUpTo.calls k a0_0 hB hF _ hx1280)) (fun s w h => za5 [some 3, some 4] (by decide) w h rfl) (cur2 (fun A1282 c1283 => ?_))
     refine za9 9 rfl rfl rfl (by kernel_rfl) (fun _ _ _ h => h) (zb5 (vs := [(0, .int .i64 i1101), (1, .slice A1282 l1281.length c1283)]) (cs := [.int .i64 i1101, .slice A1282 l1281.length c1283, .slice none 0 0, .slice none 0 0]) rfl rfl) ?_
     refine a_one 11 rfl rfl (by kernel_rfl) rfl (zan (i := 1) rfl rfl rfl Z43 rfl rfl) (fun s w h => za5 [some 3, some 4] (by decide) w h rfl) (fun _ => ?_)
     refine zav (by kernel_rfl) ?_
     refine zas (i1101, l1281, g1400, A1282, c1283) h ⟨rfl, trivial⟩ (fun w h => za6 [4, 3, 1, 0] (by decide) rfl w h) ?_
     repeat (first | exact zac _ _ | refine zaf rfl ?_ | refine zad rfl ?_ | refine zah rfl ?_)
   ·skip
    refine a_one 4 rfl rfl (by kernel_rfl) rfl (zab 0 Z Try.func72 N72 rfl rfl rfl (fun w P1 hF hB hS hT => spec_plUpTo.calls k (l0_1.length : Int) hB hF _ hx1040)) (fun s w h => za5 [some 2, some 3] (by decide) w h rfl) (cur2 (fun A1042 c1043 => ?_))
    refine a_one 5 rfl rfl (by kernel_rfl) rfl (zab 0 Z Try.func63 N63 rfl rfl rfl (fun w P1 hF hB hS hT => spec_rePressure.calls k a0_0 A0_1 c0_1 l0_1.length l0_1 A0_2 c0_2 l0_2.length l0_2 A1042 c1043 l1041.length l1041 hB hF (hS _ R0_1) hc0_1 (hS _ R0_2) hc0_2 (hT 0 _ rfl).row (hT 0 _ rfl).cap _ hx1100)) (fun s w h => za5 [some 2, some 3] (by decide) w h rfl) (fun _ => ?_)
    refine a_one 8 rfl rfl (by kernel_rfl) rfl (zab 0 Z Try.func72 N72 rfl rfl rfl (fun w P1 hF hB hS hT => spec_plUpTo.calls k a0_0 hB hF _ hx1280)) (fun s w h => za5 [some 3, some 4] (by decide) w h rfl) (cur2 (fun A1282 c1283 => ?_))
    refine za9 9 rfl rfl rfl (by kernel_rfl) (fun _ _ _ h => h) (zb5 (vs := [(0, .int .i64 i1101), (1, .slice A1282 l1281.length c1283)]) (cs := [.int .i64 i1101, .slice A1282 l1281.length c1283, .slice none 0 0, .slice none 0 0]) rfl rfl) ?_
    refine a_one 11 rfl rfl (by kernel_rfl) rfl (zan (i := 2) rfl rfl rfl Z43 rfl rfl) (fun s w h => za5 [some 3, some 4] (by decide) w h rfl) (fun _ => ?_)
    refine zav (by kernel_rfl) ?_
    refine zas (i1101, l1281, g1400, A1282, c1283) h ⟨rfl, trivial⟩ (fun w h => za6 [4, 3, 2, 0] (by decide) rfl w h) ?_
    repeat (first | exact zac _ _ | refine zaf rfl ?_ | refine zad rfl ?_ | refine zah rfl ?_)
  ·skip
   refine (cur5 (fun i790 l791 g789 A792 c793 => fun U797 hJ798 => ?_))
   have e_ := Option.some.inj hJ798; have h := hR796; rw [← e_] at h; clear e_ hJ798 hR796 hl795
   refine c_seq ?_
   refine za0 ?_
   refine o_q rfl rfl (q_asg rfl) ?_
   refine o_end ?_
   refine za1 ?_
   refine c_seq ?_
   refine c_seq ?_
   refine za0 ?_
   refine o_q rfl rfl (q_asg rfl) ?_
   refine o_end ?_
   refine za1 ?_
   refine zaj ?_
   refine c_nil (Kd.int .i64) 3 ?_
   refine za7 h (fun o1592 hl1591 hR1590 => ?_) rfl
   clear h
   refine zax (σ := (List Int) × Int × (Option Addr) × Nat) (fun k1587 ((l1581, i1584, A1582, c1583) : (List Int) × Int × (Option Addr) × Nat) => spec_AllocatePlan.l0 a0_0 i790 k1587 l1581 i1584 = some o1592) [5, 6, 29, 30, 31, 32, 33, 34, 35, 36, 37, 38, 39, 40, 41, 42, 43, 44, 45] (fun ((l1581, i1584, A1582, c1583) : (List Int) × Int × (Option Addr) × Nat) => [(5, .slice A1582 l1581.length c1583), (6, .int .i64 i1584)]) (fun ((l1581, i1584, A1582, c1583) : (List Int) × Int × (Option Addr) × Nat) => [row (Kd.int .i64) 3 (.slice A1582 l1581.length c1583) l1581, box g1 27 #[.int .i64 a0_0, .slice A0_1 l0_1.length c0_1, .slice A0_2 l0_2.length c0_2], box g3 43 #[.int .i64 0, .slice none 0 0, .slice none 0 0, .slice none 0 0], box g789 43 #[.int .i64 i790, .slice A792 l791.length c793, .slice none 0 0, .slice none 0 0], row (Kd.int .i64) 3 (.slice A792 l791.length c793) l791]) k (([] : List Int), 0, none, 0) hl1591 ⟨rfl, rfl, trivial⟩ (fun w h => h) ?_
   refine natC (cur4 (fun l1581 i1584 A1582 c1583 => fun U1593 hJ_ => ?_)) (fun k1587 => (cur4 (fun l1581 i1584 A1582 c1583 => fun U1593 hJ_ => ?_)))
   ·skip
    replace hJ_ : spec_AllocatePlan.l0 a0_0 i790 0 l1581 i1584 = some o1592 := hJ_
    rw [spec_AllocatePlan.l0] at hJ_
    exact noneE hJ_
   ·skip
    clear hl1591
    have h := hJ_; clear hJ_
    replace h : spec_AllocatePlan.l0 a0_0 i790 (k1587 + 1) l1581 i1584 = some o1592 := h
    rw [spec_AllocatePlan.l0] at h
    refine c_seq ?_
    refine c_seq ?_
    refine za0 ?_
    refine o_q rfl rfl (za2 rfl) ?_
    refine o_q rfl rfl (q_f F43_0 rfl) ?_
    refine o_q rfl rfl (q_ldb Y3 rfl (fun w h => h.zae (i := 3) rfl) rfl) ?_
    refine o_q rfl rfl (q_lss rfl rfl) ?_
    refine o_end ?_
    refine za1 ?_
    refine zau _ rfl (fun hb1595 => ?_) (fun hb1595 => ?_)
    ·skip
     replace h := br_t hb1595 h
     refine zao ?_
     refine za1 ?_
     refine c_seq ?_
     refine zaj ?_
     refine c_seq ?_
     refine za0 ?_
     refine o_q rfl rfl (za2 rfl) ?_
     refine o_q rfl rfl (q_f F27_0 rfl) ?_
     refine o_q rfl rfl (q_ldb Y3 rfl (fun w h => h.zae (i := 1) rfl) rfl) ?_
     refine o_q rfl rfl (q_lss rfl rfl) ?_
     refine o_end ?_
     refine za1 ?_
     refine zau _ rfl (fun hb1596 => ?_) (fun hb1596 => ?_)
     ·skip
      replace h := br_t hb1596 h
      refine za0 ?_
      refine o_q rfl rfl (za2 rfl) ?_
      refine o_q rfl rfl (za2 rfl) ?_
      refine o_e rfl (e_lit (vs := [(0, .int .i64 i1584)]) (cs := [.int .i64 i1584]) (Kd.int .i64) ([i1584] : List Int) Try.underlying25 I3 (by decide) rfl (by decide) rfl rfl (fun _ _ => Kd.zak _)) (cur2 (fun A1597 c1598 => ?_))
      refine za7 h (fun l1600 ha1601 h => ?_) rfl
      refine o_e rfl (e_app (i := 1) (j := 0) Try.underlying25 I3 rfl (by decide) (by decide) rfl rfl rfl rfl rfl ha1601) (cur2 (fun A1602 c1603 => ?_))
      refine o_q rfl rfl (q_asg rfl) ?_
      refine o_end ?_
      refine zal ?_
      refine za1 ?_
      refine za0 ?_
      refine o_q rfl rfl (za2 rfl) ?_
      refine o_q rfl rfl (zb8 rfl rfl) ?_
      refine o_q rfl rfl (q_asg rfl) ?_
      refine o_end ?_
      refine zam k1587 (l1600, w64 (i1584 + 1), A1602, c1603) (Nat.lt_succ_self _) h ⟨rfl, rfl, trivial⟩ (fun w h => za6 [1, 2, 3, 4, 5] (by decide) rfl w h) ?_
      repeat (first | exact zac _ _ | refine zaf rfl ?_ | refine zad rfl ?_ | refine zah rfl ?_)
     ·skip
      replace h := br_f hb1596 h
      refine za0 ?_
      refine o_q rfl rfl (za2 rfl) ?_
      refine o_e rfl (e_lit (vs := [(0, .int .i64 (-1))]) (cs := [.int .i64 (-1)]) (Kd.int .i64) ([(-1)] : List Int) Try.underlying25 I3 (by decide) rfl (by decide) rfl rfl (fun _ _ => Kd.zak _)) (cur2 (fun A1604 c1605 => ?_))
      refine za7 h (fun l1607 ha1608 h => ?_) rfl
      refine o_e rfl (e_app (i := 1) (j := 0) Try.underlying25 I3 rfl (by decide) (by decide) rfl rfl rfl rfl rfl ha1608) (cur2 (fun A1609 c1610 => ?_))
      refine o_q rfl rfl (q_asg rfl) ?_
      refine o_end ?_
      refine zal ?_
      refine za1 ?_
      refine za0 ?_
      refine o_q rfl rfl (za2 rfl) ?_
      refine o_q rfl rfl (zb8 rfl rfl) ?_
      refine o_q rfl rfl (q_asg rfl) ?_
      refine o_end ?_
      refine zam k1587 (l1607, w64 (i1584 + 1), A1609, c1610) (Nat.lt_succ_self _) h ⟨rfl, rfl, trivial⟩ (fun w h => za6 [1, 2, 3, 4, 5] (by decide) rfl w h) ?_
      repeat (first | exact zac _ _ | refine zaf rfl ?_ | refine zad rfl ?_ | refine zah rfl ?_)
    ·skip
     replace h := br_f hb1595 h
     refine zb4 ?_
     refine za8 ?_
     refine za8 ?_
     have e_ := Option.some.inj h; replace h := hR1590; rw [← e_] at h; clear e_
     refine x_hit ?_
     refine za1 ?_
     refine c_seq ?_
     refine c_seq ?_
     refine za0 ?_
     refine o_q rfl rfl (q_f F27_1 rfl) ?_
     refine o_q rfl rfl (q_ldb Y24 rfl (fun w h => h.zae (i := 1) rfl) rfl) ?_
     refine o_q rfl rfl (q_len Try.underlying24 rfl) ?_
     refine o_q rfl rfl (za2 rfl) ?_
     refine o_end ?_
     refine za1 ?_
     refine zaj ?_
     refine c_nil zb6 94 ?_
     refine za7 h (fun o1624 hl1623 hR1622 => ?_) rfl
     clear h
     refine zba (p := l0_1.length ≤ 9223372036854775807) (fun w h => (R0_1.now Z h).2.1) (fun hm1621 => ?_)
     refine zax (σ := (List SStep) × (List Int) × (List SRegOp) × Int × (Option Addr) × Nat) (fun k1619 ((ys1618, l1612, l1613, i1616, A1614, c1615) : (List SStep) × (List Int) × (List SRegOp) × Int × (Option Addr) × Nat) => Rg l0_1 i1616 ys1618 ∧ ys1618.length = k1619 ∧ spec_AllocatePlan.l1 k a0_0 l0_1 l0_2 l1581 ys1618 l1612 l1613 i1616 = some o1624) [7, 8, 9, 10, 11, 12, 49, 50, 51, 52, 53, 54, 55, 56, 57, 58, 59, 60, 61, 62, 63, 64, 65, 66, 67, 68, 69, 70, 71, 72, 73, 74, 75, 76, 77, 78, 79, 80, 81, 82, 83, 84, 85, 86, 87, 88, 89, 90, 91, 92, 93, 94, 95, 96, 97, 98, 99, 100] (fun ((ys1618, l1612, l1613, i1616, A1614, c1615) : (List SStep) × (List Int) × (List SRegOp) × Int × (Option Addr) × Nat) => [(49, .int .i64 i1616)]) (fun ((ys1618, l1612, l1613, i1616, A1614, c1615) : (List SStep) × (List Int) × (List SRegOp) × Int × (Option Addr) × Nat) => [row zb6 94 (.slice A1614 l1613.length c1615) l1613, row (Kd.int .i64) 3 (.slice A1582 l1581.length c1583) l1612, box g1 27 #[.int .i64 a0_0, .slice A0_1 l0_1.length c0_1, .slice A0_2 l0_2.length c0_2], box g3 43 #[.int .i64 0, .slice none 0 0, .slice none 0 0, .slice none 0 0], box g789 43 #[.int .i64 i790, .slice A792 l791.length c793, .slice A1614 l1613.length c1615, .slice none 0 0], row (Kd.int .i64) 3 (.slice A792 l791.length c793) l791]) l0_1.length (l0_1, l1581, ([] : List SRegOp), 0, none, 0) ⟨Rg.start _, rfl, hl1623⟩ ⟨rfl, trivial⟩ (fun w h => h) ?_
     refine fun k1619 => cur6 (listC (fun l1612 l1613 i1616 A1614 c1615 U1625 hJ_ => ?_) (fun y1617 ys1618 l1612 l1613 i1616 A1614 c1615 U1625 hJ_ => ?_))
     ·skip
      clear hl1623
      have hr1620 := hJ_.1; have hk1626 := hJ_.2.1; have h := hJ_.2.2; clear hJ_
      replace h : spec_AllocatePlan.l1 k a0_0 l0_1 l0_2 l1581 [] l1612 l1613 i1616 = some o1624 := h
      rw [spec_AllocatePlan.l1] at h
      refine c_seq ?_
      refine za0 ?_
      refine o_q rfl rfl (q_lss rfl rfl) ?_
      refine o_end ?_
      refine za1 ?_
      refine c_seq ?_
      refine zb3 (congrArg Value.bool hr1620.ge) ?_
      refine zb4 ?_
      refine za8 ?_
      refine za8 ?_
      have e_ := Option.some.inj h; replace h := hR1622; rw [← e_] at h; clear e_
      refine x_hit ?_
      refine za1 ?_
      refine c_seq ?_
      refine c_seq ?_
      refine za0 ?_
      refine o_q rfl rfl (q_f F27_2 rfl) ?_
      refine o_q rfl rfl (q_ldb Y25 rfl (fun w h => h.zae (i := 2) rfl) rfl) ?_
      refine o_q rfl rfl (q_len Try.underlying25 rfl) ?_
      refine o_q rfl rfl (za2 rfl) ?_
      refine o_end ?_
      refine za1 ?_
      refine zaj ?_
      refine c_nil (Kd.int .i64) 3 ?_
      refine za7 h (fun o1639 hl1638 hR1637 => ?_) rfl
      clear h
      refine zba (p := l0_2.length ≤ 9223372036854775807) (fun w h => (R0_2.now Z h).2.1) (fun hm1636 => ?_)
      refine zax (σ := (List Int) × (List Int) × Int × (Option Addr) × Nat) (fun k1634 ((ys1633, l1628, i1631, A1629, c1630) : (List Int) × (List Int) × Int × (Option Addr) × Nat) => Rg l0_2 i1631 ys1633 ∧ ys1633.length = k1634 ∧ spec_AllocatePlan.l2 l1612 ys1633 l1628 i1631 = some o1639) [14, 104, 105, 106, 107, 108, 109, 110, 111, 112, 113, 114, 115, 116] (fun ((ys1633, l1628, i1631, A1629, c1630) : (List Int) × (List Int) × Int × (Option Addr) × Nat) => [(104, .int .i64 i1631)]) (fun ((ys1633, l1628, i1631, A1629, c1630) : (List Int) × (List Int) × Int × (Option Addr) × Nat) => [row (Kd.int .i64) 3 (.slice A1629 l1628.length c1630) l1628, row zb6 94 (.slice A1614 l1613.length c1615) l1613, row (Kd.int .i64) 3 (.slice A1582 l1581.length c1583) l1612, box g1 27 #[.int .i64 a0_0, .slice A0_1 l0_1.length c0_1, .slice A0_2 l0_2.length c0_2], box g3 43 #[.int .i64 0, .slice none 0 0, .slice none 0 0, .slice none 0 0], box g789 43 #[.int .i64 i790, .slice A792 l791.length c793, .slice A1614 l1613.length c1615, .slice A1629 l1628.length c1630], row (Kd.int .i64) 3 (.slice A792 l791.length c793) l791]) l0_2.length (l0_2, ([] : List Int), 0, none, 0) ⟨Rg.start _, rfl, hl1638⟩ ⟨rfl, trivial⟩ (fun w h => h) ?_
      refine fun k1634 => cur5 (listC (fun l1628 i1631 A1629 c1630 U1640 hJ_ => ?_) (fun y1632 ys1633 l1628 i1631 A1629 c1630 U1640 hJ_ => ?_))
      ·skip
       clear hl1638
       have hr1635 := hJ_.1; have hk1641 := hJ_.2.1; have h := hJ_.2.2; clear hJ_
       replace h : spec_AllocatePlan.l2 l1612 [] l1628 i1631 = some o1639 := h
       rw [spec_AllocatePlan.l2] at h
       refine c_seq ?_
       refine za0 ?_
       refine o_q rfl rfl (q_lss rfl rfl) ?_
       refine o_end ?_
       refine za1 ?_
       refine c_seq ?_
       refine zb3 (congrArg Value.bool hr1635.ge) ?_
       refine zb4 ?_
       refine za8 ?_
       refine za8 ?_
       have e_ := Option.some.inj h; replace h := hR1637; rw [← e_] at h; clear e_
       refine x_hit ?_
       refine za1 ?_
       refine c_seq ?_
       refine za0 ?_
       refine o_q rfl rfl (q_ldB G43 Z43 rfl (fun w h => h.zae (i := 5) rfl) rfl) ?_
       refine o_e rfl (zan (i := 4) rfl rfl rfl Z43 rfl rfl) (fun _ => ?_)
       refine o_q rfl rfl (q_asg rfl) ?_
       refine o_end ?_
       refine za1 ?_
       refine c_ret ?_
       have e0_ := Option.some.inj h; clear h
       have d0_ := (Prod.mk.inj e0_).1; have e1_ := (Prod.mk.inj e0_).2; clear e0_; subst d0_
       have d1_ := (Prod.mk.inj e1_).1; have e2_ := (Prod.mk.inj e1_).2; clear e1_; subst d1_
       have d2_ := (Prod.mk.inj e2_).1; have e3_ := (Prod.mk.inj e2_).2; clear e2_; subst d2_
       have d3_ := (Prod.mk.inj e3_).1; have e4_ := (Prod.mk.inj e3_).2; clear e3_; subst d3_
       subst e4_
       exact x_r2 (A792, c793, A1614, c1615, A1629, c1630) Try.results26 (rv_cell rfl G43 Z43 (fun w h => h.zae (i := 4) rfl) rfl) (zai rfl) rfl (fun w h => za6 [6, 1, 0] (by decide) rfl w h)
      ·skip
       clear hl1638
       have hr1635 := hJ_.1; have hk1641 := hJ_.2.1; have h := hJ_.2.2; clear hJ_
       replace h : spec_AllocatePlan.l2 l1612 (y1632 :: ys1633) l1628 i1631 = some o1639 := h
       rw [spec_AllocatePlan.l2] at h
       refine c_seq ?_
       refine za0 ?_
       refine o_q rfl rfl (q_lss rfl rfl) ?_
       refine o_end ?_
       refine za1 ?_
       refine c_seq ?_
       refine zb1 (congrArg Value.bool hr1635.lt) ?_
       refine zao ?_
       refine za1 ?_
       refine c_seq ?_
       refine zaj ?_
       refine c_seq ?_
       refine za0 ?_
       refine zaz (p := Sh A0_2 l0_2.length l0_2.length) (fun w h => f_sh (dk := (Kd.int .i64)) h (fun w h => R0_2.now Z h)) (fun hq1642 => ?_)
       refine o_q rfl rfl (q_ix Try.underlying25 Z3 rfl rfl hq1642 hr1635.get) ?_
       refine o_q rfl rfl (q_lde (off := 0) Y3 rfl rfl (fun w h => R0_2.now Z h) hr1635.get (fun _ _ h => h) rfl) ?_
       refine o_q rfl rfl (q_asg rfl) ?_
       refine o_end ?_
       refine za1 ?_
       refine za7 h (fun i1885 hx1884 h => ?_) rfl
       refine za7 h (fun l2004 ha2005 h => ?_) rfl
       refine a_startS (ds := []) [none, some 1, some 2, some 3, some 4, none, some 6] MO rfl ?_
       refine za9 0 rfl rfl rfl (by kernel_rfl) (fun _ _ _ h => h) (q_f F43_3 rfl) ?_
       refine za9 2 rfl rfl rfl (by kernel_rfl) (fun _ _ _ h => h) (za2 rfl) ?_
       refine za9 3 rfl rfl rfl (by kernel_rfl) (fun _ _ _ h => h) (za2 rfl) ?_
       refine a_two 1 4 rfl rfl rfl rfl (by kernel_rfl) rfl rfl (ev_q rfl (q_ldb Y25 rfl (fun w h => h.zae (i := 5) rfl) rfl)) (fun s w h => za5 [none, some 1, some 2, some 3, some 4, none, some 6] (by decide) w h rfl) (zab 0 Z Try.func86 N86 rfl rfl rfl (fun w P1 hF hB hS hT => spec_plPlace.calls A1582 c1583 l1581.length l1612 y1632 hB hF (hT 2 _ rfl).row (hT 2 _ rfl).cap _ hx1884)) (fun s w h => za5 [none, some 1, some 2, some 3, some 4, none, some 6] (by decide) w h rfl) (fun _ => ?_) (fun _ => ?_)
       ·skip
        refine a_one 4 rfl rfl (by kernel_rfl) rfl (zab 0 Z Try.func86 N86 rfl rfl rfl (fun w P1 hF hB hS hT => spec_plPlace.calls A1582 c1583 l1581.length l1612 y1632 hB hF (hT 2 _ rfl).row (hT 2 _ rfl).cap _ hx1884)) (fun s w h => za5 [none, some 1, some 2, some 3, some 4, none, some 6] (by decide) w h rfl) (fun _ => ?_)
        refine a_one 5 rfl rfl (by kernel_rfl) rfl (e_lit (vs := [(0, .int .i64 i1885)]) (cs := [.int .i64 i1885]) (Kd.int .i64) ([i1885] : List Int) Try.underlying25 I3 (by decide) rfl (by decide) rfl rfl (fun _ _ => Kd.zak _)) (fun s w h => za5 [none, some 2, some 3, some 4, some 5, none, some 7] (by decide) w h rfl) (cur2 (fun A1944 c1945 => ?_))
        refine a_one 6 rfl rfl (by kernel_rfl) rfl (e_app (i := 1) (j := 0) Try.underlying25 I3 rfl (by decide) (by decide) rfl rfl rfl rfl rfl ha2005) (fun s w h => za5 [none, some 2, some 3, some 4, some 5, none, some 7] (by decide) w h rfl) (cur2 (fun A2006 c2007 => ?_))
        refine za9 7 rfl rfl rfl (by kernel_rfl) (fun _ _ _ h => h) (q_f F43_3 rfl) ?_
        refine a_one 8 rfl rfl (by kernel_rfl) rfl (zay (i := 6) rfl rfl rfl rfl Z25 rfl rfl) (fun s w h => za5 [none, some 2, some 3, some 4, some 5, none, some 7] (by decide) w h rfl) (fun _ => ?_)
        refine zav (by kernel_rfl) ?_
        refine zal ?_
        refine za1 ?_
        refine za0 ?_
        refine o_q rfl rfl (q_up rfl rfl (hr1635.up hm1636)) ?_
        refine o_q rfl rfl (za2 rfl) ?_
        refine o_end ?_
        refine zam ys1633.length (ys1633, l2004, i1631 + 1, A2006, c2007) (by rw [← hk1641]; exact Nat.lt_succ_self _) ⟨hr1635.step, rfl, h⟩ ⟨rfl, trivial⟩ (fun w h => za6 [1, 2, 3, 4, 5, 6, 7] (by decide) rfl w h) ?_
        repeat (first | exact zac _ _ | refine zaf rfl ?_ | refine zad rfl ?_ | refine zah rfl ?_)
       ·skip
        refine a_two 1 5 rfl rfl rfl rfl (by kernel_rfl) rfl rfl (ev_q rfl (q_ldb Y25 rfl (fun w h => h.zae (i := 5) rfl) rfl)) (fun s w h => za5 [none, some 1, some 2, some 3, some 4, none, some 6] (by decide) w h rfl) (e_lit (vs := [(0, .int .i64 i1885)]) (cs := [.int .i64 i1885]) (Kd.int .i64) ([i1885] : List Int) Try.underlying25 I3 (by decide) rfl (by decide) rfl rfl (fun _ _ => Kd.zak _)) (fun s w h => za5 [none, some 2, some 3, some 4, some 5, none, some 7] (by decide) w h rfl) (fun _ => ?_) (cur2 (fun A1944 c1945 => ?_))
        ·skip
         refine a_one 5 rfl rfl (by kernel_rfl) rfl (e_lit (vs := [(0, .int .i64 i1885)]) (cs := [.int .i64 i1885]) (Kd.int .i64) ([i1885] : List Int) Try.underlying25 I3 (by decide) rfl (by decide) rfl rfl (fun _ _ => Kd.zak _)) (fun s w h => za5 [none, some 2, some 3, some 4, some 5, none, some 7] (by decide) w h rfl) (cur2 (fun A1944 c1945 => ?_))
         refine a_one 6 rfl rfl (by kernel_rfl) rfl (e_app (i := 1) (j := 0) Try.underlying25 I3 rfl (by decide) (by decide) rfl rfl rfl rfl rfl ha2005) (fun s w h => za5 [none, some 2, some 3, some 4, some 5, none, some 7] (by decide) w h rfl) (cur2 (fun A2006 c2007 => ?_))
         refine za9 7 rfl rfl rfl (by kernel_rfl) (fun _ _ _ h => h) (q_f F43_3 rfl) ?_
         refine a_one 8 rfl rfl (by kernel_rfl) rfl (zay (i := 6) rfl rfl rfl rfl Z25 rfl rfl) (fun s w h => za5 [none, some 2, some 3, some 4, some 5, none, some 7] (by decide) w h rfl) (fun _ => ?_)
         refine zav (by kernel_rfl) ?_
         refine zal ?_
         refine za1 ?_
         refine za0 ?_
         refine o_q rfl rfl (q_up rfl rfl (hr1635.up hm1636)) ?_
         refine o_q rfl rfl (za2 rfl) ?_
         refine o_end ?_
         refine zam ys1633.length (ys1633, l2004, i1631 + 1, A2006, c2007) (by rw [← hk1641]; exact Nat.lt_succ_self _) ⟨hr1635.step, rfl, h⟩ ⟨rfl, trivial⟩ (fun w h => za6 [1, 2, 3, 4, 5, 6, 7] (by decide) rfl w h) ?_
         repeat (first | exact zac _ _ | refine zaf rfl ?_ | refine zad rfl ?_ | refine zah rfl ?_)
        ·skip
         refine a_one 1 rfl rfl (by kernel_rfl) rfl (ev_q rfl (q_ldb Y25 rfl (fun w h => h.zae (i := 6) rfl) rfl)) (fun s w h => za5 [none, some 2, some 3, some 4, some 5, none, some 7] (by decide) w h rfl) (fun _ => ?_)
         refine a_one 6 rfl rfl (by kernel_rfl) rfl (e_app (i := 1) (j := 0) Try.underlying25 I3 rfl (by decide) (by decide) rfl rfl rfl rfl rfl ha2005) (fun s w h => za5 [none, some 2, some 3, some 4, some 5, none, some 7] (by decide) w h rfl) (cur2 (fun A2006 c2007 => ?_))
         refine za9 7 rfl rfl rfl (by kernel_rfl) (fun _ _ _ h => h) (q_f F43_3 rfl) ?_
         refine a_one 8 rfl rfl (by kernel_rfl) rfl (zay (i := 6) rfl rfl rfl rfl Z25 rfl rfl) (fun s w h => za5 [none, some 2, some 3, some 4, some 5, none, some 7] (by decide) w h rfl) (fun _ => ?_)
         refine zav (by kernel_rfl) ?_
         refine zal ?_
         refine za1 ?_
         refine za0 ?_
         refine o_q rfl rfl (q_up rfl rfl (hr1635.up hm1636)) ?_
         refine o_q rfl rfl (za2 rfl) ?_
         refine o_end ?_
         refine zam ys1633.length (ys1633, l2004, i1631 + 1, A2006, c2007) (by rw [← hk1641]; exact Nat.lt_succ_self _) ⟨hr1635.step, rfl, h⟩ ⟨rfl, trivial⟩ (fun w h => za6 [1, 2, 3, 4, 5, 6, 7] (by decide) rfl w h) ?_
         repeat (first | exact zac _ _ | refine zaf rfl ?_ | refine zad rfl ?_ | refine zah rfl ?_)
     ·skip
      clear hl1623
      have hr1620 := hJ_.1; have hk1626 := hJ_.2.1; have h := hJ_.2.2; clear hJ_
      replace h : spec_AllocatePlan.l1 k a0_0 l0_1 l0_2 l1581 (y1617 :: ys1618) l1612 l1613 i1616 = some o1624 := h
      rw [spec_AllocatePlan.l1] at h
      refine c_seq ?_
      refine za0 ?_
      refine o_q rfl rfl (q_lss rfl rfl) ?_
      refine o_end ?_
      refine za1 ?_
      refine c_seq ?_
      refine zb1 (congrArg Value.bool hr1620.lt) ?_
      refine zao ?_
      refine za1 ?_
      refine c_seq ?_
      refine zaj ?_
      refine c_seq ?_
      refine za0 ?_
      refine o_q rfl rfl (za2 rfl) ?_
      refine zaz (p := Sh A0_1 l0_1.length l0_1.length) (fun w h => f_sh (dk := kStep) h (fun w h => R0_1.now Z h)) (fun hq2244 => ?_)
      refine o_q rfl rfl (q_ix Try.underlying24 Z88 rfl rfl hq2244 hr1620.get) ?_
      refine o_q rfl rfl (q_ldE G88 Z88 rfl rfl (fun w h => R0_1.now Z h) hr1620.get (fun _ _ h => h) rfl) ?_
      refine o_e rfl (zat V88 rfl) (fun g2245 => ?_)
      refine o_q rfl rfl (q_asg rfl) ?_
      refine o_e rfl (zan (i := 0) rfl rfl rfl Z88 rfl rfl) (fun _ => ?_)
      refine o_end ?_
      refine za1 ?_
      refine za7 h (fun o2971 hl2972 hR2973 => ?_) rfl
      clear h
      refine c_cutJ (σ := Int × Int × Nat) (fun (i2969, i2970, g2968) => some (i2969, i2970) = some o2971) [9, 54, 55, 56, 57, 58, 59, 60, 61, 62] (fun (i2969, i2970, g2968) => [(9, .pointer (some ⟨g2968, 0, none⟩))]) (fun (i2969, i2970, g2968) => [box g1 27 #[.int .i64 a0_0, .slice A0_1 l0_1.length c0_1, .slice A0_2 l0_2.length c0_2], box g3 43 #[.int .i64 0, .slice none 0 0, .slice none 0 0, .slice none 0 0], box g789 43 #[.int .i64 i790, .slice A792 l791.length c793, .slice A1614 l1613.length c1615, .slice none 0 0], row (Kd.int .i64) 3 (.slice A792 l791.length c793) l791, row zb6 94 (.slice A1614 l1613.length c1615) l1613, row (Kd.int .i64) 3 (.slice A1582 l1581.length c1583) l1612, box g2968 94 #[.int .i64 0, .int .i64 i2969, .int .i64 i2970], box g2245 88 #[.int .i64 y1617.f0, .int .i64 y1617.f1]]) ?_ ?_
      ·skip
       have h := hl2972; clear hl2972
       clear hR2973
       refine za7 h (fun i3158 hx3157 h => ?_) rfl
       refine za7 h (fun i3398 hx3397 h => ?_) rfl
       refine a_start (ds := []) MO rfl ?_
       refine za9 0 rfl rfl rfl (by kernel_rfl) (fun _ _ _ h => h) (za2 rfl) ?_
       refine za9 1 rfl rfl rfl (by kernel_rfl) (fun _ _ _ h => h) (q_f F88_0 rfl) ?_
       refine zb0 2 rfl rfl rfl (by kernel_rfl) (fun _ _ _ h => h) (fun w h => h) (q_ldb Y3 rfl (fun w h => h.zae (i := 0) rfl) rfl) ?_
       refine za9 4 rfl rfl rfl (by kernel_rfl) (fun _ _ _ h => h) (za2 rfl) ?_
       refine za9 5 rfl rfl rfl (by kernel_rfl) (fun _ _ _ h => h) (q_f F88_1 rfl) ?_
       refine zb0 6 rfl rfl rfl (by kernel_rfl) (fun _ _ _ h => h) (fun w h => h) (q_ldb Y3 rfl (fun w h => h.zae (i := 0) rfl) rfl) ?_
       refine a_two 3 9 rfl rfl rfl rfl (by kernel_rfl) rfl rfl (zab 0 Z Try.func86 N86 rfl rfl rfl (fun w P1 hF hB hS hT => spec_plPlace.calls A1582 c1583 l1581.length l1612 y1617.f0 hB hF (hT 2 _ rfl).row (hT 2 _ rfl).cap _ hx3157)) (fun s w h => h) (zat V94 rfl) (fun s w h => za5 [some 1, some 2, some 3, some 4, some 5, some 6, some 7] (by decide) w h rfl) (fun _ => ?_) (fun g3517 => ?_)
       ·skip
        refine a_two 7 9 rfl rfl rfl rfl (by kernel_rfl) rfl rfl (zab 0 Z Try.func86 N86 rfl rfl rfl (fun w P1 hF hB hS hT => spec_plPlace.calls A1582 c1583 l1581.length l1612 y1617.f1 hB hF (hT 2 _ rfl).row (hT 2 _ rfl).cap _ hx3397)) (fun s w h => h) (zat V94 rfl) (fun s w h => za5 [some 1, some 2, some 3, some 4, some 5, some 6, some 7] (by decide) w h rfl) (fun _ => ?_) (fun g3517 => ?_)
        ·skip
         refine za9 8 rfl rfl rfl (by kernel_rfl) (fun _ _ _ h => h) (zb5 (vs := [(1, .int .i64 i3158), (2, .int .i64 i3398)]) (cs := [.int .i64 0, .int .i64 i3158, .int .i64 i3398]) rfl rfl) ?_
         refine a_one 9 rfl rfl (by kernel_rfl) rfl (zat V94 rfl) (fun s w h => za5 [some 1, some 2, some 3, some 4, some 5, some 6, some 7] (by decide) w h rfl) (fun g3517 => ?_)
         refine a_one 10 rfl rfl (by kernel_rfl) rfl (zan (i := 0) rfl rfl rfl Z94 rfl rfl) (fun s w h => za5 [some 1, some 2, some 3, some 4, some 5, some 6, some 7] (by decide) w h rfl) (fun _ => ?_)
         refine zav (by kernel_rfl) ?_
         refine zas (i3158, i3398, g3517) h ⟨rfl, trivial⟩ (fun w h => za6 [4, 5, 6, 7, 2, 3, 0, 1] (by decide) rfl w h) ?_
         repeat (first | exact zac _ _ | refine zaf rfl ?_ | refine zad rfl ?_ | refine zah rfl ?_)
        ·skip
         refine a_one 7 rfl rfl (by kernel_rfl) rfl (zab 0 Z Try.func86 N86 rfl rfl rfl (fun w P1 hF hB hS hT => spec_plPlace.calls A1582 c1583 l1581.length l1612 y1617.f1 hB hF (hT 3 _ rfl).row (hT 3 _ rfl).cap _ hx3397)) (fun s w h => za5 [some 1, some 2, some 3, some 4, some 5, some 6, some 7] (by decide) w h rfl) (fun _ => ?_)
         refine za9 8 rfl rfl rfl (by kernel_rfl) (fun _ _ _ h => h) (zb5 (vs := [(1, .int .i64 i3158), (2, .int .i64 i3398)]) (cs := [.int .i64 0, .int .i64 i3158, .int .i64 i3398]) rfl rfl) ?_
         refine a_one 10 rfl rfl (by kernel_rfl) rfl (zan (i := 0) rfl rfl rfl Z94 rfl rfl) (fun s w h => za5 [some 1, some 2, some 3, some 4, some 5, some 6, some 7] (by decide) w h rfl) (fun _ => ?_)
         refine zav (by kernel_rfl) ?_
         refine zas (i3158, i3398, g3517) h ⟨rfl, trivial⟩ (fun w h => za6 [4, 5, 6, 7, 2, 3, 0, 1] (by decide) rfl w h) ?_
         repeat (first | exact zac _ _ | refine zaf rfl ?_ | refine zad rfl ?_ | refine zah rfl ?_)
       ·skip
        refine a_one 3 rfl rfl (by kernel_rfl) rfl (zab 0 Z Try.func86 N86 rfl rfl rfl (fun w P1 hF hB hS hT => spec_plPlace.calls A1582 c1583 l1581.length l1612 y1617.f0 hB hF (hT 3 _ rfl).row (hT 3 _ rfl).cap _ hx3157)) (fun s w h => za5 [some 1, some 2, some 3, some 4, some 5, some 6, some 7] (by decide) w h rfl) (fun _ => ?_)
        refine a_one 7 rfl rfl (by kernel_rfl) rfl (zab 0 Z Try.func86 N86 rfl rfl rfl (fun w P1 hF hB hS hT => spec_plPlace.calls A1582 c1583 l1581.length l1612 y1617.f1 hB hF (hT 3 _ rfl).row (hT 3 _ rfl).cap _ hx3397)) (fun s w h => za5 [some 1, some 2, some 3, some 4, some 5, some 6, some 7] (by decide) w h rfl) (fun _ => ?_)
        refine za9 8 rfl rfl rfl (by kernel_rfl) (fun _ _ _ h => h) (zb5 (vs := [(1, .int .i64 i3158), (2, .int .i64 i3398)]) (cs := [.int .i64 0, .int .i64 i3158, .int .i64 i3398]) rfl rfl) ?_
        refine a_one 10 rfl rfl (by kernel_rfl) rfl (zan (i := 0) rfl rfl rfl Z94 rfl rfl) (fun s w h => za5 [some 1, some 2, some 3, some 4, some 5, some 6, some 7] (by decide) w h rfl) (fun _ => ?_)
        refine zav (by kernel_rfl) ?_
        refine zas (i3158, i3398, g3517) h ⟨rfl, trivial⟩ (fun w h => za6 [4, 5, 6, 7, 2, 3, 0, 1] (by decide) rfl w h) ?_
        repeat (first | exact zac _ _ | refine zaf rfl ?_ | refine zad rfl ?_ | refine zah rfl ?_)
      ·skip
       refine (cur3 (fun i2969 i2970 g2968 => fun U2974 hJ2975 => ?_))
       have e_ := Option.some.inj hJ2975; have h := hR2973; rw [← e_] at h; clear e_ hJ2975 hR2973 hl2972
       refine c_seq ?_
       refine a_start (ds := []) MO rfl ?_
       refine zb0 0 rfl rfl rfl (by kernel_rfl) (fun _ _ _ h => h) (fun w h => h) (q_ldB G27 Z27 rfl (fun w h => h.zae (i := 0) rfl) rfl) ?_
       refine za9 1 rfl rfl rfl (by kernel_rfl) (fun _ _ _ h => h) (za2 rfl) ?_
       refine za9 2 rfl rfl rfl (by kernel_rfl) (fun _ _ _ h => h) (q_up rfl rfl (hr1620.up hm1621)) ?_
       refine za7 h (fun l3698 hx3697 h => ?_) rfl
       refine a_one 3 rfl rfl (by kernel_rfl) rfl (zab 0 Z Try.func72 N72 rfl rfl rfl (fun w P1 hF hB hS hT => spec_plUpTo.calls k (i1616 + 1) hB hF _ hx3697)) (fun s w h => za5 [some 1, some 2, some 3, some 4, some 5, some 6, some 7, some 8] (by decide) w h rfl) (cur2 (fun A3699 c3700 => ?_))
       refine za7 h (fun l3702 hx3701 h => ?_) rfl
       refine a_one 4 rfl rfl (by kernel_rfl) rfl (zab 0 Z Try.func71 N71 rfl rfl rfl (fun w P1 hF hB hS hT => spec_reNeeded.calls k a0_0 A0_1 c0_1 l0_1.length l0_1 A0_2 c0_2 l0_2.length l0_2 A3699 c3700 l3698.length l3698 hB hF (hS _ R0_1) hc0_1 (hS _ R0_2) hc0_2 (hT 0 _ rfl).row (hT 0 _ rfl).cap _ hx3701)) (fun s w h => za5 [some 2, some 3, some 4, some 5, some 6, some 7, some 8, some 9] (by decide) w h rfl) (cur2 (fun A3703 c3704 => ?_))
       refine za9 5 rfl rfl rfl (by kernel_rfl) (fun _ _ _ h => h) (q_asg rfl) ?_
       refine zav (by kernel_rfl) ?_
       refine za1 ?_
       refine c_seq ?_
       refine c_seq ?_
       refine za0 ?_
       refine o_q rfl rfl (za2 rfl) ?_
       refine o_q rfl rfl (q_len Try.underlying25 rfl) ?_
       refine o_q rfl rfl (za2 rfl) ?_
       refine o_end ?_
       refine za1 ?_
       refine zaj ?_
       refine za7 h (fun o3714 hl3713 hR3712 => ?_) rfl
       clear h
       refine zba (p := (l1581.length : Int) ≤ 9223372036854775807) (fun w h => by have := (h.zaw (i := 7) rfl).2.1; omega) (fun hm3711 => ?_)
       refine zax (σ := (List Int) × Int) (fun k3709 ((l3705, i3706) : (List Int) × Int) => Cn (l1581.length : Int) i3706 k3709 ∧ spec_AllocatePlan.l3 l3702 k3709 l3705 i3706 = some o3714) [11, 12, 70, 71, 72, 73, 74, 75, 76, 77, 78, 79, 80, 81, 82] (fun ((l3705, i3706) : (List Int) × Int) => [(70, .int .i64 i3706)]) (fun ((l3705, i3706) : (List Int) × Int) => [row (Kd.int .i64) 3 (.slice A3703 l3702.length c3704) l3702, row (Kd.int .i64) 3 (.slice A3699 l3698.length c3700) l3698, box g1 27 #[.int .i64 a0_0, .slice A0_1 l0_1.length c0_1, .slice A0_2 l0_2.length c0_2], box g3 43 #[.int .i64 0, .slice none 0 0, .slice none 0 0, .slice none 0 0], box g789 43 #[.int .i64 i790, .slice A792 l791.length c793, .slice A1614 l1613.length c1615, .slice none 0 0], row (Kd.int .i64) 3 (.slice A792 l791.length c793) l791, row zb6 94 (.slice A1614 l1613.length c1615) l1613, row (Kd.int .i64) 3 (.slice A1582 l1581.length c1583) l3705, box g2968 94 #[.int .i64 0, .int .i64 i2969, .int .i64 i2970], box g2245 88 #[.int .i64 y1617.f0, .int .i64 y1617.f1]]) ((l1581.length : Int)).toNat (l1612, 0) ⟨Cn.start hm3711, hl3713⟩ ⟨rfl, trivial⟩ (fun w h => h) ?_
       refine natC (cur2 (fun l3705 i3706 => fun U3715 hJ_ => ?_)) (fun k3709 => (cur2 (fun l3705 i3706 => fun U3715 hJ_ => ?_)))
       ·skip
        clear hl3713
        have hr3710 := hJ_.1; have h := hJ_.2; clear hJ_
        replace h : spec_AllocatePlan.l3 l3702 0 l3705 i3706 = some o3714 := h
        rw [spec_AllocatePlan.l3] at h
        refine c_seq ?_
        refine za0 ?_
        refine o_q rfl rfl (q_lss rfl rfl) ?_
        refine o_end ?_
        refine za1 ?_
        refine c_seq ?_
        refine zb3 (congrArg Value.bool hr3710.ge) ?_
        refine zb4 ?_
        refine za8 ?_
        refine za8 ?_
        have e_ := Option.some.inj h; replace h := hR3712; rw [← e_] at h; clear e_
        refine x_hit ?_
        refine za1 ?_
        refine c_seq ?_
        refine za0 ?_
        refine o_q rfl rfl (za2 rfl) ?_
        refine za7 h (fun i3718 hx3717 h => ?_) rfl
        refine o_e rfl (zab 0 Z Try.func86 N86 rfl rfl rfl (fun w P1 hF hB hS hT => spec_plPlace.calls A1582 c1583 l1581.length l3705 (-1) hB hF (hT 7 _ rfl).row (hT 7 _ rfl).cap _ hx3717)) (fun _ => ?_)
        refine o_q rfl rfl (q_f F94_0 rfl) ?_
        refine o_e rfl (zay (i := 8) rfl rfl rfl rfl Z3 rfl rfl) (fun _ => ?_)
        refine o_end ?_
        refine za1 ?_
        refine c_seq ?_
        refine za0 ?_
        refine o_q rfl rfl (za2 rfl) ?_
        refine o_q rfl rfl (q_f F94_0 rfl) ?_
        refine o_q rfl rfl (q_ldb Y3 rfl (fun w h => h.zae (i := 8) rfl) rfl) ?_
        refine o_q rfl rfl (q_f F27_0 rfl) ?_
        refine o_q rfl rfl (q_ldb Y3 rfl (fun w h => h.zae (i := 2) rfl) rfl) ?_
        refine o_q rfl rfl (za2 rfl) ?_
        refine o_q rfl rfl (zb8 rfl rfl) ?_
        refine zaz (p := Sh A1582 l1581.length l3705.length) (fun w h => f_sh (dk := (Kd.int .i64)) h (fun w h => h.zaw (i := 7) rfl)) (fun hq3719 => ?_)
        refine za7 h (fun y3721 hg3720 h => ?_) rfl
        refine o_q rfl rfl (q_ix Try.underlying25 Z3 rfl rfl hq3719 hg3720) ?_
        refine za7 h (fun l3722 hs3723 h => ?_) rfl
        refine o_e rfl (e_set (i := 7) rfl rfl rfl Z3 hs3723) (fun _ => ?_)
        refine o_end ?_
        refine za1 ?_
        refine za0 ?_
        refine o_q rfl rfl (q_f F43_2 rfl) ?_
        refine o_q rfl rfl (q_ldb Y41 rfl (fun w h => h.zae (i := 4) rfl) rfl) ?_
        refine o_q rfl rfl (q_ldB G94 Z94 rfl (fun w h => h.zae (i := 8) rfl) rfl) ?_
        refine o_e rfl (e_lit (vs := [(0, .agg #[.int .i64 i3718, .int .i64 i2969, .int .i64 i2970])]) (cs := [.int .i64 i3718, .int .i64 i2969, .int .i64 i2970]) zb6 ([(⟨i3718, i2969, i2970⟩ : SRegOp)] : List SRegOp) Try.underlying41 I94 (by decide) rfl (by decide) rfl rfl (fun _ _ => zb9 _)) (cur2 (fun A3724 c3725 => ?_))
        refine za7 h (fun l3727 ha3728 h => ?_) rfl
        refine o_e rfl (e_app (i := 7) (j := 0) Try.underlying41 I94 rfl (by decide) (by decide) rfl rfl rfl rfl rfl ha3728) (cur2 (fun A3729 c3730 => ?_))
        refine o_q rfl rfl (q_f F43_2 rfl) ?_
        refine o_e rfl (zay (i := 5) rfl rfl rfl rfl Z41 rfl rfl) (fun _ => ?_)
        refine o_end ?_
        refine zal ?_
        refine za1 ?_
        refine za0 ?_
        refine o_q rfl rfl (q_up rfl rfl (hr1620.up hm1621)) ?_
        refine o_q rfl rfl (za2 rfl) ?_
        refine o_end ?_
        refine zam ys1618.length (ys1618, l3722, l3727, i1616 + 1, A3729, c3730) (by rw [← hk1626]; exact Nat.lt_succ_self _) ⟨hr1620.step, rfl, h⟩ ⟨rfl, trivial⟩ (fun w h => za6 [7, 8, 3, 4, 5, 6] (by decide) rfl w h) ?_
        repeat (first | exact zac _ _ | refine zaf rfl ?_ | refine zad rfl ?_ | refine zah rfl ?_)
       ·skip
        clear hl3713
        have hr3710 := hJ_.1; have h := hJ_.2; clear hJ_
        replace h : spec_AllocatePlan.l3 l3702 (k3709 + 1) l3705 i3706 = some o3714 := h
        rw [spec_AllocatePlan.l3] at h
        refine c_seq ?_
        refine za0 ?_
        refine o_q rfl rfl (q_lss rfl rfl) ?_
        refine o_end ?_
        refine za1 ?_
        refine c_seq ?_
        refine zb1 (congrArg Value.bool hr3710.lt) ?_
        refine zao ?_
        refine za1 ?_
        refine c_seq ?_
        refine zaj ?_
        refine c_seq ?_
        refine za0 ?_
        refine o_q rfl rfl (za2 rfl) ?_
        refine zaz (p := Sh A1582 l1581.length l3705.length) (fun w h => f_sh (dk := (Kd.int .i64)) h (fun w h => h.zaw (i := 7) rfl)) (fun hq3731 => ?_)
        refine za7 h (fun y3733 hg3732 h => ?_) rfl
        refine o_q rfl rfl (q_ix Try.underlying25 Z3 rfl rfl hq3731 hg3732) ?_
        refine o_q rfl rfl (q_lde (off := 0) Y3 rfl rfl (fun w h => h.zaw (i := 7) rfl) hg3732 (fun _ _ h => h) rfl) ?_
        refine o_q rfl rfl (q_asg rfl) ?_
        refine o_q rfl rfl (q_asg rfl) ?_
        refine o_end ?_
        refine za1 ?_
        refine c_seq ?_
        refine za0 ?_
        refine o_q rfl rfl (za2 rfl) ?_
        refine o_q rfl rfl (za2 rfl) ?_
        refine za7 h (fun b3735 hx3734 h => ?_) rfl
        refine o_e rfl (zab 0 Z Try.func87 N87 rfl rfl rfl (fun w P1 hF hB hS hT => spec_l1Has.calls A3703 c3704 l3702.length l3702 y3733 hB hF (hT 0 _ rfl).row (hT 0 _ rfl).cap _ hx3734)) (fun _ => ?_)
        refine o_q rfl rfl (q_not rfl) ?_
        refine o_end ?_
        refine za1 ?_
        refine zau _ rfl (fun hb3736 => ?_) (fun hb3736 => ?_)
        ·replace hb3736 := nt_t hb3736
         replace h := bb_f hb3736 h
         refine za0 ?_
         refine o_q rfl rfl (za2 rfl) ?_
         refine o_q rfl rfl (za2 rfl) ?_
         refine za7 h (fun y3738 hg3737 h => ?_) rfl
         refine o_q rfl rfl (q_ix Try.underlying25 Z3 rfl rfl hq3731 hg3737) ?_
         refine za7 h (fun l3739 hs3740 h => ?_) rfl
         refine o_e rfl (e_set (i := 7) rfl rfl rfl Z3 hs3740) (fun _ => ?_)
         refine o_end ?_
         refine zal ?_
         refine za1 ?_
         refine za0 ?_
         refine o_q rfl rfl (q_up rfl rfl hr3710.up) ?_
         refine o_q rfl rfl (za2 rfl) ?_
         refine o_end ?_
         refine zam k3709 (l3739, i3706 + 1) (Nat.lt_succ_self _) ⟨hr3710.step, h⟩ ⟨rfl, trivial⟩ (fun w h => za6 [0, 1, 2, 3, 4, 5, 6, 7, 8, 9] (by decide) rfl w h) ?_
         repeat (first | exact zac _ _ | refine zaf rfl ?_ | refine zad rfl ?_ | refine zah rfl ?_)
        ·replace hb3736 := nt_f hb3736
         replace h := bb_t hb3736 h
         refine zao ?_
         refine zal ?_
         refine za1 ?_
         refine za0 ?_
         refine o_q rfl rfl (q_up rfl rfl hr3710.up) ?_
         refine o_q rfl rfl (za2 rfl) ?_
         refine o_end ?_
         refine zam k3709 (l3705, i3706 + 1) (Nat.lt_succ_self _) ⟨hr3710.step, h⟩ ⟨rfl, trivial⟩ (fun w h => za6 [0, 1, 2, 3, 4, 5, 6, 7, 8, 9] (by decide) rfl w h) ?_
         repeat (first | exact zac _ _ | refine zaf rfl ?_ | refine zad rfl ?_ | refine zah rfl ?_)

/-! ### (*loop.example/g01098/spec.l1Cur).code9: function 94 -/
def spec_l1Cur_code9.l0 (k : Nat) (l0_0 : List Int) (i166 : Int) : Nat → (List Int) → (List SRegOp) → Int → Int → Int → Option ((List Int) × (List SRegOp) × Int × Int)
 | 0, _, _, _, _, _ => none
 | k191 + 1, l180, l183, i186, i187, i188 => if 0 < i188 then ((spec_l1Cur_pick.f l0_0 i186 i187 (w64 (2 + i166))).bind fun (i201, i202, i203) => (spec_l1Cur_among.f l0_0 i202 i203 l180).bind fun (i205, i206, i207) => (spec_l1Cur_among.f l0_0 i206 i207 l180).bind fun (i209, i210, i211) => (ap l183 ([(⟨i201, i205, i209⟩ : SRegOp)] : List SRegOp)).bind fun l217 => (spec_l1Put.f k l180 i201).bind fun l222 => spec_l1Cur_code9.l0 k l0_0 i166 k191 l222 l217 i210 i211 (w64 (i188 - 1))) else (some (l180, l183, i186, i187))
def spec_l1Cur_code9.f (k : Nat) (l0_0 : List Int) (a0_1 : Int) (a0_2 : Int) : Option (Int × (List Int) × (List SRegOp) × (List Int) × Int × Int) := ((spec_l1Cur_one.f l0_0 a0_1 a0_2 2).bind fun (b128, i129, i130) => if b128 = true then ((spec_l1Cur_inputs.f l0_0 i129 i130).bind fun (i133, i134, i135) => (spec_l1Cur_among.f l0_0 i134 i135 ([2, 5, 9] : List Int)).bind fun (i140, i141, i142) => (spec_l1Cur_plan.f k l0_0 i141 i142 i133 i140).bind fun (i144, l145, l146, i147, i148) => (spec_AllocatePlan.f k i144 l145 l146).bind fun (i154, l155, l156, l157, b158) => some (i147, i148, i154, l155, l156, l157)) else ((spec_l1Cur_pick.f l0_0 i129 i130 4).bind fun (i166, i167, i168) => (spec_l1Cur_pick.f l0_0 i167 i168 7).bind fun (i176, i177, i178) => (spec_l1Cur_code9.l0 k l0_0 i166 k ([0] : List Int) ([] : List SRegOp) i177 i178 i176).bind fun (l180, l183, i186, i187) => (spec_l1Cur_among.f l0_0 i186 i187 l180).bind fun (i226, i227, i228) => some (i227, i228, w64 (2 + i166), ([0] : List Int), l183, ([i226] : List Int)))).bind fun (i110, i111, i112, l113, l116, l119) => ((spec_l1Cur_pick.f l0_0 i110 i111 24).bind fun (i2128, i2129, i2130) => if i2128 = 0 then ((spec_l1Cur_among.f l0_0 i2129 i2130 ([0, 1, (-1), 46, 47] : List Int)).bind fun (i2136, i2137, i2138) => some (i2136, l113, l116, l119, i2137, i2138)) else (if i2128 = 1 then ((spec_l1Cur_pick.f l0_0 i2129 i2130 4).bind fun (i2322, i2323, i2324) => (spec_l1Cur_among.f l0_0 i2323 i2324 ([0, 1, (-1), 99] : List Int)).bind fun (i2502, i2503, i2504) => (ap l116 ([(⟨0, i2322, i2502⟩ : SRegOp)] : List SRegOp)).bind fun l2681 => some (i112, l113, l2681, l119, i2503, i2504)) else (if i2128 = 2 then ((spec_l1Cur_pick.f l0_0 i2129 i2130 3).bind fun (i3104, i3105, i3106) => (ap l113 ([i3104] : List Int)).bind fun l3223 => some (i112, l3223, l116, l119, i3105, i3106)) else (if i2128 = 3 then ((spec_l1Cur_pick.f l0_0 i2129 i2130 6).bind fun (i3646, i3647, i3648) => (ap l119 ([i3646] : List Int)).bind fun l3765 => some (i112, l113, l116, l3765, i3647, i3648)) else (some (i112, l113, l116, l119, i2129, i2130)))))).bind fun (i2110, l2111, l2114, l2117, i2120, i2121) => some (i2110, l2111, l2114, l2117, i2120, i2121)
set_option maxHeartbeats 600000 in
set_option maxRecDepth 100000 in
theorem spec_l1Cur_code9.calls (k : Nat) {w0 ws : World} {P0 : Nat → Prop} (g0 : Nat) (A0_0 : Option Addr) (c0_0 : Nat) (n0_0 : Nat) (l0_0 : List Int) (a0_1 : Int) (a0_2 : Int) (Z : Below w0.heap.size w0 ws) (hF : Fr w0 ws P0 [box g0 67 #[.slice A0_0 n0_0 c0_0, .int .i64 a0_1, .int .u64 a0_2]] ws) (R0_0 : Stable ws P0 (fun w => Kd.C (Kd.int .u8) w A0_0 n0_0 l0_0)) (hc0_0 : n0_0 ≤ c0_0) (r_1 : Int) (r_2 : List Int) (r_5 : List SRegOp) (r_8 : List Int) (r_11 : Int) (r_12 : Int) (h : spec_l1Cur_code9.f k l0_0 a0_1 a0_2 = some (r_1, r_2, r_5, r_8, r_11, r_12)) :
  Calls Try.prog 94 #[.pointer (some ⟨g0, 0, none⟩)] ws (Post1 w0 ws P0 (fun ((q_3, q_4, q_6, q_7, q_9, q_10) : (Option Addr) × Nat × (Option Addr) × Nat × (Option Addr) × Nat) => .agg #[.int .i64 r_1, .slice q_3 r_2.length q_4, .slice q_6 r_5.length q_7, .slice q_9 r_8.length q_10]) (fun ((q_3, q_4, q_6, q_7, q_9, q_10) : (Option Addr) × Nat × (Option Addr) × Nat × (Option Addr) × Nat) => [row (Kd.int .i64) 3 (.slice q_3 r_2.length q_4) r_2, row zb6 94 (.slice q_6 r_5.length q_7) r_5, row (Kd.int .i64) 3 (.slice q_9 r_8.length q_10) r_8, box g0 67 #[.slice A0_0 n0_0 c0_0, .int .i64 r_11, .int .u64 r_12]])) := by
 unfold spec_l1Cur_code9.f at h
 obtain rfl := (R0_0 ws (KeptB.refl _ _)).1
 refine enter Try.func94 rfl Try.ntmps94 rfl hF ?_
 refine c_seq ?_
 refine za0 ?_
 refine o_e rfl (zat V43 rfl) (fun g1 => ?_)
 refine o_end ?_
 refine za1 ?_
 refine c_seq ?_
 refine za0 ?_
 refine o_e rfl (zat V43 rfl) (fun g3 => ?_)
 refine o_end ?_
 refine za1 ?_
 refine za7 h (fun o122 hl123 hR124 => ?_) rfl
 clear h
 refine c_cutJ (σ := Int × Int × Int × (List Int) × (List SRegOp) × (List Int) × (Option Addr) × Nat × (Option Addr) × Nat × (Option Addr) × Nat) (fun (i110, i111, i112, l113, l116, l119, A114, c115, A117, c118, A120, c121) => some (i110, i111, i112, l113, l116, l119) = some o122) [4, 5, 6, 7, 8, 9, 10, 11, 12, 13, 14, 15, 16, 17, 18, 19, 20, 21, 22, 23, 24, 25, 26, 27, 28, 29, 30, 31, 32, 33, 34, 35, 36, 37, 38, 39, 40, 41, 42, 43, 44, 45, 46, 47, 48, 49, 50, 51, 52, 53, 54, 55, 56, 57] (fun (i110, i111, i112, l113, l116, l119, A114, c115, A117, c118, A120, c121) => []) (fun (i110, i111, i112, l113, l116, l119, A114, c115, A117, c118, A120, c121) => [box g0 67 #[.slice A0_0 l0_0.length c0_0, .int .i64 i110, .int .u64 i111], box g1 43 #[.int .i64 0, .slice none 0 0, .slice none 0 0, .slice none 0 0], box g3 43 #[.int .i64 i112, .slice A114 l113.length c115, .slice A117 l116.length c118, .slice A120 l119.length c121], row (Kd.int .i64) 3 (.slice A114 l113.length c115) l113, row zb6 94 (.slice A117 l116.length c118) l116, row (Kd.int .i64) 3 (.slice A120 l119.length c121) l119]) ?_ ?_
 ·skip
  have h := hl123; clear hl123
  clear hR124
  refine c_seq ?_
  refine za0 ?_
  refine o_q rfl rfl (za2 rfl) ?_
  refine o_pick [2, 0, 1] (by decide) rfl ?_
  refine bindE3 h (fun b128 i129 i130 hx127 h => ?_) rfl
  refine o_e rfl (zab 1 Z Try.func102 N102 rfl rfl rfl (fun w P1 hF hB hS hT => spec_l1Cur_one.calls g0 A0_0 c0_0 l0_0.length l0_0 a0_1 a0_2 2 hB hF (hS _ R0_0) hc0_0 _ _ _ hx127)) (fun _ => ?_)
  refine o_end ?_
  refine za1 ?_
  refine zau _ rfl (fun hb131 => ?_) (fun hb131 => ?_)
  ·skip
   replace h := bb_t hb131 h
   refine za0 ?_
   refine o_q rfl rfl (za2 rfl) ?_
   refine o_q rfl rfl (za2 rfl) ?_
   refine bindE3 h (fun i133 i134 i135 hx132 h => ?_) rfl
   refine o_e rfl (zab 1 Z Try.func65 N65 rfl rfl rfl (fun w P1 hF hB hS hT => spec_l1Cur_inputs.calls g0 A0_0 c0_0 l0_0.length l0_0 i129 i130 hB hF (hS _ R0_0) hc0_0 _ _ _ hx132)) (fun _ => ?_)
   refine o_q rfl rfl (za2 rfl) ?_
   refine o_e rfl (e_lit (vs := [(0, .int .i64 2), (1, .int .i64 5), (2, .int .i64 9)]) (cs := [.int .i64 2, .int .i64 5, .int .i64 9]) (Kd.int .i64) ([2, 5, 9] : List Int) Try.underlying25 I3 (by decide) rfl (by decide) rfl rfl (fun _ _ => Kd.zak _)) (cur2 (fun A136 c137 => ?_))
   refine o_pick [1, 0, 2, 3] (by decide) rfl ?_
   refine bindE3 h (fun i140 i141 i142 hx139 h => ?_) rfl
   refine o_e rfl (zab 1 Z Try.func56 N56 rfl rfl rfl (fun w P1 hF hB hS hT => spec_l1Cur_among.calls g0 A0_0 c0_0 l0_0.length l0_0 i134 i135 A136 c137 (([2, 5, 9] : List Int).length) ([2, 5, 9] : List Int) hB hF (hS _ R0_0) hc0_0 (hT 0 _ rfl).row (hT 0 _ rfl).cap _ _ _ hx139)) (fun _ => ?_)
   refine bindE5 h (fun i144 l145 l146 i147 i148 hx143 h => ?_) rfl
   refine o_e rfl (zab 1 Z Try.func128 N128 rfl rfl rfl (fun w P1 hF hB hS hT => spec_l1Cur_plan.calls k g0 A0_0 c0_0 l0_0.length l0_0 i141 i142 i133 i140 hB hF (hS _ R0_0) hc0_0 _ _ _ _ _ hx143)) (cur4 (fun A149 c150 A151 c152 => ?_))
   refine bindE5 h (fun i154 l155 l156 l157 b158 hx153 h => ?_) rfl
   refine o_e rfl (zab 0 Z Try.func26 N26 rfl rfl rfl (fun w P1 hF hB hS hT => spec_AllocatePlan.calls k i144 A149 c150 l145.length l145 A151 c152 l146.length l146 hB hF (hT 0 _ rfl).row (hT 0 _ rfl).cap (hT 1 _ rfl).row (hT 1 _ rfl).cap _ _ _ _ _ hx153)) (cur6 (fun A159 c160 A161 c162 A163 c164 => ?_))
   refine o_q rfl rfl (za2 rfl) ?_
   refine o_q rfl rfl (q_ext rfl rfl) ?_
   refine o_q rfl rfl (q_ext rfl rfl) ?_
   refine o_e rfl (zan (i := 7) rfl rfl rfl Z43 rfl rfl) (fun _ => ?_)
   refine o_end ?_
   refine zas (i147, i148, i154, l155, l156, l157, A159, c160, A161, c162, A163, c164) h trivial (fun w h => za6 [5, 8, 7, 0, 1, 2] (by decide) rfl w h) ?_
   repeat (first | exact zac _ _ | refine zaf rfl ?_ | refine zad rfl ?_ | refine zah rfl ?_)
  ·skip
   replace h := bb_f hb131 h
   refine c_seq ?_
   refine za0 ?_
   refine o_q rfl rfl (za2 rfl) ?_
   refine bindE3 h (fun i166 i167 i168 hx165 h => ?_) rfl
   refine o_e rfl (zab 1 Z Try.func66 N66 rfl rfl rfl (fun w P1 hF hB hS hT => spec_l1Cur_pick.calls g0 A0_0 c0_0 l0_0.length l0_0 i129 i130 4 hB hF (hS _ R0_0) hc0_0 _ _ _ hx165)) (fun _ => ?_)
   refine o_q rfl rfl (zb8 rfl rfl) ?_
   refine o_e rfl (e_lit (vs := [(0, .int .i64 0)]) (cs := [.int .i64 0]) (Kd.int .i64) ([0] : List Int) Try.underlying25 I3 (by decide) rfl (by decide) rfl rfl (fun _ _ => Kd.zak _)) (cur2 (fun A169 c170 => ?_))
   refine o_q rfl rfl (zb5 (vs := [(0, .int .i64 (w64 (2 + i166))), (1, .slice A169 (([0] : List Int).length) c170)]) (cs := [.int .i64 (w64 (2 + i166)), .slice A169 (([0] : List Int).length) c170, .slice none 0 0, .slice none 0 0]) rfl rfl) ?_
   refine o_e rfl (zan (i := 2) rfl rfl rfl Z43 rfl rfl) (fun _ => ?_)
   refine o_end ?_
   refine za1 ?_
   refine c_seq ?_
   refine za0 ?_
   refine o_e rfl (e_lit (vs := [(0, .int .i64 0)]) (cs := [.int .i64 0]) (Kd.int .i64) ([0] : List Int) Try.underlying25 I3 (by decide) rfl (by decide) rfl rfl (fun _ _ => Kd.zak _)) (cur2 (fun A172 c173 => ?_))
   refine o_q rfl rfl (q_asg rfl) ?_
   refine o_end ?_
   refine za1 ?_
   refine c_seq ?_
   refine c_seq ?_
   refine za0 ?_
   refine o_q rfl rfl (za2 rfl) ?_
   refine o_pick [2, 0, 1, 3, 4] (by decide) rfl ?_
   refine bindE3 h (fun i176 i177 i178 hx175 h => ?_) rfl
   refine o_e rfl (zab 1 Z Try.func66 N66 rfl rfl rfl (fun w P1 hF hB hS hT => spec_l1Cur_pick.calls g0 A0_0 c0_0 l0_0.length l0_0 i167 i168 7 hB hF (hS _ R0_0) hc0_0 _ _ _ hx175)) (fun _ => ?_)
   refine o_q rfl rfl (q_asg rfl) ?_
   refine o_end ?_
   refine za1 ?_
   refine zaj ?_
   refine c_nil zb6 94 ?_
   refine za7 h (fun o196 hl195 hR194 => ?_) rfl
   clear h
   refine zax (σ := (List Int) × (List SRegOp) × Int × Int × Int × (Option Addr) × Nat × (Option Addr) × Nat) (fun k191 ((l180, l183, i186, i187, i188, A181, c182, A184, c185) : (List Int) × (List SRegOp) × Int × Int × Int × (Option Addr) × Nat × (Option Addr) × Nat) => spec_l1Cur_code9.l0 k l0_0 i166 k191 l180 l183 i186 i187 i188 = some o196) [4, 5, 6, 28, 29, 30, 31, 32, 33, 34, 35, 36, 37, 38, 39, 40, 41, 42, 43, 44, 45, 46, 47, 48, 49, 50, 51, 52] (fun ((l180, l183, i186, i187, i188, A181, c182, A184, c185) : (List Int) × (List SRegOp) × Int × Int × Int × (Option Addr) × Nat × (Option Addr) × Nat) => [(4, .slice A181 l180.length c182), (5, .int .i64 i188)]) (fun ((l180, l183, i186, i187, i188, A181, c182, A184, c185) : (List Int) × (List SRegOp) × Int × Int × Int × (Option Addr) × Nat × (Option Addr) × Nat) => [row zb6 94 (.slice A184 l183.length c185) l183, box g0 67 #[.slice A0_0 l0_0.length c0_0, .int .i64 i186, .int .u64 i187], row (Kd.int .i64) 3 (.slice A181 l180.length c182) l180, row (Kd.int .i64) 3 (.slice A169 (([0] : List Int).length) c170) ([0] : List Int), box g3 43 #[.int .i64 (w64 (2 + i166)), .slice A169 (([0] : List Int).length) c170, .slice A184 l183.length c185, .slice none 0 0], box g1 43 #[.int .i64 0, .slice none 0 0, .slice none 0 0, .slice none 0 0]]) k (([0] : List Int), ([] : List SRegOp), i177, i178, i176, A172, c173, none, 0) hl195 ⟨rfl, rfl, trivial⟩ (fun w h => h) ?_
   refine natC (cur9 (fun l180 l183 i186 i187 i188 A181 c182 A184 c185 => fun U197 hJ_ => ?_)) (fun k191 => (cur9 (fun l180 l183 i186 i187 i188 A181 c182 A184 c185 => fun U197 hJ_ => ?_)))
   ·skip
    replace hJ_ : spec_l1Cur_code9.l0 k l0_0 i166 0 l180 l183 i186 i187 i188 = some o196 := hJ_
    rw [spec_l1Cur_code9.l0] at hJ_
    exact noneE hJ_
   ·skip
    clear hl195
    have h := hJ_; clear hJ_
    replace h : spec_l1Cur_code9.l0 k l0_0 i166 (k191 + 1) l180 l183 i186 i187 i188 = some o196 := h
    rw [spec_l1Cur_code9.l0] at h
    refine c_seq ?_
    refine c_seq ?_
    refine za0 ?_
    refine o_q rfl rfl (za2 rfl) ?_
    refine o_q rfl rfl (q_gtr rfl rfl) ?_
    refine o_end ?_
    refine za1 ?_
    refine zau _ rfl (fun hb199 => ?_) (fun hb199 => ?_)
    ·skip
     replace h := br_t hb199 h
     refine zao ?_
     refine za1 ?_
     refine c_seq ?_
     refine zaj ?_
     refine c_seq ?_
     refine za0 ?_
     refine o_q rfl rfl (za2 rfl) ?_
     refine o_q rfl rfl (q_f F43_0 rfl) ?_
     refine o_q rfl rfl (q_ldb Y3 rfl (fun w h => h.zae (i := 4) rfl) rfl) ?_
     refine o_pick [1, 0, 2, 3, 4, 5] (by decide) rfl ?_
     refine bindE3 h (fun i201 i202 i203 hx200 h => ?_) rfl
     refine o_e rfl (zab 1 Z Try.func66 N66 rfl rfl rfl (fun w P1 hF hB hS hT => spec_l1Cur_pick.calls g0 A0_0 c0_0 l0_0.length l0_0 i186 i187 (w64 (2 + i166)) hB hF (hS _ R0_0) hc0_0 _ _ _ hx200)) (fun _ => ?_)
     refine o_q rfl rfl (za2 rfl) ?_
     refine o_q rfl rfl (za2 rfl) ?_
     refine bindE3 h (fun i205 i206 i207 hx204 h => ?_) rfl
     refine o_e rfl (zab 1 Z Try.func56 N56 rfl rfl rfl (fun w P1 hF hB hS hT => spec_l1Cur_among.calls g0 A0_0 c0_0 l0_0.length l0_0 i202 i203 A181 c182 l180.length l180 hB hF (hS _ R0_0) hc0_0 (hT 1 _ rfl).row (hT 1 _ rfl).cap _ _ _ hx204)) (fun _ => ?_)
     refine o_q rfl rfl (za2 rfl) ?_
     refine o_q rfl rfl (za2 rfl) ?_
     refine bindE3 h (fun i209 i210 i211 hx208 h => ?_) rfl
     refine o_e rfl (zab 1 Z Try.func56 N56 rfl rfl rfl (fun w P1 hF hB hS hT => spec_l1Cur_among.calls g0 A0_0 c0_0 l0_0.length l0_0 i206 i207 A181 c182 l180.length l180 hB hF (hS _ R0_0) hc0_0 (hT 1 _ rfl).row (hT 1 _ rfl).cap _ _ _ hx208)) (fun _ => ?_)
     refine o_q rfl rfl (zb5 (vs := [(0, .int .i64 i201), (1, .int .i64 i205), (2, .int .i64 i209)]) (cs := [.int .i64 i201, .int .i64 i205, .int .i64 i209]) rfl rfl) ?_
     refine o_e rfl (zat V94 rfl) (fun g212 => ?_)
     refine o_e rfl (zan (i := 0) rfl rfl rfl Z94 rfl rfl) (fun _ => ?_)
     refine o_end ?_
     refine za1 ?_
     refine c_seq ?_
     refine za0 ?_
     refine o_q rfl rfl (q_f F43_2 rfl) ?_
     refine o_q rfl rfl (q_ldb Y41 rfl (fun w h => h.zae (i := 5) rfl) rfl) ?_
     refine o_q rfl rfl (q_ldB G94 Z94 rfl (fun w h => h.zae (i := 0) rfl) rfl) ?_
     refine o_e rfl (e_lit (vs := [(0, .agg #[.int .i64 i201, .int .i64 i205, .int .i64 i209])]) (cs := [.int .i64 i201, .int .i64 i205, .int .i64 i209]) zb6 ([(⟨i201, i205, i209⟩ : SRegOp)] : List SRegOp) Try.underlying41 I94 (by decide) rfl (by decide) rfl rfl (fun _ _ => zb9 _)) (cur2 (fun A214 c215 => ?_))
     refine za7 h (fun l217 ha218 h => ?_) rfl
     refine o_e rfl (e_app (i := 3) (j := 0) Try.underlying41 I94 rfl (by decide) (by decide) rfl rfl rfl rfl rfl ha218) (cur2 (fun A219 c220 => ?_))
     refine o_q rfl rfl (q_f F43_2 rfl) ?_
     refine o_e rfl (zay (i := 6) rfl rfl rfl rfl Z41 rfl rfl) (fun _ => ?_)
     refine o_end ?_
     refine za1 ?_
     refine za0 ?_
     refine o_q rfl rfl (za2 rfl) ?_
     refine o_q rfl rfl (q_f F94_0 rfl) ?_
     refine o_q rfl rfl (q_ldb Y3 rfl (fun w h => h.zae (i := 1) rfl) rfl) ?_
     refine o_pick [4, 1, 2, 3, 5, 6, 7] (by decide) rfl ?_
     refine za7 h (fun l222 hx221 h => ?_) rfl
     refine o_e rfl (zab 1 Z Try.func127 N127 rfl rfl rfl (fun w P1 hF hB hS hT => spec_l1Put.calls k A181 c182 l180.length l180 i201 hB hF _ hx221)) (cur2 (fun A223 c224 => ?_))
     refine o_q rfl rfl (q_asg rfl) ?_
     refine o_end ?_
     refine zal ?_
     refine za1 ?_
     refine za0 ?_
     refine o_q rfl rfl (za2 rfl) ?_
     refine o_q rfl rfl (q_sub64 rfl rfl) ?_
     refine o_q rfl rfl (q_asg rfl) ?_
     refine o_end ?_
     refine zam k191 (l222, l217, i210, i211, w64 (i188 - 1), A223, c224, A219, c220) (Nat.lt_succ_self _) h ⟨rfl, rfl, trivial⟩ (fun w h => za6 [3, 2, 0, 4, 5, 6] (by decide) rfl w h) ?_
     repeat (first | exact zac _ _ | refine zaf rfl ?_ | refine zad rfl ?_ | refine zah rfl ?_)
    ·skip
     replace h := br_f hb199 h
     refine zb4 ?_
     refine za8 ?_
     refine za8 ?_
     have e_ := Option.some.inj h; replace h := hR194; rw [← e_] at h; clear e_
     refine x_hit ?_
     refine za1 ?_
     refine za0 ?_
     refine o_q rfl rfl (za2 rfl) ?_
     refine o_q rfl rfl (za2 rfl) ?_
     refine o_pick [1, 0, 2, 3, 4, 5] (by decide) rfl ?_
     refine bindE3 h (fun i226 i227 i228 hx225 h => ?_) rfl
     refine o_e rfl (zab 1 Z Try.func56 N56 rfl rfl rfl (fun w P1 hF hB hS hT => spec_l1Cur_among.calls g0 A0_0 c0_0 l0_0.length l0_0 i186 i187 A181 c182 l180.length l180 hB hF (hS _ R0_0) hc0_0 (hT 1 _ rfl).row (hT 1 _ rfl).cap _ _ _ hx225)) (fun _ => ?_)
     refine o_e rfl (e_lit (vs := [(0, .int .i64 i226)]) (cs := [.int .i64 i226]) (Kd.int .i64) ([i226] : List Int) Try.underlying25 I3 (by decide) rfl (by decide) rfl rfl (fun _ _ => Kd.zak _)) (cur2 (fun A229 c230 => ?_))
     refine o_q rfl rfl (q_f F43_3 rfl) ?_
     refine o_e rfl (zay (i := 5) rfl rfl rfl rfl Z25 rfl rfl) (fun _ => ?_)
     refine o_end ?_
     refine zas (i227, i228, w64 (2 + i166), ([0] : List Int), l183, ([i226] : List Int), A169, c170, A184, c185, A229, c230) h trivial (fun w h => za6 [1, 6, 5, 4, 2, 0] (by decide) rfl w h) ?_
     repeat (first | exact zac _ _ | refine zaf rfl ?_ | refine zad rfl ?_ | refine zah rfl ?_)
 ·skip
  refine (cur12 (fun i110 i111 i112 l113 l116 l119 A114 c115 A117 c118 A120 c121 => fun U125 hJ126 => ?_))
  have e_ := Option.some.inj hJ126; have h := hR124; rw [← e_] at h; clear e_ hJ126 hR124 hl123
  refine za7 h (fun o2122 hl2123 hR2124 => ?_) rfl
  clear h
  refine c_cutJ (σ := Int × (List Int) × (List SRegOp) × (List Int) × Int × Int × (Option Addr) × Nat × (Option Addr) × Nat × (Option Addr) × Nat) (fun (i2110, l2111, l2114, l2117, i2120, i2121, A2112, c2113, A2115, c2116, A2118, c2119) => some (i2110, l2111, l2114, l2117, i2120, i2121) = some o2122) [58, 59, 60, 61, 62, 63, 64, 65, 66, 67, 68, 69, 70, 71, 72, 73, 74, 75, 76, 77, 78, 79, 80, 81, 82, 83, 84, 85, 86, 87, 88, 89, 90, 91, 92, 93, 94, 95, 96] (fun (i2110, l2111, l2114, l2117, i2120, i2121, A2112, c2113, A2115, c2116, A2118, c2119) => []) (fun (i2110, l2111, l2114, l2117, i2120, i2121, A2112, c2113, A2115, c2116, A2118, c2119) => [box g1 43 #[.int .i64 0, .slice none 0 0, .slice none 0 0, .slice none 0 0], box g3 43 #[.int .i64 i2110, .slice A2112 l2111.length c2113, .slice A2115 l2114.length c2116, .slice A2118 l2117.length c2119], row (Kd.int .i64) 3 (.slice A2112 l2111.length c2113) l2111, row zb6 94 (.slice A2115 l2114.length c2116) l2114, row (Kd.int .i64) 3 (.slice A2118 l2117.length c2119) l2117, box g0 67 #[.slice A0_0 l0_0.length c0_0, .int .i64 i2120, .int .u64 i2121]]) ?_ ?_
  ·skip
   have h := hl2123; clear hl2123
   clear hR2124
   refine c_seq ?_
   refine za0 ?_
   refine o_q rfl rfl (za2 rfl) ?_
   refine bindE3 h (fun i2128 i2129 i2130 hx2127 h => ?_) rfl
   refine o_e rfl (zab 1 Z Try.func66 N66 rfl rfl rfl (fun w P1 hF hB hS hT => spec_l1Cur_pick.calls g0 A0_0 c0_0 l0_0.length l0_0 i110 i111 24 hB hF (hS _ R0_0) hc0_0 _ _ _ hx2127)) (fun _ => ?_)
   refine o_end ?_
   refine za1 ?_
   refine zaj ?_
   refine c_seq ?_
   refine za0 ?_
   refine o_q rfl rfl (q_eql rfl rfl) ?_
   refine o_q rfl rfl (q_asg rfl) ?_
   refine o_end ?_
   refine za1 ?_
   refine zau _ rfl (fun hb2131 => ?_) (fun hb2131 => ?_)
   ·skip
    replace h := br_t hb2131 h
    refine za0 ?_
    refine o_q rfl rfl (za2 rfl) ?_
    refine o_e rfl (e_lit (vs := [(0, .int .i64 0), (1, .int .i64 1), (2, .int .i64 (-1)), (3, .int .i64 46), (4, .int .i64 47)]) (cs := [.int .i64 0, .int .i64 1, .int .i64 (-1), .int .i64 46, .int .i64 47]) (Kd.int .i64) ([0, 1, (-1), 46, 47] : List Int) Try.underlying25 I3 (by decide) rfl (by decide) rfl rfl (fun _ _ => Kd.zak _)) (cur2 (fun A2132 c2133 => ?_))
    refine o_pick [1, 0, 2, 3, 4, 5, 6] (by decide) rfl ?_
    refine bindE3 h (fun i2136 i2137 i2138 hx2135 h => ?_) rfl
    refine o_e rfl (zab 1 Z Try.func56 N56 rfl rfl rfl (fun w P1 hF hB hS hT => spec_l1Cur_among.calls g0 A0_0 c0_0 l0_0.length l0_0 i2129 i2130 A2132 c2133 (([0, 1, (-1), 46, 47] : List Int).length) ([0, 1, (-1), 46, 47] : List Int) hB hF (hS _ R0_0) hc0_0 (hT 0 _ rfl).row (hT 0 _ rfl).cap _ _ _ hx2135)) (fun _ => ?_)
    refine o_q rfl rfl (q_f F43_0 rfl) ?_
    refine o_e rfl (zay (i := 3) rfl rfl rfl rfl Z3 rfl rfl) (fun _ => ?_)
    refine o_end ?_
    refine zal ?_
    refine zas (i2136, l113, l116, l119, i2137, i2138, A114, c115, A117, c118, A120, c121) h trivial (fun w h => za6 [2, 3, 4, 5, 6, 0] (by decide) rfl w h) ?_
    repeat (first | exact zac _ _ | refine zaf rfl ?_ | refine zad rfl ?_ | refine zah rfl ?_)
   ·skip
    replace h := br_f hb2131 h
    refine c_seq ?_
    refine za0 ?_
    refine o_q rfl rfl (q_eql rfl rfl) ?_
    refine o_q rfl rfl (q_asg rfl) ?_
    refine o_end ?_
    refine za1 ?_
    refine zau _ rfl (fun hb2139 => ?_) (fun hb2139 => ?_)
    ·skip
     replace h := br_t hb2139 h
     refine bindE3 h (fun i2322 i2323 i2324 hx2321 h => ?_) rfl
     refine bindE3 h (fun i2502 i2503 i2504 hx2501 h => ?_) rfl
     refine za7 h (fun l2681 ha2682 h => ?_) rfl
     refine a_startS (ds := []) [none, some 1, none, some 3, none, some 5] MO rfl ?_
     refine za9 0 rfl rfl rfl (by kernel_rfl) (fun _ _ _ h => h) (q_f F43_2 rfl) ?_
     refine za9 2 rfl rfl rfl (by kernel_rfl) (fun _ _ _ h => h) (za2 rfl) ?_
     refine za9 4 rfl rfl rfl (by kernel_rfl) (fun _ _ _ h => h) (za2 rfl) ?_
     refine a_three 1 3 5 rfl rfl rfl rfl rfl rfl (by kernel_rfl) rfl rfl rfl (ev_q rfl (q_ldb Y41 rfl (fun w h => h.zae (i := 2) rfl) rfl)) (fun s w h => za5 [none, some 1, none, some 3, none, some 5] (by decide) w h rfl) (zab 1 Z Try.func66 N66 rfl rfl rfl (fun w P1 hF hB hS hT => spec_l1Cur_pick.calls g0 A0_0 c0_0 l0_0.length l0_0 i2129 i2130 4 hB hF (hS _ R0_0) hc0_0 _ _ _ hx2321)) (fun s w h => za5 [none, some 1, none, some 3, none, some 5] (by decide) w h rfl) (e_lit (vs := [(0, .int .i64 0), (1, .int .i64 1), (2, .int .i64 (-1)), (3, .int .i64 99)]) (cs := [.int .i64 0, .int .i64 1, .int .i64 (-1), .int .i64 99]) (Kd.int .i64) ([0, 1, (-1), 99] : List Int) Try.underlying25 I3 (by decide) rfl (by decide) rfl rfl (fun _ _ => Kd.zak _)) (fun s w h => za5 [none, some 2, none, some 4, none, some 6] (by decide) w h rfl) (fun _ => ?_) (fun _ => ?_) (cur2 (fun A2441 c2442 => ?_))
     ·skip
      refine a_two 3 5 rfl rfl rfl rfl (by kernel_rfl) rfl rfl (zab 1 Z Try.func66 N66 rfl rfl rfl (fun w P1 hF hB hS hT => spec_l1Cur_pick.calls g0 A0_0 c0_0 l0_0.length l0_0 i2129 i2130 4 hB hF (hS _ R0_0) hc0_0 _ _ _ hx2321)) (fun s w h => za5 [none, some 1, none, some 3, none, some 5] (by decide) w h rfl) (e_lit (vs := [(0, .int .i64 0), (1, .int .i64 1), (2, .int .i64 (-1)), (3, .int .i64 99)]) (cs := [.int .i64 0, .int .i64 1, .int .i64 (-1), .int .i64 99]) (Kd.int .i64) ([0, 1, (-1), 99] : List Int) Try.underlying25 I3 (by decide) rfl (by decide) rfl rfl (fun _ _ => Kd.zak _)) (fun s w h => za5 [none, some 2, none, some 4, none, some 6] (by decide) w h rfl) (fun _ => ?_) (cur2 (fun A2441 c2442 => ?_))
      ·skip
       refine a_one 5 rfl rfl (by kernel_rfl) rfl (e_lit (vs := [(0, .int .i64 0), (1, .int .i64 1), (2, .int .i64 (-1)), (3, .int .i64 99)]) (cs := [.int .i64 0, .int .i64 1, .int .i64 (-1), .int .i64 99]) (Kd.int .i64) ([0, 1, (-1), 99] : List Int) Try.underlying25 I3 (by decide) rfl (by decide) rfl rfl (fun _ _ => Kd.zak _)) (fun s w h => za5 [none, some 2, none, some 4, none, some 6] (by decide) w h rfl) (cur2 (fun A2441 c2442 => ?_))
       refine a_pick [1, 0, 2, 3, 4, 5, 6] (by decide) rfl ?_
       refine a_one 6 rfl rfl (by kernel_rfl) rfl (zab 1 Z Try.func56 N56 rfl rfl rfl (fun w P1 hF hB hS hT => spec_l1Cur_among.calls g0 A0_0 c0_0 l0_0.length l0_0 i2323 i2324 A2441 c2442 (([0, 1, (-1), 99] : List Int).length) ([0, 1, (-1), 99] : List Int) hB hF (hS _ R0_0) hc0_0 (hT 0 _ rfl).row (hT 0 _ rfl).cap _ _ _ hx2501)) (fun s w h => za5 [none, some 2, none, some 4, none, some 6] (by decide) w h rfl) (fun _ => ?_)
       refine za9 7 rfl rfl rfl (by kernel_rfl) (fun _ _ _ h => h) (zb5 (vs := [(0, .int .i64 0), (1, .int .i64 i2322), (2, .int .i64 i2502)]) (cs := [.int .i64 0, .int .i64 i2322, .int .i64 i2502]) rfl rfl) ?_
       refine a_one 8 rfl rfl (by kernel_rfl) rfl (e_lit (vs := [(0, .agg #[.int .i64 0, .int .i64 i2322, .int .i64 i2502])]) (cs := [.int .i64 0, .int .i64 i2322, .int .i64 i2502]) zb6 ([(⟨0, i2322, i2502⟩ : SRegOp)] : List SRegOp) Try.underlying41 I94 (by decide) rfl (by decide) rfl rfl (fun _ _ => zb9 _)) (fun s w h => za5 [none, some 3, none, some 5, none, some 7] (by decide) w h rfl) (cur2 (fun A2621 c2622 => ?_))
       refine a_one 9 rfl rfl (by kernel_rfl) rfl (e_app (i := 6) (j := 0) Try.underlying41 I94 rfl (by decide) (by decide) rfl rfl rfl rfl rfl ha2682) (fun s w h => za5 [none, some 3, none, some 5, none, some 7] (by decide) w h rfl) (cur2 (fun A2683 c2684 => ?_))
       refine za9 10 rfl rfl rfl (by kernel_rfl) (fun _ _ _ h => h) (q_f F43_2 rfl) ?_
       refine a_one 11 rfl rfl (by kernel_rfl) rfl (zay (i := 4) rfl rfl rfl rfl Z41 rfl rfl) (fun s w h => za5 [none, some 3, none, some 5, none, some 7] (by decide) w h rfl) (fun _ => ?_)
       refine zav (by kernel_rfl) ?_
       refine zal ?_
       refine zas (i112, l113, l2681, l119, i2503, i2504, A114, c115, A2683, c2684, A120, c121) h trivial (fun w h => za6 [3, 4, 5, 6, 7, 1] (by decide) rfl w h) ?_
       repeat (first | exact zac _ _ | refine zaf rfl ?_ | refine zad rfl ?_ | refine zah rfl ?_)
      ·skip
       refine a_pick [1, 0, 2, 3, 4, 5, 6] (by decide) rfl ?_
       refine a_one 3 rfl rfl (by kernel_rfl) rfl (zab 1 Z Try.func66 N66 rfl rfl rfl (fun w P1 hF hB hS hT => spec_l1Cur_pick.calls g0 A0_0 c0_0 l0_0.length l0_0 i2129 i2130 4 hB hF (hS _ R0_0) hc0_0 _ _ _ hx2321)) (fun s w h => za5 [none, some 2, none, some 4, none, some 6] (by decide) w h rfl) (fun _ => ?_)
       refine a_one 6 rfl rfl (by kernel_rfl) rfl (zab 1 Z Try.func56 N56 rfl rfl rfl (fun w P1 hF hB hS hT => spec_l1Cur_among.calls g0 A0_0 c0_0 l0_0.length l0_0 i2323 i2324 A2441 c2442 (([0, 1, (-1), 99] : List Int).length) ([0, 1, (-1), 99] : List Int) hB hF (hS _ R0_0) hc0_0 (hT 0 _ rfl).row (hT 0 _ rfl).cap _ _ _ hx2501)) (fun s w h => za5 [none, some 2, none, some 4, none, some 6] (by decide) w h rfl) (fun _ => ?_)
       refine za9 7 rfl rfl rfl (by kernel_rfl) (fun _ _ _ h => h) (zb5 (vs := [(0, .int .i64 0), (1, .int .i64 i2322), (2, .int .i64 i2502)]) (cs := [.int .i64 0, .int .i64 i2322, .int .i64 i2502]) rfl rfl) ?_
       refine a_one 8 rfl rfl (by kernel_rfl) rfl (e_lit (vs := [(0, .agg #[.int .i64 0, .int .i64 i2322, .int .i64 i2502])]) (cs := [.int .i64 0, .int .i64 i2322, .int .i64 i2502]) zb6 ([(⟨0, i2322, i2502⟩ : SRegOp)] : List SRegOp) Try.underlying41 I94 (by decide) rfl (by decide) rfl rfl (fun _ _ => zb9 _)) (fun s w h => za5 [none, some 3, none, some 5, none, some 7] (by decide) w h rfl) (cur2 (fun A2621 c2622 => ?_))
       refine a_one 9 rfl rfl (by kernel_rfl) rfl (e_app (i := 6) (j := 0) Try.underlying41 I94 rfl (by decide) (by decide) rfl rfl rfl rfl rfl ha2682) (fun s w h => za5 [none, some 3, none, some 5, none, some 7] (by decide) w h rfl) (cur2 (fun A2683 c2684 => ?_))
       refine za9 10 rfl rfl rfl (by kernel_rfl) (fun _ _ _ h => h) (q_f F43_2 rfl) ?_
       refine a_one 11 rfl rfl (by kernel_rfl) rfl (zay (i := 4) rfl rfl rfl rfl Z41 rfl rfl) (fun s w h => za5 [none, some 3, none, some 5, none, some 7] (by decide) w h rfl) (fun _ => ?_)
       refine zav (by kernel_rfl) ?_
       refine zal ?_
       refine zas (i112, l113, l2681, l119, i2503, i2504, A114, c115, A2683, c2684, A120, c121) h trivial (fun w h => za6 [3, 4, 5, 6, 7, 1] (by decide) rfl w h) ?_
       repeat (first | exact zac _ _ | refine zaf rfl ?_ | refine zad rfl ?_ | refine zah rfl ?_)
     ·skip
      refine a_two 1 5 rfl rfl rfl rfl (by kernel_rfl) rfl rfl (ev_q rfl (q_ldb Y41 rfl (fun w h => h.zae (i := 2) rfl) rfl)) (fun s w h => za5 [none, some 1, none, some 3, none, some 5] (by decide) w h rfl) (e_lit (vs := [(0, .int .i64 0), (1, .int .i64 1), (2, .int .i64 (-1)), (3, .int .i64 99)]) (cs := [.int .i64 0, .int .i64 1, .int .i64 (-1), .int .i64 99]) (Kd.int .i64) ([0, 1, (-1), 99] : List Int) Try.underlying25 I3 (by decide) rfl (by decide) rfl rfl (fun _ _ => Kd.zak _)) (fun s w h => za5 [none, some 2, none, some 4, none, some 6] (by decide) w h rfl) (fun _ => ?_) (cur2 (fun A2441 c2442 => ?_))
      ·skip
       refine a_one 5 rfl rfl (by kernel_rfl) rfl (e_lit (vs := [(0, .int .i64 0), (1, .int .i64 1), (2, .int .i64 (-1)), (3, .int .i64 99)]) (cs := [.int .i64 0, .int .i64 1, .int .i64 (-1), .int .i64 99]) (Kd.int .i64) ([0, 1, (-1), 99] : List Int) Try.underlying25 I3 (by decide) rfl (by decide) rfl rfl (fun _ _ => Kd.zak _)) (fun s w h => za5 [none, some 2, none, some 4, none, some 6] (by decide) w h rfl) (cur2 (fun A2441 c2442 => ?_))
       refine a_pick [1, 0, 2, 3, 4, 5, 6] (by decide) rfl ?_
       refine a_one 6 rfl rfl (by kernel_rfl) rfl (zab 1 Z Try.func56 N56 rfl rfl rfl (fun w P1 hF hB hS hT => spec_l1Cur_among.calls g0 A0_0 c0_0 l0_0.length l0_0 i2323 i2324 A2441 c2442 (([0, 1, (-1), 99] : List Int).length) ([0, 1, (-1), 99] : List Int) hB hF (hS _ R0_0) hc0_0 (hT 0 _ rfl).row (hT 0 _ rfl).cap _ _ _ hx2501)) (fun s w h => za5 [none, some 2, none, some 4, none, some 6] (by decide) w h rfl) (fun _ => ?_)
       refine za9 7 rfl rfl rfl (by kernel_rfl) (fun _ _ _ h => h) (zb5 (vs := [(0, .int .i64 0), (1, .int .i64 i2322), (2, .int .i64 i2502)]) (cs := [.int .i64 0, .int .i64 i2322, .int .i64 i2502]) rfl rfl) ?_
       refine a_one 8 rfl rfl (by kernel_rfl) rfl (e_lit (vs := [(0, .agg #[.int .i64 0, .int .i64 i2322, .int .i64 i2502])]) (cs := [.int .i64 0, .int .i64 i2322, .int .i64 i2502]) zb6 ([(⟨0, i2322, i2502⟩ : SRegOp)] : List SRegOp) Try.underlying41 I94 (by decide) rfl (by decide) rfl rfl (fun _ _ => zb9 _)) (fun s w h => za5 [none, some 3, none, some 5, none, some 7] (by decide) w h rfl) (cur2 (fun A2621 c2622 => ?_))
       refine a_one 9 rfl rfl (by kernel_rfl) rfl (e_app (i := 6) (j := 0) Try.underlying41 I94 rfl (by decide) (by decide) rfl rfl rfl rfl rfl ha2682) (fun s w h => za5 [none, some 3, none, some 5, none, some 7] (by decide) w h rfl) (cur2 (fun A2683 c2684 => ?_))
       refine za9 10 rfl rfl rfl (by kernel_rfl) (fun _ _ _ h => h) (q_f F43_2 rfl) ?_
       refine a_one 11 rfl rfl (by kernel_rfl) rfl (zay (i := 4) rfl rfl rfl rfl Z41 rfl rfl) (fun s w h => za5 [none, some 3, none, some 5, none, some 7] (by decide) w h rfl) (fun _ => ?_)
       refine zav (by kernel_rfl) ?_
       refine zal ?_
       refine zas (i112, l113, l2681, l119, i2503, i2504, A114, c115, A2683, c2684, A120, c121) h trivial (fun w h => za6 [3, 4, 5, 6, 7, 1] (by decide) rfl w h) ?_
       repeat (first | exact zac _ _ | refine zaf rfl ?_ | refine zad rfl ?_ | refine zah rfl ?_)
      ·skip
       refine a_two 1 6 rfl rfl rfl rfl (by kernel_rfl) rfl rfl (ev_q rfl (q_ldb Y41 rfl (fun w h => h.zae (i := 3) rfl) rfl)) (fun s w h => za5 [none, some 2, none, some 4, none, some 6] (by decide) w h rfl) (ev_pick [1, 0, 2, 3, 4, 5, 6] (by decide) rfl (zab 1 Z Try.func56 N56 rfl rfl rfl (fun w P1 hF hB hS hT => spec_l1Cur_among.calls g0 A0_0 c0_0 l0_0.length l0_0 i2323 i2324 A2441 c2442 (([0, 1, (-1), 99] : List Int).length) ([0, 1, (-1), 99] : List Int) hB hF (hS _ R0_0) hc0_0 (hT 0 _ rfl).row (hT 0 _ rfl).cap _ _ _ hx2501))) (fun s w h => za5 [none, some 2, none, some 4, none, some 6] (by decide) w h rfl) (fun _ => ?_) (fun _ => ?_)
       ·skip
        refine a_pick [1, 0, 2, 3, 4, 5, 6] (by decide) rfl ?_
        refine a_one 6 rfl rfl (by kernel_rfl) rfl (zab 1 Z Try.func56 N56 rfl rfl rfl (fun w P1 hF hB hS hT => spec_l1Cur_among.calls g0 A0_0 c0_0 l0_0.length l0_0 i2323 i2324 A2441 c2442 (([0, 1, (-1), 99] : List Int).length) ([0, 1, (-1), 99] : List Int) hB hF (hS _ R0_0) hc0_0 (hT 0 _ rfl).row (hT 0 _ rfl).cap _ _ _ hx2501)) (fun s w h => za5 [none, some 2, none, some 4, none, some 6] (by decide) w h rfl) (fun _ => ?_)
        refine za9 7 rfl rfl rfl (by kernel_rfl) (fun _ _ _ h => h) (zb5 (vs := [(0, .int .i64 0), (1, .int .i64 i2322), (2, .int .i64 i2502)]) (cs := [.int .i64 0, .int .i64 i2322, .int .i64 i2502]) rfl rfl) ?_
        refine a_one 8 rfl rfl (by kernel_rfl) rfl (e_lit (vs := [(0, .agg #[.int .i64 0, .int .i64 i2322, .int .i64 i2502])]) (cs := [.int .i64 0, .int .i64 i2322, .int .i64 i2502]) zb6 ([(⟨0, i2322, i2502⟩ : SRegOp)] : List SRegOp) Try.underlying41 I94 (by decide) rfl (by decide) rfl rfl (fun _ _ => zb9 _)) (fun s w h => za5 [none, some 3, none, some 5, none, some 7] (by decide) w h rfl) (cur2 (fun A2621 c2622 => ?_))
        refine a_one 9 rfl rfl (by kernel_rfl) rfl (e_app (i := 6) (j := 0) Try.underlying41 I94 rfl (by decide) (by decide) rfl rfl rfl rfl rfl ha2682) (fun s w h => za5 [none, some 3, none, some 5, none, some 7] (by decide) w h rfl) (cur2 (fun A2683 c2684 => ?_))
        refine za9 10 rfl rfl rfl (by kernel_rfl) (fun _ _ _ h => h) (q_f F43_2 rfl) ?_
        refine a_one 11 rfl rfl (by kernel_rfl) rfl (zay (i := 4) rfl rfl rfl rfl Z41 rfl rfl) (fun s w h => za5 [none, some 3, none, some 5, none, some 7] (by decide) w h rfl) (fun _ => ?_)
        refine zav (by kernel_rfl) ?_
        refine zal ?_
        refine zas (i112, l113, l2681, l119, i2503, i2504, A114, c115, A2683, c2684, A120, c121) h trivial (fun w h => za6 [3, 4, 5, 6, 7, 1] (by decide) rfl w h) ?_
        repeat (first | exact zac _ _ | refine zaf rfl ?_ | refine zad rfl ?_ | refine zah rfl ?_)
       ·skip
        refine za9 7 rfl rfl rfl (by kernel_rfl) (fun _ _ _ h => h) (zb5 (vs := [(0, .int .i64 0), (1, .int .i64 i2322), (2, .int .i64 i2502)]) (cs := [.int .i64 0, .int .i64 i2322, .int .i64 i2502]) rfl rfl) ?_
        refine a_two 1 8 rfl rfl rfl rfl (by kernel_rfl) rfl rfl (ev_q rfl (q_ldb Y41 rfl (fun w h => h.zae (i := 3) rfl) rfl)) (fun s w h => za5 [none, some 2, none, some 4, none, some 6] (by decide) w h rfl) (e_lit (vs := [(0, .agg #[.int .i64 0, .int .i64 i2322, .int .i64 i2502])]) (cs := [.int .i64 0, .int .i64 i2322, .int .i64 i2502]) zb6 ([(⟨0, i2322, i2502⟩ : SRegOp)] : List SRegOp) Try.underlying41 I94 (by decide) rfl (by decide) rfl rfl (fun _ _ => zb9 _)) (fun s w h => za5 [none, some 3, none, some 5, none, some 7] (by decide) w h rfl) (fun _ => ?_) (cur2 (fun A2621 c2622 => ?_))
        ·skip
         refine a_one 8 rfl rfl (by kernel_rfl) rfl (e_lit (vs := [(0, .agg #[.int .i64 0, .int .i64 i2322, .int .i64 i2502])]) (cs := [.int .i64 0, .int .i64 i2322, .int .i64 i2502]) zb6 ([(⟨0, i2322, i2502⟩ : SRegOp)] : List SRegOp) Try.underlying41 I94 (by decide) rfl (by decide) rfl rfl (fun _ _ => zb9 _)) (fun s w h => za5 [none, some 3, none, some 5, none, some 7] (by decide) w h rfl) (cur2 (fun A2621 c2622 => ?_))
         refine a_one 9 rfl rfl (by kernel_rfl) rfl (e_app (i := 6) (j := 0) Try.underlying41 I94 rfl (by decide) (by decide) rfl rfl rfl rfl rfl ha2682) (fun s w h => za5 [none, some 3, none, some 5, none, some 7] (by decide) w h rfl) (cur2 (fun A2683 c2684 => ?_))
         refine za9 10 rfl rfl rfl (by kernel_rfl) (fun _ _ _ h => h) (q_f F43_2 rfl) ?_
         refine a_one 11 rfl rfl (by kernel_rfl) rfl (zay (i := 4) rfl rfl rfl rfl Z41 rfl rfl) (fun s w h => za5 [none, some 3, none, some 5, none, some 7] (by decide) w h rfl) (fun _ => ?_)
         refine zav (by kernel_rfl) ?_
         refine zal ?_
         refine zas (i112, l113, l2681, l119, i2503, i2504, A114, c115, A2683, c2684, A120, c121) h trivial (fun w h => za6 [3, 4, 5, 6, 7, 1] (by decide) rfl w h) ?_
         repeat (first | exact zac _ _ | refine zaf rfl ?_ | refine zad rfl ?_ | refine zah rfl ?_)
        ·skip
         refine a_one 1 rfl rfl (by kernel_rfl) rfl (ev_q rfl (q_ldb Y41 rfl (fun w h => h.zae (i := 4) rfl) rfl)) (fun s w h => za5 [none, some 3, none, some 5, none, some 7] (by decide) w h rfl) (fun _ => ?_)
         refine a_one 9 rfl rfl (by kernel_rfl) rfl (e_app (i := 6) (j := 0) Try.underlying41 I94 rfl (by decide) (by decide) rfl rfl rfl rfl rfl ha2682) (fun s w h => za5 [none, some 3, none, some 5, none, some 7] (by decide) w h rfl) (cur2 (fun A2683 c2684 => ?_))
         refine za9 10 rfl rfl rfl (by kernel_rfl) (fun _ _ _ h => h) (q_f F43_2 rfl) ?_
         refine a_one 11 rfl rfl (by kernel_rfl) rfl (zay (i := 4) rfl rfl rfl rfl Z41 rfl rfl) (fun s w h => za5 [none, some 3, none, some 5, none, some 7] (by decide) w h rfl) (fun _ => ?_)
         refine zav (by kernel_rfl) ?_
         refine zal ?_
         refine zas (i112, l113, l2681, l119, i2503, i2504, A114, c115, A2683, c2684, A120, c121) h trivial (fun w h => za6 [3, 4, 5, 6, 7, 1] (by decide) rfl w h) ?_
         repeat (first | exact zac _ _ | refine zaf rfl ?_ | refine zad rfl ?_ | refine zah rfl ?_)
     ·skip
      refine a_two 1 3 rfl rfl rfl rfl (by kernel_rfl) rfl rfl (ev_q rfl (q_ldb Y41 rfl (fun w h => h.zae (i := 3) rfl) rfl)) (fun s w h => za5 [none, some 2, none, some 4, none, some 6] (by decide) w h rfl) (ev_pick [1, 0, 2, 3, 4, 5, 6] (by decide) rfl (zab 1 Z Try.func66 N66 rfl rfl rfl (fun w P1 hF hB hS hT => spec_l1Cur_pick.calls g0 A0_0 c0_0 l0_0.length l0_0 i2129 i2130 4 hB hF (hS _ R0_0) hc0_0 _ _ _ hx2321))) (fun s w h => za5 [none, some 2, none, some 4, none, some 6] (by decide) w h rfl) (fun _ => ?_) (fun _ => ?_)
      ·skip
       refine a_pick [1, 0, 2, 3, 4, 5, 6] (by decide) rfl ?_
       refine a_one 3 rfl rfl (by kernel_rfl) rfl (zab 1 Z Try.func66 N66 rfl rfl rfl (fun w P1 hF hB hS hT => spec_l1Cur_pick.calls g0 A0_0 c0_0 l0_0.length l0_0 i2129 i2130 4 hB hF (hS _ R0_0) hc0_0 _ _ _ hx2321)) (fun s w h => za5 [none, some 2, none, some 4, none, some 6] (by decide) w h rfl) (fun _ => ?_)
       refine a_one 6 rfl rfl (by kernel_rfl) rfl (zab 1 Z Try.func56 N56 rfl rfl rfl (fun w P1 hF hB hS hT => spec_l1Cur_among.calls g0 A0_0 c0_0 l0_0.length l0_0 i2323 i2324 A2441 c2442 (([0, 1, (-1), 99] : List Int).length) ([0, 1, (-1), 99] : List Int) hB hF (hS _ R0_0) hc0_0 (hT 0 _ rfl).row (hT 0 _ rfl).cap _ _ _ hx2501)) (fun s w h => za5 [none, some 2, none, some 4, none, some 6] (by decide) w h rfl) (fun _ => ?_)
       refine za9 7 rfl rfl rfl (by kernel_rfl) (fun _ _ _ h => h) (zb5 (vs := [(0, .int .i64 0), (1, .int .i64 i2322), (2, .int .i64 i2502)]) (cs := [.int .i64 0, .int .i64 i2322, .int .i64 i2502]) rfl rfl) ?_
       refine a_one 8 rfl rfl (by kernel_rfl) rfl (e_lit (vs := [(0, .agg #[.int .i64 0, .int .i64 i2322, .int .i64 i2502])]) (cs := [.int .i64 0, .int .i64 i2322, .int .i64 i2502]) zb6 ([(⟨0, i2322, i2502⟩ : SRegOp)] : List SRegOp) Try.underlying41 I94 (by decide) rfl (by decide) rfl rfl (fun _ _ => zb9 _)) (fun s w h => za5 [none, some 3, none, some 5, none, some 7] (by decide) w h rfl) (cur2 (fun A2621 c2622 => ?_))
       refine a_one 9 rfl rfl (by kernel_rfl) rfl (e_app (i := 6) (j := 0) Try.underlying41 I94 rfl (by decide) (by decide) rfl rfl rfl rfl rfl ha2682) (fun s w h => za5 [none, some 3, none, some 5, none, some 7] (by decide) w h rfl) (cur2 (fun A2683 c2684 => ?_))
       refine za9 10 rfl rfl rfl (by kernel_rfl) (fun _ _ _ h => h) (q_f F43_2 rfl) ?_
       refine a_one 11 rfl rfl (by kernel_rfl) rfl (zay (i := 4) rfl rfl rfl rfl Z41 rfl rfl) (fun s w h => za5 [none, some 3, none, some 5, none, some 7] (by decide) w h rfl) (fun _ => ?_)
       refine zav (by kernel_rfl) ?_
       refine zal ?_
       refine zas (i112, l113, l2681, l119, i2503, i2504, A114, c115, A2683, c2684, A120, c121) h trivial (fun w h => za6 [3, 4, 5, 6, 7, 1] (by decide) rfl w h) ?_
       repeat (first | exact zac _ _ | refine zaf rfl ?_ | refine zad rfl ?_ | refine zah rfl ?_)
      ·skip
       refine a_two 1 6 rfl rfl rfl rfl (by kernel_rfl) rfl rfl (ev_q rfl (q_ldb Y41 rfl (fun w h => h.zae (i := 3) rfl) rfl)) (fun s w h => za5 [none, some 2, none, some 4, none, some 6] (by decide) w h rfl) (zab 1 Z Try.func56 N56 rfl rfl rfl (fun w P1 hF hB hS hT => spec_l1Cur_among.calls g0 A0_0 c0_0 l0_0.length l0_0 i2323 i2324 A2441 c2442 (([0, 1, (-1), 99] : List Int).length) ([0, 1, (-1), 99] : List Int) hB hF (hS _ R0_0) hc0_0 (hT 0 _ rfl).row (hT 0 _ rfl).cap _ _ _ hx2501)) (fun s w h => za5 [none, some 2, none, some 4, none, some 6] (by decide) w h rfl) (fun _ => ?_) (fun _ => ?_)
       ·skip
        refine a_one 6 rfl rfl (by kernel_rfl) rfl (zab 1 Z Try.func56 N56 rfl rfl rfl (fun w P1 hF hB hS hT => spec_l1Cur_among.calls g0 A0_0 c0_0 l0_0.length l0_0 i2323 i2324 A2441 c2442 (([0, 1, (-1), 99] : List Int).length) ([0, 1, (-1), 99] : List Int) hB hF (hS _ R0_0) hc0_0 (hT 0 _ rfl).row (hT 0 _ rfl).cap _ _ _ hx2501)) (fun s w h => za5 [none, some 2, none, some 4, none, some 6] (by decide) w h rfl) (fun _ => ?_)
        refine za9 7 rfl rfl rfl (by kernel_rfl) (fun _ _ _ h => h) (zb5 (vs := [(0, .int .i64 0), (1, .int .i64 i2322), (2, .int .i64 i2502)]) (cs := [.int .i64 0, .int .i64 i2322, .int .i64 i2502]) rfl rfl) ?_
        refine a_one 8 rfl rfl (by kernel_rfl) rfl (e_lit (vs := [(0, .agg #[.int .i64 0, .int .i64 i2322, .int .i64 i2502])]) (cs := [.int .i64 0, .int .i64 i2322, .int .i64 i2502]) zb6 ([(⟨0, i2322, i2502⟩ : SRegOp)] : List SRegOp) Try.underlying41 I94 (by decide) rfl (by decide) rfl rfl (fun _ _ => zb9 _)) (fun s w h => za5 [none, some 3, none, some 5, none, some 7] (by decide) w h rfl) (cur2 (fun A2621 c2622 => ?_))
        refine a_one 9 rfl rfl (by kernel_rfl) rfl (e_app (i := 6) (j := 0) Try.underlying41 I94 rfl (by decide) (by decide) rfl rfl rfl rfl rfl ha2682) (fun s w h => za5 [none, some 3, none, some 5, none, some 7] (by decide) w h rfl) (cur2 (fun A2683 c2684 => ?_))
        refine za9 10 rfl rfl rfl (by kernel_rfl) (fun _ _ _ h => h) (q_f F43_2 rfl) ?_
        refine a_one 11 rfl rfl (by kernel_rfl) rfl (zay (i := 4) rfl rfl rfl rfl Z41 rfl rfl) (fun s w h => za5 [none, some 3, none, some 5, none, some 7] (by decide) w h rfl) (fun _ => ?_)
        refine zav (by kernel_rfl) ?_
        refine zal ?_
        refine zas (i112, l113, l2681, l119, i2503, i2504, A114, c115, A2683, c2684, A120, c121) h trivial (fun w h => za6 [3, 4, 5, 6, 7, 1] (by decide) rfl w h) ?_
        repeat (first | exact zac _ _ | refine zaf rfl ?_ | refine zad rfl ?_ | refine zah rfl ?_)
       ·skip
        refine za9 7 rfl rfl rfl (by kernel_rfl) (fun _ _ _ h => h) (zb5 (vs := [(0, .int .i64 0), (1, .int .i64 i2322), (2, .int .i64 i2502)]) (cs := [.int .i64 0, .int .i64 i2322, .int .i64 i2502]) rfl rfl) ?_
        refine a_two 1 8 rfl rfl rfl rfl (by kernel_rfl) rfl rfl (ev_q rfl (q_ldb Y41 rfl (fun w h => h.zae (i := 3) rfl) rfl)) (fun s w h => za5 [none, some 2, none, some 4, none, some 6] (by decide) w h rfl) (e_lit (vs := [(0, .agg #[.int .i64 0, .int .i64 i2322, .int .i64 i2502])]) (cs := [.int .i64 0, .int .i64 i2322, .int .i64 i2502]) zb6 ([(⟨0, i2322, i2502⟩ : SRegOp)] : List SRegOp) Try.underlying41 I94 (by decide) rfl (by decide) rfl rfl (fun _ _ => zb9 _)) (fun s w h => za5 [none, some 3, none, some 5, none, some 7] (by decide) w h rfl) (fun _ => ?_) (cur2 (fun A2621 c2622 => ?_))
        ·skip
         refine a_one 8 rfl rfl (by kernel_rfl) rfl (e_lit (vs := [(0, .agg #[.int .i64 0, .int .i64 i2322, .int .i64 i2502])]) (cs := [.int .i64 0, .int .i64 i2322, .int .i64 i2502]) zb6 ([(⟨0, i2322, i2502⟩ : SRegOp)] : List SRegOp) Try.underlying41 I94 (by decide) rfl (by decide) rfl rfl (fun _ _ => zb9 _)) (fun s w h => za5 [none, some 3, none, some 5, none, some 7] (by decide) w h rfl) (cur2 (fun A2621 c2622 => ?_))
         refine a_one 9 rfl rfl (by kernel_rfl) rfl (e_app (i := 6) (j := 0) Try.underlying41 I94 rfl (by decide) (by decide) rfl rfl rfl rfl rfl ha2682) (fun s w h => za5 [none, some 3, none, some 5, none, some 7] (by decide) w h rfl) (cur2 (fun A2683 c2684 => ?_))
         refine za9 10 rfl rfl rfl (by kernel_rfl) (fun _ _ _ h => h) (q_f F43_2 rfl) ?_
         refine a_one 11 rfl rfl (by kernel_rfl) rfl (zay (i := 4) rfl rfl rfl rfl Z41 rfl rfl) (fun s w h => za5 [none, some 3, none, some 5, none, some 7] (by decide) w h rfl) (fun _ => ?_)
         refine zav (by kernel_rfl) ?_
         refine zal ?_
         refine zas (i112, l113, l2681, l119, i2503, i2504, A114, c115, A2683, c2684, A120, c121) h trivial (fun w h => za6 [3, 4, 5, 6, 7, 1] (by decide) rfl w h) ?_
         repeat (first | exact zac _ _ | refine zaf rfl ?_ | refine zad rfl ?_ | refine zah rfl ?_)
        ·skip
         refine a_one 1 rfl rfl (by kernel_rfl) rfl (ev_q rfl (q_ldb Y41 rfl (fun w h => h.zae (i := 4) rfl) rfl)) (fun s w h => za5 [none, some 3, none, some 5, none, some 7] (by decide) w h rfl) (fun _ => ?_)
         refine a_one 9 rfl rfl (by kernel_rfl) rfl (e_app (i := 6) (j := 0) Try.underlying41 I94 rfl (by decide) (by decide) rfl rfl rfl rfl rfl ha2682) (fun s w h => za5 [none, some 3, none, some 5, none, some 7] (by decide) w h rfl) (cur2 (fun A2683 c2684 => ?_))
         refine za9 10 rfl rfl rfl (by kernel_rfl) (fun _ _ _ h => h) (q_f F43_2 rfl) ?_
         refine a_one 11 rfl rfl (by kernel_rfl) rfl (zay (i := 4) rfl rfl rfl rfl Z41 rfl rfl) (fun s w h => za5 [none, some 3, none, some 5, none, some 7] (by decide) w h rfl) (fun _ => ?_)
         refine zav (by kernel_rfl) ?_
         refine zal ?_
         refine zas (i112, l113, l2681, l119, i2503, i2504, A114, c115, A2683, c2684, A120, c121) h trivial (fun w h => za6 [3, 4, 5, 6, 7, 1] (by decide) rfl w h) ?_
         repeat (first | exact zac _ _ | refine zaf rfl ?_ | refine zad rfl ?_ | refine zah rfl ?_)
    ·skip
     replace h := br_f hb2139 h
     refine c_seq ?_
     refine za0 ?_
     refine o_q rfl rfl (q_eql rfl rfl) ?_
     refine o_q rfl rfl (q_asg rfl) ?_
     refine o_end ?_
     refine za1 ?_
     refine zau _ rfl (fun hb2921 => ?_) (fun hb2921 => ?_)
     ·skip
      replace h := br_t hb2921 h
      refine bindE3 h (fun i3104 i3105 i3106 hx3103 h => ?_) rfl
      refine za7 h (fun l3223 ha3224 h => ?_) rfl
      refine a_startS (ds := []) [none, some 1, none, none, some 4, some 5] MO rfl ?_
      refine za9 0 rfl rfl rfl (by kernel_rfl) (fun _ _ _ h => h) (q_f F43_1 rfl) ?_
      refine za9 2 rfl rfl rfl (by kernel_rfl) (fun _ _ _ h => h) (za2 rfl) ?_
      refine a_two 1 3 rfl rfl rfl rfl (by kernel_rfl) rfl rfl (ev_q rfl (q_ldb Y25 rfl (fun w h => h.zae (i := 2) rfl) rfl)) (fun s w h => za5 [none, some 1, none, none, some 4, some 5] (by decide) w h rfl) (zab 1 Z Try.func66 N66 rfl rfl rfl (fun w P1 hF hB hS hT => spec_l1Cur_pick.calls g0 A0_0 c0_0 l0_0.length l0_0 i2129 i2130 3 hB hF (hS _ R0_0) hc0_0 _ _ _ hx3103)) (fun s w h => za5 [none, some 1, none, none, some 4, some 5] (by decide) w h rfl) (fun _ => ?_) (fun _ => ?_)
      ·skip
       refine a_one 3 rfl rfl (by kernel_rfl) rfl (zab 1 Z Try.func66 N66 rfl rfl rfl (fun w P1 hF hB hS hT => spec_l1Cur_pick.calls g0 A0_0 c0_0 l0_0.length l0_0 i2129 i2130 3 hB hF (hS _ R0_0) hc0_0 _ _ _ hx3103)) (fun s w h => za5 [none, some 1, none, none, some 4, some 5] (by decide) w h rfl) (fun _ => ?_)
       refine a_one 4 rfl rfl (by kernel_rfl) rfl (e_lit (vs := [(0, .int .i64 i3104)]) (cs := [.int .i64 i3104]) (Kd.int .i64) ([i3104] : List Int) Try.underlying25 I3 (by decide) rfl (by decide) rfl rfl (fun _ _ => Kd.zak _)) (fun s w h => za5 [none, some 2, none, none, some 5, some 6] (by decide) w h rfl) (cur2 (fun A3163 c3164 => ?_))
       refine a_one 5 rfl rfl (by kernel_rfl) rfl (e_app (i := 4) (j := 0) Try.underlying25 I3 rfl (by decide) (by decide) rfl rfl rfl rfl rfl ha3224) (fun s w h => za5 [none, some 2, none, none, some 5, some 6] (by decide) w h rfl) (cur2 (fun A3225 c3226 => ?_))
       refine za9 6 rfl rfl rfl (by kernel_rfl) (fun _ _ _ h => h) (q_f F43_1 rfl) ?_
       refine a_one 7 rfl rfl (by kernel_rfl) rfl (zay (i := 3) rfl rfl rfl rfl Z25 rfl rfl) (fun s w h => za5 [none, some 2, none, none, some 5, some 6] (by decide) w h rfl) (fun _ => ?_)
       refine zav (by kernel_rfl) ?_
       refine zal ?_
       refine zas (i112, l3223, l116, l119, i3105, i3106, A3225, c3226, A117, c118, A120, c121) h trivial (fun w h => za6 [2, 3, 4, 5, 6, 1] (by decide) rfl w h) ?_
       repeat (first | exact zac _ _ | refine zaf rfl ?_ | refine zad rfl ?_ | refine zah rfl ?_)
      ·skip
       refine a_two 1 4 rfl rfl rfl rfl (by kernel_rfl) rfl rfl (ev_q rfl (q_ldb Y25 rfl (fun w h => h.zae (i := 2) rfl) rfl)) (fun s w h => za5 [none, some 1, none, none, some 4, some 5] (by decide) w h rfl) (e_lit (vs := [(0, .int .i64 i3104)]) (cs := [.int .i64 i3104]) (Kd.int .i64) ([i3104] : List Int) Try.underlying25 I3 (by decide) rfl (by decide) rfl rfl (fun _ _ => Kd.zak _)) (fun s w h => za5 [none, some 2, none, none, some 5, some 6] (by decide) w h rfl) (fun _ => ?_) (cur2 (fun A3163 c3164 => ?_))
       ·skip
        refine a_one 4 rfl rfl (by kernel_rfl) rfl (e_lit (vs := [(0, .int .i64 i3104)]) (cs := [.int .i64 i3104]) (Kd.int .i64) ([i3104] : List Int) Try.underlying25 I3 (by decide) rfl (by decide) rfl rfl (fun _ _ => Kd.zak _)) (fun s w h => za5 [none, some 2, none, none, some 5, some 6] (by decide) w h rfl) (cur2 (fun A3163 c3164 => ?_))
        refine a_one 5 rfl rfl (by kernel_rfl) rfl (e_app (i := 4) (j := 0) Try.underlying25 I3 rfl (by decide) (by decide) rfl rfl rfl rfl rfl ha3224) (fun s w h => za5 [none, some 2, none, none, some 5, some 6] (by decide) w h rfl) (cur2 (fun A3225 c3226 => ?_))
        refine za9 6 rfl rfl rfl (by kernel_rfl) (fun _ _ _ h => h) (q_f F43_1 rfl) ?_
        refine a_one 7 rfl rfl (by kernel_rfl) rfl (zay (i := 3) rfl rfl rfl rfl Z25 rfl rfl) (fun s w h => za5 [none, some 2, none, none, some 5, some 6] (by decide) w h rfl) (fun _ => ?_)
        refine zav (by kernel_rfl) ?_
        refine zal ?_
        refine zas (i112, l3223, l116, l119, i3105, i3106, A3225, c3226, A117, c118, A120, c121) h trivial (fun w h => za6 [2, 3, 4, 5, 6, 1] (by decide) rfl w h) ?_
        repeat (first | exact zac _ _ | refine zaf rfl ?_ | refine zad rfl ?_ | refine zah rfl ?_)
       ·skip
        refine a_one 1 rfl rfl (by kernel_rfl) rfl (ev_q rfl (q_ldb Y25 rfl (fun w h => h.zae (i := 3) rfl) rfl)) (fun s w h => za5 [none, some 2, none, none, some 5, some 6] (by decide) w h rfl) (fun _ => ?_)
        refine a_one 5 rfl rfl (by kernel_rfl) rfl (e_app (i := 4) (j := 0) Try.underlying25 I3 rfl (by decide) (by decide) rfl rfl rfl rfl rfl ha3224) (fun s w h => za5 [none, some 2, none, none, some 5, some 6] (by decide) w h rfl) (cur2 (fun A3225 c3226 => ?_))
        refine za9 6 rfl rfl rfl (by kernel_rfl) (fun _ _ _ h => h) (q_f F43_1 rfl) ?_
        refine a_one 7 rfl rfl (by kernel_rfl) rfl (zay (i := 3) rfl rfl rfl rfl Z25 rfl rfl) (fun s w h => za5 [none, some 2, none, none, some 5, some 6] (by decide) w h rfl) (fun _ => ?_)
        refine zav (by kernel_rfl) ?_
        refine zal ?_
        refine zas (i112, l3223, l116, l119, i3105, i3106, A3225, c3226, A117, c118, A120, c121) h trivial (fun w h => za6 [2, 3, 4, 5, 6, 1] (by decide) rfl w h) ?_
        repeat (first | exact zac _ _ | refine zaf rfl ?_ | refine zad rfl ?_ | refine zah rfl ?_)
     ·skip
      replace h := br_f hb2921 h
      refine c_seq ?_
      refine za0 ?_
      refine o_q rfl rfl (q_eql rfl rfl) ?_
      refine o_q rfl rfl (q_asg rfl) ?_
      refine o_end ?_
      refine za1 ?_
      refine zau _ rfl (fun hb3463 => ?_) (fun hb3463 => ?_)
      ·skip
       replace h := br_t hb3463 h
       refine bindE3 h (fun i3646 i3647 i3648 hx3645 h => ?_) rfl
       refine za7 h (fun l3765 ha3766 h => ?_) rfl
       refine a_startS (ds := []) [none, some 1, none, some 3, some 4, none] MO rfl ?_
       refine za9 0 rfl rfl rfl (by kernel_rfl) (fun _ _ _ h => h) (q_f F43_3 rfl) ?_
       refine za9 2 rfl rfl rfl (by kernel_rfl) (fun _ _ _ h => h) (za2 rfl) ?_
       refine a_two 1 3 rfl rfl rfl rfl (by kernel_rfl) rfl rfl (ev_q rfl (q_ldb Y25 rfl (fun w h => h.zae (i := 2) rfl) rfl)) (fun s w h => za5 [none, some 1, none, some 3, some 4, none] (by decide) w h rfl) (zab 1 Z Try.func66 N66 rfl rfl rfl (fun w P1 hF hB hS hT => spec_l1Cur_pick.calls g0 A0_0 c0_0 l0_0.length l0_0 i2129 i2130 6 hB hF (hS _ R0_0) hc0_0 _ _ _ hx3645)) (fun s w h => za5 [none, some 1, none, some 3, some 4, none] (by decide) w h rfl) (fun _ => ?_) (fun _ => ?_)
       ·skip
        refine a_one 3 rfl rfl (by kernel_rfl) rfl (zab 1 Z Try.func66 N66 rfl rfl rfl (fun w P1 hF hB hS hT => spec_l1Cur_pick.calls g0 A0_0 c0_0 l0_0.length l0_0 i2129 i2130 6 hB hF (hS _ R0_0) hc0_0 _ _ _ hx3645)) (fun s w h => za5 [none, some 1, none, some 3, some 4, none] (by decide) w h rfl) (fun _ => ?_)
        refine a_one 4 rfl rfl (by kernel_rfl) rfl (e_lit (vs := [(0, .int .i64 i3646)]) (cs := [.int .i64 i3646]) (Kd.int .i64) ([i3646] : List Int) Try.underlying25 I3 (by decide) rfl (by decide) rfl rfl (fun _ _ => Kd.zak _)) (fun s w h => za5 [none, some 2, none, some 4, some 5, none] (by decide) w h rfl) (cur2 (fun A3705 c3706 => ?_))
        refine a_one 5 rfl rfl (by kernel_rfl) rfl (e_app (i := 6) (j := 0) Try.underlying25 I3 rfl (by decide) (by decide) rfl rfl rfl rfl rfl ha3766) (fun s w h => za5 [none, some 2, none, some 4, some 5, none] (by decide) w h rfl) (cur2 (fun A3767 c3768 => ?_))
        refine za9 6 rfl rfl rfl (by kernel_rfl) (fun _ _ _ h => h) (q_f F43_3 rfl) ?_
        refine a_one 7 rfl rfl (by kernel_rfl) rfl (zay (i := 3) rfl rfl rfl rfl Z25 rfl rfl) (fun s w h => za5 [none, some 2, none, some 4, some 5, none] (by decide) w h rfl) (fun _ => ?_)
        refine zav (by kernel_rfl) ?_
        refine zal ?_
        refine zas (i112, l113, l116, l3765, i3647, i3648, A114, c115, A117, c118, A3767, c3768) h trivial (fun w h => za6 [2, 3, 4, 5, 6, 1] (by decide) rfl w h) ?_
        repeat (first | exact zac _ _ | refine zaf rfl ?_ | refine zad rfl ?_ | refine zah rfl ?_)
       ·skip
        refine a_two 1 4 rfl rfl rfl rfl (by kernel_rfl) rfl rfl (ev_q rfl (q_ldb Y25 rfl (fun w h => h.zae (i := 2) rfl) rfl)) (fun s w h => za5 [none, some 1, none, some 3, some 4, none] (by decide) w h rfl) (e_lit (vs := [(0, .int .i64 i3646)]) (cs := [.int .i64 i3646]) (Kd.int .i64) ([i3646] : List Int) Try.underlying25 I3 (by decide) rfl (by decide) rfl rfl (fun _ _ => Kd.zak _)) (fun s w h => za5 [none, some 2, none, some 4, some 5, none] (by decide) w h rfl) (fun _ => ?_) (cur2 (fun A3705 c3706 => ?_))
        ·skip
         refine a_one 4 rfl rfl (by kernel_rfl) rfl (e_lit (vs := [(0, .int .i64 i3646)]) (cs := [.int .i64 i3646]) (Kd.int .i64) ([i3646] : List Int) Try.underlying25 I3 (by decide) rfl (by decide) rfl rfl (fun _ _ => Kd.zak _)) (fun s w h => za5 [none, some 2, none, some 4, some 5, none] (by decide) w h rfl) (cur2 (fun A3705 c3706 => ?_))
         refine a_one 5 rfl rfl (by kernel_rfl) rfl (e_app (i := 6) (j := 0) Try.underlying25 I3 rfl (by decide) (by decide) rfl rfl rfl rfl rfl ha3766) (fun s w h => za5 [none, some 2, none, some 4, some 5, none] (by decide) w h rfl) (cur2 (fun A3767 c3768 => ?_))
         refine za9 6 rfl rfl rfl (by kernel_rfl) (fun _ _ _ h => h) (q_f F43_3 rfl) ?_
         refine a_one 7 rfl rfl (by kernel_rfl) rfl (zay (i := 3) rfl rfl rfl rfl Z25 rfl rfl) (fun s w h => za5 [none, some 2, none, some 4, some 5, none] (by decide) w h rfl) (fun _ => ?_)
         refine zav (by kernel_rfl) ?_
         refine zal ?_
         refine zas (i112, l113, l116, l3765, i3647, i3648, A114, c115, A117, c118, A3767, c3768) h trivial (fun w h => za6 [2, 3, 4, 5, 6, 1] (by decide) rfl w h) ?_
         repeat (first | exact zac _ _ | refine zaf rfl ?_ | refine zad rfl ?_ | refine zah rfl ?_)
        ·skip
         refine a_one 1 rfl rfl (by kernel_rfl) rfl (ev_q rfl (q_ldb Y25 rfl (fun w h => h.zae (i := 3) rfl) rfl)) (fun s w h => za5 [none, some 2, none, some 4, some 5, none] (by decide) w h rfl) (fun _ => ?_)
         refine a_one 5 rfl rfl (by kernel_rfl) rfl (e_app (i := 6) (j := 0) Try.underlying25 I3 rfl (by decide) (by decide) rfl rfl rfl rfl rfl ha3766) (fun s w h => za5 [none, some 2, none, some 4, some 5, none] (by decide) w h rfl) (cur2 (fun A3767 c3768 => ?_))
         refine za9 6 rfl rfl rfl (by kernel_rfl) (fun _ _ _ h => h) (q_f F43_3 rfl) ?_
         refine a_one 7 rfl rfl (by kernel_rfl) rfl (zay (i := 3) rfl rfl rfl rfl Z25 rfl rfl) (fun s w h => za5 [none, some 2, none, some 4, some 5, none] (by decide) w h rfl) (fun _ => ?_)
         refine zav (by kernel_rfl) ?_
         refine zal ?_
         refine zas (i112, l113, l116, l3765, i3647, i3648, A114, c115, A117, c118, A3767, c3768) h trivial (fun w h => za6 [2, 3, 4, 5, 6, 1] (by decide) rfl w h) ?_
         repeat (first | exact zac _ _ | refine zaf rfl ?_ | refine zad rfl ?_ | refine zah rfl ?_)
      ·skip
       replace h := br_f hb3463 h
       refine zao ?_
       refine zal ?_
       refine zas (i112, l113, l116, l119, i2129, i2130, A114, c115, A117, c118, A120, c121) h trivial (fun w h => za6 [1, 2, 3, 4, 5, 0] (by decide) rfl w h) ?_
       repeat (first | exact zac _ _ | refine zaf rfl ?_ | refine zad rfl ?_ | refine zah rfl ?_)
  ·skip
   refine (cur12 (fun i2110 l2111 l2114 l2117 i2120 i2121 A2112 c2113 A2115 c2116 A2118 c2119 => fun U2125 hJ2126 => ?_))
   have e_ := Option.some.inj hJ2126; have h := hR2124; rw [← e_] at h; clear e_ hJ2126 hR2124 hl2123
   refine c_seq ?_
   refine za0 ?_
   refine o_q rfl rfl (q_ldB G43 Z43 rfl (fun w h => h.zae (i := 1) rfl) rfl) ?_
   refine o_e rfl (zan (i := 0) rfl rfl rfl Z43 rfl rfl) (fun _ => ?_)
   refine o_end ?_
   refine za1 ?_
   refine c_ret ?_
   have e0_ := Option.some.inj h; clear h
   have d0_ := (Prod.mk.inj e0_).1; have e1_ := (Prod.mk.inj e0_).2; clear e0_; subst d0_
   have d1_ := (Prod.mk.inj e1_).1; have e2_ := (Prod.mk.inj e1_).2; clear e1_; subst d1_
   have d2_ := (Prod.mk.inj e2_).1; have e3_ := (Prod.mk.inj e2_).2; clear e2_; subst d2_
   have d3_ := (Prod.mk.inj e3_).1; have e4_ := (Prod.mk.inj e3_).2; clear e3_; subst d3_
   have d4_ := (Prod.mk.inj e4_).1; have e5_ := (Prod.mk.inj e4_).2; clear e4_; subst d4_
   subst e5_
   exact x_r1 (A2112, c2113, A2115, c2116, A2118, c2119) Try.results94 (rv_cell rfl G43 Z43 (fun w h => h.zae (i := 0) rfl) rfl) rfl (fun w h => za6 [2, 3, 4, 5] (by decide) rfl w h)

/-! ### (*loop.example/g01098/spec.l1Cur).modulus6: function 95 -/
def spec_l1Cur_modulus6.f (l0_0 : List Int) (a0_1 : Int) (a0_2 : Int) : Option (Int × Int × Int) := (spec_l1Cur_one.f l0_0 a0_1 a0_2 12).bind fun (b2, i3, i4) => if b2 = true then ((spec_l1Cur_among.f l0_0 i3 i4 ([(-1), 0, 1, 2, 10000, 10001] : List Int)).bind fun (i10, i11, i12) => some (i10, i11, i12)) else ((spec_l1Cur_among.f l0_0 i3 i4 ([6, 30, 1000] : List Int)).bind fun (i17, i18, i19) => (spec_l1Cur_pick.f l0_0 i18 i19 i17).bind fun (i21, i22, i23) => some (w64 (2 + i21), i22, i23))
set_option maxHeartbeats 600000 in
set_option maxRecDepth 100000 in
theorem spec_l1Cur_modulus6.calls {w0 ws : World} {P0 : Nat → Prop} (g0 : Nat) (A0_0 : Option Addr) (c0_0 : Nat) (n0_0 : Nat) (l0_0 : List Int) (a0_1 : Int) (a0_2 : Int) (Z : Below w0.heap.size w0 ws) (hF : Fr w0 ws P0 [box g0 67 #[.slice A0_0 n0_0 c0_0, .int .i64 a0_1, .int .u64 a0_2]] ws) (R0_0 : Stable ws P0 (fun w => Kd.C (Kd.int .u8) w A0_0 n0_0 l0_0)) (hc0_0 : n0_0 ≤ c0_0) (r_1 : Int) (r_2 : Int) (r_3 : Int) (h : spec_l1Cur_modulus6.f l0_0 a0_1 a0_2 = some (r_1, r_2, r_3)) :
  Calls Try.prog 95 #[.pointer (some ⟨g0, 0, none⟩)] ws (Post1 w0 ws P0 (fun (_ : Unit) => .int .i64 r_1) (fun (_ : Unit) => [box g0 67 #[.slice A0_0 n0_0 c0_0, .int .i64 r_2, .int .u64 r_3]])) := by
 unfold spec_l1Cur_modulus6.f at h
 obtain rfl := (R0_0 ws (KeptB.refl _ _)).1
 refine enter Try.func95 rfl Try.ntmps95 rfl hF ?_
 refine c_seq ?_
 refine za0 ?_
 refine o_q rfl rfl (q_asg rfl) ?_
 refine o_end ?_
 refine za1 ?_
 refine c_seq ?_
 refine c_seq ?_
 refine za0 ?_
 refine o_q rfl rfl (za2 rfl) ?_
 refine bindE3 h (fun b2 i3 i4 hx1 h => ?_) rfl
 refine o_e rfl (zab 1 Z Try.func102 N102 rfl rfl rfl (fun w P1 hF hB hS hT => spec_l1Cur_one.calls g0 A0_0 c0_0 l0_0.length l0_0 a0_1 a0_2 12 hB hF (hS _ R0_0) hc0_0 _ _ _ hx1)) (fun _ => ?_)
 refine o_end ?_
 refine za1 ?_
 refine zau _ rfl (fun hb5 => ?_) (fun hb5 => ?_)
 ·skip
  replace h := bb_t hb5 h
  refine c_seq ?_
  refine za0 ?_
  refine o_q rfl rfl (za2 rfl) ?_
  refine o_e rfl (e_lit (vs := [(0, .int .i64 (-1)), (1, .int .i64 0), (2, .int .i64 1), (3, .int .i64 2), (4, .int .i64 10000), (5, .int .i64 10001)]) (cs := [.int .i64 (-1), .int .i64 0, .int .i64 1, .int .i64 2, .int .i64 10000, .int .i64 10001]) (Kd.int .i64) ([(-1), 0, 1, 2, 10000, 10001] : List Int) Try.underlying25 I3 (by decide) rfl (by decide) rfl rfl (fun _ _ => Kd.zak _)) (cur2 (fun A6 c7 => ?_))
  refine o_pick [1, 0] (by decide) rfl ?_
  refine bindE3 h (fun i10 i11 i12 hx9 h => ?_) rfl
  refine o_e rfl (zab 1 Z Try.func56 N56 rfl rfl rfl (fun w P1 hF hB hS hT => spec_l1Cur_among.calls g0 A0_0 c0_0 l0_0.length l0_0 i3 i4 A6 c7 (([(-1), 0, 1, 2, 10000, 10001] : List Int).length) ([(-1), 0, 1, 2, 10000, 10001] : List Int) hB hF (hS _ R0_0) hc0_0 (hT 0 _ rfl).row (hT 0 _ rfl).cap _ _ _ hx9)) (fun _ => ?_)
  refine o_q rfl rfl (q_asg rfl) ?_
  refine o_end ?_
  refine za1 ?_
  refine c_ret ?_
  refine zaa ?_
  have e0_ := Option.some.inj h; clear h
  have d0_ := (Prod.mk.inj e0_).1; have e1_ := (Prod.mk.inj e0_).2; clear e0_; subst d0_
  have d1_ := (Prod.mk.inj e1_).1; have e2_ := (Prod.mk.inj e1_).2; clear e1_; subst d1_
  subst e2_
  exact x_r1 () Try.results95 (zai rfl) rfl (fun w h => za6 [0] (by decide) rfl w h)
 ·skip
  replace h := bb_f hb5 h
  refine zao ?_
  refine za1 ?_
  refine c_seq ?_
  refine za0 ?_
  refine o_q rfl rfl (za2 rfl) ?_
  refine o_q rfl rfl (za2 rfl) ?_
  refine o_e rfl (e_lit (vs := [(0, .int .i64 6), (1, .int .i64 30), (2, .int .i64 1000)]) (cs := [.int .i64 6, .int .i64 30, .int .i64 1000]) (Kd.int .i64) ([6, 30, 1000] : List Int) Try.underlying25 I3 (by decide) rfl (by decide) rfl rfl (fun _ _ => Kd.zak _)) (cur2 (fun A13 c14 => ?_))
  refine o_pick [1, 0] (by decide) rfl ?_
  refine bindE3 h (fun i17 i18 i19 hx16 h => ?_) rfl
  refine o_e rfl (zab 1 Z Try.func56 N56 rfl rfl rfl (fun w P1 hF hB hS hT => spec_l1Cur_among.calls g0 A0_0 c0_0 l0_0.length l0_0 i3 i4 A13 c14 (([6, 30, 1000] : List Int).length) ([6, 30, 1000] : List Int) hB hF (hS _ R0_0) hc0_0 (hT 0 _ rfl).row (hT 0 _ rfl).cap _ _ _ hx16)) (fun _ => ?_)
  refine bindE3 h (fun i21 i22 i23 hx20 h => ?_) rfl
  refine o_e rfl (zab 1 Z Try.func66 N66 rfl rfl rfl (fun w P1 hF hB hS hT => spec_l1Cur_pick.calls g0 A0_0 c0_0 l0_0.length l0_0 i18 i19 i17 hB hF (hS _ R0_0) hc0_0 _ _ _ hx20)) (fun _ => ?_)
  refine o_q rfl rfl (zb8 rfl rfl) ?_
  refine o_q rfl rfl (q_asg rfl) ?_
  refine o_end ?_
  refine za1 ?_
  refine c_ret ?_
  have e0_ := Option.some.inj h; clear h
  have d0_ := (Prod.mk.inj e0_).1; have e1_ := (Prod.mk.inj e0_).2; clear e0_; subst d0_
  have d1_ := (Prod.mk.inj e1_).1; have e2_ := (Prod.mk.inj e1_).2; clear e1_; subst d1_
  subst e2_
  exact x_r1 () Try.results95 (zai rfl) rfl (fun w h => za6 [0] (by decide) rfl w h)

/-! ### (*loop.example/g01098/spec.l1Cur).residue: function 149 -/
def spec_l1Cur_residue.f (l0_0 : List Int) (a0_1 : Int) (a0_2 : Int) (a1 : Int) : Option (Int × Int × Int) := (spec_l1Cur_one.f l0_0 a0_1 a0_2 40).bind fun (b2, i3, i4) => if b2 = true then ((spec_l1Cur_among.f l0_0 i3 i4 ([(-1), a1, 4611686018427387904] : List Int)).bind fun (i10, i11, i12) => some (i10, i11, i12)) else ((spec_l1Least.f a1 20000).bind fun i14 => (spec_l1Most.f 1 i14).bind fun i16 => (spec_l1Cur_pick.f l0_0 i3 i4 i16).bind fun (i18, i19, i20) => some (i18, i19, i20))
set_option maxHeartbeats 600000 in
set_option maxRecDepth 100000 in
theorem spec_l1Cur_residue.calls {w0 ws : World} {P0 : Nat → Prop} (g0 : Nat) (A0_0 : Option Addr) (c0_0 : Nat) (n0_0 : Nat) (l0_0 : List Int) (a0_1 : Int) (a0_2 : Int) (a1 : Int) (Z : Below w0.heap.size w0 ws) (hF : Fr w0 ws P0 [box g0 67 #[.slice A0_0 n0_0 c0_0, .int .i64 a0_1, .int .u64 a0_2]] ws) (R0_0 : Stable ws P0 (fun w => Kd.C (Kd.int .u8) w A0_0 n0_0 l0_0)) (hc0_0 : n0_0 ≤ c0_0) (r_1 : Int) (r_2 : Int) (r_3 : Int) (h : spec_l1Cur_residue.f l0_0 a0_1 a0_2 a1 = some (r_1, r_2, r_3)) :
  Calls Try.prog 149 #[.pointer (some ⟨g0, 0, none⟩), .int .i64 a1] ws (Post1 w0 ws P0 (fun (_ : Unit) => .int .i64 r_1) (fun (_ : Unit) => [box g0 67 #[.slice A0_0 n0_0 c0_0, .int .i64 r_2, .int .u64 r_3]])) := by
 unfold spec_l1Cur_residue.f at h
 obtain rfl := (R0_0 ws (KeptB.refl _ _)).1
 refine enter Try.func149 rfl Try.ntmps149 rfl hF ?_
 refine c_seq ?_
 refine za0 ?_
 refine o_q rfl rfl (q_asg rfl) ?_
 refine o_end ?_
 refine za1 ?_
 refine c_seq ?_
 refine c_seq ?_
 refine za0 ?_
 refine o_q rfl rfl (za2 rfl) ?_
 refine bindE3 h (fun b2 i3 i4 hx1 h => ?_) rfl
 refine o_e rfl (zab 1 Z Try.func102 N102 rfl rfl rfl (fun w P1 hF hB hS hT => spec_l1Cur_one.calls g0 A0_0 c0_0 l0_0.length l0_0 a0_1 a0_2 40 hB hF (hS _ R0_0) hc0_0 _ _ _ hx1)) (fun _ => ?_)
 refine o_end ?_
 refine za1 ?_
 refine zau _ rfl (fun hb5 => ?_) (fun hb5 => ?_)
 ·skip
  replace h := bb_t hb5 h
  refine c_seq ?_
  refine za0 ?_
  refine o_q rfl rfl (za2 rfl) ?_
  refine o_q rfl rfl (za2 rfl) ?_
  refine o_e rfl (e_lit (vs := [(0, .int .i64 (-1)), (1, .int .i64 a1), (2, .int .i64 4611686018427387904)]) (cs := [.int .i64 (-1), .int .i64 a1, .int .i64 4611686018427387904]) (Kd.int .i64) ([(-1), a1, 4611686018427387904] : List Int) Try.underlying25 I3 (by decide) rfl (by decide) rfl rfl (fun _ _ => Kd.zak _)) (cur2 (fun A6 c7 => ?_))
  refine o_pick [1, 0] (by decide) rfl ?_
  refine bindE3 h (fun i10 i11 i12 hx9 h => ?_) rfl
  refine o_e rfl (zab 1 Z Try.func56 N56 rfl rfl rfl (fun w P1 hF hB hS hT => spec_l1Cur_among.calls g0 A0_0 c0_0 l0_0.length l0_0 i3 i4 A6 c7 (([(-1), a1, 4611686018427387904] : List Int).length) ([(-1), a1, 4611686018427387904] : List Int) hB hF (hS _ R0_0) hc0_0 (hT 0 _ rfl).row (hT 0 _ rfl).cap _ _ _ hx9)) (fun _ => ?_)
  refine o_q rfl rfl (q_asg rfl) ?_
  refine o_end ?_
  refine za1 ?_
  refine c_ret ?_
  refine zaa ?_
  have e0_ := Option.some.inj h; clear h
  have d0_ := (Prod.mk.inj e0_).1; have e1_ := (Prod.mk.inj e0_).2; clear e0_; subst d0_
  have d1_ := (Prod.mk.inj e1_).1; have e2_ := (Prod.mk.inj e1_).2; clear e1_; subst d1_
  subst e2_
  exact x_r1 () Try.results149 (zai rfl) rfl (fun w h => za6 [0] (by decide) rfl w h)
 ·skip
  replace h := bb_f hb5 h
  refine zao ?_
  refine za1 ?_
  refine c_seq ?_
  refine za0 ?_
  refine o_q rfl rfl (za2 rfl) ?_
  refine o_q rfl rfl (za2 rfl) ?_
  refine za7 h (fun i14 hx13 h => ?_) rfl
  refine o_e rfl (zab 0 Z Try.func172 N172 rfl rfl rfl (fun w P1 hF hB hS hT => spec_l1Least.calls a1 20000 hB hF _ hx13)) (fun _ => ?_)
  refine za7 h (fun i16 hx15 h => ?_) rfl
  refine o_e rfl (zab 0 Z Try.func126 N126 rfl rfl rfl (fun w P1 hF hB hS hT => spec_l1Most.calls 1 i14 hB hF _ hx15)) (fun _ => ?_)
  refine bindE3 h (fun i18 i19 i20 hx17 h => ?_) rfl
  refine o_e rfl (zab 1 Z Try.func66 N66 rfl rfl rfl (fun w P1 hF hB hS hT => spec_l1Cur_pick.calls g0 A0_0 c0_0 l0_0.length l0_0 i3 i4 i16 hB hF (hS _ R0_0) hc0_0 _ _ _ hx17)) (fun _ => ?_)
  refine o_q rfl rfl (q_asg rfl) ?_
  refine o_end ?_
  refine za1 ?_
  refine c_ret ?_
  have e0_ := Option.some.inj h; clear h
  have d0_ := (Prod.mk.inj e0_).1; have e1_ := (Prod.mk.inj e0_).2; clear e0_; subst d0_
  have d1_ := (Prod.mk.inj e1_).1; have e2_ := (Prod.mk.inj e1_).2; clear e1_; subst d1_
  subst e2_
  exact x_r1 () Try.results149 (zai rfl) rfl (fun w h => za6 [0] (by decide) rfl w h)

end Go.Proofs.Ytdicngjloiphkaa.L6
