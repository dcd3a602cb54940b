import Derived.Test.YtiaohjciddbpoaaKFnExactMethodCostsH8p2
namespace Go.Proofs.Ytiaohjciddbpoaa.H8
open Go.RowKit Go.Proofs.Ytiaohjciddbpoaa.Frame Go.Proofs.YtiaohjciddbpoaaW.PrintLast Go.Proofs.Ytiaohjciddbpoaa.Hand
open Go.Proofs.YtiaohjciddbpoaaW.PrintWords hiding mn mx
set_option linter.unusedVariables false
/-! ### loop.example/g01098/spec.meSpans: function 73 -/
def spec_meSpans.l1 (l2 : List Int) : Nat → Int → Option Int
 | 0, _ => none
 | k48 + 1, i45 => (gt l2 i45).bind fun y57 => if y57 = 0 then (spec_meSpans.l1 l2 k48 (w64 (i45 + 1))) else (some i45)
def spec_meSpans.l0 (k : Nat) (a0 : Int) (a1 : Int) (l2 : List Int) : Nat → (List Int) → (List Int) → Int → Option ((List Int) × (List Int))
 | 0, _, _, _ => none
 | k16 + 1, l7, l10, i13 => if 0 ≤ i13 then ((gt l2 i13).bind fun y27 => if y27 = 0 then ((ap l7 ([0] : List Int)).bind fun l32 => (ap l10 ([1] : List Int)).bind fun l39 => spec_meSpans.l0 k a0 a1 l2 k16 l32 l39 (w64 (i13 - 1))) else ((spec_l1Most.f 0 (w64 (w64 (i13 - a1) + 1))).bind fun i44 => (spec_meSpans.l1 l2 k i44).bind fun i45 => (nn i45).bind fun _ => (nn (w64 (w64 (i13 - i45) + 1))).bind fun _ => (nz (IntKind.i64.wrap (1 * 2 ^ min (w64 (w64 (i13 - i45) + 1) : Int).toNat IntKind.i64.bits))).bind fun _ => (ap l7 ([(a0 / 2 ^ min (i45 : Int).toNat IntKind.i64.bits).tmod (IntKind.i64.wrap (1 * 2 ^ min (w64 (w64 (i13 - i45) + 1) : Int).toNat IntKind.i64.bits))] : List Int)).bind fun l65 => (ap l10 ([w64 (w64 (i13 - i45) + 1)] : List Int)).bind fun l72 => spec_meSpans.l0 k a0 a1 l2 k16 l65 l72 (w64 (i45 - 1)))) else (some (l7, l10))
def spec_meSpans.f (k : Nat) (a0 : Int) (a1 : Int) : Option ((List Int) × (List Int)) := (spec_meDigits.f k a0 2).bind fun l2 => (spec_meSpans.l0 k a0 a1 l2 k ([] : List Int) ([] : List Int) (w64 ((l2.length : Int) - 1))).bind fun (l7, l10) => some (l7, l10)
set_option maxHeartbeats 600000 in
set_option maxRecDepth 100000 in
theorem spec_meSpans.calls (k : Nat) {w0 ws : World} {P0 : Nat → Prop} (a0 : Int) (a1 : Int) (Z : Below w0.heap.size w0 ws) (hF : Fr w0 ws P0 [] ws)  (r_1 : List Int) (r_4 : List Int) (h : spec_meSpans.f k a0 a1 = some (r_1, r_4)) :
  Calls Try.prog 73 #[.int .i64 a0, .int .i64 a1] ws (Post1 w0 ws P0 (fun ((q_2, q_3, q_5, q_6) : (Option Addr) × Nat × (Option Addr) × Nat) => .tuple #[.slice q_2 r_1.length q_3, .slice q_5 r_4.length q_6]) (fun ((q_2, q_3, q_5, q_6) : (Option Addr) × Nat × (Option Addr) × Nat) => [row (Kd.int .i64) 3 (.slice q_2 r_1.length q_3) r_1, row (Kd.int .i64) 3 (.slice q_5 r_4.length q_6) r_4])) := by
 unfold spec_meSpans.f at h
 refine enter Try.func73 rfl Try.ntmps73 rfl hF ?_
 refine c_seq ?_
 refine za0 ?_
 refine o_q rfl rfl (q_asg rfl) ?_
 refine o_q rfl rfl (q_asg rfl) ?_
 refine o_end ?_
 refine za1 ?_
 refine c_seq ?_
 refine za0 ?_
 refine o_q rfl rfl (za2 rfl) ?_
 refine za9 h (fun l2 hx1 h => ?_) rfl
 refine o_e rfl (za4 0 Z Try.func108 N108 rfl rfl rfl (fun w P1 hF hB hS hT => spec_meDigits.calls k a0 2 hB hF _ hx1)) (cur2 (fun A3 c4 => ?_))
 refine o_q rfl rfl (q_asg rfl) ?_
 refine o_end ?_
 refine za1 ?_
 refine c_seq ?_
 refine za0 ?_
 refine o_q rfl rfl (q_asg rfl) ?_
 refine o_q rfl rfl (q_asg rfl) ?_
 refine o_end ?_
 refine za1 ?_
 refine c_seq ?_
 refine c_seq ?_
 refine za0 ?_
 refine o_q rfl rfl (za2 rfl) ?_
 refine o_q rfl rfl (q_len Try.underlying23 rfl) ?_
 refine o_q rfl rfl (zb5 rfl rfl) ?_
 refine o_q rfl rfl (q_asg rfl) ?_
 refine o_end ?_
 refine za1 ?_
 refine zam ?_
 refine c_nil (Kd.int .i64) 3 ?_
 refine c_nil (Kd.int .i64) 3 ?_
 refine za9 h (fun o21 hl20 hR19 => ?_) rfl
 clear h
 refine zb2 (σ := (List Int) × (List Int) × Int × (Option Addr) × Nat × (Option Addr) × Nat) (fun k16 ((l7, l10, i13, A8, c9, A11, c12) : (List Int) × (List Int) × Int × (Option Addr) × Nat × (Option Addr) × Nat) => spec_meSpans.l0 k a0 a1 l2 k16 l7 l10 i13 = some o21) [7, 8, 9, 10, 16, 17, 18, 19, 20, 21, 22, 23, 24, 25, 26, 27, 28, 29, 30, 31, 32, 33, 34, 35, 36, 37, 38, 39, 40, 41, 42, 43, 44, 45, 46, 47, 48, 49, 50, 51, 52, 53, 54, 55, 56, 57, 58, 59, 60, 61, 62, 63] (fun ((l7, l10, i13, A8, c9, A11, c12) : (List Int) × (List Int) × Int × (Option Addr) × Nat × (Option Addr) × Nat) => [(7, .slice A8 l7.length c9), (8, .slice A11 l10.length c12), (9, .int .i64 i13)]) (fun ((l7, l10, i13, A8, c9, A11, c12) : (List Int) × (List Int) × Int × (Option Addr) × Nat × (Option Addr) × Nat) => [row (Kd.int .i64) 3 (.slice A11 l10.length c12) l10, row (Kd.int .i64) 3 (.slice A8 l7.length c9) l7, row (Kd.int .i64) 3 (.slice A3 l2.length c4) l2]) k (([] : List Int), ([] : List Int), w64 ((l2.length : Int) - 1), none, 0, none, 0) hl20 ⟨rfl, rfl, rfl, trivial⟩ (fun w h => h) ?_
 refine natC (cur7 (fun l7 l10 i13 A8 c9 A11 c12 => fun U22 hJ_ => ?_)) (fun k16 => (cur7 (fun l7 l10 i13 A8 c9 A11 c12 => fun U22 hJ_ => ?_)))
 ·skip
  replace hJ_ : spec_meSpans.l0 k a0 a1 l2 0 l7 l10 i13 = some o21 := hJ_
  rw [spec_meSpans.l0] at hJ_
  exact noneE hJ_
 ·skip
  clear hl20
  have h := hJ_; clear hJ_
  replace h : spec_meSpans.l0 k a0 a1 l2 (k16 + 1) l7 l10 i13 = some o21 := h
  rw [spec_meSpans.l0] at h
  refine c_seq ?_
  refine c_seq ?_
  refine za0 ?_
  refine o_q rfl rfl (za2 rfl) ?_
  refine o_q rfl rfl (q_geq rfl rfl) ?_
  refine o_end ?_
  refine za1 ?_
  refine zaw _ rfl (fun hb24 => ?_) (fun hb24 => ?_)
  ·skip
   replace h := br_t hb24 h
   refine zat ?_
   refine za1 ?_
   refine zam ?_
   refine c_seq ?_
   refine c_seq ?_
   refine za0 ?_
   refine o_q rfl rfl (za2 rfl) ?_
   refine o_q rfl rfl (za2 rfl) ?_
   refine zb7 (p := Sh A3 l2.length l2.length) (fun w h => f_sh (dk := (Kd.int .i64)) h (fun w h => h.zau (i := 2) rfl)) (fun hq25 => ?_)
   refine za9 h (fun y27 hg26 h => ?_) rfl
   refine o_q rfl rfl (q_ix Try.underlying23 Z3 rfl rfl hq25 hg26) ?_
   refine o_q rfl rfl (q_lde (off := 0) Y3 rfl rfl (fun w h => h.zau (i := 2) rfl) hg26 (fun _ _ h => h) rfl) ?_
   refine o_q rfl rfl (q_eql rfl rfl) ?_
   refine o_end ?_
   refine za1 ?_
   refine zaw _ rfl (fun hb28 => ?_) (fun hb28 => ?_)
   ·skip
    replace h := br_t hb28 h
    refine c_seq ?_
    refine za0 ?_
    refine o_q rfl rfl (za2 rfl) ?_
    refine o_e rfl (e_lit (vs := [(0, .int .i64 0)]) (cs := [.int .i64 0]) (Kd.int .i64) ([0] : List Int) Try.underlying23 I3 (by decide) rfl (by decide) rfl rfl (fun _ _ => Kd.zab _)) (cur2 (fun A29 c30 => ?_))
    refine za9 h (fun l32 ha33 h => ?_) rfl
    refine o_e rfl (e_app (i := 2) (j := 0) Try.underlying23 I3 rfl (by decide) (by decide) rfl rfl rfl rfl rfl ha33) (cur2 (fun A34 c35 => ?_))
    refine o_q rfl rfl (q_asg rfl) ?_
    refine o_end ?_
    refine za1 ?_
    refine c_seq ?_
    refine za0 ?_
    refine o_q rfl rfl (za2 rfl) ?_
    refine o_e rfl (e_lit (vs := [(0, .int .i64 1)]) (cs := [.int .i64 1]) (Kd.int .i64) ([1] : List Int) Try.underlying23 I3 (by decide) rfl (by decide) rfl rfl (fun _ _ => Kd.zab _)) (cur2 (fun A36 c37 => ?_))
    refine za9 h (fun l39 ha40 h => ?_) rfl
    refine o_e rfl (e_app (i := 2) (j := 0) Try.underlying23 I3 rfl (by decide) (by decide) rfl rfl rfl rfl rfl ha40) (cur2 (fun A41 c42 => ?_))
    refine o_q rfl rfl (q_asg rfl) ?_
    refine o_end ?_
    refine za1 ?_
    refine c_seq ?_
    refine za0 ?_
    refine o_q rfl rfl (za2 rfl) ?_
    refine o_q rfl rfl (zb5 rfl rfl) ?_
    refine o_q rfl rfl (q_asg rfl) ?_
    refine o_end ?_
    refine za1 ?_
    refine zb6 ?_
    refine zaa ?_
    refine x_hit ?_
    refine zaq k16 (l32, l39, w64 (i13 - 1), A34, c35, A41, c42) (Nat.lt_succ_self _) h ⟨rfl, rfl, rfl, trivial⟩ (fun w h => za6 [2, 3, 4] (by decide) rfl w h) ?_
    repeat (first | exact za7 _ _ | refine zad rfl ?_ | refine za8 rfl ?_ | refine zae rfl ?_)
   ·skip
    replace h := br_f hb28 h
    refine zat ?_
    refine za1 ?_
    refine c_seq ?_
    refine za0 ?_
    refine o_q rfl rfl (za2 rfl) ?_
    refine o_q rfl rfl (za2 rfl) ?_
    refine o_q rfl rfl (zb5 rfl rfl) ?_
    refine o_q rfl rfl (zaz rfl rfl) ?_
    refine za9 h (fun i44 hx43 h => ?_) rfl
    refine o_e rfl (za4 0 Z Try.func88 N88 rfl rfl rfl (fun w P1 hF hB hS hT => spec_l1Most.calls 0 (w64 (w64 (i13 - a1) + 1)) hB hF _ hx43)) (fun _ => ?_)
    refine o_q rfl rfl (q_asg rfl) ?_
    refine o_end ?_
    refine za1 ?_
    refine c_seq ?_
    refine zam ?_
    refine za9 h (fun o53 hl52 hR51 => ?_) rfl
    clear h
    refine zb2 (σ := Int) (fun k48 (i45 : Int) => spec_meSpans.l1 l2 k48 i45 = some o53) [10, 36, 37, 38, 39, 40, 41, 42] (fun (i45 : Int) => [(10, .int .i64 i45)]) (fun (i45 : Int) => [row (Kd.int .i64) 3 (.slice A11 l10.length c12) l10, row (Kd.int .i64) 3 (.slice A8 l7.length c9) l7, row (Kd.int .i64) 3 (.slice A3 l2.length c4) l2]) k i44 hl52 ⟨rfl, trivial⟩ (fun w h => h) ?_
    refine natC (fun i45 => fun U54 hJ_ => ?_) (fun k48 => (fun i45 => fun U54 hJ_ => ?_))
    ·skip
     replace hJ_ : spec_meSpans.l1 l2 0 i45 = some o53 := hJ_
     rw [spec_meSpans.l1] at hJ_
     exact noneE hJ_
    ·skip
     clear hl52
     have h := hJ_; clear hJ_
     replace h : spec_meSpans.l1 l2 (k48 + 1) i45 = some o53 := h
     rw [spec_meSpans.l1] at h
     refine c_seq ?_
     refine c_seq ?_
     refine za0 ?_
     refine o_q rfl rfl (za2 rfl) ?_
     refine o_q rfl rfl (za2 rfl) ?_
     refine za9 h (fun y57 hg56 h => ?_) rfl
     refine o_q rfl rfl (q_ix Try.underlying23 Z3 rfl rfl hq25 hg56) ?_
     refine o_q rfl rfl (q_lde (off := 0) Y3 rfl rfl (fun w h => h.zau (i := 2) rfl) hg56 (fun _ _ h => h) rfl) ?_
     refine o_q rfl rfl (q_eql rfl rfl) ?_
     refine o_end ?_
     refine za1 ?_
     refine zaw _ rfl (fun hb58 => ?_) (fun hb58 => ?_)
     ·skip
      replace h := br_t hb58 h
      refine zat ?_
      refine za1 ?_
      refine zam ?_
      refine za0 ?_
      refine o_q rfl rfl (za2 rfl) ?_
      refine o_q rfl rfl (zaz rfl rfl) ?_
      refine o_q rfl rfl (q_asg rfl) ?_
      refine o_end ?_
      refine zao ?_
      refine zaq k48 (w64 (i45 + 1)) (Nat.lt_succ_self _) h ⟨rfl, trivial⟩ (fun w h => za6 [0, 1, 2] (by decide) rfl w h) ?_
      repeat (first | exact za7 _ _ | refine zad rfl ?_ | refine za8 rfl ?_ | refine zae rfl ?_)
     ·skip
      replace h := br_f hb58 h
      refine zb6 ?_
      refine zaa ?_
      refine zaa ?_
      have e_ := Option.some.inj h; replace h := hR51; rw [← e_] at h; clear e_
      refine x_hit ?_
      refine za1 ?_
      refine c_seq ?_
      refine a_startS (ds := []) [some 0, none, some 2] MO rfl ?_
      refine za5 0 rfl rfl rfl (by kernel_rfl) (fun _ _ _ h => h) (za2 rfl) ?_
      refine za5 1 rfl rfl rfl (by kernel_rfl) (fun _ _ _ h => h) (za2 rfl) ?_
      refine za5 2 rfl rfl rfl (by kernel_rfl) (fun _ _ _ h => h) (za2 rfl) ?_
      refine za9 h (fun _ hz59 h => ?_) rfl
      refine za5 3 rfl rfl rfl (by kernel_rfl) (fun _ _ _ h => h) (q_shr rfl rfl (nn_le hz59)) ?_
      refine za5 4 rfl rfl rfl (by kernel_rfl) (fun _ _ _ h => h) (za2 rfl) ?_
      refine za5 5 rfl rfl rfl (by kernel_rfl) (fun _ _ _ h => h) (za2 rfl) ?_
      refine za5 6 rfl rfl rfl (by kernel_rfl) (fun _ _ _ h => h) (zb5 rfl rfl) ?_
      refine za5 7 rfl rfl rfl (by kernel_rfl) (fun _ _ _ h => h) (zaz rfl rfl) ?_
      refine za9 h (fun _ hz60 h => ?_) rfl
      refine za5 8 rfl rfl rfl (by kernel_rfl) (fun _ _ _ h => h) (q_shl rfl rfl (nn_le hz60)) ?_
      refine za9 h (fun _ hz61 h => ?_) rfl
      refine za5 9 rfl rfl rfl (by kernel_rfl) (fun _ _ _ h => h) (q_rem rfl rfl (nz_ne hz61)) ?_
      refine a_one 10 rfl rfl (by kernel_rfl) rfl (e_lit (vs := [(0, .int .i64 ((a0 / 2 ^ min (i45 : Int).toNat IntKind.i64.bits).tmod (IntKind.i64.wrap (1 * 2 ^ min (w64 (w64 (i13 - i45) + 1) : Int).toNat IntKind.i64.bits))))]) (cs := [.int .i64 ((a0 / 2 ^ min (i45 : Int).toNat IntKind.i64.bits).tmod (IntKind.i64.wrap (1 * 2 ^ min (w64 (w64 (i13 - i45) + 1) : Int).toNat IntKind.i64.bits)))]) (Kd.int .i64) ([(a0 / 2 ^ min (i45 : Int).toNat IntKind.i64.bits).tmod (IntKind.i64.wrap (1 * 2 ^ min (w64 (w64 (i13 - i45) + 1) : Int).toNat IntKind.i64.bits))] : List Int) Try.underlying23 I3 (by decide) rfl (by decide) rfl rfl (fun _ _ => Kd.zab _)) (fun s w h => za3 [some 1, none, some 3] (by decide) w h rfl) (cur2 (fun A62 c63 => ?_))
      refine za9 h (fun l65 ha66 h => ?_) rfl
      refine a_one 11 rfl rfl (by kernel_rfl) rfl (e_app (i := 2) (j := 0) Try.underlying23 I3 rfl (by decide) (by decide) rfl rfl rfl rfl rfl ha66) (fun s w h => za3 [some 1, none, some 3] (by decide) w h rfl) (cur2 (fun A67 c68 => ?_))
      refine za5 12 rfl rfl rfl (by kernel_rfl) (fun _ _ _ h => h) (q_asg rfl) ?_
      refine zar (by kernel_rfl) ?_
      refine za1 ?_
      refine c_seq ?_
      refine za0 ?_
      refine o_q rfl rfl (za2 rfl) ?_
      refine o_q rfl rfl (za2 rfl) ?_
      refine o_q rfl rfl (za2 rfl) ?_
      refine o_q rfl rfl (zb5 rfl rfl) ?_
      refine o_q rfl rfl (zaz rfl rfl) ?_
      refine o_e rfl (e_lit (vs := [(0, .int .i64 (w64 (w64 (i13 - i45) + 1)))]) (cs := [.int .i64 (w64 (w64 (i13 - i45) + 1))]) (Kd.int .i64) ([w64 (w64 (i13 - i45) + 1)] : List Int) Try.underlying23 I3 (by decide) rfl (by decide) rfl rfl (fun _ _ => Kd.zab _)) (cur2 (fun A69 c70 => ?_))
      refine za9 h (fun l72 ha73 h => ?_) rfl
      refine o_e rfl (e_app (i := 2) (j := 0) Try.underlying23 I3 rfl (by decide) (by decide) rfl rfl rfl rfl rfl ha73) (cur2 (fun A74 c75 => ?_))
      refine o_q rfl rfl (q_asg rfl) ?_
      refine o_end ?_
      refine za1 ?_
      refine za0 ?_
      refine o_q rfl rfl (za2 rfl) ?_
      refine o_q rfl rfl (zb5 rfl rfl) ?_
      refine o_q rfl rfl (q_asg rfl) ?_
      refine o_end ?_
      refine zao ?_
      refine zaq k16 (l65, l72, w64 (i45 - 1), A67, c68, A74, c75) (Nat.lt_succ_self _) h ⟨rfl, rfl, rfl, trivial⟩ (fun w h => za6 [2, 3, 4] (by decide) rfl w h) ?_
      repeat (first | exact za7 _ _ | refine zad rfl ?_ | refine za8 rfl ?_ | refine zae rfl ?_)
  ·skip
   replace h := br_f hb24 h
   refine zb6 ?_
   refine zaa ?_
   refine zaa ?_
   have e_ := Option.some.inj h; replace h := hR19; rw [← e_] at h; clear e_
   refine x_hit ?_
   refine za1 ?_
   refine c_seq ?_
   refine za0 ?_
   refine o_q rfl rfl (za2 rfl) ?_
   refine o_q rfl rfl (za2 rfl) ?_
   refine o_q rfl rfl (q_asg rfl) ?_
   refine o_q rfl rfl (q_asg rfl) ?_
   refine o_end ?_
   refine za1 ?_
   refine c_ret ?_
   have e0_ := Option.some.inj h; clear h
   have d0_ := (Prod.mk.inj e0_).1; have e1_ := (Prod.mk.inj e0_).2; clear e0_; subst d0_
   subst e1_
   exact x_r2 (A8, c9, A11, c12) Try.results73 (zan rfl) (zan rfl) rfl (fun w h => za6 [1, 0] (by decide) rfl w h)

/-! ### loop.example/g01098/spec.meOdd: function 120 -/
def spec_meOdd.f (a0 : Int) : Option Int := if a0 = 1 then (some 0) else (some (w64 ((w64 (a0 + 1)).tdiv 2)))
set_option maxHeartbeats 600000 in
set_option maxRecDepth 100000 in
theorem spec_meOdd.calls {w0 ws : World} {P0 : Nat → Prop} (a0 : Int) (Z : Below w0.heap.size w0 ws) (hF : Fr w0 ws P0 [] ws)  (r_1 : Int) (h : spec_meOdd.f a0 = some r_1) :
  Calls Try.prog 120 #[.int .i64 a0] ws (Post1 w0 ws P0 (fun (_ : Unit) => .int .i64 r_1) (fun (_ : Unit) => [])) := by
 unfold spec_meOdd.f at h
 refine enter Try.func120 rfl Try.ntmps120 rfl hF ?_
 refine c_seq ?_
 refine za0 ?_
 refine o_q rfl rfl (q_asg rfl) ?_
 refine o_end ?_
 refine za1 ?_
 refine c_seq ?_
 refine c_seq ?_
 refine za0 ?_
 refine o_q rfl rfl (za2 rfl) ?_
 refine o_q rfl rfl (q_eql rfl rfl) ?_
 refine o_end ?_
 refine za1 ?_
 refine zaw _ rfl (fun hb1 => ?_) (fun hb1 => ?_)
 ·skip
  replace h := br_t hb1 h
  refine c_seq ?_
  refine za0 ?_
  refine o_q rfl rfl (q_asg rfl) ?_
  refine o_end ?_
  refine za1 ?_
  refine c_ret ?_
  refine zaj ?_
  have e0_ := Option.some.inj h; clear h
  subst e0_
  exact x_r1 () Try.results120 (zan rfl) rfl (fun w h => za6 [] (by decide) rfl w h)
 ·skip
  replace h := br_f hb1 h
  refine zat ?_
  refine za1 ?_
  refine c_seq ?_
  refine za0 ?_
  refine o_q rfl rfl (za2 rfl) ?_
  refine o_q rfl rfl (zaz rfl rfl) ?_
  refine o_q rfl rfl (q_quo64 rfl rfl (by decide)) ?_
  refine o_q rfl rfl (q_asg rfl) ?_
  refine o_end ?_
  refine za1 ?_
  refine c_ret ?_
  have e0_ := Option.some.inj h; clear h
  subst e0_
  exact x_r1 () Try.results120 (zan rfl) rfl (fun w h => za6 [] (by decide) rfl w h)

/-! ### loop.example/g01098/spec.meSliding: function 66 -/
def spec_meSliding.l0 (l4 : List Int) : Nat → (List SStep) → (List Int) → Int → Int → Option ((List SStep) × (List Int))
 | 0, _, _, _, _ => none
 | k73 + 1, l63, l66, i69, i70 => (spec_meGreatest.f l4).bind fun i82 => if i70 ≤ i82 then ((spec_meTimes.f 1 l63 l66 i69 1).bind fun l85 => spec_meSliding.l0 l4 k73 l85 [] (w64 (1 + (l63.length : Int))) (w64 (i70 + 2))) else (some (l63, l66))
def spec_meSliding.l2 (l5 : List Int) (i100 : Int) : Nat → (List SStep) → (List Int) → Int → Int → Option ((List SStep) × (List Int) × Int)
 | 0, _, _, _, _ => none
 | k123 + 1, l113, l116, i119, i120 => (gt l5 i100).bind fun y133 => if i119 < y133 then ((spec_meTimes.f 1 l113 l116 i120 i120).bind fun l136 => spec_meSliding.l2 l5 i100 k123 l136 [] (w64 (i119 + 1)) (w64 (1 + (l113.length : Int)))) else (some (l113, l116, i120))
def spec_meSliding.l1 (k : Nat) (l4 : List Int) (l5 : List Int) : Nat → (List SStep) → (List Int) → Int → Int → Option ((List SStep) × (List Int) × Int)
 | 0, _, _, _, _ => none
 | k104 + 1, l94, l97, i100, i101 => if i100 < (l4.length : Int) then ((spec_meSliding.l2 l5 i100 k l94 l97 0 i101).bind fun (l113, l116, i120) => (gt l4 i100).bind fun y141 => if 0 < y141 then ((gt l4 i100).bind fun y385 => (spec_meOdd.f y385).bind fun i505 => (spec_meTimes.f 1 l113 l116 i120 i505).bind fun l565 => spec_meSliding.l1 k l4 l5 k104 l565 [] (w64 (i100 + 1)) (w64 (1 + (l113.length : Int)))) else (spec_meSliding.l1 k l4 l5 k104 l113 l116 (w64 (i100 + 1)) i120)) else (some (l94, l97, i101))
def spec_meSliding.f (k : Nat) (a0 : Int) (a1 : Int) : Option ((List SStep) × (List Int)) := (spec_meSpans.f k a0 a1).bind fun (l4, l5) => ((spec_meGreatest.f l4).bind fun i57 => if 3 ≤ i57 then ((spec_meTimes.f 1 [] [] 0 0).bind fun l60 => (spec_meSliding.l0 l4 k l60 [] 0 3).bind fun (l63, l66) => some (l63, l66)) else (some (([] : List SStep), ([] : List Int)))).bind fun (l45, l48) => (gt l4 0).bind fun y91 => (spec_meOdd.f y91).bind fun i93 => (spec_meSliding.l1 k l4 l5 k l45 l48 1 i93).bind fun (l94, l97, i101) => (spec_meEnd.f 1 l94 l97 i101).bind fun _ => (spec_meTrim.f k 1 l94 ([i101] : List Int)).bind fun (l989, l990) => some (l989, l990)
set_option maxHeartbeats 600000 in
set_option maxRecDepth 100000 in
theorem spec_meSliding.calls (k : Nat) {w0 ws : World} {P0 : Nat → Prop} (a0 : Int) (a1 : Int) (Z : Below w0.heap.size w0 ws) (hF : Fr w0 ws P0 [] ws)  (r_1 : List SStep) (r_4 : List Int) (h : spec_meSliding.f k a0 a1 = some (r_1, r_4)) :
  Calls Try.prog 66 #[.int .i64 a0, .int .i64 a1] ws (Post1 w0 ws P0 (fun ((q_2, q_3, q_5, q_6) : (Option Addr) × Nat × (Option Addr) × Nat) => .agg #[.int .i64 1, .slice q_2 r_1.length q_3, .slice q_5 r_4.length q_6]) (fun ((q_2, q_3, q_5, q_6) : (Option Addr) × Nat × (Option Addr) × Nat) => [row kStep 107 (.slice q_2 r_1.length q_3) r_1, row (Kd.int .i64) 3 (.slice q_5 r_4.length q_6) r_4])) := by
 unfold spec_meSliding.f at h
 refine enter Try.func66 rfl Try.ntmps66 rfl hF ?_
 refine c_seq ?_
 refine za0 ?_
 refine o_e rfl (zak V25 rfl) (fun g1 => ?_)
 refine o_end ?_
 refine za1 ?_
 refine c_seq ?_
 refine za0 ?_
 refine o_q rfl rfl (za2 rfl) ?_
 refine o_q rfl rfl (za2 rfl) ?_
 refine bindE2 h (fun l4 l5 hx3 h => ?_) rfl
 refine o_e rfl (za4 0 Z Try.func73 N73 rfl rfl rfl (fun w P1 hF hB hS hT => spec_meSpans.calls k a0 a1 hB hF _ _ hx3)) (cur4 (fun A6 c7 A8 c9 => ?_))
 refine o_q rfl rfl (za2 rfl) ?_
 refine o_q rfl rfl (q_ext rfl rfl) ?_
 refine o_q rfl rfl (q_ext rfl rfl) ?_
 refine o_q rfl rfl (q_asg rfl) ?_
 refine o_q rfl rfl (q_asg rfl) ?_
 refine o_end ?_
 refine za1 ?_
 refine c_seq ?_
 refine za0 ?_
 refine o_q rfl rfl (q_build (vs := [(0, .int .i64 1)]) (cs := [.int .i64 1, .slice none 0 0, .slice none 0 0]) rfl rfl) ?_
 refine o_e rfl (zak V25 rfl) (fun g10 => ?_)
 refine o_e rfl (zal (i := 0) rfl rfl rfl Z25 rfl rfl) (fun _ => ?_)
 refine o_end ?_
 refine za1 ?_
 refine c_seq ?_
 refine za0 ?_
 refine o_q rfl rfl (q_asg rfl) ?_
 refine o_end ?_
 refine za1 ?_
 refine za9 h (fun o51 hl52 hR53 => ?_) rfl
 clear h
 refine c_cutJ (σ := (List SStep) × (List Int) × (Option Addr) × Nat × (Option Addr) × Nat) (fun (l45, l48, A46, c47, A49, c50) => some (l45, l48) = some o51) [8, 9, 19, 20, 21, 22, 23, 24, 25, 26, 27, 28, 29, 30, 31, 32, 33, 34, 35, 36, 37, 38] (fun (l45, l48, A46, c47, A49, c50) => []) (fun (l45, l48, A46, c47, A49, c50) => [box g1 25 #[.int .i64 0, .slice none 0 0, .slice none 0 0], row (Kd.int .i64) 3 (.slice A6 l4.length c7) l4, row (Kd.int .i64) 3 (.slice A8 l5.length c9) l5, box g10 25 #[.int .i64 1, .slice A46 l45.length c47, .slice A49 l48.length c50], row kStep 107 (.slice A46 l45.length c47) l45, row (Kd.int .i64) 3 (.slice A49 l48.length c50) l48]) ?_ ?_
 ·skip
  have h := hl52; clear hl52
  clear hR53
  refine c_seq ?_
  refine za0 ?_
  refine o_q rfl rfl (za2 rfl) ?_
  refine za9 h (fun i57 hx56 h => ?_) rfl
  refine o_e rfl (za4 0 Z Try.func109 N109 rfl rfl rfl (fun w P1 hF hB hS hT => spec_meGreatest.calls A6 c7 l4.length l4 hB hF (hT 1 _ rfl).row (hT 1 _ rfl).cap _ hx56)) (fun _ => ?_)
  refine o_q rfl rfl (q_geq rfl rfl) ?_
  refine o_end ?_
  refine za1 ?_
  refine zaw _ rfl (fun hb58 => ?_) (fun hb58 => ?_)
  ·skip
   replace h := br_t hb58 h
   refine c_seq ?_
   refine za0 ?_
   refine o_q rfl rfl (q_ldB G25 Z25 rfl (fun w h => h.zaf (i := 0) rfl) rfl) ?_
   refine za9 h (fun l60 hx59 h => ?_) rfl
   refine o_e rfl (za4 0 Z Try.func110 N110 rfl rfl rfl (fun w P1 hF hB hS hT => spec_meTimes.calls 1 none 0 0 [] none 0 0 [] 0 0 hB hF (stab_nil _) (Nat.le_refl 0) (stab_nil _) (Nat.le_refl 0) _ hx59)) (cur2 (fun A61 c62 => ?_))
   refine o_q rfl rfl (za2 rfl) ?_
   refine o_q rfl rfl (q_ext rfl rfl) ?_
   refine o_q rfl rfl (q_ext rfl rfl) ?_
   refine o_e rfl (zal (i := 2) rfl rfl rfl Z25 rfl rfl) (fun _ => ?_)
   refine o_q rfl rfl (q_asg rfl) ?_
   refine o_end ?_
   refine za1 ?_
   refine c_seq ?_
   refine za0 ?_
   refine o_q rfl rfl (q_asg rfl) ?_
   refine o_end ?_
   refine za1 ?_
   refine c_seq ?_
   refine za0 ?_
   refine o_q rfl rfl (q_asg rfl) ?_
   refine o_end ?_
   refine za1 ?_
   refine zam ?_
   refine za9 h (fun o78 hl77 hR76 => ?_) rfl
   clear h
   refine zb2 (σ := (List SStep) × (List Int) × Int × Int × (Option Addr) × Nat × (Option Addr) × Nat) (fun k73 ((l63, l66, i69, i70, A64, c65, A67, c68) : (List SStep) × (List Int) × Int × Int × (Option Addr) × Nat × (Option Addr) × Nat) => spec_meSliding.l0 l4 k73 l63 l66 i69 i70 = some o78) [8, 9, 27, 28, 29, 30, 31, 32, 33, 34, 35, 36, 37, 38] (fun ((l63, l66, i69, i70, A64, c65, A67, c68) : (List SStep) × (List Int) × Int × Int × (Option Addr) × Nat × (Option Addr) × Nat) => [(8, .int .i64 i69), (9, .int .i64 i70)]) (fun ((l63, l66, i69, i70, A64, c65, A67, c68) : (List SStep) × (List Int) × Int × Int × (Option Addr) × Nat × (Option Addr) × Nat) => [row kStep 107 (.slice A64 l63.length c65) l63, row (Kd.int .i64) 3 (.slice A67 l66.length c68) l66, box g10 25 #[.int .i64 1, .slice A64 l63.length c65, .slice A67 l66.length c68], row (Kd.int .i64) 3 (.slice A6 l4.length c7) l4, row (Kd.int .i64) 3 (.slice A8 l5.length c9) l5, box g1 25 #[.int .i64 0, .slice none 0 0, .slice none 0 0]]) k (l60, [], 0, 3, A61, c62, none, 0) hl77 ⟨rfl, rfl, trivial⟩ (fun w h => h) ?_
   refine natC (cur8 (fun l63 l66 i69 i70 A64 c65 A67 c68 => fun U79 hJ_ => ?_)) (fun k73 => (cur8 (fun l63 l66 i69 i70 A64 c65 A67 c68 => fun U79 hJ_ => ?_)))
   ·skip
    replace hJ_ : spec_meSliding.l0 l4 0 l63 l66 i69 i70 = some o78 := hJ_
    rw [spec_meSliding.l0] at hJ_
    exact noneE hJ_
   ·skip
    clear hl77
    have h := hJ_; clear hJ_
    replace h : spec_meSliding.l0 l4 (k73 + 1) l63 l66 i69 i70 = some o78 := h
    rw [spec_meSliding.l0] at h
    refine c_seq ?_
    refine c_seq ?_
    refine za0 ?_
    refine o_q rfl rfl (za2 rfl) ?_
    refine o_q rfl rfl (za2 rfl) ?_
    refine za9 h (fun i82 hx81 h => ?_) rfl
    refine o_e rfl (za4 0 Z Try.func109 N109 rfl rfl rfl (fun w P1 hF hB hS hT => spec_meGreatest.calls A6 c7 l4.length l4 hB hF (hT 3 _ rfl).row (hT 3 _ rfl).cap _ hx81)) (fun _ => ?_)
    refine o_q rfl rfl (q_leq rfl rfl) ?_
    refine o_end ?_
    refine za1 ?_
    refine zaw _ rfl (fun hb83 => ?_) (fun hb83 => ?_)
    ·skip
     replace h := br_t hb83 h
     refine zat ?_
     refine za1 ?_
     refine c_seq ?_
     refine zam ?_
     refine za0 ?_
     refine o_q rfl rfl (q_ldB G25 Z25 rfl (fun w h => h.zaf (i := 2) rfl) rfl) ?_
     refine o_q rfl rfl (za2 rfl) ?_
     refine za9 h (fun l85 hx84 h => ?_) rfl
     refine o_e rfl (za4 0 Z Try.func110 N110 rfl rfl rfl (fun w P1 hF hB hS hT => spec_meTimes.calls 1 A64 c65 l63.length l63 A67 c68 l66.length l66 i69 1 hB hF (hT 0 _ rfl).row (hT 0 _ rfl).cap (hT 1 _ rfl).row (hT 1 _ rfl).cap _ hx84)) (cur2 (fun A86 c87 => ?_))
     refine o_q rfl rfl (za2 rfl) ?_
     refine o_q rfl rfl (q_ext rfl rfl) ?_
     refine o_q rfl rfl (q_ext rfl rfl) ?_
     refine o_e rfl (zal (i := 4) rfl rfl rfl Z25 rfl rfl) (fun _ => ?_)
     refine o_q rfl rfl (q_asg rfl) ?_
     refine o_end ?_
     refine zao ?_
     refine za1 ?_
     refine za0 ?_
     refine o_q rfl rfl (za2 rfl) ?_
     refine o_q rfl rfl (zaz rfl rfl) ?_
     refine o_q rfl rfl (q_asg rfl) ?_
     refine o_end ?_
     refine x_fact (p := 0 = [].length) (fun w h => (h.row_C (i := 1) rfl).2.1) (fun hn88 => ?_)
     refine zaq k73 (l85, [], w64 (1 + (l63.length : Int)), w64 (i70 + 2), A86, c87, none, 0) (Nat.lt_succ_self _) h ⟨rfl, rfl, trivial⟩ (f_pickE (L1 := [row kStep 107 (.slice A86 l85.length c87) l85, row (Kd.int .i64) 3 (.slice none 0 0) [], row kStep 107 (.slice A64 l63.length c65) l63, row (Kd.int .i64) 3 (.slice A67 l66.length c68) l66, box g10 25 #[.int .i64 1, .slice A86 l85.length c87, .slice none 0 0], row (Kd.int .i64) 3 (.slice A6 l4.length c7) l4, row (Kd.int .i64) 3 (.slice A8 l5.length c9) l5, box g1 25 #[.int .i64 0, .slice none 0 0, .slice none 0 0]]) rfl [0, 1, 4, 5, 6, 7] (by decide) rfl (by (try rw [hn88]); first | done | rfl)) ?_
     repeat (first | exact za7 _ _ | refine zad rfl ?_ | refine za8 rfl ?_ | refine zae rfl ?_)
    ·skip
     replace h := br_f hb83 h
     refine zb6 ?_
     refine zaa ?_
     refine zaa ?_
     have e_ := Option.some.inj h; replace h := hR76; rw [← e_] at h; clear e_
     refine x_hit ?_
     refine zas (l63, l66, A64, c65, A67, c68) h trivial (fun w h => za6 [5, 3, 4, 2, 0, 1] (by decide) rfl w h) ?_
     repeat (first | exact za7 _ _ | refine zad rfl ?_ | refine za8 rfl ?_ | refine zae rfl ?_)
  ·skip
   replace h := br_f hb58 h
   refine zat ?_
   refine x_nil kStep 107 ?_
   refine x_nil (Kd.int .i64) 3 ?_
   refine zas (([] : List SStep), ([] : List Int), none, 0, none, 0) h trivial (fun w h => za6 [5, 3, 4, 2, 1, 0] (by decide) rfl w h) ?_
   repeat (first | exact za7 _ _ | refine zad rfl ?_ | refine za8 rfl ?_ | refine zae rfl ?_)
 ·skip
  refine (cur6 (fun l45 l48 A46 c47 A49 c50 => fun U54 hJ55 => ?_))
  have e_ := Option.some.inj hJ55; have h := hR53; rw [← e_] at h; clear e_ hJ55 hR53 hl52
  refine c_seq ?_
  refine za0 ?_
  refine o_q rfl rfl (za2 rfl) ?_
  refine zb7 (p := Sh A6 l4.length l4.length) (fun w h => f_sh (dk := (Kd.int .i64)) h (fun w h => h.zau (i := 1) rfl)) (fun hq89 => ?_)
  refine za9 h (fun y91 hg90 h => ?_) rfl
  refine o_q rfl rfl (q_ix Try.underlying23 Z3 rfl rfl hq89 hg90) ?_
  refine o_q rfl rfl (q_lde (off := 0) Y3 rfl rfl (fun w h => h.zau (i := 1) rfl) hg90 (fun _ _ h => h) rfl) ?_
  refine za9 h (fun i93 hx92 h => ?_) rfl
  refine o_e rfl (za4 0 Z Try.func120 N120 rfl rfl rfl (fun w P1 hF hB hS hT => spec_meOdd.calls y91 hB hF _ hx92)) (fun _ => ?_)
  refine o_q rfl rfl (q_asg rfl) ?_
  refine o_end ?_
  refine za1 ?_
  refine c_seq ?_
  refine c_seq ?_
  refine za0 ?_
  refine o_q rfl rfl (q_asg rfl) ?_
  refine o_end ?_
  refine za1 ?_
  refine zam ?_
  refine za9 h (fun o109 hl108 hR107 => ?_) rfl
  clear h
  refine zb2 (σ := (List SStep) × (List Int) × Int × Int × (Option Addr) × Nat × (Option Addr) × Nat) (fun k104 ((l94, l97, i100, i101, A95, c96, A98, c99) : (List SStep) × (List Int) × Int × Int × (Option Addr) × Nat × (Option Addr) × Nat) => spec_meSliding.l1 k l4 l5 k104 l94 l97 i100 i101 = some o109) [8, 10, 11, 43, 44, 45, 46, 47, 48, 49, 50, 51, 52, 53, 54, 55, 56, 57, 58, 59, 60, 61, 62, 63, 64, 65, 66, 67, 68, 69, 70, 71, 72, 73, 74, 75, 76, 77, 78, 79] (fun ((l94, l97, i100, i101, A95, c96, A98, c99) : (List SStep) × (List Int) × Int × Int × (Option Addr) × Nat × (Option Addr) × Nat) => [(8, .int .i64 i101), (10, .int .i64 i100)]) (fun ((l94, l97, i100, i101, A95, c96, A98, c99) : (List SStep) × (List Int) × Int × Int × (Option Addr) × Nat × (Option Addr) × Nat) => [box g1 25 #[.int .i64 0, .slice none 0 0, .slice none 0 0], row (Kd.int .i64) 3 (.slice A6 l4.length c7) l4, row (Kd.int .i64) 3 (.slice A8 l5.length c9) l5, box g10 25 #[.int .i64 1, .slice A95 l94.length c96, .slice A98 l97.length c99], row kStep 107 (.slice A95 l94.length c96) l94, row (Kd.int .i64) 3 (.slice A98 l97.length c99) l97]) k (l45, l48, 1, i93, A46, c47, A49, c50) hl108 ⟨rfl, rfl, trivial⟩ (fun w h => h) ?_
  refine natC (cur8 (fun l94 l97 i100 i101 A95 c96 A98 c99 => fun U110 hJ_ => ?_)) (fun k104 => (cur8 (fun l94 l97 i100 i101 A95 c96 A98 c99 => fun U110 hJ_ => ?_)))
  ·skip
   replace hJ_ : spec_meSliding.l1 k l4 l5 0 l94 l97 i100 i101 = some o109 := hJ_
   rw [spec_meSliding.l1] at hJ_
   exact noneE hJ_
  ·skip
   clear hl108
   have h := hJ_; clear hJ_
   replace h : spec_meSliding.l1 k l4 l5 (k104 + 1) l94 l97 i100 i101 = some o109 := h
   rw [spec_meSliding.l1] at h
   refine c_seq ?_
   refine c_seq ?_
   refine za0 ?_
   refine o_q rfl rfl (za2 rfl) ?_
   refine o_q rfl rfl (za2 rfl) ?_
   refine o_q rfl rfl (q_len Try.underlying23 rfl) ?_
   refine o_q rfl rfl (q_lss rfl rfl) ?_
   refine o_end ?_
   refine za1 ?_
   refine zaw _ rfl (fun hb112 => ?_) (fun hb112 => ?_)
   ·skip
    replace h := br_t hb112 h
    refine zat ?_
    refine za1 ?_
    refine c_seq ?_
    refine zam ?_
    refine c_seq ?_
    refine c_seq ?_
    refine za0 ?_
    refine o_q rfl rfl (q_asg rfl) ?_
    refine o_end ?_
    refine za1 ?_
    refine zam ?_
    refine za9 h (fun o128 hl127 hR126 => ?_) rfl
    clear h
    refine zb2 (σ := (List SStep) × (List Int) × Int × Int × (Option Addr) × Nat × (Option Addr) × Nat) (fun k123 ((l113, l116, i119, i120, A114, c115, A117, c118) : (List SStep) × (List Int) × Int × Int × (Option Addr) × Nat × (Option Addr) × Nat) => spec_meSliding.l2 l5 i100 k123 l113 l116 i119 i120 = some o128) [8, 11, 49, 50, 51, 52, 53, 54, 55, 56, 57, 58, 59, 60, 61, 62, 63] (fun ((l113, l116, i119, i120, A114, c115, A117, c118) : (List SStep) × (List Int) × Int × Int × (Option Addr) × Nat × (Option Addr) × Nat) => [(8, .int .i64 i120), (11, .int .i64 i119)]) (fun ((l113, l116, i119, i120, A114, c115, A117, c118) : (List SStep) × (List Int) × Int × Int × (Option Addr) × Nat × (Option Addr) × Nat) => [box g1 25 #[.int .i64 0, .slice none 0 0, .slice none 0 0], row (Kd.int .i64) 3 (.slice A6 l4.length c7) l4, row (Kd.int .i64) 3 (.slice A8 l5.length c9) l5, box g10 25 #[.int .i64 1, .slice A114 l113.length c115, .slice A117 l116.length c118], row kStep 107 (.slice A114 l113.length c115) l113, row (Kd.int .i64) 3 (.slice A117 l116.length c118) l116]) k (l94, l97, 0, i101, A95, c96, A98, c99) hl127 ⟨rfl, rfl, trivial⟩ (fun w h => h) ?_
    refine natC (cur8 (fun l113 l116 i119 i120 A114 c115 A117 c118 => fun U129 hJ_ => ?_)) (fun k123 => (cur8 (fun l113 l116 i119 i120 A114 c115 A117 c118 => fun U129 hJ_ => ?_)))
    ·skip
     replace hJ_ : spec_meSliding.l2 l5 i100 0 l113 l116 i119 i120 = some o128 := hJ_
     rw [spec_meSliding.l2] at hJ_
     exact noneE hJ_
    ·skip
     clear hl127
     have h := hJ_; clear hJ_
     replace h : spec_meSliding.l2 l5 i100 (k123 + 1) l113 l116 i119 i120 = some o128 := h
     rw [spec_meSliding.l2] at h
     refine c_seq ?_
     refine c_seq ?_
     refine za0 ?_
     refine o_q rfl rfl (za2 rfl) ?_
     refine o_q rfl rfl (za2 rfl) ?_
     refine o_q rfl rfl (za2 rfl) ?_
     refine zb7 (p := Sh A8 l5.length l5.length) (fun w h => f_sh (dk := (Kd.int .i64)) h (fun w h => h.zau (i := 2) rfl)) (fun hq131 => ?_)
     refine za9 h (fun y133 hg132 h => ?_) rfl
     refine o_q rfl rfl (q_ix Try.underlying23 Z3 rfl rfl hq131 hg132) ?_
     refine o_q rfl rfl (q_lde (off := 0) Y3 rfl rfl (fun w h => h.zau (i := 2) rfl) hg132 (fun _ _ h => h) rfl) ?_
     refine o_q rfl rfl (q_lss rfl rfl) ?_
     refine o_end ?_
     refine za1 ?_
     refine zaw _ rfl (fun hb134 => ?_) (fun hb134 => ?_)
     ·skip
      replace h := br_t hb134 h
      refine zat ?_
      refine za1 ?_
      refine c_seq ?_
      refine zam ?_
      refine za0 ?_
      refine o_q rfl rfl (q_ldB G25 Z25 rfl (fun w h => h.zaf (i := 3) rfl) rfl) ?_
      refine o_q rfl rfl (za2 rfl) ?_
      refine o_q rfl rfl (za2 rfl) ?_
      refine za9 h (fun l136 hx135 h => ?_) rfl
      refine o_e rfl (za4 0 Z Try.func110 N110 rfl rfl rfl (fun w P1 hF hB hS hT => spec_meTimes.calls 1 A114 c115 l113.length l113 A117 c118 l116.length l116 i120 i120 hB hF (hT 4 _ rfl).row (hT 4 _ rfl).cap (hT 5 _ rfl).row (hT 5 _ rfl).cap _ hx135)) (cur2 (fun A137 c138 => ?_))
      refine o_q rfl rfl (za2 rfl) ?_
      refine o_q rfl rfl (q_ext rfl rfl) ?_
      refine o_q rfl rfl (q_ext rfl rfl) ?_
      refine o_e rfl (zal (i := 5) rfl rfl rfl Z25 rfl rfl) (fun _ => ?_)
      refine o_q rfl rfl (q_asg rfl) ?_
      refine o_end ?_
      refine zao ?_
      refine za1 ?_
      refine za0 ?_
      refine o_q rfl rfl (za2 rfl) ?_
      refine o_q rfl rfl (zaz rfl rfl) ?_
      refine o_q rfl rfl (q_asg rfl) ?_
      refine o_end ?_
      refine x_fact (p := 0 = [].length) (fun w h => (h.row_C (i := 1) rfl).2.1) (fun hn139 => ?_)
      refine zaq k123 (l136, [], w64 (i119 + 1), w64 (1 + (l113.length : Int)), A137, c138, none, 0) (Nat.lt_succ_self _) h ⟨rfl, rfl, trivial⟩ (f_pickE (L1 := [row kStep 107 (.slice A137 l136.length c138) l136, row (Kd.int .i64) 3 (.slice none 0 0) [], box g1 25 #[.int .i64 0, .slice none 0 0, .slice none 0 0], row (Kd.int .i64) 3 (.slice A6 l4.length c7) l4, row (Kd.int .i64) 3 (.slice A8 l5.length c9) l5, box g10 25 #[.int .i64 1, .slice A137 l136.length c138, .slice none 0 0], row kStep 107 (.slice A114 l113.length c115) l113, row (Kd.int .i64) 3 (.slice A117 l116.length c118) l116]) rfl [2, 3, 4, 5, 0, 1] (by decide) rfl (by (try rw [hn139]); first | done | rfl)) ?_
      repeat (first | exact za7 _ _ | refine zad rfl ?_ | refine za8 rfl ?_ | refine zae rfl ?_)
     ·skip
      replace h := br_f hb134 h
      refine zb6 ?_
      refine zaa ?_
      refine zaa ?_
      have e_ := Option.some.inj h; replace h := hR126; rw [← e_] at h; clear e_
      refine x_hit ?_
      refine za1 ?_
      refine c_seq ?_
      refine za0 ?_
      refine o_q rfl rfl (za2 rfl) ?_
      refine o_q rfl rfl (za2 rfl) ?_
      refine za9 h (fun y141 hg140 h => ?_) rfl
      refine o_q rfl rfl (q_ix Try.underlying23 Z3 rfl rfl hq89 hg140) ?_
      refine o_q rfl rfl (q_lde (off := 0) Y3 rfl rfl (fun w h => h.zau (i := 1) rfl) hg140 (fun _ _ h => h) rfl) ?_
      refine o_q rfl rfl (q_gtr rfl rfl) ?_
      refine o_end ?_
      refine za1 ?_
      refine zaw _ rfl (fun hb142 => ?_) (fun hb142 => ?_)
      ·skip
       replace h := br_t hb142 h
       refine za9 h (fun y385 hg384 h => ?_) rfl
       refine za9 h (fun i505 hx504 h => ?_) rfl
       refine za9 h (fun l565 hx564 h => ?_) rfl
       refine a_startS (ds := []) [some 0, some 1, some 2, none, some 4, some 5] MO rfl ?_
       refine za5 1 rfl rfl rfl (by kernel_rfl) (fun _ _ _ h => h) (za2 rfl) ?_
       refine za5 2 rfl rfl rfl (by kernel_rfl) (fun _ _ _ h => h) (za2 rfl) ?_
       refine za5 3 rfl rfl rfl (by kernel_rfl) (fun _ _ _ h => h) (za2 rfl) ?_
       refine za5 4 rfl rfl rfl (by kernel_rfl) (fun _ _ _ h => h) (q_ix Try.underlying23 Z3 rfl rfl hq89 hg384) ?_
       refine zb0 5 rfl rfl rfl (by kernel_rfl) (fun _ _ _ h => h) (fun w h => za3 [some 0, some 1, some 2, none, some 4, some 5] (by decide) w h rfl) (q_lde (off := 0) Y3 rfl rfl (fun w h => h.zau (i := 1) rfl) hg384 (fun _ _ h => h) rfl) ?_
       refine a_two 0 6 rfl rfl rfl rfl (by kernel_rfl) rfl rfl (ev_q rfl (q_ldB G25 Z25 rfl (fun w h => h.zaf (i := 3) rfl) rfl)) (fun s w h => za3 [some 0, some 1, some 2, none, some 4, some 5] (by decide) w h rfl) (za4 0 Z Try.func120 N120 rfl rfl rfl (fun w P1 hF hB hS hT => spec_meOdd.calls y385 hB hF _ hx504)) (fun s w h => za3 [some 0, some 1, some 2, none, some 4, some 5] (by decide) w h rfl) (fun _ => ?_) (fun _ => ?_)
       ·skip
        refine a_one 6 rfl rfl (by kernel_rfl) rfl (za4 0 Z Try.func120 N120 rfl rfl rfl (fun w P1 hF hB hS hT => spec_meOdd.calls y385 hB hF _ hx504)) (fun s w h => za3 [some 0, some 1, some 2, none, some 4, some 5] (by decide) w h rfl) (fun _ => ?_)
        refine a_one 7 rfl rfl (by kernel_rfl) rfl (za4 0 Z Try.func110 N110 rfl rfl rfl (fun w P1 hF hB hS hT => spec_meTimes.calls 1 A114 c115 l113.length l113 A117 c118 l116.length l116 i120 i505 hB hF (hT 4 _ rfl).row (hT 4 _ rfl).cap (hT 5 _ rfl).row (hT 5 _ rfl).cap _ hx564)) (fun s w h => za3 [some 2, some 3, some 4, none, some 6, some 7] (by decide) w h rfl) (cur2 (fun A566 c567 => ?_))
        refine za5 8 rfl rfl rfl (by kernel_rfl) (fun _ _ _ h => h) (za2 rfl) ?_
        refine za5 9 rfl rfl rfl (by kernel_rfl) (fun _ _ _ h => h) (q_ext rfl rfl) ?_
        refine za5 10 rfl rfl rfl (by kernel_rfl) (fun _ _ _ h => h) (q_ext rfl rfl) ?_
        refine a_one 11 rfl rfl (by kernel_rfl) rfl (zal (i := 5) rfl rfl rfl Z25 rfl rfl) (fun s w h => za3 [some 2, some 3, some 4, none, some 6, some 7] (by decide) w h rfl) (fun _ => ?_)
        refine za5 12 rfl rfl rfl (by kernel_rfl) (fun _ _ _ h => h) (q_asg rfl) ?_
        refine zar (by kernel_rfl) ?_
        refine zao ?_
        refine za1 ?_
        refine za0 ?_
        refine o_q rfl rfl (za2 rfl) ?_
        refine o_q rfl rfl (zaz rfl rfl) ?_
        refine o_q rfl rfl (q_asg rfl) ?_
        refine o_end ?_
        refine x_fact (p := 0 = [].length) (fun w h => (h.row_C (i := 1) rfl).2.1) (fun hn984 => ?_)
        refine zaq k104 (l565, [], w64 (i100 + 1), w64 (1 + (l113.length : Int)), A566, c567, none, 0) (Nat.lt_succ_self _) h ⟨rfl, rfl, trivial⟩ (f_pickE (L1 := [row kStep 107 (.slice A566 l565.length c567) l565, row (Kd.int .i64) 3 (.slice none 0 0) [], box g1 25 #[.int .i64 0, .slice none 0 0, .slice none 0 0], row (Kd.int .i64) 3 (.slice A6 l4.length c7) l4, row (Kd.int .i64) 3 (.slice A8 l5.length c9) l5, box g10 25 #[.int .i64 1, .slice A566 l565.length c567, .slice none 0 0], row kStep 107 (.slice A114 l113.length c115) l113, row (Kd.int .i64) 3 (.slice A117 l116.length c118) l116]) rfl [2, 3, 4, 5, 0, 1] (by decide) rfl (by (try rw [hn984]); first | done | rfl)) ?_
        repeat (first | exact za7 _ _ | refine zad rfl ?_ | refine za8 rfl ?_ | refine zae rfl ?_)
       ·skip
        refine a_one 0 rfl rfl (by kernel_rfl) rfl (ev_q rfl (q_ldB G25 Z25 rfl (fun w h => h.zaf (i := 3) rfl) rfl)) (fun s w h => za3 [some 0, some 1, some 2, none, some 4, some 5] (by decide) w h rfl) (fun _ => ?_)
        refine a_one 7 rfl rfl (by kernel_rfl) rfl (za4 0 Z Try.func110 N110 rfl rfl rfl (fun w P1 hF hB hS hT => spec_meTimes.calls 1 A114 c115 l113.length l113 A117 c118 l116.length l116 i120 i505 hB hF (hT 4 _ rfl).row (hT 4 _ rfl).cap (hT 5 _ rfl).row (hT 5 _ rfl).cap _ hx564)) (fun s w h => za3 [some 2, some 3, some 4, none, some 6, some 7] (by decide) w h rfl) (cur2 (fun A566 c567 => ?_))
        refine za5 8 rfl rfl rfl (by kernel_rfl) (fun _ _ _ h => h) (za2 rfl) ?_
        refine za5 9 rfl rfl rfl (by kernel_rfl) (fun _ _ _ h => h) (q_ext rfl rfl) ?_
        refine za5 10 rfl rfl rfl (by kernel_rfl) (fun _ _ _ h => h) (q_ext rfl rfl) ?_
        refine a_one 11 rfl rfl (by kernel_rfl) rfl (zal (i := 5) rfl rfl rfl Z25 rfl rfl) (fun s w h => za3 [some 2, some 3, some 4, none, some 6, some 7] (by decide) w h rfl) (fun _ => ?_)
        refine za5 12 rfl rfl rfl (by kernel_rfl) (fun _ _ _ h => h) (q_asg rfl) ?_
        refine zar (by kernel_rfl) ?_
        refine zao ?_
        refine za1 ?_
        refine za0 ?_
        refine o_q rfl rfl (za2 rfl) ?_
        refine o_q rfl rfl (zaz rfl rfl) ?_
        refine o_q rfl rfl (q_asg rfl) ?_
        refine o_end ?_
        refine x_fact (p := 0 = [].length) (fun w h => (h.row_C (i := 1) rfl).2.1) (fun hn984 => ?_)
        refine zaq k104 (l565, [], w64 (i100 + 1), w64 (1 + (l113.length : Int)), A566, c567, none, 0) (Nat.lt_succ_self _) h ⟨rfl, rfl, trivial⟩ (f_pickE (L1 := [row kStep 107 (.slice A566 l565.length c567) l565, row (Kd.int .i64) 3 (.slice none 0 0) [], box g1 25 #[.int .i64 0, .slice none 0 0, .slice none 0 0], row (Kd.int .i64) 3 (.slice A6 l4.length c7) l4, row (Kd.int .i64) 3 (.slice A8 l5.length c9) l5, box g10 25 #[.int .i64 1, .slice A566 l565.length c567, .slice none 0 0], row kStep 107 (.slice A114 l113.length c115) l113, row (Kd.int .i64) 3 (.slice A117 l116.length c118) l116]) rfl [2, 3, 4, 5, 0, 1] (by decide) rfl (by (try rw [hn984]); first | done | rfl)) ?_
        repeat (first | exact za7 _ _ | refine zad rfl ?_ | refine za8 rfl ?_ | refine zae rfl ?_)
      ·skip
       replace h := br_f hb142 h
       refine zat ?_
       refine zao ?_
       refine za1 ?_
       refine za0 ?_
       refine o_q rfl rfl (za2 rfl) ?_
       refine o_q rfl rfl (zaz rfl rfl) ?_
       refine o_q rfl rfl (q_asg rfl) ?_
       refine o_end ?_
       refine zaq k104 (l113, l116, w64 (i100 + 1), i120, A114, c115, A117, c118) (Nat.lt_succ_self _) h ⟨rfl, rfl, trivial⟩ (fun w h => za6 [0, 1, 2, 3, 4, 5] (by decide) rfl w h) ?_
       repeat (first | exact za7 _ _ | refine zad rfl ?_ | refine za8 rfl ?_ | refine zae rfl ?_)
   ·skip
    replace h := br_f hb112 h
    refine zb6 ?_
    refine zaa ?_
    refine zaa ?_
    have e_ := Option.some.inj h; replace h := hR107; rw [← e_] at h; clear e_
    refine x_hit ?_
    refine za1 ?_
    refine c_seq ?_
    refine za0 ?_
    refine o_q rfl rfl (q_ldB G25 Z25 rfl (fun w h => h.zaf (i := 3) rfl) rfl) ?_
    refine o_q rfl rfl (za2 rfl) ?_
    refine o_pick [4, 0, 1, 2, 3, 5] (by decide) rfl ?_
    refine za9 h (fun _ hx985 h => ?_) rfl
    refine o_e rfl (za4 1 Z Try.func112 N112 rfl rfl rfl (fun w P1 hF hB hS hT => spec_meEnd.calls 1 A95 c96 l94.length l94 A98 c99 l97.length l97 i101 hB hF (hT 4 _ rfl).row (hT 4 _ rfl).cap hx985)) (cur2 (fun A986 c987 => ?_))
    refine bindE2 h (fun l989 l990 hx988 h => ?_) rfl
    refine o_e rfl (za4 0 Z Try.func111 N111 rfl rfl rfl (fun w P1 hF hB hS hT => spec_meTrim.calls k 1 A95 c96 l94.length l94 A986 c987 (([i101] : List Int).length) ([i101] : List Int) hB hF (hT 0 _ rfl).row (hT 0 _ rfl).cap (hT 1 _ rfl).row (hT 1 _ rfl).cap _ _ hx988)) (cur4 (fun A991 c992 A993 c994 => ?_))
    refine o_e rfl (zal (i := 4) rfl rfl rfl Z25 rfl rfl) (fun _ => ?_)
    refine o_end ?_
    refine za1 ?_
    refine c_ret ?_
    have e0_ := Option.some.inj h; clear h
    have d0_ := (Prod.mk.inj e0_).1; have e1_ := (Prod.mk.inj e0_).2; clear e0_; subst d0_
    subst e1_
    exact x_r1 (A991, c992, A993, c994) Try.results66 (rv_cell rfl G25 Z25 (fun w h => h.zaf (i := 4) rfl) rfl) rfl (fun w h => za6 [0, 1] (by decide) rfl w h)

/-! ### loop.example/g01098/spec.meFactor: function 150 -/
def spec_meFactor.l0 (a0 : Int) : Nat → Int → Option ((Int) ⊕ (Unit))
 | 0, _ => none
 | k4 + 1, i1 => if w64 (i1 * i1) ≤ a0 then ((nz i1).bind fun _ => if a0.tmod i1 = 0 then (some (.inl i1)) else (spec_meFactor.l0 a0 k4 (w64 (i1 + 1)))) else (some (.inr ()))
def spec_meFactor.f (k : Nat) (a0 : Int) : Option Int := (spec_meFactor.l0 a0 k 2).bind fun o_ => match o_ with | .inl r_ => some r_ | .inr _ => some a0
set_option maxHeartbeats 600000 in
set_option maxRecDepth 100000 in
theorem spec_meFactor.calls (k : Nat) {w0 ws : World} {P0 : Nat → Prop} (a0 : Int) (Z : Below w0.heap.size w0 ws) (hF : Fr w0 ws P0 [] ws)  (r_1 : Int) (h : spec_meFactor.f k a0 = some r_1) :
  Calls Try.prog 150 #[.int .i64 a0] ws (Post1 w0 ws P0 (fun (_ : Unit) => .int .i64 r_1) (fun (_ : Unit) => [])) := by
 unfold spec_meFactor.f at h
 refine enter Try.func150 rfl Try.ntmps150 rfl hF ?_
 refine c_seq ?_
 refine za0 ?_
 refine o_q rfl rfl (q_asg rfl) ?_
 refine o_end ?_
 refine za1 ?_
 refine c_seq ?_
 refine c_seq ?_
 refine za0 ?_
 refine o_q rfl rfl (q_asg rfl) ?_
 refine o_end ?_
 refine za1 ?_
 refine zam ?_
 refine za9 h (fun o9 hl8 hR7 => ?_) rfl
 clear h
 refine zb2 (σ := Int) (fun k4 (i1 : Int) => spec_meFactor.l0 a0 k4 i1 = some o9) [2, 3, 4, 5, 6, 7, 8, 9, 10, 11, 12, 13, 14, 15] (fun (i1 : Int) => [(3, .int .i64 i1)]) (fun (i1 : Int) => []) k 2 hl8 ⟨rfl, trivial⟩ (fun w h => h) ?_
 refine natC (fun i1 => fun U10 hJ_ => ?_) (fun k4 => (fun i1 => fun U10 hJ_ => ?_))
 ·skip
  replace hJ_ : spec_meFactor.l0 a0 0 i1 = some o9 := hJ_
  rw [spec_meFactor.l0] at hJ_
  exact noneE hJ_
 ·skip
  clear hl8
  have h := hJ_; clear hJ_
  replace h : spec_meFactor.l0 a0 (k4 + 1) i1 = some o9 := h
  rw [spec_meFactor.l0] at h
  refine c_seq ?_
  refine c_seq ?_
  refine za0 ?_
  refine o_q rfl rfl (za2 rfl) ?_
  refine o_q rfl rfl (za2 rfl) ?_
  refine o_q rfl rfl (q_mul64 rfl rfl) ?_
  refine o_q rfl rfl (za2 rfl) ?_
  refine o_q rfl rfl (q_leq rfl rfl) ?_
  refine o_end ?_
  refine za1 ?_
  refine zaw _ rfl (fun hb12 => ?_) (fun hb12 => ?_)
  ·skip
   replace h := br_t hb12 h
   refine zat ?_
   refine za1 ?_
   refine c_seq ?_
   refine zam ?_
   refine c_seq ?_
   refine za0 ?_
   refine o_q rfl rfl (za2 rfl) ?_
   refine o_q rfl rfl (za2 rfl) ?_
   refine za9 h (fun _ hz13 h => ?_) rfl
   refine o_q rfl rfl (q_rem rfl rfl (nz_ne hz13)) ?_
   refine o_q rfl rfl (q_eql rfl rfl) ?_
   refine o_end ?_
   refine za1 ?_
   refine zaw _ rfl (fun hb14 => ?_) (fun hb14 => ?_)
   ·skip
    replace h := br_t hb14 h
    refine c_seq ?_
    refine za0 ?_
    refine o_q rfl rfl (za2 rfl) ?_
    refine o_q rfl rfl (q_asg rfl) ?_
    refine o_end ?_
    refine za1 ?_
    refine c_ret ?_
    refine zax ?_
    refine zaj ?_
    refine zaj ?_
    have e_ := Option.some.inj h; replace h := hR7; rw [← e_] at h; clear e_
    refine zax ?_
    refine zaj ?_
    have e0_ := Option.some.inj h; clear h
    subst e0_
    exact x_r1 () Try.results150 (zan rfl) rfl (fun w h => za6 [] (by decide) rfl w h)
   ·skip
    replace h := br_f hb14 h
    refine zat ?_
    refine zao ?_
    refine za1 ?_
    refine za0 ?_
    refine o_q rfl rfl (za2 rfl) ?_
    refine o_q rfl rfl (zaz rfl rfl) ?_
    refine o_q rfl rfl (q_asg rfl) ?_
    refine o_end ?_
    refine zaq k4 (w64 (i1 + 1)) (Nat.lt_succ_self _) h ⟨rfl, trivial⟩ (fun w h => za6 [] (by decide) rfl w h) ?_
    repeat (first | exact za7 _ _ | refine zad rfl ?_ | refine za8 rfl ?_ | refine zae rfl ?_)
  ·skip
   replace h := br_f hb12 h
   refine zb6 ?_
   refine zaa ?_
   refine zaa ?_
   have e_ := Option.some.inj h; replace h := hR7; rw [← e_] at h; clear e_
   refine x_hit ?_
   refine za1 ?_
   refine c_seq ?_
   refine za0 ?_
   refine o_q rfl rfl (za2 rfl) ?_
   refine o_q rfl rfl (q_asg rfl) ?_
   refine o_end ?_
   refine za1 ?_
   refine c_ret ?_
   have e0_ := Option.some.inj h; clear h
   subst e0_
   exact x_r1 () Try.results150 (zan rfl) rfl (fun w h => za6 [] (by decide) rfl w h)

/-! ### loop.example/g01098/spec.plThen: function 151 -/
def spec_plThen.l1 (l14 : List Int) : (List Int) → (List Int) → Int → Option (List Int)
 | [], l32, i35 => some l32
 | y36 :: ys37, l32, i35 => (gt l14 y36).bind fun y49 => (ap l32 ([y49] : List Int)).bind fun l53 => spec_plThen.l1 l14 ys37 l53 (i35 + 1)
def spec_plThen.l0 (a1 : Int) : (List SStep) → (List Int) → (List SStep) → Int → Option ((List Int) × (List SStep))
 | [], l14, l17, i20 => some (l14, l17)
 | y21 :: ys22, l14, l17, i20 => (gt l14 y21.f0).bind fun y62 => (gt l14 y21.f1).bind fun y64 => (spec_plStep.f y62 y64).bind fun z66 => (ap l17 ([z66] : List SStep)).bind fun l70 => (ap l14 ([w64 (w64 (a1 + (l70.length : Int)) - 1)] : List Int)).bind fun l77 => spec_plThen.l0 a1 ys22 l77 l70 (i20 + 1)
def spec_plThen.f (l0 : List SStep) (a1 : Int) (a2_0 : Int) (l2_1 : List SStep) (l2_2 : List Int) (l3 : List Int) : Option ((List SStep) × (List Int)) := (spec_l1Own.f l3).bind fun l4 => (ap ([] : List SStep) l0).bind fun l10 => (spec_plThen.l0 a1 l2_1 l4 l10 0).bind fun (l14, l17) => (spec_plThen.l1 l14 l2_2 ([] : List Int) 0).bind fun l32 => some (l17, l32)
set_option maxHeartbeats 600000 in
set_option maxRecDepth 100000 in
theorem spec_plThen.calls {w0 ws : World} {P0 : Nat → Prop} (A0 : Option Addr) (c0 : Nat) (n0 : Nat) (l0 : List SStep) (a1 : Int) (a2_0 : Int) (A2_1 : Option Addr) (c2_1 : Nat) (n2_1 : Nat) (l2_1 : List SStep) (A2_2 : Option Addr) (c2_2 : Nat) (n2_2 : Nat) (l2_2 : List Int) (A3 : Option Addr) (c3 : Nat) (n3 : Nat) (l3 : List Int) (Z : Below w0.heap.size w0 ws) (hF : Fr w0 ws P0 [] ws) (R0 : Stable ws P0 (fun w => Kd.C kStep w A0 n0 l0)) (hc0 : n0 ≤ c0) (R2_1 : Stable ws P0 (fun w => Kd.C kStep w A2_1 n2_1 l2_1)) (hc2_1 : n2_1 ≤ c2_1) (R2_2 : Stable ws P0 (fun w => Kd.C (Kd.int .i64) w A2_2 n2_2 l2_2)) (hc2_2 : n2_2 ≤ c2_2) (R3 : Stable ws P0 (fun w => Kd.C (Kd.int .i64) w A3 n3 l3)) (hc3 : n3 ≤ c3) (r_1 : List SStep) (r_4 : List Int) (h : spec_plThen.f l0 a1 a2_0 l2_1 l2_2 l3 = some (r_1, r_4)) :
  Calls Try.prog 151 #[.slice A0 n0 c0, .int .i64 a1, .agg #[.int .i64 a2_0, .slice A2_1 n2_1 c2_1, .slice A2_2 n2_2 c2_2], .slice A3 n3 c3] ws (Post1 w0 ws P0 (fun ((q_2, q_3, q_5, q_6) : (Option Addr) × Nat × (Option Addr) × Nat) => .tuple #[.slice q_2 r_1.length q_3, .slice q_5 r_4.length q_6]) (fun ((q_2, q_3, q_5, q_6) : (Option Addr) × Nat × (Option Addr) × Nat) => [row kStep 107 (.slice q_2 r_1.length q_3) r_1, row (Kd.int .i64) 3 (.slice q_5 r_4.length q_6) r_4])) := by
 unfold spec_plThen.f at h
 obtain rfl := (R0 ws (KeptB.refl _ _)).1
 obtain rfl := (R2_1 ws (KeptB.refl _ _)).1
 obtain rfl := (R2_2 ws (KeptB.refl _ _)).1
 obtain rfl := (R3 ws (KeptB.refl _ _)).1
 refine enter Try.func151 rfl Try.ntmps151 rfl hF ?_
 refine c_seq ?_
 refine za0 ?_
 refine o_e rfl (e_box rfl) (fun g1 => ?_)
 refine o_q rfl rfl (q_asg rfl) ?_
 refine o_q rfl rfl (q_asg rfl) ?_
 refine o_end ?_
 refine za1 ?_
 refine c_seq ?_
 refine za0 ?_
 refine o_q rfl rfl (za2 rfl) ?_
 refine za9 h (fun l4 hx3 h => ?_) rfl
 refine o_e rfl (za4 0 Z Try.func98 N98 rfl rfl rfl (fun w P1 hF hB hS hT => spec_l1Own.calls A3 c3 l3.length l3 hB hF (hS _ R3) hc3 _ hx3)) (cur2 (fun A5 c6 => ?_))
 refine o_q rfl rfl (q_asg rfl) ?_
 refine o_end ?_
 refine za1 ?_
 refine c_seq ?_
 refine za0 ?_
 refine o_e rfl (e_lit0 kStep Try.underlying22 I107) (cur2 (fun A7 c8 => ?_))
 refine o_q rfl rfl (za2 rfl) ?_
 refine za9 h (fun l10 ha11 h => ?_) rfl
 refine o_e rfl (e_appr (i := 0) Try.underlying22 I107 rfl (by decide) (by decide) (fun _ _ _ _ h => h) rfl (fun w h => R0.now Z h) rfl rfl ha11) (cur2 (fun A12 c13 => ?_))
 refine o_q rfl rfl (q_asg rfl) ?_
 refine o_end ?_
 refine za1 ?_
 refine c_seq ?_
 refine c_seq ?_
 refine za0 ?_
 refine o_q rfl rfl (q_f F25_1 rfl) ?_
 refine o_q rfl rfl (q_ldb Y22 rfl (fun w h => h.zaf (i := 2) rfl) rfl) ?_
 refine o_q rfl rfl (q_len Try.underlying22 rfl) ?_
 refine o_q rfl rfl (za2 rfl) ?_
 refine o_end ?_
 refine za1 ?_
 refine zam ?_
 refine za9 h (fun o28 hl27 hR26 => ?_) rfl
 clear h
 refine c_fact (p := l2_1.length ≤ 9223372036854775807) (fun w h => (R2_1.now Z h).2.1) (fun hm25 => ?_)
 refine zb2 (σ := (List SStep) × (List Int) × (List SStep) × Int × (Option Addr) × Nat × (Option Addr) × Nat) (fun k23 ((ys22, l14, l17, i20, A15, c16, A18, c19) : (List SStep) × (List Int) × (List SStep) × Int × (Option Addr) × Nat × (Option Addr) × Nat) => Rg l2_1 i20 ys22 ∧ ys22.length = k23 ∧ spec_plThen.l0 a1 ys22 l14 l17 i20 = some o28) [10, 11, 13, 25, 26, 27, 28, 29, 30, 31, 32, 33, 34, 35, 36, 37, 38, 39, 40, 41, 42, 43, 44, 45, 46, 47, 48, 49, 50, 51] (fun ((ys22, l14, l17, i20, A15, c16, A18, c19) : (List SStep) × (List Int) × (List SStep) × Int × (Option Addr) × Nat × (Option Addr) × Nat) => [(10, .slice A15 l14.length c16), (11, .slice A18 l17.length c19), (25, .int .i64 i20)]) (fun ((ys22, l14, l17, i20, A15, c16, A18, c19) : (List SStep) × (List Int) × (List SStep) × Int × (Option Addr) × Nat × (Option Addr) × Nat) => [row kStep 107 (.slice A18 l17.length c19) l17, row (Kd.int .i64) 3 (.slice A15 l14.length c16) l14, box g1 25 #[.int .i64 a2_0, .slice A2_1 l2_1.length c2_1, .slice A2_2 l2_2.length c2_2]]) l2_1.length (l2_1, l4, l10, 0, A5, c6, A12, c13) ⟨Rg.start _, rfl, hl27⟩ ⟨rfl, rfl, rfl, trivial⟩ (fun w h => h) ?_
 refine fun k23 => cur8 (listC (fun l14 l17 i20 A15 c16 A18 c19 U29 hJ_ => ?_) (fun y21 ys22 l14 l17 i20 A15 c16 A18 c19 U29 hJ_ => ?_))
 ·skip
  clear hl27
  have hr24 := hJ_.1; have hk30 := hJ_.2.1; have h := hJ_.2.2; clear hJ_
  replace h : spec_plThen.l0 a1 [] l14 l17 i20 = some o28 := h
  rw [spec_plThen.l0] at h
  refine c_seq ?_
  refine za0 ?_
  refine o_q rfl rfl (q_lss rfl rfl) ?_
  refine o_end ?_
  refine za1 ?_
  refine c_seq ?_
  refine c_false (congrArg Value.bool hr24.ge) ?_
  refine zb6 ?_
  refine zaa ?_
  refine zaa ?_
  have e_ := Option.some.inj h; replace h := hR26; rw [← e_] at h; clear e_
  refine x_hit ?_
  refine za1 ?_
  refine c_seq ?_
  refine za0 ?_
  refine o_q rfl rfl (q_asg rfl) ?_
  refine o_end ?_
  refine za1 ?_
  refine c_seq ?_
  refine c_seq ?_
  refine za0 ?_
  refine o_q rfl rfl (q_f F25_2 rfl) ?_
  refine o_q rfl rfl (q_ldb Y23 rfl (fun w h => h.zaf (i := 2) rfl) rfl) ?_
  refine o_q rfl rfl (q_len Try.underlying23 rfl) ?_
  refine o_q rfl rfl (za2 rfl) ?_
  refine o_end ?_
  refine za1 ?_
  refine zam ?_
  refine c_nil (Kd.int .i64) 3 ?_
  refine za9 h (fun o43 hl42 hR41 => ?_) rfl
  clear h
  refine c_fact (p := l2_2.length ≤ 9223372036854775807) (fun w h => (R2_2.now Z h).2.1) (fun hm40 => ?_)
  refine zb2 (σ := (List Int) × (List Int) × Int × (Option Addr) × Nat) (fun k38 ((ys37, l32, i35, A33, c34) : (List Int) × (List Int) × Int × (Option Addr) × Nat) => Rg l2_2 i35 ys37 ∧ ys37.length = k38 ∧ spec_plThen.l1 l14 ys37 l32 i35 = some o43) [14, 16, 55, 56, 57, 58, 59, 60, 61, 62, 63, 64, 65, 66] (fun ((ys37, l32, i35, A33, c34) : (List Int) × (List Int) × Int × (Option Addr) × Nat) => [(14, .slice A33 l32.length c34), (55, .int .i64 i35)]) (fun ((ys37, l32, i35, A33, c34) : (List Int) × (List Int) × Int × (Option Addr) × Nat) => [row (Kd.int .i64) 3 (.slice A33 l32.length c34) l32, row kStep 107 (.slice A18 l17.length c19) l17, row (Kd.int .i64) 3 (.slice A15 l14.length c16) l14, box g1 25 #[.int .i64 a2_0, .slice A2_1 l2_1.length c2_1, .slice A2_2 l2_2.length c2_2]]) l2_2.length (l2_2, ([] : List Int), 0, none, 0) ⟨Rg.start _, rfl, hl42⟩ ⟨rfl, rfl, trivial⟩ (fun w h => h) ?_
  refine fun k38 => cur5 (listC (fun l32 i35 A33 c34 U44 hJ_ => ?_) (fun y36 ys37 l32 i35 A33 c34 U44 hJ_ => ?_))
  ·skip
   clear hl42
   have hr39 := hJ_.1; have hk45 := hJ_.2.1; have h := hJ_.2.2; clear hJ_
   replace h : spec_plThen.l1 l14 [] l32 i35 = some o43 := h
   rw [spec_plThen.l1] at h
   refine c_seq ?_
   refine za0 ?_
   refine o_q rfl rfl (q_lss rfl rfl) ?_
   refine o_end ?_
   refine za1 ?_
   refine c_seq ?_
   refine c_false (congrArg Value.bool hr39.ge) ?_
   refine zb6 ?_
   refine zaa ?_
   refine zaa ?_
   have e_ := Option.some.inj h; replace h := hR41; rw [← e_] at h; clear e_
   refine x_hit ?_
   refine za1 ?_
   refine c_seq ?_
   refine za0 ?_
   refine o_q rfl rfl (za2 rfl) ?_
   refine o_q rfl rfl (za2 rfl) ?_
   refine o_q rfl rfl (q_asg rfl) ?_
   refine o_q rfl rfl (q_asg rfl) ?_
   refine o_end ?_
   refine za1 ?_
   refine c_ret ?_
   have e0_ := Option.some.inj h; clear h
   have d0_ := (Prod.mk.inj e0_).1; have e1_ := (Prod.mk.inj e0_).2; clear e0_; subst d0_
   subst e1_
   exact x_r2 (A18, c19, A33, c34) Try.results151 (zan rfl) (zan rfl) rfl (fun w h => za6 [1, 0] (by decide) rfl w h)
  ·skip
   clear hl42
   have hr39 := hJ_.1; have hk45 := hJ_.2.1; have h := hJ_.2.2; clear hJ_
   replace h : spec_plThen.l1 l14 (y36 :: ys37) l32 i35 = some o43 := h
   rw [spec_plThen.l1] at h
   refine c_seq ?_
   refine za0 ?_
   refine o_q rfl rfl (q_lss rfl rfl) ?_
   refine o_end ?_
   refine za1 ?_
   refine c_seq ?_
   refine zb9 (congrArg Value.bool hr39.lt) ?_
   refine zat ?_
   refine za1 ?_
   refine c_seq ?_
   refine zam ?_
   refine c_seq ?_
   refine za0 ?_
   refine zb7 (p := Sh A2_2 l2_2.length l2_2.length) (fun w h => f_sh (dk := (Kd.int .i64)) h (fun w h => R2_2.now Z h)) (fun hq46 => ?_)
   refine o_q rfl rfl (q_ix Try.underlying23 Z3 rfl rfl hq46 hr39.get) ?_
   refine o_q rfl rfl (q_lde (off := 0) Y3 rfl rfl (fun w h => R2_2.now Z h) hr39.get (fun _ _ h => h) rfl) ?_
   refine o_q rfl rfl (q_asg rfl) ?_
   refine o_end ?_
   refine za1 ?_
   refine za0 ?_
   refine o_q rfl rfl (za2 rfl) ?_
   refine o_q rfl rfl (za2 rfl) ?_
   refine o_q rfl rfl (za2 rfl) ?_
   refine zb7 (p := Sh A15 l14.length l14.length) (fun w h => f_sh (dk := (Kd.int .i64)) h (fun w h => h.zau (i := 2) rfl)) (fun hq47 => ?_)
   refine za9 h (fun y49 hg48 h => ?_) rfl
   refine o_q rfl rfl (q_ix Try.underlying23 Z3 rfl rfl hq47 hg48) ?_
   refine o_q rfl rfl (q_lde (off := 0) Y3 rfl rfl (fun w h => h.zau (i := 2) rfl) hg48 (fun _ _ h => h) rfl) ?_
   refine o_e rfl (e_lit (vs := [(0, .int .i64 y49)]) (cs := [.int .i64 y49]) (Kd.int .i64) ([y49] : List Int) Try.underlying23 I3 (by decide) rfl (by decide) rfl rfl (fun _ _ => Kd.zab _)) (cur2 (fun A50 c51 => ?_))
   refine za9 h (fun l53 ha54 h => ?_) rfl
   refine o_e rfl (e_app (i := 1) (j := 0) Try.underlying23 I3 rfl (by decide) (by decide) rfl rfl rfl rfl rfl ha54) (cur2 (fun A55 c56 => ?_))
   refine o_q rfl rfl (q_asg rfl) ?_
   refine o_end ?_
   refine zao ?_
   refine za1 ?_
   refine za0 ?_
   refine o_q rfl rfl (q_up rfl rfl (hr39.up hm40)) ?_
   refine o_q rfl rfl (za2 rfl) ?_
   refine o_end ?_
   refine zaq ys37.length (ys37, l53, i35 + 1, A55, c56) (by rw [← hk45]; exact Nat.lt_succ_self _) ⟨hr39.step, rfl, h⟩ ⟨rfl, rfl, trivial⟩ (fun w h => za6 [1, 2, 3, 4] (by decide) rfl w h) ?_
   repeat (first | exact za7 _ _ | refine zad rfl ?_ | refine za8 rfl ?_ | refine zae rfl ?_)
 ·skip
  clear hl27
  have hr24 := hJ_.1; have hk30 := hJ_.2.1; have h := hJ_.2.2; clear hJ_
  replace h : spec_plThen.l0 a1 (y21 :: ys22) l14 l17 i20 = some o28 := h
  rw [spec_plThen.l0] at h
  refine c_seq ?_
  refine za0 ?_
  refine o_q rfl rfl (q_lss rfl rfl) ?_
  refine o_end ?_
  refine za1 ?_
  refine c_seq ?_
  refine zb9 (congrArg Value.bool hr24.lt) ?_
  refine zat ?_
  refine za1 ?_
  refine c_seq ?_
  refine zam ?_
  refine c_seq ?_
  refine za0 ?_
  refine zb7 (p := Sh A2_1 l2_1.length l2_1.length) (fun w h => f_sh (dk := kStep) h (fun w h => R2_1.now Z h)) (fun hq57 => ?_)
  refine o_q rfl rfl (q_ix Try.underlying22 Z107 rfl rfl hq57 hr24.get) ?_
  refine o_q rfl rfl (q_ldE G107 Z107 rfl rfl (fun w h => R2_1.now Z h) hr24.get (fun _ _ h => h) rfl) ?_
  refine o_e rfl (zak V107 rfl) (fun g58 => ?_)
  refine o_e rfl (zal (i := 0) rfl rfl rfl Z107 rfl rfl) (fun _ => ?_)
  refine o_end ?_
  refine za1 ?_
  refine c_seq ?_
  refine a_startS (ds := []) [some 0, none, some 2, some 3] MO rfl ?_
  refine za5 0 rfl rfl rfl (by kernel_rfl) (fun _ _ _ h => h) (za2 rfl) ?_
  refine za5 1 rfl rfl rfl (by kernel_rfl) (fun _ _ _ h => h) (za2 rfl) ?_
  refine za5 2 rfl rfl rfl (by kernel_rfl) (fun _ _ _ h => h) (q_f F107_0 rfl) ?_
  refine zb0 3 rfl rfl rfl (by kernel_rfl) (fun _ _ _ h => h) (fun w h => za3 [some 0, none, some 2, some 3] (by decide) w h rfl) (q_ldb Y3 rfl (fun w h => h.zaf (i := 0) rfl) rfl) ?_
  refine a_fact (p := Sh A15 l14.length l14.length) (fun w h => f_sh (dk := (Kd.int .i64)) h (fun w h => h.zau (i := 2) rfl)) (fun hq60 => ?_)
  refine za9 h (fun y62 hg61 h => ?_) rfl
  refine za5 4 rfl rfl rfl (by kernel_rfl) (fun _ _ _ h => h) (q_ix Try.underlying23 Z3 rfl rfl hq60 hg61) ?_
  refine zb0 5 rfl rfl rfl (by kernel_rfl) (fun _ _ _ h => h) (fun w h => za3 [some 0, none, some 2, some 3] (by decide) w h rfl) (q_lde (off := 0) Y3 rfl rfl (fun w h => h.zau (i := 2) rfl) hg61 (fun _ _ h => h) rfl) ?_
  refine za5 6 rfl rfl rfl (by kernel_rfl) (fun _ _ _ h => h) (za2 rfl) ?_
  refine za5 7 rfl rfl rfl (by kernel_rfl) (fun _ _ _ h => h) (q_f F107_1 rfl) ?_
  refine zb0 8 rfl rfl rfl (by kernel_rfl) (fun _ _ _ h => h) (fun w h => za3 [some 0, none, some 2, some 3] (by decide) w h rfl) (q_ldb Y3 rfl (fun w h => h.zaf (i := 0) rfl) rfl) ?_
  refine za9 h (fun y64 hg63 h => ?_) rfl
  refine za5 9 rfl rfl rfl (by kernel_rfl) (fun _ _ _ h => h) (q_ix Try.underlying23 Z3 rfl rfl hq60 hg63) ?_
  refine zb0 10 rfl rfl rfl (by kernel_rfl) (fun _ _ _ h => h) (fun w h => za3 [some 0, none, some 2, some 3] (by decide) w h rfl) (q_lde (off := 0) Y3 rfl rfl (fun w h => h.zau (i := 2) rfl) hg63 (fun _ _ h => h) rfl) ?_
  refine za9 h (fun z66 hx65 h => ?_) rfl
  refine a_one 11 rfl rfl (by kernel_rfl) rfl (za4 0 Z Try.func146 N146 rfl rfl rfl (fun w P1 hF hB hS hT => spec_plStep.calls y62 y64 hB hF _ hx65)) (fun s w h => za3 [some 0, none, some 2, some 3] (by decide) w h rfl) (fun _ => ?_)
  refine a_one 12 rfl rfl (by kernel_rfl) rfl (e_lit (vs := [(0, .agg #[.int .i64 z66.f0, .int .i64 z66.f1])]) (cs := [.int .i64 z66.f0, .int .i64 z66.f1]) kStep ([z66] : List SStep) Try.underlying22 I107 (by decide) rfl (by decide) rfl rfl (fun _ _ => reps_flat _)) (fun s w h => za3 [some 1, none, some 3, some 4] (by decide) w h rfl) (cur2 (fun A67 c68 => ?_))
  refine za9 h (fun l70 ha71 h => ?_) rfl
  refine a_one 13 rfl rfl (by kernel_rfl) rfl (e_app (i := 2) (j := 0) Try.underlying22 I107 rfl (by decide) (by decide) rfl rfl rfl rfl rfl ha71) (fun s w h => za3 [some 1, none, some 3, some 4] (by decide) w h rfl) (cur2 (fun A72 c73 => ?_))
  refine za5 14 rfl rfl rfl (by kernel_rfl) (fun _ _ _ h => h) (q_asg rfl) ?_
  refine zar (by kernel_rfl) ?_
  refine za1 ?_
  refine za0 ?_
  refine o_q rfl rfl (za2 rfl) ?_
  refine o_q rfl rfl (za2 rfl) ?_
  refine o_q rfl rfl (za2 rfl) ?_
  refine o_q rfl rfl (q_len Try.underlying22 rfl) ?_
  refine o_q rfl rfl (zaz rfl rfl) ?_
  refine o_q rfl rfl (zb5 rfl rfl) ?_
  refine o_e rfl (e_lit (vs := [(0, .int .i64 (w64 (w64 (a1 + (l70.length : Int)) - 1)))]) (cs := [.int .i64 (w64 (w64 (a1 + (l70.length : Int)) - 1))]) (Kd.int .i64) ([w64 (w64 (a1 + (l70.length : Int)) - 1)] : List Int) Try.underlying23 I3 (by decide) rfl (by decide) rfl rfl (fun _ _ => Kd.zab _)) (cur2 (fun A74 c75 => ?_))
  refine za9 h (fun l77 ha78 h => ?_) rfl
  refine o_e rfl (e_app (i := 4) (j := 0) Try.underlying23 I3 rfl (by decide) (by decide) rfl rfl rfl rfl rfl ha78) (cur2 (fun A79 c80 => ?_))
  refine o_q rfl rfl (q_asg rfl) ?_
  refine o_end ?_
  refine zao ?_
  refine za1 ?_
  refine za0 ?_
  refine o_q rfl rfl (q_up rfl rfl (hr24.up hm25)) ?_
  refine o_q rfl rfl (za2 rfl) ?_
  refine o_end ?_
  refine zaq ys22.length (ys22, l77, l70, i20 + 1, A79, c80, A72, c73) (by rw [← hk30]; exact Nat.lt_succ_self _) ⟨hr24.step, rfl, h⟩ ⟨rfl, rfl, rfl, trivial⟩ (fun w h => za6 [3, 4, 5] (by decide) rfl w h) ?_
  repeat (first | exact za7 _ _ | refine zad rfl ?_ | refine za8 rfl ?_ | refine zae rfl ?_)

/-! ### loop.example/g01098/spec.meFactors: function 122 -/
def spec_meFactors.f : Nat → Int → Option ((List SStep) × (List Int))
 | 0, _ => none
 | k + 1, a0 => if a0 = 1 then ((spec_meEnd.f 1 ([] : List SStep) [] 0).bind fun _ => some (([] : List SStep), ([0] : List Int))) else ((spec_meFactor.f k a0).bind fun i9 => if i9 = a0 then (((spec_meFactors.f k) (w64 (a0 - 1))).bind fun (l12, l13) => ((gt l13 0).bind fun y993 => (spec_meTimes.f 1 l12 l13 y993 0).bind fun l1112 => some l1112).bind fun l802 => (spec_meEnd.f 1 l802 [] (w64 (1 + (l12.length : Int)))).bind fun _ => some (l802, ([(w64 (1 + (l12.length : Int)))] : List Int))) else (((spec_meFactors.f k) i9).bind fun (l1595, l1596) => (nz i9).bind fun _ => ((spec_meFactors.f k) (w64 (a0.tdiv i9))).bind fun (l1605, l1606) => (spec_plThen.f l1595 1 1 l1605 l1606 l1596).bind fun (l1612, l1613) => some (l1612, l1613)))
set_option maxHeartbeats 600000 in
set_option maxRecDepth 100000 in
theorem spec_meFactors.calls : ∀ (k : Nat) {w0 ws : World} {P0 : Nat → Prop} (a0 : Int) (Z : Below w0.heap.size w0 ws) (hF : Fr w0 ws P0 [] ws)  (r_1 : List SStep) (r_4 : List Int) (h : spec_meFactors.f k a0 = some (r_1, r_4)),
  Calls Try.prog 122 #[.int .i64 a0] ws (Post1 w0 ws P0 (fun ((q_2, q_3, q_5, q_6) : (Option Addr) × Nat × (Option Addr) × Nat) => .agg #[.int .i64 1, .slice q_2 r_1.length q_3, .slice q_5 r_4.length q_6]) (fun ((q_2, q_3, q_5, q_6) : (Option Addr) × Nat × (Option Addr) × Nat) => [row kStep 107 (.slice q_2 r_1.length q_3) r_1, row (Kd.int .i64) 3 (.slice q_5 r_4.length q_6) r_4])) := by
 intro k
 induction k with
 | zero =>
  intros
  rename_i h
  cases h
 | succ k ih =>
  intro w0 ws P0 a0 Z hF  r_1 r_4 h
  rw [spec_meFactors.f] at h
  refine enter Try.func122 rfl Try.ntmps122 rfl hF ?_
  refine c_seq ?_
  refine za0 ?_
  refine o_e rfl (zak V25 rfl) (fun g1 => ?_)
  refine o_end ?_
  refine za1 ?_
  refine c_seq ?_
  refine c_seq ?_
  refine za0 ?_
  refine o_q rfl rfl (za2 rfl) ?_
  refine o_q rfl rfl (q_eql rfl rfl) ?_
  refine o_end ?_
  refine za1 ?_
  refine zaw _ rfl (fun hb3 => ?_) (fun hb3 => ?_)
  ·skip
   replace h := br_t hb3 h
   refine c_seq ?_
   refine za0 ?_
   refine o_q rfl rfl (q_build (vs := [(0, .int .i64 1)]) (cs := [.int .i64 1, .slice none 0 0, .slice none 0 0]) rfl rfl) ?_
   refine o_nil kStep 107 ?_
   refine za9 h (fun _ hx4 h => ?_) rfl
   refine o_e rfl (za4 1 Z Try.func112 N112 rfl rfl rfl (fun w P1 hF hB hS hT => spec_meEnd.calls 1 none 0 0 ([] : List SStep) none 0 0 [] 0 hB hF (stab_nil _) (Nat.le_refl 0) hx4)) (cur2 (fun A5 c6 => ?_))
   refine o_e rfl (zal (i := 2) rfl rfl rfl Z25 rfl rfl) (fun _ => ?_)
   refine o_end ?_
   refine za1 ?_
   refine c_ret ?_
   refine zaj ?_
   refine x_fact (p := 0 = ([] : List SStep).length) (fun w h => (h.row_C (i := 0) rfl).2.1) (fun hn7 => ?_)
   have e0_ := Option.some.inj h; clear h
   have d0_ := (Prod.mk.inj e0_).1; have e1_ := (Prod.mk.inj e0_).2; clear e0_; subst d0_
   subst e1_
   exact x_r1 (none, 0, A5, c6) Try.results122 (rv_cell (cs := #[.int .i64 1, .slice none 0 0, .slice A5 (([0] : List Int).length) c6]) rfl G25 Z25 (fun w h => h.zaf (i := 2) rfl) rfl) (by (try rw [hn7]); first | done | rfl) (f_pickE (L1 := [row kStep 107 (.slice none 0 0) ([] : List SStep), row (Kd.int .i64) 3 (.slice A5 (([0] : List Int).length) c6) ([0] : List Int), box g1 25 #[.int .i64 1, .slice none 0 0, .slice A5 (([0] : List Int).length) c6]]) rfl [0, 1] (by decide) rfl (by (try rw [hn7]); first | done | rfl))
  ·skip
   replace h := br_f hb3 h
   refine zat ?_
   refine za1 ?_
   refine c_seq ?_
   refine za0 ?_
   refine o_q rfl rfl (za2 rfl) ?_
   refine za9 h (fun i9 hx8 h => ?_) rfl
   refine o_e rfl (za4 0 Z Try.func150 N150 rfl rfl rfl (fun w P1 hF hB hS hT => spec_meFactor.calls k a0 hB hF _ hx8)) (fun _ => ?_)
   refine o_q rfl rfl (q_asg rfl) ?_
   refine o_end ?_
   refine za1 ?_
   refine c_seq ?_
   refine c_seq ?_
   refine za0 ?_
   refine o_q rfl rfl (za2 rfl) ?_
   refine o_q rfl rfl (za2 rfl) ?_
   refine o_q rfl rfl (q_eql rfl rfl) ?_
   refine o_end ?_
   refine za1 ?_
   refine zaw _ rfl (fun hb10 => ?_) (fun hb10 => ?_)
   ·skip
    replace h := br_t hb10 h
    refine c_seq ?_
    refine za0 ?_
    refine o_q rfl rfl (za2 rfl) ?_
    refine o_q rfl rfl (zb5 rfl rfl) ?_
    refine bindE2 h (fun l12 l13 hx11 h => ?_) rfl
    refine o_e rfl (za4 0 Z Try.func122 N122 rfl rfl rfl (fun w P1 hF hB hS hT => ih (w64 (a0 - 1)) hB hF _ _ hx11)) (cur4 (fun A14 c15 A16 c17 => ?_))
    refine o_e rfl (zak V25 rfl) (fun g18 => ?_)
    refine o_e rfl (zal (i := 0) rfl rfl rfl Z25 rfl rfl) (fun _ => ?_)
    refine o_end ?_
    refine za1 ?_
    refine za9 h (fun o805 hl806 hR807 => ?_) rfl
    clear h
    refine c_cutJ (σ := (List SStep) × Nat × (Option Addr) × Nat) (fun (l802, g801, A803, c804) => some l802 = some o805) [5, 6, 22, 23, 24, 25, 26, 27, 28, 29, 30] (fun (l802, g801, A803, c804) => [(5, .pointer (some ⟨g801, 0, none⟩)), (6, .int .i64 (w64 (1 + (l12.length : Int))))]) (fun (l802, g801, A803, c804) => [box g1 25 #[.int .i64 0, .slice none 0 0, .slice none 0 0], box g801 25 #[.int .i64 1, .slice A803 l802.length c804, .slice none 0 0], row kStep 107 (.slice A803 l802.length c804) l802, row (Kd.int .i64) 3 (.slice none 0 0) [], box g18 25 #[.int .i64 1, .slice A14 l12.length c15, .slice A16 l13.length c17], row kStep 107 (.slice A14 l12.length c15) l12, row (Kd.int .i64) 3 (.slice A16 l13.length c17) l13]) ?_ ?_
    ·skip
     have h := hl806; clear hl806
     clear hR807
     refine za9 h (fun y993 hg992 h => ?_) rfl
     refine za9 h (fun l1112 hx1111 h => ?_) rfl
     refine a_start (ds := []) MO rfl ?_
     refine zb0 0 rfl rfl rfl (by kernel_rfl) (fun _ _ _ h => h) (fun w h => h) (q_ldB G25 Z25 rfl (fun w h => h.zaf (i := 0) rfl) rfl) ?_
     refine za5 1 rfl rfl rfl (by kernel_rfl) (fun _ _ _ h => h) (q_f F25_2 rfl) ?_
     refine zb0 2 rfl rfl rfl (by kernel_rfl) (fun _ _ _ h => h) (fun w h => h) (q_ldb Y23 rfl (fun w h => h.zaf (i := 0) rfl) rfl) ?_
     refine a_fact (p := Sh A16 l13.length l13.length) (fun w h => f_sh (dk := (Kd.int .i64)) h (fun w h => h.zau (i := 2) rfl)) (fun hq991 => ?_)
     refine za5 3 rfl rfl rfl (by kernel_rfl) (fun _ _ _ h => h) (q_ix Try.underlying23 Z3 rfl rfl hq991 hg992) ?_
     refine zb0 4 rfl rfl rfl (by kernel_rfl) (fun _ _ _ h => h) (fun w h => h) (q_lde (off := 0) Y3 rfl rfl (fun w h => h.zau (i := 2) rfl) hg992 (fun _ _ h => h) rfl) ?_
     refine a_two 5 9 rfl rfl rfl rfl (by kernel_rfl) rfl rfl (za4 0 Z Try.func110 N110 rfl rfl rfl (fun w P1 hF hB hS hT => spec_meTimes.calls 1 A14 c15 l12.length l12 A16 c17 l13.length l13 y993 0 hB hF (hT 1 _ rfl).row (hT 1 _ rfl).cap (hT 2 _ rfl).row (hT 2 _ rfl).cap _ hx1111)) (fun s w h => za3 [some 2, some 3, some 4, some 5] (by decide) w h rfl) (zak V25 rfl) (fun s w h => za3 [some 1, some 2, some 3, some 4] (by decide) w h rfl) (cur2 (fun A1113 c1114 => ?_)) (fun g1351 => ?_)
     ·skip
      refine za5 6 rfl rfl rfl (by kernel_rfl) (fun _ _ _ h => h) (za2 rfl) ?_
      refine za5 7 rfl rfl rfl (by kernel_rfl) (fun _ _ _ h => h) (q_ext rfl rfl) ?_
      refine za5 8 rfl rfl rfl (by kernel_rfl) (fun _ _ _ h => h) (q_ext rfl rfl) ?_
      refine a_one 9 rfl rfl (by kernel_rfl) rfl (zak V25 rfl) (fun s w h => za3 [some 3, some 4, some 5, some 6] (by decide) w h rfl) (fun g1351 => ?_)
      refine a_one 10 rfl rfl (by kernel_rfl) rfl (zal (i := 0) rfl rfl rfl Z25 rfl rfl) (fun s w h => za3 [some 3, some 4, some 5, some 6] (by decide) w h rfl) (fun _ => ?_)
      refine za5 11 rfl rfl rfl (by kernel_rfl) (fun _ _ _ h => h) (q_asg rfl) ?_
      refine zar (by kernel_rfl) ?_
      refine zas (l1112, g1351, A1113, c1114) h ⟨rfl, rfl, trivial⟩ (fun w h => za6 [6, 0, 1, 2, 3, 4, 5] (by decide) rfl w h) ?_
      repeat (first | exact za7 _ _ | refine zad rfl ?_ | refine za8 rfl ?_ | refine zae rfl ?_)
     ·skip
      refine a_one 5 rfl rfl (by kernel_rfl) rfl (za4 0 Z Try.func110 N110 rfl rfl rfl (fun w P1 hF hB hS hT => spec_meTimes.calls 1 A14 c15 l12.length l12 A16 c17 l13.length l13 y993 0 hB hF (hT 2 _ rfl).row (hT 2 _ rfl).cap (hT 3 _ rfl).row (hT 3 _ rfl).cap _ hx1111)) (fun s w h => za3 [some 3, some 4, some 5, some 6] (by decide) w h rfl) (cur2 (fun A1113 c1114 => ?_))
      refine za5 6 rfl rfl rfl (by kernel_rfl) (fun _ _ _ h => h) (za2 rfl) ?_
      refine za5 7 rfl rfl rfl (by kernel_rfl) (fun _ _ _ h => h) (q_ext rfl rfl) ?_
      refine za5 8 rfl rfl rfl (by kernel_rfl) (fun _ _ _ h => h) (q_ext rfl rfl) ?_
      refine a_one 10 rfl rfl (by kernel_rfl) rfl (zal (i := 2) rfl rfl rfl Z25 rfl rfl) (fun s w h => za3 [some 3, some 4, some 5, some 6] (by decide) w h rfl) (fun _ => ?_)
      refine za5 11 rfl rfl rfl (by kernel_rfl) (fun _ _ _ h => h) (q_asg rfl) ?_
      refine zar (by kernel_rfl) ?_
      refine zas (l1112, g1351, A1113, c1114) h ⟨rfl, rfl, trivial⟩ (fun w h => za6 [6, 2, 0, 1, 3, 4, 5] (by decide) rfl w h) ?_
      repeat (first | exact za7 _ _ | refine zad rfl ?_ | refine za8 rfl ?_ | refine zae rfl ?_)
    ·skip
     refine (cur4 (fun l802 g801 A803 c804 => fun U808 hJ809 => ?_))
     have e_ := Option.some.inj hJ809; have h := hR807; rw [← e_] at h; clear e_ hJ809 hR807 hl806
     refine c_seq ?_
     refine za0 ?_
     refine o_q rfl rfl (q_ldB G25 Z25 rfl (fun w h => h.zaf (i := 1) rfl) rfl) ?_
     refine o_q rfl rfl (za2 rfl) ?_
     refine o_pick [2, 0, 1, 3, 4, 5, 6] (by decide) rfl ?_
     refine za9 h (fun _ hx1591 h => ?_) rfl
     refine o_e rfl (za4 1 Z Try.func112 N112 rfl rfl rfl (fun w P1 hF hB hS hT => spec_meEnd.calls 1 A803 c804 l802.length l802 none 0 0 [] (w64 (1 + (l12.length : Int))) hB hF (hT 2 _ rfl).row (hT 2 _ rfl).cap hx1591)) (cur2 (fun A1592 c1593 => ?_))
     refine o_e rfl (zal (i := 2) rfl rfl rfl Z25 rfl rfl) (fun _ => ?_)
     refine o_end ?_
     refine za1 ?_
     refine c_ret ?_
     refine zaj ?_
     have e0_ := Option.some.inj h; clear h
     have d0_ := (Prod.mk.inj e0_).1; have e1_ := (Prod.mk.inj e0_).2; clear e0_; subst d0_
     subst e1_
     exact x_r1 (A803, c804, A1592, c1593) Try.results122 (rv_cell rfl G25 Z25 (fun w h => h.zaf (i := 2) rfl) rfl) rfl (fun w h => za6 [0, 1] (by decide) rfl w h)
   ·skip
    replace h := br_f hb10 h
    refine zat ?_
    refine za1 ?_
    refine c_seq ?_
    refine za0 ?_
    refine o_q rfl rfl (za2 rfl) ?_
    refine bindE2 h (fun l1595 l1596 hx1594 h => ?_) rfl
    refine o_e rfl (za4 0 Z Try.func122 N122 rfl rfl rfl (fun w P1 hF hB hS hT => ih i9 hB hF _ _ hx1594)) (cur4 (fun A1597 c1598 A1599 c1600 => ?_))
    refine o_e rfl (zak V25 rfl) (fun g1601 => ?_)
    refine o_e rfl (zal (i := 0) rfl rfl rfl Z25 rfl rfl) (fun _ => ?_)
    refine o_end ?_
    refine za1 ?_
    refine c_seq ?_
    refine a_start (ds := []) MO rfl ?_
    refine za5 0 rfl rfl rfl (by kernel_rfl) (fun _ _ _ h => h) (q_f F25_1 rfl) ?_
    refine zb0 1 rfl rfl rfl (by kernel_rfl) (fun _ _ _ h => h) (fun w h => h) (q_ldb Y22 rfl (fun w h => h.zaf (i := 0) rfl) rfl) ?_
    refine za5 2 rfl rfl rfl (by kernel_rfl) (fun _ _ _ h => h) (za2 rfl) ?_
    refine za5 3 rfl rfl rfl (by kernel_rfl) (fun _ _ _ h => h) (za2 rfl) ?_
    refine za9 h (fun _ hz1603 h => ?_) rfl
    refine za5 4 rfl rfl rfl (by kernel_rfl) (fun _ _ _ h => h) (q_quo64 rfl rfl (nz_ne hz1603)) ?_
    refine za5 6 rfl rfl rfl (by kernel_rfl) (fun _ _ _ h => h) (q_f F25_2 rfl) ?_
    refine zb0 7 rfl rfl rfl (by kernel_rfl) (fun _ _ _ h => h) (fun w h => h) (q_ldb Y23 rfl (fun w h => h.zaf (i := 0) rfl) rfl) ?_
    refine bindE2 h (fun l1605 l1606 hx1604 h => ?_) rfl
    refine a_one 5 rfl rfl (by kernel_rfl) rfl (za4 0 Z Try.func122 N122 rfl rfl rfl (fun w P1 hF hB hS hT => ih (w64 (a0.tdiv i9)) hB hF _ _ hx1604)) (fun s w h => za3 [some 2, some 3, some 4, some 5] (by decide) w h rfl) (cur4 (fun A1607 c1608 A1609 c1610 => ?_))
    refine bindE2 h (fun l1612 l1613 hx1611 h => ?_) rfl
    refine a_one 8 rfl rfl (by kernel_rfl) rfl (za4 0 Z Try.func151 N151 rfl rfl rfl (fun w P1 hF hB hS hT => spec_plThen.calls A1597 c1598 l1595.length l1595 1 1 A1607 c1608 l1605.length l1605 A1609 c1610 l1606.length l1606 A1599 c1600 l1596.length l1596 hB hF (hT 3 _ rfl).row (hT 3 _ rfl).cap (hT 0 _ rfl).row (hT 0 _ rfl).cap (hT 1 _ rfl).row (hT 1 _ rfl).cap (hT 4 _ rfl).row (hT 4 _ rfl).cap _ _ hx1611)) (fun s w h => za3 [some 4, some 5, some 6, some 7] (by decide) w h rfl) (cur4 (fun A1614 c1615 A1616 c1617 => ?_))
    refine za5 9 rfl rfl rfl (by kernel_rfl) (fun _ _ _ h => h) (za2 rfl) ?_
    refine za5 10 rfl rfl rfl (by kernel_rfl) (fun _ _ _ h => h) (q_ext rfl rfl) ?_
    refine za5 11 rfl rfl rfl (by kernel_rfl) (fun _ _ _ h => h) (q_ext rfl rfl) ?_
    refine za5 12 rfl rfl rfl (by kernel_rfl) (fun _ _ _ h => h) (q_asg rfl) ?_
    refine za5 13 rfl rfl rfl (by kernel_rfl) (fun _ _ _ h => h) (q_asg rfl) ?_
    refine zar (by kernel_rfl) ?_
    refine za1 ?_
    refine c_seq ?_
    refine za0 ?_
    refine o_q rfl rfl (za2 rfl) ?_
    refine o_q rfl rfl (za2 rfl) ?_
    refine o_q rfl rfl (q_build (vs := [(0, .int .i64 1), (1, .slice A1614 l1612.length c1615), (2, .slice A1616 l1613.length c1617)]) (cs := [.int .i64 1, .slice A1614 l1612.length c1615, .slice A1616 l1613.length c1617]) rfl rfl) ?_
    refine o_e rfl (zal (i := 7) rfl rfl rfl Z25 rfl rfl) (fun _ => ?_)
    refine o_end ?_
    refine za1 ?_
    refine c_ret ?_
    have e0_ := Option.some.inj h; clear h
    have d0_ := (Prod.mk.inj e0_).1; have e1_ := (Prod.mk.inj e0_).2; clear e0_; subst d0_
    subst e1_
    exact x_r1 (A1614, c1615, A1616, c1617) Try.results122 (rv_cell rfl G25 Z25 (fun w h => h.zaf (i := 7) rfl) rfl) rfl (fun w h => za6 [0, 1] (by decide) rfl w h)

/-! ### loop.example/g01098/spec.mePlans: function 68 -/
def spec_mePlans.f (k : Nat) (a0 : Int) : Option ((List SStep) × (List Int) × (List SStep) × (List Int) × (List SStep) × (List Int) × (List SStep) × (List Int) × (List SStep) × (List Int) × (List SStep) × (List Int) × (List SStep) × (List Int)) := (spec_meBinary.f k a0).bind fun (l2, l3) => (spec_meRight.f k a0).bind fun (l9, l10) => (spec_meWindow.f k a0 2).bind fun (l16, l17) => (spec_meWindow.f k a0 3).bind fun (l23, l24) => (spec_meSliding.f k a0 2).bind fun (l30, l31) => (spec_meSliding.f k a0 3).bind fun (l37, l38) => (spec_meFactors.f k a0).bind fun (l44, l45) => some (l2, l3, l9, l10, l16, l17, l23, l24, l30, l31, l37, l38, l44, l45)
set_option maxHeartbeats 600000 in
set_option maxRecDepth 100000 in
theorem spec_mePlans.calls (k : Nat) {w0 ws : World} {P0 : Nat → Prop} (a0 : Int) (Z : Below w0.heap.size w0 ws) (hF : Fr w0 ws P0 [] ws)  (r_2 : List SStep) (r_5 : List Int) (r_8 : List SStep) (r_11 : List Int) (r_14 : List SStep) (r_17 : List Int) (r_20 : List SStep) (r_23 : List Int) (r_26 : List SStep) (r_29 : List Int) (r_32 : List SStep) (r_35 : List Int) (r_38 : List SStep) (r_41 : List Int) (h : spec_mePlans.f k a0 = some (r_2, r_5, r_8, r_11, r_14, r_17, r_20, r_23, r_26, r_29, r_32, r_35, r_38, r_41)) :
  Calls Try.prog 68 #[.int .i64 a0] ws (Post1 w0 ws P0 (fun ((q_1, q_3, q_4, q_6, q_7, q_9, q_10, q_12, q_13, q_15, q_16, q_18, q_19, q_21, q_22, q_24, q_25, q_27, q_28, q_30, q_31, q_33, q_34, q_36, q_37, q_39, q_40, q_42, q_43) : Nat × (Option Addr) × Nat × (Option Addr) × Nat × (Option Addr) × Nat × (Option Addr) × Nat × (Option Addr) × Nat × (Option Addr) × Nat × (Option Addr) × Nat × (Option Addr) × Nat × (Option Addr) × Nat × (Option Addr) × Nat × (Option Addr) × Nat × (Option Addr) × Nat × (Option Addr) × Nat × (Option Addr) × Nat) => .slice (some ⟨q_1, 0, none⟩) 7 7) (fun ((q_1, q_3, q_4, q_6, q_7, q_9, q_10, q_12, q_13, q_15, q_16, q_18, q_19, q_21, q_22, q_24, q_25, q_27, q_28, q_30, q_31, q_33, q_34, q_36, q_37, q_39, q_40, q_42, q_43) : Nat × (Option Addr) × Nat × (Option Addr) × Nat × (Option Addr) × Nat × (Option Addr) × Nat × (Option Addr) × Nat × (Option Addr) × Nat × (Option Addr) × Nat × (Option Addr) × Nat × (Option Addr) × Nat × (Option Addr) × Nat × (Option Addr) × Nat × (Option Addr) × Nat × (Option Addr) × Nat × (Option Addr) × Nat) => [box q_1 25 #[.int .i64 1, .slice q_3 r_2.length q_4, .slice q_6 r_5.length q_7, .int .i64 1, .slice q_9 r_8.length q_10, .slice q_12 r_11.length q_13, .int .i64 1, .slice q_15 r_14.length q_16, .slice q_18 r_17.length q_19, .int .i64 1, .slice q_21 r_20.length q_22, .slice q_24 r_23.length q_25, .int .i64 1, .slice q_27 r_26.length q_28, .slice q_30 r_29.length q_31, .int .i64 1, .slice q_33 r_32.length q_34, .slice q_36 r_35.length q_37, .int .i64 1, .slice q_39 r_38.length q_40, .slice q_42 r_41.length q_43], row kStep 107 (.slice q_3 r_2.length q_4) r_2, row (Kd.int .i64) 3 (.slice q_6 r_5.length q_7) r_5, row kStep 107 (.slice q_9 r_8.length q_10) r_8, row (Kd.int .i64) 3 (.slice q_12 r_11.length q_13) r_11, row kStep 107 (.slice q_15 r_14.length q_16) r_14, row (Kd.int .i64) 3 (.slice q_18 r_17.length q_19) r_17, row kStep 107 (.slice q_21 r_20.length q_22) r_20, row (Kd.int .i64) 3 (.slice q_24 r_23.length q_25) r_23, row kStep 107 (.slice q_27 r_26.length q_28) r_26, row (Kd.int .i64) 3 (.slice q_30 r_29.length q_31) r_29, row kStep 107 (.slice q_33 r_32.length q_34) r_32, row (Kd.int .i64) 3 (.slice q_36 r_35.length q_37) r_35, row kStep 107 (.slice q_39 r_38.length q_40) r_38, row (Kd.int .i64) 3 (.slice q_42 r_41.length q_43) r_41])) := by
 unfold spec_mePlans.f at h
 refine enter Try.func68 rfl Try.ntmps68 rfl hF ?_
 refine c_seq ?_
 refine za0 ?_
 refine o_q rfl rfl (q_asg rfl) ?_
 refine o_end ?_
 refine za1 ?_
 refine c_seq ?_
 refine za0 ?_
 refine o_q rfl rfl (za2 rfl) ?_
 refine bindE2 h (fun l2 l3 hx1 h => ?_) rfl
 refine o_e rfl (za4 0 Z Try.func83 N83 rfl rfl rfl (fun w P1 hF hB hS hT => spec_meBinary.calls k a0 hB hF _ _ hx1)) (cur4 (fun A4 c5 A6 c7 => ?_))
 refine o_q rfl rfl (za2 rfl) ?_
 refine bindE2 h (fun l9 l10 hx8 h => ?_) rfl
 refine o_e rfl (za4 0 Z Try.func121 N121 rfl rfl rfl (fun w P1 hF hB hS hT => spec_meRight.calls k a0 hB hF _ _ hx8)) (cur4 (fun A11 c12 A13 c14 => ?_))
 refine o_q rfl rfl (za2 rfl) ?_
 refine bindE2 h (fun l16 l17 hx15 h => ?_) rfl
 refine o_e rfl (za4 0 Z Try.func52 N52 rfl rfl rfl (fun w P1 hF hB hS hT => spec_meWindow.calls k a0 2 hB hF _ _ hx15)) (cur4 (fun A18 c19 A20 c21 => ?_))
 refine o_q rfl rfl (za2 rfl) ?_
 refine bindE2 h (fun l23 l24 hx22 h => ?_) rfl
 refine o_e rfl (za4 0 Z Try.func52 N52 rfl rfl rfl (fun w P1 hF hB hS hT => spec_meWindow.calls k a0 3 hB hF _ _ hx22)) (cur4 (fun A25 c26 A27 c28 => ?_))
 refine o_q rfl rfl (za2 rfl) ?_
 refine bindE2 h (fun l30 l31 hx29 h => ?_) rfl
 refine o_e rfl (za4 0 Z Try.func66 N66 rfl rfl rfl (fun w P1 hF hB hS hT => spec_meSliding.calls k a0 2 hB hF _ _ hx29)) (cur4 (fun A32 c33 A34 c35 => ?_))
 refine o_q rfl rfl (za2 rfl) ?_
 refine bindE2 h (fun l37 l38 hx36 h => ?_) rfl
 refine o_e rfl (za4 0 Z Try.func66 N66 rfl rfl rfl (fun w P1 hF hB hS hT => spec_meSliding.calls k a0 3 hB hF _ _ hx36)) (cur4 (fun A39 c40 A41 c42 => ?_))
 refine o_q rfl rfl (za2 rfl) ?_
 refine bindE2 h (fun l44 l45 hx43 h => ?_) rfl
 refine o_e rfl (za4 0 Z Try.func122 N122 rfl rfl rfl (fun w P1 hF hB hS hT => spec_meFactors.calls k a0 hB hF _ _ hx43)) (cur4 (fun A46 c47 A48 c49 => ?_))
 refine o_e rfl (e_litB (vs := [(0, .agg #[.int .i64 1, .slice A4 l2.length c5, .slice A6 l3.length c7]), (1, .agg #[.int .i64 1, .slice A11 l9.length c12, .slice A13 l10.length c14]), (2, .agg #[.int .i64 1, .slice A18 l16.length c19, .slice A20 l17.length c21]), (3, .agg #[.int .i64 1, .slice A25 l23.length c26, .slice A27 l24.length c28]), (4, .agg #[.int .i64 1, .slice A32 l30.length c33, .slice A34 l31.length c35]), (5, .agg #[.int .i64 1, .slice A39 l37.length c40, .slice A41 l38.length c42]), (6, .agg #[.int .i64 1, .slice A46 l44.length c47, .slice A48 l45.length c49])]) (cs := [.int .i64 1, .slice A4 l2.length c5, .slice A6 l3.length c7, .int .i64 1, .slice A11 l9.length c12, .slice A13 l10.length c14, .int .i64 1, .slice A18 l16.length c19, .slice A20 l17.length c21, .int .i64 1, .slice A25 l23.length c26, .slice A27 l24.length c28, .int .i64 1, .slice A32 l30.length c33, .slice A34 l31.length c35, .int .i64 1, .slice A39 l37.length c40, .slice A41 l38.length c42, .int .i64 1, .slice A46 l44.length c47, .slice A48 l45.length c49]) Try.underlying77 I25 (by decide) rfl (by kernel_rfl)) (fun g50 => ?_)
 refine o_q rfl rfl (q_asg rfl) ?_
 refine o_end ?_
 refine za1 ?_
 refine c_ret ?_
 have e0_ := Option.some.inj h; clear h
 have d0_ := (Prod.mk.inj e0_).1; have e1_ := (Prod.mk.inj e0_).2; clear e0_; subst d0_
 have d1_ := (Prod.mk.inj e1_).1; have e2_ := (Prod.mk.inj e1_).2; clear e1_; subst d1_
 have d2_ := (Prod.mk.inj e2_).1; have e3_ := (Prod.mk.inj e2_).2; clear e2_; subst d2_
 have d3_ := (Prod.mk.inj e3_).1; have e4_ := (Prod.mk.inj e3_).2; clear e3_; subst d3_
 have d4_ := (Prod.mk.inj e4_).1; have e5_ := (Prod.mk.inj e4_).2; clear e4_; subst d4_
 have d5_ := (Prod.mk.inj e5_).1; have e6_ := (Prod.mk.inj e5_).2; clear e5_; subst d5_
 have d6_ := (Prod.mk.inj e6_).1; have e7_ := (Prod.mk.inj e6_).2; clear e6_; subst d6_
 have d7_ := (Prod.mk.inj e7_).1; have e8_ := (Prod.mk.inj e7_).2; clear e7_; subst d7_
 have d8_ := (Prod.mk.inj e8_).1; have e9_ := (Prod.mk.inj e8_).2; clear e8_; subst d8_
 have d9_ := (Prod.mk.inj e9_).1; have e10_ := (Prod.mk.inj e9_).2; clear e9_; subst d9_
 have d10_ := (Prod.mk.inj e10_).1; have e11_ := (Prod.mk.inj e10_).2; clear e10_; subst d10_
 have d11_ := (Prod.mk.inj e11_).1; have e12_ := (Prod.mk.inj e11_).2; clear e11_; subst d11_
 have d12_ := (Prod.mk.inj e12_).1; have e13_ := (Prod.mk.inj e12_).2; clear e12_; subst d12_
 subst e13_
 exact x_r1 (g50, A4, c5, A6, c7, A11, c12, A13, c14, A18, c19, A20, c21, A25, c26, A27, c28, A32, c33, A34, c35, A39, c40, A41, c42, A46, c47, A48, c49) Try.results68 (zan rfl) rfl (fun w h => za6 [0, 13, 14, 11, 12, 9, 10, 7, 8, 5, 6, 3, 4, 1, 2] (by decide) rfl w h)

/-! ### loop.example/g01098/spec.MethodCosts: function 17 -/
def spec_MethodCosts.f (k : Nat) (a0 : Int) : Option ((List Int) × Bool) := (spec_chNumber.f a0).bind fun b2 => if b2 = true then ((spec_mePlans.f k a0).bind fun (l5, l6, l7, l8, l9, l10, l11, l12, l13, l14, l15, l16, l17, l18) => (ap [] ([(l5.length : Int)] : List Int)).bind fun l54 => (ap l54 ([(l7.length : Int)] : List Int)).bind fun l63 => (ap l63 ([(l9.length : Int)] : List Int)).bind fun l72 => (ap l72 ([(l11.length : Int)] : List Int)).bind fun l81 => (ap l81 ([(l13.length : Int)] : List Int)).bind fun l90 => (ap l90 ([(l15.length : Int)] : List Int)).bind fun l99 => (ap l99 ([(l17.length : Int)] : List Int)).bind fun l108 => some (l108, true)) else (some (([] : List Int), false))
set_option maxHeartbeats 600000 in
set_option maxRecDepth 100000 in
theorem spec_MethodCosts.calls (k : Nat) {w0 ws : World} {P0 : Nat → Prop} (a0 : Int) (Z : Below w0.heap.size w0 ws) (hF : Fr w0 ws P0 [] ws)  (r_1 : List Int) (r_4 : Bool) (h : spec_MethodCosts.f k a0 = some (r_1, r_4)) :
  Calls Try.prog 17 #[.int .i64 a0] ws (Post1 w0 ws P0 (fun ((q_2, q_3) : (Option Addr) × Nat) => .tuple #[.slice q_2 r_1.length q_3, .bool r_4]) (fun ((q_2, q_3) : (Option Addr) × Nat) => [row (Kd.int .i64) 3 (.slice q_2 r_1.length q_3) r_1])) := by
 unfold spec_MethodCosts.f at h
 refine enter Try.func17 rfl Try.ntmps17 rfl hF ?_
 refine c_seq ?_
 refine za0 ?_
 refine o_q rfl rfl (q_asg rfl) ?_
 refine o_q rfl rfl (q_asg rfl) ?_
 refine o_end ?_
 refine za1 ?_
 refine c_seq ?_
 refine c_seq ?_
 refine za0 ?_
 refine o_q rfl rfl (za2 rfl) ?_
 refine za9 h (fun b2 hx1 h => ?_) rfl
 refine o_e rfl (za4 0 Z Try.func49 N49 rfl rfl rfl (fun w P1 hF hB hS hT => spec_chNumber.calls a0 hB hF _ hx1)) (fun _ => ?_)
 refine o_q rfl rfl (q_not rfl) ?_
 refine o_end ?_
 refine za1 ?_
 refine zaw _ rfl (fun hb3 => ?_) (fun hb3 => ?_)
 ·replace hb3 := nt_t hb3
  replace h := bb_f hb3 h
  refine c_seq ?_
  refine za0 ?_
  refine o_q rfl rfl (q_asg rfl) ?_
  refine o_q rfl rfl (q_asg rfl) ?_
  refine o_end ?_
  refine za1 ?_
  refine c_ret ?_
  refine zaj ?_
  refine x_nil (Kd.int .i64) 3 ?_
  have e0_ := Option.some.inj h; clear h
  have d0_ := (Prod.mk.inj e0_).1; have e1_ := (Prod.mk.inj e0_).2; clear e0_; subst d0_
  subst e1_
  exact x_r2 (none, 0) Try.results17 (zan rfl) (zan rfl) rfl (fun w h => za6 [0] (by decide) rfl w h)
 ·replace hb3 := nt_f hb3
  replace h := bb_t hb3 h
  refine zat ?_
  refine za1 ?_
  refine c_seq ?_
  refine za0 ?_
  refine o_q rfl rfl (q_asg rfl) ?_
  refine o_end ?_
  refine za1 ?_
  refine c_seq ?_
  refine c_seq ?_
  refine za0 ?_
  refine o_q rfl rfl (za2 rfl) ?_
  refine bindE14 h (fun l5 l6 l7 l8 l9 l10 l11 l12 l13 l14 l15 l16 l17 l18 hx4 h => ?_) rfl
  refine o_e rfl (za4 0 Z Try.func68 N68 rfl rfl rfl (fun w P1 hF hB hS hT => spec_mePlans.calls k a0 hB hF _ _ _ _ _ _ _ _ _ _ _ _ _ _ hx4)) (cur29 (fun c19 A20 c21 A22 c23 A24 c25 A26 c27 A28 c29 A30 c31 A32 c33 A34 c35 A36 c37 A38 c39 A40 c41 A42 c43 A44 c45 A46 c47 => ?_))
  refine o_q rfl rfl (q_len Try.underlying77 rfl) ?_
  refine o_q rfl rfl (za2 rfl) ?_
  refine o_end ?_
  refine za1 ?_
  refine zam ?_
  refine c_rounds 8 ?_
  refine rn_succ ?_
  refine c_seq ?_
  refine za0 ?_
  refine o_q rfl rfl (q_lss rfl rfl) ?_
  refine o_end ?_
  refine za1 ?_
  refine c_seq ?_
  refine zb9 (congrArg Value.bool (show decide ((0 : Int) < 7) = true from rfl)) ?_
  refine zat ?_
  refine za1 ?_
  refine c_seq ?_
  refine zam ?_
  refine c_seq ?_
  refine za0 ?_
  refine o_q rfl rfl (q_ixB (m := 0) Try.underlying77 Z25 rfl rfl (by decide)) ?_
  refine o_q rfl rfl (q_ldBo (o := 0) (ls := [.int .i64 1, .slice A20 l5.length c21, .slice A22 l6.length c23]) G25 Z25 rfl (fun w h => h.zaf (i := 0) rfl) rfl rfl) ?_
  refine o_e rfl (zak V25 rfl) (fun g48 => ?_)
  refine o_e rfl (zal (i := 0) rfl rfl rfl Z25 rfl rfl) (fun _ => ?_)
  refine o_end ?_
  refine za1 ?_
  refine za0 ?_
  refine o_q rfl rfl (za2 rfl) ?_
  refine o_q rfl rfl (q_f F25_1 rfl) ?_
  refine o_q rfl rfl (q_ldb Y22 rfl (fun w h => h.zaf (i := 0) rfl) rfl) ?_
  refine o_q rfl rfl (q_len Try.underlying22 rfl) ?_
  refine o_e rfl (e_lit (vs := [(0, .int .i64 (l5.length : Int))]) (cs := [.int .i64 (l5.length : Int)]) (Kd.int .i64) ([(l5.length : Int)] : List Int) Try.underlying23 I3 (by decide) rfl (by decide) rfl rfl (fun _ _ => Kd.zab _)) (cur2 (fun A50 c51 => ?_))
  refine o_nil (Kd.int .i64) 3 ?_
  refine za9 h (fun l54 ha55 h => ?_) rfl
  refine o_e rfl (e_app (i := 0) (j := 1) Try.underlying23 I3 rfl (by decide) (by decide) rfl rfl rfl rfl rfl ha55) (cur2 (fun A56 c57 => ?_))
  refine o_q rfl rfl (q_asg rfl) ?_
  refine o_end ?_
  refine zao ?_
  refine za1 ?_
  refine za0 ?_
  refine o_q rfl rfl (zaz rfl rfl) ?_
  refine o_q rfl rfl (za2 rfl) ?_
  refine o_end ?_
  refine x_rn ?_
  refine rn_succ ?_
  refine c_seq ?_
  refine za0 ?_
  refine o_q rfl rfl (q_lss rfl rfl) ?_
  refine o_end ?_
  refine za1 ?_
  refine c_seq ?_
  refine zb9 (congrArg Value.bool (show decide ((1 : Int) < 7) = true from rfl)) ?_
  refine zat ?_
  refine za1 ?_
  refine c_seq ?_
  refine zam ?_
  refine c_seq ?_
  refine za0 ?_
  refine o_q rfl rfl (q_ixB (m := 1) Try.underlying77 Z25 rfl rfl (by decide)) ?_
  refine o_q rfl rfl (q_ldBo (o := 3) (ls := [.int .i64 1, .slice A24 l7.length c25, .slice A26 l8.length c27]) G25 Z25 rfl (fun w h => h.zaf (i := 3) rfl) rfl rfl) ?_
  refine o_e rfl (zak V25 rfl) (fun g58 => ?_)
  refine o_e rfl (zal (i := 0) rfl rfl rfl Z25 rfl rfl) (fun _ => ?_)
  refine o_end ?_
  refine za1 ?_
  refine za0 ?_
  refine o_q rfl rfl (za2 rfl) ?_
  refine o_q rfl rfl (q_f F25_1 rfl) ?_
  refine o_q rfl rfl (q_ldb Y22 rfl (fun w h => h.zaf (i := 0) rfl) rfl) ?_
  refine o_q rfl rfl (q_len Try.underlying22 rfl) ?_
  refine o_e rfl (e_lit (vs := [(0, .int .i64 (l7.length : Int))]) (cs := [.int .i64 (l7.length : Int)]) (Kd.int .i64) ([(l7.length : Int)] : List Int) Try.underlying23 I3 (by decide) rfl (by decide) rfl rfl (fun _ _ => Kd.zab _)) (cur2 (fun A60 c61 => ?_))
  refine za9 h (fun l63 ha64 h => ?_) rfl
  refine o_e rfl (e_app (i := 2) (j := 0) Try.underlying23 I3 rfl (by decide) (by decide) rfl rfl rfl rfl rfl ha64) (cur2 (fun A65 c66 => ?_))
  refine o_q rfl rfl (q_asg rfl) ?_
  refine o_end ?_
  refine zao ?_
  refine za1 ?_
  refine za0 ?_
  refine o_q rfl rfl (zaz rfl rfl) ?_
  refine o_q rfl rfl (za2 rfl) ?_
  refine o_end ?_
  refine x_rn ?_
  refine rn_succ ?_
  refine c_seq ?_
  refine za0 ?_
  refine o_q rfl rfl (q_lss rfl rfl) ?_
  refine o_end ?_
  refine za1 ?_
  refine c_seq ?_
  refine zb9 (congrArg Value.bool (show decide ((2 : Int) < 7) = true from rfl)) ?_
  refine zat ?_
  refine za1 ?_
  refine c_seq ?_
  refine zam ?_
  refine c_seq ?_
  refine za0 ?_
  refine o_q rfl rfl (q_ixB (m := 2) Try.underlying77 Z25 rfl rfl (by decide)) ?_
  refine o_q rfl rfl (q_ldBo (o := 6) (ls := [.int .i64 1, .slice A28 l9.length c29, .slice A30 l10.length c31]) G25 Z25 rfl (fun w h => h.zaf (i := 5) rfl) rfl rfl) ?_
  refine o_e rfl (zak V25 rfl) (fun g67 => ?_)
  refine o_e rfl (zal (i := 0) rfl rfl rfl Z25 rfl rfl) (fun _ => ?_)
  refine o_end ?_
  refine za1 ?_
  refine za0 ?_
  refine o_q rfl rfl (za2 rfl) ?_
  refine o_q rfl rfl (q_f F25_1 rfl) ?_
  refine o_q rfl rfl (q_ldb Y22 rfl (fun w h => h.zaf (i := 0) rfl) rfl) ?_
  refine o_q rfl rfl (q_len Try.underlying22 rfl) ?_
  refine o_e rfl (e_lit (vs := [(0, .int .i64 (l9.length : Int))]) (cs := [.int .i64 (l9.length : Int)]) (Kd.int .i64) ([(l9.length : Int)] : List Int) Try.underlying23 I3 (by decide) rfl (by decide) rfl rfl (fun _ _ => Kd.zab _)) (cur2 (fun A69 c70 => ?_))
  refine za9 h (fun l72 ha73 h => ?_) rfl
  refine o_e rfl (e_app (i := 4) (j := 0) Try.underlying23 I3 rfl (by decide) (by decide) rfl rfl rfl rfl rfl ha73) (cur2 (fun A74 c75 => ?_))
  refine o_q rfl rfl (q_asg rfl) ?_
  refine o_end ?_
  refine zao ?_
  refine za1 ?_
  refine za0 ?_
  refine o_q rfl rfl (zaz rfl rfl) ?_
  refine o_q rfl rfl (za2 rfl) ?_
  refine o_end ?_
  refine x_rn ?_
  refine rn_succ ?_
  refine c_seq ?_
  refine za0 ?_
  refine o_q rfl rfl (q_lss rfl rfl) ?_
  refine o_end ?_
  refine za1 ?_
  refine c_seq ?_
  refine zb9 (congrArg Value.bool (show decide ((3 : Int) < 7) = true from rfl)) ?_
  refine zat ?_
  refine za1 ?_
  refine c_seq ?_
  refine zam ?_
  refine c_seq ?_
  refine za0 ?_
  refine o_q rfl rfl (q_ixB (m := 3) Try.underlying77 Z25 rfl rfl (by decide)) ?_
  refine o_q rfl rfl (q_ldBo (o := 9) (ls := [.int .i64 1, .slice A32 l11.length c33, .slice A34 l12.length c35]) G25 Z25 rfl (fun w h => h.zaf (i := 7) rfl) rfl rfl) ?_
  refine o_e rfl (zak V25 rfl) (fun g76 => ?_)
  refine o_e rfl (zal (i := 0) rfl rfl rfl Z25 rfl rfl) (fun _ => ?_)
  refine o_end ?_
  refine za1 ?_
  refine za0 ?_
  refine o_q rfl rfl (za2 rfl) ?_
  refine o_q rfl rfl (q_f F25_1 rfl) ?_
  refine o_q rfl rfl (q_ldb Y22 rfl (fun w h => h.zaf (i := 0) rfl) rfl) ?_
  refine o_q rfl rfl (q_len Try.underlying22 rfl) ?_
  refine o_e rfl (e_lit (vs := [(0, .int .i64 (l11.length : Int))]) (cs := [.int .i64 (l11.length : Int)]) (Kd.int .i64) ([(l11.length : Int)] : List Int) Try.underlying23 I3 (by decide) rfl (by decide) rfl rfl (fun _ _ => Kd.zab _)) (cur2 (fun A78 c79 => ?_))
  refine za9 h (fun l81 ha82 h => ?_) rfl
  refine o_e rfl (e_app (i := 6) (j := 0) Try.underlying23 I3 rfl (by decide) (by decide) rfl rfl rfl rfl rfl ha82) (cur2 (fun A83 c84 => ?_))
  refine o_q rfl rfl (q_asg rfl) ?_
  refine o_end ?_
  refine zao ?_
  refine za1 ?_
  refine za0 ?_
  refine o_q rfl rfl (zaz rfl rfl) ?_
  refine o_q rfl rfl (za2 rfl) ?_
  refine o_end ?_
  refine x_rn ?_
  refine rn_succ ?_
  refine c_seq ?_
  refine za0 ?_
  refine o_q rfl rfl (q_lss rfl rfl) ?_
  refine o_end ?_
  refine za1 ?_
  refine c_seq ?_
  refine zb9 (congrArg Value.bool (show decide ((4 : Int) < 7) = true from rfl)) ?_
  refine zat ?_
  refine za1 ?_
  refine c_seq ?_
  refine zam ?_
  refine c_seq ?_
  refine za0 ?_
  refine o_q rfl rfl (q_ixB (m := 4) Try.underlying77 Z25 rfl rfl (by decide)) ?_
  refine o_q rfl rfl (q_ldBo (o := 12) (ls := [.int .i64 1, .slice A36 l13.length c37, .slice A38 l14.length c39]) G25 Z25 rfl (fun w h => h.zaf (i := 9) rfl) rfl rfl) ?_
  refine o_e rfl (zak V25 rfl) (fun g85 => ?_)
  refine o_e rfl (zal (i := 0) rfl rfl rfl Z25 rfl rfl) (fun _ => ?_)
  refine o_end ?_
  refine za1 ?_
  refine za0 ?_
  refine o_q rfl rfl (za2 rfl) ?_
  refine o_q rfl rfl (q_f F25_1 rfl) ?_
  refine o_q rfl rfl (q_ldb Y22 rfl (fun w h => h.zaf (i := 0) rfl) rfl) ?_
  refine o_q rfl rfl (q_len Try.underlying22 rfl) ?_
  refine o_e rfl (e_lit (vs := [(0, .int .i64 (l13.length : Int))]) (cs := [.int .i64 (l13.length : Int)]) (Kd.int .i64) ([(l13.length : Int)] : List Int) Try.underlying23 I3 (by decide) rfl (by decide) rfl rfl (fun _ _ => Kd.zab _)) (cur2 (fun A87 c88 => ?_))
  refine za9 h (fun l90 ha91 h => ?_) rfl
  refine o_e rfl (e_app (i := 8) (j := 0) Try.underlying23 I3 rfl (by decide) (by decide) rfl rfl rfl rfl rfl ha91) (cur2 (fun A92 c93 => ?_))
  refine o_q rfl rfl (q_asg rfl) ?_
  refine o_end ?_
  refine zao ?_
  refine za1 ?_
  refine za0 ?_
  refine o_q rfl rfl (zaz rfl rfl) ?_
  refine o_q rfl rfl (za2 rfl) ?_
  refine o_end ?_
  refine x_rn ?_
  refine rn_succ ?_
  refine c_seq ?_
  refine za0 ?_
  refine o_q rfl rfl (q_lss rfl rfl) ?_
  refine o_end ?_
  refine za1 ?_
  refine c_seq ?_
  refine zb9 (congrArg Value.bool (show decide ((5 : Int) < 7) = true from rfl)) ?_
  refine zat ?_
  refine za1 ?_
  refine c_seq ?_
  refine zam ?_
  refine c_seq ?_
  refine za0 ?_
  refine o_q rfl rfl (q_ixB (m := 5) Try.underlying77 Z25 rfl rfl (by decide)) ?_
  refine o_q rfl rfl (q_ldBo (o := 15) (ls := [.int .i64 1, .slice A40 l15.length c41, .slice A42 l16.length c43]) G25 Z25 rfl (fun w h => h.zaf (i := 11) rfl) rfl rfl) ?_
  refine o_e rfl (zak V25 rfl) (fun g94 => ?_)
  refine o_e rfl (zal (i := 0) rfl rfl rfl Z25 rfl rfl) (fun _ => ?_)
  refine o_end ?_
  refine za1 ?_
  refine za0 ?_
  refine o_q rfl rfl (za2 rfl) ?_
  refine o_q rfl rfl (q_f F25_1 rfl) ?_
  refine o_q rfl rfl (q_ldb Y22 rfl (fun w h => h.zaf (i := 0) rfl) rfl) ?_
  refine o_q rfl rfl (q_len Try.underlying22 rfl) ?_
  refine o_e rfl (e_lit (vs := [(0, .int .i64 (l15.length : Int))]) (cs := [.int .i64 (l15.length : Int)]) (Kd.int .i64) ([(l15.length : Int)] : List Int) Try.underlying23 I3 (by decide) rfl (by decide) rfl rfl (fun _ _ => Kd.zab _)) (cur2 (fun A96 c97 => ?_))
  refine za9 h (fun l99 ha100 h => ?_) rfl
  refine o_e rfl (e_app (i := 10) (j := 0) Try.underlying23 I3 rfl (by decide) (by decide) rfl rfl rfl rfl rfl ha100) (cur2 (fun A101 c102 => ?_))
  refine o_q rfl rfl (q_asg rfl) ?_
  refine o_end ?_
  refine zao ?_
  refine za1 ?_
  refine za0 ?_
  refine o_q rfl rfl (zaz rfl rfl) ?_
  refine o_q rfl rfl (za2 rfl) ?_
  refine o_end ?_
  refine x_rn ?_
  refine rn_succ ?_
  refine c_seq ?_
  refine za0 ?_
  refine o_q rfl rfl (q_lss rfl rfl) ?_
  refine o_end ?_
  refine za1 ?_
  refine c_seq ?_
  refine zb9 (congrArg Value.bool (show decide ((6 : Int) < 7) = true from rfl)) ?_
  refine zat ?_
  refine za1 ?_
  refine c_seq ?_
  refine zam ?_
  refine c_seq ?_
  refine za0 ?_
  refine o_q rfl rfl (q_ixB (m := 6) Try.underlying77 Z25 rfl rfl (by decide)) ?_
  refine o_q rfl rfl (q_ldBo (o := 18) (ls := [.int .i64 1, .slice A44 l17.length c45, .slice A46 l18.length c47]) G25 Z25 rfl (fun w h => h.zaf (i := 13) rfl) rfl rfl) ?_
  refine o_e rfl (zak V25 rfl) (fun g103 => ?_)
  refine o_e rfl (zal (i := 0) rfl rfl rfl Z25 rfl rfl) (fun _ => ?_)
  refine o_end ?_
  refine za1 ?_
  refine za0 ?_
  refine o_q rfl rfl (za2 rfl) ?_
  refine o_q rfl rfl (q_f F25_1 rfl) ?_
  refine o_q rfl rfl (q_ldb Y22 rfl (fun w h => h.zaf (i := 0) rfl) rfl) ?_
  refine o_q rfl rfl (q_len Try.underlying22 rfl) ?_
  refine o_e rfl (e_lit (vs := [(0, .int .i64 (l17.length : Int))]) (cs := [.int .i64 (l17.length : Int)]) (Kd.int .i64) ([(l17.length : Int)] : List Int) Try.underlying23 I3 (by decide) rfl (by decide) rfl rfl (fun _ _ => Kd.zab _)) (cur2 (fun A105 c106 => ?_))
  refine za9 h (fun l108 ha109 h => ?_) rfl
  refine o_e rfl (e_app (i := 12) (j := 0) Try.underlying23 I3 rfl (by decide) (by decide) rfl rfl rfl rfl rfl ha109) (cur2 (fun A110 c111 => ?_))
  refine o_q rfl rfl (q_asg rfl) ?_
  refine o_end ?_
  refine zao ?_
  refine za1 ?_
  refine za0 ?_
  refine o_q rfl rfl (zaz rfl rfl) ?_
  refine o_q rfl rfl (za2 rfl) ?_
  refine o_end ?_
  refine x_rn ?_
  refine rn_succ ?_
  refine c_seq ?_
  refine za0 ?_
  refine o_q rfl rfl (q_lss rfl rfl) ?_
  refine o_end ?_
  refine za1 ?_
  refine c_seq ?_
  refine c_false (congrArg Value.bool (show decide ((7 : Int) < 7) = false from rfl)) ?_
  refine zb6 ?_
  refine zaa ?_
  refine zaa ?_
  refine x_hit ?_
  refine za1 ?_
  refine c_seq ?_
  refine za0 ?_
  refine o_q rfl rfl (za2 rfl) ?_
  refine o_q rfl rfl (q_asg rfl) ?_
  refine o_q rfl rfl (q_asg rfl) ?_
  refine o_end ?_
  refine za1 ?_
  refine c_ret ?_
  have e0_ := Option.some.inj h; clear h
  have d0_ := (Prod.mk.inj e0_).1; have e1_ := (Prod.mk.inj e0_).2; clear e0_; subst d0_
  subst e1_
  exact x_r2 (A110, c111) Try.results17 (zan rfl) (zan rfl) rfl (fun w h => za6 [12] (by decide) rfl w h)

/-! ### loop.example/g01098/impl.isNumber: function 74 -/
def impl_isNumber.f (a0 : Int) : Option Bool := (impl_in.f a0 1 1000000).bind fun b2 => some b2
set_option maxHeartbeats 600000 in
set_option maxRecDepth 100000 in
theorem impl_isNumber.calls {w0 ws : World} {P0 : Nat → Prop} (a0 : Int) (Z : Below w0.heap.size w0 ws) (hF : Fr w0 ws P0 [] ws)  (r_1 : Bool) (h : impl_isNumber.f a0 = some r_1) :
  Calls Try.prog 74 #[.int .i64 a0] ws (Post1 w0 ws P0 (fun (_ : Unit) => .bool r_1) (fun (_ : Unit) => [])) := by
 unfold impl_isNumber.f at h
 refine enter Try.func74 rfl Try.ntmps74 rfl hF ?_
 refine c_seq ?_
 refine za0 ?_
 refine o_q rfl rfl (q_asg rfl) ?_
 refine o_end ?_
 refine za1 ?_
 refine c_seq ?_
 refine za0 ?_
 refine o_q rfl rfl (za2 rfl) ?_
 refine za9 h (fun b2 hx1 h => ?_) rfl
 refine o_e rfl (za4 0 Z Try.func113 N113 rfl rfl rfl (fun w P1 hF hB hS hT => impl_in.calls a0 1 1000000 hB hF _ hx1)) (fun _ => ?_)
 refine o_q rfl rfl (q_asg rfl) ?_
 refine o_end ?_
 refine za1 ?_
 refine c_ret ?_
 have e0_ := Option.some.inj h; clear h
 subst e0_
 exact x_r1 () Try.results74 (zan rfl) rfl (fun w h => za6 [] (by decide) rfl w h)

/-! ### loop.example/g01098/impl.newMaker: function 54 -/
def impl_newMaker.f (a0 : Int) : Option Unit := some ()
set_option maxHeartbeats 600000 in
set_option maxRecDepth 100000 in
theorem impl_newMaker.calls {w0 ws : World} {P0 : Nat → Prop} (a0 : Int) (Z : Below w0.heap.size w0 ws) (hF : Fr w0 ws P0 [] ws)   (h : impl_newMaker.f a0 = some ()) :
  Calls Try.prog 54 #[.int .i64 a0] ws (Post1 w0 ws P0 (fun (q_1 : Nat) => .pointer (some ⟨q_1, 0, none⟩)) (fun (q_1 : Nat) => [box q_1 94 #[.int .i64 a0, .slice none 0 0, .slice none 0 0], row kStep 107 (.slice none 0 0) [], row (Kd.int .i64) 3 (.slice none 0 0) []])) := by
 unfold impl_newMaker.f at h
 refine enter Try.func54 rfl Try.ntmps54 rfl hF ?_
 refine c_seq ?_
 refine za0 ?_
 refine o_q rfl rfl (q_asg rfl) ?_
 refine o_end ?_
 refine za1 ?_
 refine c_seq ?_
 refine za0 ?_
 refine o_q rfl rfl (za2 rfl) ?_
 refine o_q rfl rfl (q_build (vs := [(0, .int .i64 a0)]) (cs := [.int .i64 a0, .slice none 0 0, .slice none 0 0]) rfl rfl) ?_
 refine o_q rfl rfl (q_build (vs := [(0, .agg #[.int .i64 a0, .slice none 0 0, .slice none 0 0])]) (cs := [.int .i64 a0, .slice none 0 0, .slice none 0 0]) rfl rfl) ?_
 refine o_e rfl (e_box rfl) (fun g1 => ?_)
 refine o_q rfl rfl (q_asg rfl) ?_
 refine o_end ?_
 refine za1 ?_
 refine c_ret ?_
 refine x_nil kStep 107 ?_
 refine x_nil (Kd.int .i64) 3 ?_
 exact x_r1 g1 Try.results54 (zan rfl) rfl (fun w h => za6 [2, 1, 0] (by decide) rfl w h)

/-! ### loop.example/g01098/impl.digits: function 55 -/
def impl_digits.l0 (a1 : Int) : Nat → (List Int) → Int → Option (List Int)
 | 0, _, _ => none
 | k10 + 1, l4, i7 => if 0 < i7 then ((nz a1).bind fun _ => (ap l4 ([i7.tmod a1] : List Int)).bind fun l23 => (nz a1).bind fun _ => impl_digits.l0 a1 k10 l23 (w64 (i7.tdiv a1))) else (some l4)
def impl_digits.f (k : Nat) (a0 : Int) (a1 : Int) : Option (List Int) := (impl_digits.l0 a1 k ([] : List Int) a0).bind fun l4 => some l4
set_option maxHeartbeats 600000 in
set_option maxRecDepth 100000 in
theorem impl_digits.calls (k : Nat) {w0 ws : World} {P0 : Nat → Prop} (a0 : Int) (a1 : Int) (Z : Below w0.heap.size w0 ws) (hF : Fr w0 ws P0 [] ws)  (r_1 : List Int) (h : impl_digits.f k a0 a1 = some r_1) :
  Calls Try.prog 55 #[.int .i64 a0, .int .i64 a1] ws (Post1 w0 ws P0 (fun ((q_2, q_3) : (Option Addr) × Nat) => .slice q_2 r_1.length q_3) (fun ((q_2, q_3) : (Option Addr) × Nat) => [row (Kd.int .i64) 3 (.slice q_2 r_1.length q_3) r_1])) := by
 unfold impl_digits.f at h
 refine enter Try.func55 rfl Try.ntmps55 rfl hF ?_
 refine c_seq ?_
 refine za0 ?_
 refine o_q rfl rfl (q_asg rfl) ?_
 refine o_end ?_
 refine za1 ?_
 refine c_seq ?_
 refine za0 ?_
 refine o_e rfl (e_lit0 (Kd.int .i64) Try.underlying23 I3) (cur2 (fun A1 c2 => ?_))
 refine o_q rfl rfl (q_asg rfl) ?_
 refine o_end ?_
 refine za1 ?_
 refine c_seq ?_
 refine zam ?_
 refine za9 h (fun o15 hl14 hR13 => ?_) rfl
 clear h
 refine zb2 (σ := (List Int) × Int × (Option Addr) × Nat) (fun k10 ((l4, i7, A5, c6) : (List Int) × Int × (Option Addr) × Nat) => impl_digits.l0 a1 k10 l4 i7 = some o15) [0, 5, 7, 8, 9, 10, 11, 12, 13, 14, 15, 16, 17] (fun ((l4, i7, A5, c6) : (List Int) × Int × (Option Addr) × Nat) => [(0, .int .i64 i7), (5, .slice A5 l4.length c6)]) (fun ((l4, i7, A5, c6) : (List Int) × Int × (Option Addr) × Nat) => [row (Kd.int .i64) 3 (.slice A5 l4.length c6) l4]) k (([] : List Int), a0, A1, c2) hl14 ⟨rfl, rfl, trivial⟩ (fun w h => h) ?_
 refine natC (cur4 (fun l4 i7 A5 c6 => fun U16 hJ_ => ?_)) (fun k10 => (cur4 (fun l4 i7 A5 c6 => fun U16 hJ_ => ?_)))
 ·skip
  replace hJ_ : impl_digits.l0 a1 0 l4 i7 = some o15 := hJ_
  rw [impl_digits.l0] at hJ_
  exact noneE hJ_
 ·skip
  clear hl14
  have h := hJ_; clear hJ_
  replace h : impl_digits.l0 a1 (k10 + 1) l4 i7 = some o15 := h
  rw [impl_digits.l0] at h
  refine c_seq ?_
  refine c_seq ?_
  refine za0 ?_
  refine o_q rfl rfl (za2 rfl) ?_
  refine o_q rfl rfl (q_gtr rfl rfl) ?_
  refine o_end ?_
  refine za1 ?_
  refine zaw _ rfl (fun hb18 => ?_) (fun hb18 => ?_)
  ·skip
   replace h := br_t hb18 h
   refine zat ?_
   refine za1 ?_
   refine c_seq ?_
   refine zam ?_
   refine za0 ?_
   refine o_q rfl rfl (za2 rfl) ?_
   refine o_q rfl rfl (za2 rfl) ?_
   refine o_q rfl rfl (za2 rfl) ?_
   refine za9 h (fun _ hz19 h => ?_) rfl
   refine o_q rfl rfl (q_rem rfl rfl (nz_ne hz19)) ?_
   refine o_e rfl (e_lit (vs := [(0, .int .i64 (i7.tmod a1))]) (cs := [.int .i64 (i7.tmod a1)]) (Kd.int .i64) ([i7.tmod a1] : List Int) Try.underlying23 I3 (by decide) rfl (by decide) rfl rfl (fun _ _ => Kd.zab _)) (cur2 (fun A20 c21 => ?_))
   refine za9 h (fun l23 ha24 h => ?_) rfl
   refine o_e rfl (e_app (i := 1) (j := 0) Try.underlying23 I3 rfl (by decide) (by decide) rfl rfl rfl rfl rfl ha24) (cur2 (fun A25 c26 => ?_))
   refine o_q rfl rfl (q_asg rfl) ?_
   refine o_end ?_
   refine zao ?_
   refine za1 ?_
   refine za0 ?_
   refine o_q rfl rfl (za2 rfl) ?_
   refine o_q rfl rfl (za2 rfl) ?_
   refine za9 h (fun _ hz27 h => ?_) rfl
   refine o_q rfl rfl (q_quo64 rfl rfl (nz_ne hz27)) ?_
   refine o_q rfl rfl (q_asg rfl) ?_
   refine o_end ?_
   refine zaq k10 (l23, w64 (i7.tdiv a1), A25, c26) (Nat.lt_succ_self _) h ⟨rfl, rfl, trivial⟩ (fun w h => za6 [1] (by decide) rfl w h) ?_
   repeat (first | exact za7 _ _ | refine zad rfl ?_ | refine za8 rfl ?_ | refine zae rfl ?_)
  ·skip
   replace h := br_f hb18 h
   refine zb6 ?_
   refine zaa ?_
   refine zaa ?_
   have e_ := Option.some.inj h; replace h := hR13; rw [← e_] at h; clear e_
   refine x_hit ?_
   refine za1 ?_
   refine c_seq ?_
   refine za0 ?_
   refine o_q rfl rfl (za2 rfl) ?_
   refine o_q rfl rfl (q_asg rfl) ?_
   refine o_end ?_
   refine za1 ?_
   refine c_ret ?_
   have e0_ := Option.some.inj h; clear h
   subst e0_
   exact x_r1 (A5, c6) Try.results55 (zan rfl) rfl (fun w h => za6 [0] (by decide) rfl w h)

/-! ### slices.Backward at []int, by hand -/
set_option maxRecDepth 100000 in
theorem bk_int {w : World} {P1 : Nat → Prop} (Bs : Nat) (A : Option Addr) (cap : Nat) (zs : List Int) (hR : Stable w P1 (fun W => Kd.C (Kd.int .i64) W A zs.length zs)) (hB : Stable w P1 (fun W => W.heap[Bs]? = some (.cells #[.slice A zs.length cap] 23 (0, 0)))) :
  SeqStopsK Fence.wide 2 Try.prog 116 #[.pointer (some ⟨Bs, 0, none⟩)] (fun x : BackT zs => #[Value.int .i64 x.1.1, .int .i64 x.1.2]) (KpS w P1) (fun ys => ys.map Subtype.val = bwL zs) (fun _ => True) zs.length w := by
 intro l J Jx W hW hJ hJx hY h0
 have hk0 : KeptB w W P1 := ⟨⟨hW.size, fun i hi _ => hW.block i hi⟩, hW.os, hW.tape, hW.output⟩
 have hlen : zs.length ≤ 9223372036854775807 := (hR w (KeptB.refl _ _)).2.1
 refine enterG (m := 19) Try.func116 rfl Try.ntmps116 rfl ?_
 refine wpIn_seq (wpIn_region_list ?_)
 refine g_q (fun c hc => by cases hc) rfl rfl (q_ldb (bt := 23) Y23 rfl (fun w' h' => by subst h'; exact hB _ hk0) rfl) ?_
 refine g_q (fun c hc => by cases hc) rfl rfl (q_len Try.underlying23 rfl) ?_
 refine g_q (fun c hc => by cases hc) rfl rfl (zb5 rfl rfl) ?_
 refine g_q (fun c hc => by cases hc) rfl rfl (q_asg rfl) ?_
 refine wpListIn_nil ?_
 refine wpIn_block ?_
 refine wpIn_loop_ghost (fun m a W' => ∃ (e : Nat → Value) (pre : List (BackT zs)), m ≤ zs.length ∧ a = act ⟨19, [], none⟩ e ∧ e 0 = .func (.yield l) #[] #[] ∧ e 1 = .pointer (some ⟨Bs, 0, none⟩) ∧ e 3 = .int .i64 ((m : Int) - 1) ∧ pre.map Subtype.val = (bwL zs).take (zs.length - m) ∧ J pre W' ∧ KeptB w W' P1) zs.length ⟨_, [], Nat.le_refl _, rfl, rfl, rfl, ?_, by simp, h0, hk0⟩ ?_
 ·show Value.int .i64 (w64 ((zs.length : Int) - 1)) = _
  rw [zav (by omega)]
 rintro m a W' ⟨e, pre, hm, rfl, he0, he1, he3, hpre, hJp, hk⟩
 have hpl : pre.length = zs.length - m := by
  have := congrArg List.length hpre
  rw [List.length_map, List.length_take, bwL_len] at this
  omega
 refine wpIn_seq (wpIn_seq (wpIn_region_list ?_))
 refine g_q (fun c hc => by cases hc) rfl rfl (za2 he3) ?_
 refine g_q (fun c hc => by cases hc) rfl rfl (q_geq rfl rfl) ?_
 refine wpListIn_nil ?_
 cases m with
 | zero =>
  refine wpIn_cond_false rfl (wpIn_exit ?_)
  refine exth (exth (inblk ?_))
  refine ⟨rfl, _, results_none rfl _ _ _, ⟨_, rfl⟩, .inl ⟨pre, ?_, hJp⟩⟩
  show pre.map Subtype.val = _
  rw [hpre, Nat.sub_zero, List.take_of_length_le (by rw [bwL_len]; exact Nat.le_refl _)]
 | succ m =>
  refine wpIn_cond_true ?_ (wpIn_skip ?_)
  ·rw [act_eval]
   show Value.bool (decide ((0 : Int) ≤ ((m + 1 : Nat) : Int) - 1)) = _
   rw [decide_eq_true (by omega)]
  refine wpIn_seq (wpIn_block (wpIn_seq (wpIn_region_list ?_)))
  have e3 : e 3 = .int .i64 (m : Int) := by rw [he3]; congr 1; omega
  have hml : m < zs.length := hm
  have hC := hR W' hk
  refine g_q (fun c hc => by cases hc) rfl rfl (za2 he0) ?_
  refine g_q (fun c hc => by cases hc) rfl rfl (za2 e3) ?_
  refine g_q (fun c hc => by cases hc) rfl rfl (q_ldb (bt := 23) Y23 he1 (fun w' h' => by subst h'; exact hB _ hk) rfl) ?_
  refine g_q (fun c hc => by cases hc) rfl rfl (za2 e3) ?_
  refine g_q (fun c hc => by cases hc) rfl rfl (q_ix (xs := zs) Try.underlying23 Z3 rfl rfl (C_sh hC) (gt_at hml)) ?_
  refine g_q (fun c hc => by cases hc) rfl rfl (q_lde (off := 0) Y3 rfl rfl (fun w' h' => by subst h'; exact hC) (gt_at hml) (fun _ _ h => h) rfl) ?_
  have hx : ∃ j : Nat, ((m : Int), zs[m]).1 = (j : Int) ∧ zs[j]? = some ((m : Int), zs[m]).2 := ⟨m, rfl, List.getElem?_eq_getElem hml⟩
  refine g_yield rfl rfl rfl rfl (hY pre ⟨((m : Int), zs[m]), hx⟩ W' hJp (by omega)) (fun e w' h => by rcases h with ⟨rfl, _⟩ | ⟨rfl, _⟩ <;> exact ⟨_, rfl⟩) ?_
  rintro v W3 (⟨hv, hJ3, hk3⟩ | ⟨hv, hJx3⟩)
  ·obtain rfl := Ending.returned.inj hv
   refine g_q (fun c hc => by cases hc) rfl rfl (q_not rfl) ?_
   refine wpListIn_nil ?_
   refine wpIn_cond_false rfl (wpIn_skip ?_)
   refine wpIn_region_list ?_
   refine g_q (fun c hc => by cases hc) rfl rfl (za2 e3) ?_
   refine g_q (fun c hc => by cases hc) rfl rfl (zb5 rfl rfl) ?_
   refine g_q (fun c hc => by cases hc) rfl rfl (q_asg rfl) ?_
   refine wpListIn_nil ?_
   refine ⟨m, Nat.lt_succ_self m, _, pre ++ [⟨((m : Int), zs[m]), hx⟩], by omega, rfl, he0, he1, ?_, ?_, hJ3, hk3 hk⟩
   ·show Value.int .i64 (w64 ((m : Int) - 1)) = _
    rw [zav (by omega)]
   ·rw [List.map_append, hpre]
    have ht := bwL_take zs (zs.length - (m + 1)) (by omega)
    have ei : zs.length - 1 - (zs.length - (m + 1)) = m := by omega
    rw [show zs.length - (m + 1) + 1 = zs.length - m by omega] at ht
    rw [ht]
    congr 1
    simp only [ei, List.map_cons, List.map_nil]
  ·obtain rfl := Ending.returned.inj hv
   refine g_q (fun c hc => by cases hc) rfl rfl (q_not rfl) ?_
   refine wpListIn_nil ?_
   refine wpIn_cond_true rfl (wpIn_ret ?_)
   exact ⟨rfl, _, results_none rfl _ _ _, ⟨_, rfl⟩, .inr ⟨_, trivial, hJx3⟩⟩
theorem bkc_int.calls {w0 ws : World} {P0 : Nat → Prop} (A : Option Addr) (n c : Nat) (hF : Fr w0 ws P0 [] ws) : Calls Try.prog 58 #[.slice A n c] ws (Post1 w0 ws P0 (fun (q : Nat) => .func (.func 116) #[] #[.pointer (some ⟨q, 0, none⟩)]) (fun (q : Nat) => [box q 23 #[.slice A n c]])) := by
 refine enter Try.func58 rfl Try.ntmps58 rfl hF ?_
 refine c_seq ?_
 refine za0 ?_
 refine o_e rfl (e_box rfl) (fun g1 => ?_)
 refine o_q rfl rfl (q_asg rfl) ?_
 refine o_end ?_
 refine za1 ?_
 refine c_seq ?_
 refine za0 ?_
 refine o_q rfl rfl (q_func (f := .func 116) (a := []) (b := [.tmp 1]) rfl rfl) ?_
 refine o_q rfl rfl (q_asg rfl) ?_
 refine o_end ?_
 refine za1 ?_
 refine c_ret ?_
 exact x_r1 g1 Try.results58 (zan rfl) rfl (fun w h => h)

def bw_int.f (l0 : List Int) : Option Unit := some ()
theorem bw_int.calls {w0 ws : World} {P0 : Nat → Prop} (A0 : Option Addr) (c0 : Nat) (n0 : Nat) (l0 : List Int) (Z : Below w0.heap.size w0 ws) (hF : Fr w0 ws P0 [] ws) (R0 : Stable ws P0 (fun w => Kd.C (Kd.int .i64) w A0 n0 l0)) (hc0 : n0 ≤ c0) (h : bw_int.f l0 = some ()) :
  Calls Try.prog 58 #[.slice A0 n0 c0] ws (Post1 w0 ws P0 (fun (q : Nat) => .func (.func 116) #[] #[.pointer (some ⟨q, 0, none⟩)]) (fun (q : Nat) => [box q 23 #[.slice A0 n0 c0]])) := bkc_int.calls A0 n0 c0 hF

/-! ### loop.example/g01098/impl.step: function 114 -/
def impl_step.f (a0 : Int) (a1 : Int) : Option Unit := some ()
set_option maxHeartbeats 600000 in
set_option maxRecDepth 100000 in
theorem impl_step.calls {w0 ws : World} {P0 : Nat → Prop} (a0 : Int) (a1 : Int) (Z : Below w0.heap.size w0 ws) (hF : Fr w0 ws P0 [] ws)   (h : impl_step.f a0 a1 = some ()) :
  Calls Try.prog 114 #[.int .i64 a0, .int .i64 a1] ws (Post1 w0 ws P0 (fun (_ : Unit) => .agg #[.int .i64 (mn a0 a1), .int .i64 (mx a0 a1)]) (fun (_ : Unit) => [])) := by
 unfold impl_step.f at h
 refine enter Try.func114 rfl Try.ntmps114 rfl hF ?_
 refine c_seq ?_
 refine za0 ?_
 refine o_e rfl (zak V107 rfl) (fun g1 => ?_)
 refine o_end ?_
 refine za1 ?_
 refine c_seq ?_
 refine za0 ?_
 refine o_q rfl rfl (za2 rfl) ?_
 refine o_q rfl rfl (za2 rfl) ?_
 refine o_q rfl rfl (q_min rfl rfl) ?_
 refine o_q rfl rfl (za2 rfl) ?_
 refine o_q rfl rfl (za2 rfl) ?_
 refine o_q rfl rfl (q_max rfl rfl) ?_
 refine o_q rfl rfl (q_build (vs := [(0, .int .i64 (mn a0 a1)), (1, .int .i64 (mx a0 a1))]) (cs := [.int .i64 (mn a0 a1), .int .i64 (mx a0 a1)]) rfl rfl) ?_
 refine o_e rfl (zal (i := 0) rfl rfl rfl Z107 rfl rfl) (fun _ => ?_)
 refine o_end ?_
 refine za1 ?_
 refine c_ret ?_
 exact x_r1 () Try.results114 (rv_cell rfl G107 Z107 (fun w h => h.zaf (i := 0) rfl) rfl) rfl (fun w h => za6 [] (by decide) rfl w h)

/-! ### (*loop.example/g01098/impl.Plan).many: function 115 -/
def impl_Plan_many_2.f (a0_0 : Int) (l0_1 : List SStep) (l0_2 : List Int) : Option Unit := some ()
set_option maxHeartbeats 600000 in
set_option maxRecDepth 100000 in
theorem impl_Plan_many_2.calls {w0 ws : World} {P0 : Nat → Prop} (g0 : Nat) (a0_0 : Int) (A0_1 : Option Addr) (c0_1 : Nat) (n0_1 : Nat) (l0_1 : List SStep) (A0_2 : Option Addr) (c0_2 : Nat) (n0_2 : Nat) (l0_2 : List Int) (Z : Below w0.heap.size w0 ws) (hF : Fr w0 ws P0 [] ws) (R0_1 : Stable ws P0 (fun w => Kd.C kStep w A0_1 n0_1 l0_1)) (hc0_1 : n0_1 ≤ c0_1) (R0_2 : Stable ws P0 (fun w => Kd.C (Kd.int .i64) w A0_2 n0_2 l0_2)) (hc0_2 : n0_2 ≤ c0_2) (B0 : Stable ws P0 (fun w => w.heap[g0]? = some (.cells #[.int .i64 a0_0, .slice A0_1 n0_1 c0_1, .slice A0_2 n0_2 c0_2] 94 (0, 0))))  (h : impl_Plan_many_2.f a0_0 l0_1 l0_2 = some ()) :
  Calls Try.prog 115 #[.pointer (some ⟨g0, 0, none⟩)] ws (Post1 w0 ws P0 (fun (_ : Unit) => .int .i64 (w64 (a0_0 + (l0_1.length : Int)))) (fun (_ : Unit) => [])) := by
 unfold impl_Plan_many_2.f at h
 obtain rfl := (R0_1 ws (KeptB.refl _ _)).1
 obtain rfl := (R0_2 ws (KeptB.refl _ _)).1
 refine enter Try.func115 rfl Try.ntmps115 rfl hF ?_
 refine c_seq ?_
 refine za0 ?_
 refine o_q rfl rfl (q_asg rfl) ?_
 refine o_end ?_
 refine za1 ?_
 refine c_seq ?_
 refine a_start (ds := []) MO rfl ?_
 refine za5 0 rfl rfl rfl (by kernel_rfl) (fun _ _ _ h => h) (za2 rfl) ?_
 refine za5 1 rfl rfl rfl (by kernel_rfl) (fun _ _ _ h => h) (q_nil rfl) ?_
 refine za5 2 rfl rfl rfl (by kernel_rfl) (fun _ _ _ h => h) (q_f F25_0 rfl) ?_
 refine zb0 3 rfl rfl rfl (by kernel_rfl) (fun _ _ _ h => h) (fun w h => h) (q_ldb Y3 rfl (fun w h => B0.now Z h) rfl) ?_
 refine za5 4 rfl rfl rfl (by kernel_rfl) (fun _ _ _ h => h) (za2 rfl) ?_
 refine za5 5 rfl rfl rfl (by kernel_rfl) (fun _ _ _ h => h) (q_nil rfl) ?_
 refine za5 6 rfl rfl rfl (by kernel_rfl) (fun _ _ _ h => h) (q_f F25_1 rfl) ?_
 refine zb0 7 rfl rfl rfl (by kernel_rfl) (fun _ _ _ h => h) (fun w h => h) (q_ldb Y22 rfl (fun w h => B0.now Z h) rfl) ?_
 refine za5 8 rfl rfl rfl (by kernel_rfl) (fun _ _ _ h => h) (q_len Try.underlying22 rfl) ?_
 refine za5 9 rfl rfl rfl (by kernel_rfl) (fun _ _ _ h => h) (zaz rfl rfl) ?_
 refine za5 10 rfl rfl rfl (by kernel_rfl) (fun _ _ _ h => h) (q_asg rfl) ?_
 refine zar (by kernel_rfl) ?_
 refine za1 ?_
 refine c_ret ?_
 exact x_r1 () Try.results115 (zan rfl) rfl (fun w h => za6 [] (by decide) rfl w h)

/-! ### (*loop.example/g01098/impl.maker).multiply: function 57 -/
def impl_maker_multiply.f (a0_0 : Int) (l0_1 : List SStep) (l0_2 : List Int) (a1 : Int) (a2 : Int) : Option (Int × (List SStep)) := ((impl_step.f a1 a2).bind fun _ => (ap l0_1 ([(⟨mn a1 a2, mx a1 a2⟩ : SStep)] : List SStep)).bind fun l1571 => some l1571).bind fun l962 => (impl_Plan_many_2.f a0_0 l962 l0_2).bind fun _ => some (w64 (w64 (a0_0 + (l962.length : Int)) - 1), l962)
set_option maxHeartbeats 600000 in
set_option maxRecDepth 100000 in
theorem impl_maker_multiply.calls {w0 ws : World} {P0 : Nat → Prop} (g0 : Nat) (a0_0 : Int) (A0_1 : Option Addr) (c0_1 : Nat) (n0_1 : Nat) (l0_1 : List SStep) (A0_2 : Option Addr) (c0_2 : Nat) (n0_2 : Nat) (l0_2 : List Int) (a1 : Int) (a2 : Int) (Z : Below w0.heap.size w0 ws) (hF : Fr w0 ws P0 [box g0 94 #[.int .i64 a0_0, .slice A0_1 n0_1 c0_1, .slice A0_2 n0_2 c0_2], row kStep 107 (.slice A0_1 n0_1 c0_1) l0_1] ws) (R0_2 : Stable ws P0 (fun w => Kd.C (Kd.int .i64) w A0_2 n0_2 l0_2)) (hc0_2 : n0_2 ≤ c0_2) (r_1 : Int) (r_2 : List SStep) (h : impl_maker_multiply.f a0_0 l0_1 l0_2 a1 a2 = some (r_1, r_2)) :
  Calls Try.prog 57 #[.pointer (some ⟨g0, 0, none⟩), .int .i64 a1, .int .i64 a2] ws (Post1 w0 ws P0 (fun ((q_3, q_4) : (Option Addr) × Nat) => .int .i64 r_1) (fun ((q_3, q_4) : (Option Addr) × Nat) => [box g0 94 #[.int .i64 a0_0, .slice q_3 r_2.length q_4, .slice A0_2 n0_2 c0_2], row kStep 107 (.slice q_3 r_2.length q_4) r_2])) := by
 unfold impl_maker_multiply.f at h
 obtain rfl := (hF.row_C (i := 1) rfl).2.1
 obtain rfl := (R0_2 ws (KeptB.refl _ _)).1
 refine enter Try.func57 rfl Try.ntmps57 rfl hF ?_
 refine c_seq ?_
 refine za0 ?_
 refine o_q rfl rfl (q_asg rfl) ?_
 refine o_end ?_
 refine za1 ?_
 refine za9 h (fun o965 hl966 hR967 => ?_) rfl
 clear h
 refine c_cutJ (σ := (List SStep) × (Option Addr) × Nat) (fun (l962, A963, c964) => some l962 = some o965) [7, 8, 9, 10, 11, 12, 13, 14, 15, 16, 17, 18, 19, 20] (fun (l962, A963, c964) => []) (fun (l962, A963, c964) => [box g0 94 #[.int .i64 a0_0, .slice A963 l962.length c964, .slice A0_2 l0_2.length c0_2], row kStep 107 (.slice A963 l962.length c964) l962]) ?_ ?_
 ·skip
  have h := hl966; clear hl966
  clear hR967
  refine za9 h (fun _ hx1451 h => ?_) rfl
  refine za9 h (fun l1571 ha1572 h => ?_) rfl
  refine a_startS (ds := []) [none, none] MO rfl ?_
  refine za5 0 rfl rfl rfl (by kernel_rfl) (fun _ _ _ h => h) (za2 rfl) ?_
  refine za5 1 rfl rfl rfl (by kernel_rfl) (fun _ _ _ h => h) (za2 rfl) ?_
  refine za5 2 rfl rfl rfl (by kernel_rfl) (fun _ _ _ h => h) (q_nil rfl) ?_
  refine za5 3 rfl rfl rfl (by kernel_rfl) (fun _ _ _ h => h) (q_f F94_0 rfl) ?_
  refine za5 4 rfl rfl rfl (by kernel_rfl) (fun _ _ _ h => h) (q_f F25_1 rfl) ?_
  refine za5 6 rfl rfl rfl (by kernel_rfl) (fun _ _ _ h => h) (za2 rfl) ?_
  refine za5 7 rfl rfl rfl (by kernel_rfl) (fun _ _ _ h => h) (za2 rfl) ?_
  refine a_two 5 8 rfl rfl rfl rfl (by kernel_rfl) rfl rfl (ev_q rfl (q_ldb Y22 rfl (fun w h => h.zaf (i := 0) rfl) rfl)) (fun s w h => za3 [none, none] (by decide) w h rfl) (za4 0 Z Try.func114 N114 rfl rfl rfl (fun w P1 hF hB hS hT => impl_step.calls a1 a2 hB hF hx1451)) (fun s w h => za3 [none, none] (by decide) w h rfl) (fun _ => ?_) (fun _ => ?_)
  ·skip
   refine a_one 8 rfl rfl (by kernel_rfl) rfl (za4 0 Z Try.func114 N114 rfl rfl rfl (fun w P1 hF hB hS hT => impl_step.calls a1 a2 hB hF hx1451)) (fun s w h => za3 [none, none] (by decide) w h rfl) (fun _ => ?_)
   refine a_one 9 rfl rfl (by kernel_rfl) rfl (e_lit (vs := [(0, .agg #[.int .i64 (mn a1 a2), .int .i64 (mx a1 a2)])]) (cs := [.int .i64 (mn a1 a2), .int .i64 (mx a1 a2)]) kStep ([(⟨mn a1 a2, mx a1 a2⟩ : SStep)] : List SStep) Try.underlying22 I107 (by decide) rfl (by decide) rfl rfl (fun _ _ => reps_flat _)) (fun s w h => za3 [none, none] (by decide) w h rfl) (cur2 (fun A1511 c1512 => ?_))
   refine a_one 10 rfl rfl (by kernel_rfl) rfl (e_app (i := 2) (j := 0) Try.underlying22 I107 rfl (by decide) (by decide) rfl rfl rfl rfl rfl ha1572) (fun s w h => za3 [none, none] (by decide) w h rfl) (cur2 (fun A1573 c1574 => ?_))
   refine za5 11 rfl rfl rfl (by kernel_rfl) (fun _ _ _ h => h) (q_nil rfl) ?_
   refine za5 12 rfl rfl rfl (by kernel_rfl) (fun _ _ _ h => h) (q_f F94_0 rfl) ?_
   refine za5 13 rfl rfl rfl (by kernel_rfl) (fun _ _ _ h => h) (q_f F25_1 rfl) ?_
   refine a_one 14 rfl rfl (by kernel_rfl) rfl (zah (i := 1) rfl rfl rfl rfl Z22 rfl rfl) (fun s w h => za3 [none, none] (by decide) w h rfl) (fun _ => ?_)
   refine zar (by kernel_rfl) ?_
   refine zas (l1571, A1573, c1574) h trivial (fun w h => za6 [1, 2] (by decide) rfl w h) ?_
   repeat (first | exact za7 _ _ | refine zad rfl ?_ | refine za8 rfl ?_ | refine zae rfl ?_)
  ·skip
   refine a_two 5 9 rfl rfl rfl rfl (by kernel_rfl) rfl rfl (ev_q rfl (q_ldb Y22 rfl (fun w h => h.zaf (i := 0) rfl) rfl)) (fun s w h => za3 [none, none] (by decide) w h rfl) (e_lit (vs := [(0, .agg #[.int .i64 (mn a1 a2), .int .i64 (mx a1 a2)])]) (cs := [.int .i64 (mn a1 a2), .int .i64 (mx a1 a2)]) kStep ([(⟨mn a1 a2, mx a1 a2⟩ : SStep)] : List SStep) Try.underlying22 I107 (by decide) rfl (by decide) rfl rfl (fun _ _ => reps_flat _)) (fun s w h => za3 [none, none] (by decide) w h rfl) (fun _ => ?_) (cur2 (fun A1511 c1512 => ?_))
   ·skip
    refine a_one 9 rfl rfl (by kernel_rfl) rfl (e_lit (vs := [(0, .agg #[.int .i64 (mn a1 a2), .int .i64 (mx a1 a2)])]) (cs := [.int .i64 (mn a1 a2), .int .i64 (mx a1 a2)]) kStep ([(⟨mn a1 a2, mx a1 a2⟩ : SStep)] : List SStep) Try.underlying22 I107 (by decide) rfl (by decide) rfl rfl (fun _ _ => reps_flat _)) (fun s w h => za3 [none, none] (by decide) w h rfl) (cur2 (fun A1511 c1512 => ?_))
    refine a_one 10 rfl rfl (by kernel_rfl) rfl (e_app (i := 2) (j := 0) Try.underlying22 I107 rfl (by decide) (by decide) rfl rfl rfl rfl rfl ha1572) (fun s w h => za3 [none, none] (by decide) w h rfl) (cur2 (fun A1573 c1574 => ?_))
    refine za5 11 rfl rfl rfl (by kernel_rfl) (fun _ _ _ h => h) (q_nil rfl) ?_
    refine za5 12 rfl rfl rfl (by kernel_rfl) (fun _ _ _ h => h) (q_f F94_0 rfl) ?_
    refine za5 13 rfl rfl rfl (by kernel_rfl) (fun _ _ _ h => h) (q_f F25_1 rfl) ?_
    refine a_one 14 rfl rfl (by kernel_rfl) rfl (zah (i := 1) rfl rfl rfl rfl Z22 rfl rfl) (fun s w h => za3 [none, none] (by decide) w h rfl) (fun _ => ?_)
    refine zar (by kernel_rfl) ?_
    refine zas (l1571, A1573, c1574) h trivial (fun w h => za6 [1, 2] (by decide) rfl w h) ?_
    repeat (first | exact za7 _ _ | refine zad rfl ?_ | refine za8 rfl ?_ | refine zae rfl ?_)
   ·skip
    refine a_one 5 rfl rfl (by kernel_rfl) rfl (ev_q rfl (q_ldb Y22 rfl (fun w h => h.zaf (i := 1) rfl) rfl)) (fun s w h => za3 [none, none] (by decide) w h rfl) (fun _ => ?_)
    refine a_one 10 rfl rfl (by kernel_rfl) rfl (e_app (i := 2) (j := 0) Try.underlying22 I107 rfl (by decide) (by decide) rfl rfl rfl rfl rfl ha1572) (fun s w h => za3 [none, none] (by decide) w h rfl) (cur2 (fun A1573 c1574 => ?_))
    refine za5 11 rfl rfl rfl (by kernel_rfl) (fun _ _ _ h => h) (q_nil rfl) ?_
    refine za5 12 rfl rfl rfl (by kernel_rfl) (fun _ _ _ h => h) (q_f F94_0 rfl) ?_
    refine za5 13 rfl rfl rfl (by kernel_rfl) (fun _ _ _ h => h) (q_f F25_1 rfl) ?_
    refine a_one 14 rfl rfl (by kernel_rfl) rfl (zah (i := 1) rfl rfl rfl rfl Z22 rfl rfl) (fun s w h => za3 [none, none] (by decide) w h rfl) (fun _ => ?_)
    refine zar (by kernel_rfl) ?_
    refine zas (l1571, A1573, c1574) h trivial (fun w h => za6 [1, 2] (by decide) rfl w h) ?_
    repeat (first | exact za7 _ _ | refine zad rfl ?_ | refine za8 rfl ?_ | refine zae rfl ?_)
 ·skip
  refine (cur3 (fun l962 A963 c964 => fun U968 hJ969 => ?_))
  have e_ := Option.some.inj hJ969; have h := hR967; rw [← e_] at h; clear e_ hJ969 hR967 hl966
  refine c_seq ?_
  refine za0 ?_
  refine o_q rfl rfl (za2 rfl) ?_
  refine o_q rfl rfl (q_nil rfl) ?_
  refine o_q rfl rfl (q_f F94_0 rfl) ?_
  refine za9 h (fun _ hx1931 h => ?_) rfl
  refine o_e rfl (za4 0 Z Try.func115 N115 rfl rfl rfl (fun w P1 hF hB hS hT => impl_Plan_many_2.calls g0 a0_0 A963 c964 l962.length l962 A0_2 c0_2 l0_2.length l0_2 hB hF (hT 1 _ rfl).row (hT 1 _ rfl).cap (hS _ R0_2) hc0_2 (hT 0 _ rfl).box hx1931)) (fun _ => ?_)
  refine o_q rfl rfl (zb5 rfl rfl) ?_
  refine o_q rfl rfl (q_asg rfl) ?_
  refine o_end ?_
  refine za1 ?_
  refine c_ret ?_
  have e0_ := Option.some.inj h; clear h
  have d0_ := (Prod.mk.inj e0_).1; have e1_ := (Prod.mk.inj e0_).2; clear e0_; subst d0_
  subst e1_
  exact x_r1 (A963, c964) Try.results57 (zan rfl) rfl (fun w h => za6 [0, 1] (by decide) rfl w h)

/-! ### (*loop.example/g01098/impl.maker).plan: function 60 -/
def impl_maker_plan.f (a0_0 : Int) (l0_1 : List SStep) (l0_2 : List Int) (l1 : List Int) : Option Unit := some ()
set_option maxHeartbeats 600000 in
set_option maxRecDepth 100000 in
theorem impl_maker_plan.calls {w0 ws : World} {P0 : Nat → Prop} (g0 : Nat) (a0_0 : Int) (A0_1 : Option Addr) (c0_1 : Nat) (n0_1 : Nat) (l0_1 : List SStep) (A0_2 : Option Addr) (c0_2 : Nat) (n0_2 : Nat) (l0_2 : List Int) (A1 : Option Addr) (c1 : Nat) (n1 : Nat) (l1 : List Int) (Z : Below w0.heap.size w0 ws) (hF : Fr w0 ws P0 [box g0 94 #[.int .i64 a0_0, .slice A0_1 n0_1 c0_1, .slice A0_2 n0_2 c0_2], row kStep 107 (.slice A0_1 n0_1 c0_1) l0_1, row (Kd.int .i64) 3 (.slice A1 n1 c1) l1] ws) (R0_2 : Stable ws P0 (fun w => Kd.C (Kd.int .i64) w A0_2 n0_2 l0_2)) (hc0_2 : n0_2 ≤ c0_2)  (h : impl_maker_plan.f a0_0 l0_1 l0_2 l1 = some ()) :
  Calls Try.prog 60 #[.pointer (some ⟨g0, 0, none⟩), .slice A1 n1 c1] ws (Post1 w0 ws P0 (fun (_ : Unit) => .agg #[.int .i64 a0_0, .slice A0_1 n0_1 c0_1, .slice A1 n1 c1]) (fun (_ : Unit) => [row kStep 107 (.slice A0_1 n0_1 c0_1) l0_1, row (Kd.int .i64) 3 (.slice A1 n1 c1) l1, box g0 94 #[.int .i64 a0_0, .slice A0_1 n0_1 c0_1, .slice A1 n1 c1]])) := by
 unfold impl_maker_plan.f at h
 obtain rfl := (hF.row_C (i := 1) rfl).2.1
 obtain rfl := (hF.row_C (i := 2) rfl).2.1
 obtain rfl := (R0_2 ws (KeptB.refl _ _)).1
 refine enter Try.func60 rfl Try.ntmps60 rfl hF ?_
 refine c_seq ?_
 refine za0 ?_
 refine o_e rfl (zak V25 rfl) (fun g1 => ?_)
 refine o_end ?_
 refine za1 ?_
 refine c_seq ?_
 refine za0 ?_
 refine o_q rfl rfl (za2 rfl) ?_
 refine o_q rfl rfl (za2 rfl) ?_
 refine o_q rfl rfl (q_nil rfl) ?_
 refine o_q rfl rfl (q_f F94_0 rfl) ?_
 refine o_q rfl rfl (q_f F25_2 rfl) ?_
 refine o_e rfl (zah (i := 1) rfl rfl rfl rfl Z23 rfl rfl) (fun _ => ?_)
 refine o_end ?_
 refine za1 ?_
 refine c_seq ?_
 refine za0 ?_
 refine o_q rfl rfl (za2 rfl) ?_
 refine o_q rfl rfl (q_nil rfl) ?_
 refine o_q rfl rfl (q_f F94_0 rfl) ?_
 refine o_q rfl rfl (q_ldB G25 Z25 rfl (fun w h => h.zaf (i := 1) rfl) rfl) ?_
 refine o_e rfl (zal (i := 0) rfl rfl rfl Z25 rfl rfl) (fun _ => ?_)
 refine o_end ?_
 refine za1 ?_
 refine c_ret ?_
 exact x_r1 () Try.results60 (rv_cell rfl G25 Z25 (fun w h => h.zaf (i := 0) rfl) rfl) rfl (fun w h => za6 [2, 3, 1] (by decide) rfl w h)

/-! ### loop.example/g01098/impl.told: function 61 -/
def impl_told.f (k : Nat) (a0_0 : Int) (l0_1 : List SStep) (l0_2 : List Int) : Option (Int × (List SStep) × (List Int) × Bool) := (impl_IsPlan.f k a0_0 l0_1 l0_2).bind fun b6 => if b6 = true then (some (a0_0, l0_1, l0_2, true)) else (some (0, ([] : List SStep), ([] : List Int), false))
set_option maxHeartbeats 600000 in
set_option maxRecDepth 100000 in
theorem impl_told.calls (k : Nat) {w0 ws : World} {P0 : Nat → Prop} (a0_0 : Int) (A0_1 : Option Addr) (c0_1 : Nat) (n0_1 : Nat) (l0_1 : List SStep) (A0_2 : Option Addr) (c0_2 : Nat) (n0_2 : Nat) (l0_2 : List Int) (Z : Below w0.heap.size w0 ws) (hF : Fr w0 ws P0 [row kStep 107 (.slice A0_1 n0_1 c0_1) l0_1, row (Kd.int .i64) 3 (.slice A0_2 n0_2 c0_2) l0_2] ws)  (r_1 : Int) (r_2 : List SStep) (r_5 : List Int) (r_8 : Bool) (h : impl_told.f k a0_0 l0_1 l0_2 = some (r_1, r_2, r_5, r_8)) :
  Calls Try.prog 61 #[.agg #[.int .i64 a0_0, .slice A0_1 n0_1 c0_1, .slice A0_2 n0_2 c0_2]] ws (Post1 w0 ws P0 (fun ((q_3, q_4, q_6, q_7) : (Option Addr) × Nat × (Option Addr) × Nat) => .tuple #[.agg #[.int .i64 r_1, .slice q_3 r_2.length q_4, .slice q_6 r_5.length q_7], .bool r_8]) (fun ((q_3, q_4, q_6, q_7) : (Option Addr) × Nat × (Option Addr) × Nat) => [row kStep 107 (.slice q_3 r_2.length q_4) r_2, row (Kd.int .i64) 3 (.slice q_6 r_5.length q_7) r_5])) := by
 unfold impl_told.f at h
 obtain rfl := (hF.row_C (i := 0) rfl).2.1
 obtain rfl := (hF.row_C (i := 1) rfl).2.1
 refine enter Try.func61 rfl Try.ntmps61 rfl hF ?_
 refine c_seq ?_
 refine za0 ?_
 refine o_e rfl (e_box rfl) (fun g1 => ?_)
 refine o_e rfl (zak V25 rfl) (fun g3 => ?_)
 refine o_q rfl rfl (q_asg rfl) ?_
 refine o_end ?_
 refine za1 ?_
 refine c_seq ?_
 refine c_seq ?_
 refine za0 ?_
 refine o_q rfl rfl (q_ldB G25 Z25 rfl (fun w h => h.zaf (i := 1) rfl) rfl) ?_
 refine za9 h (fun b6 hx5 h => ?_) rfl
 refine o_e rfl (za4 0 Z Try.func90 N90 rfl rfl rfl (fun w P1 hF hB hS hT => impl_IsPlan.calls k a0_0 A0_1 c0_1 l0_1.length l0_1 A0_2 c0_2 l0_2.length l0_2 hB hF (hT 2 _ rfl).row (hT 2 _ rfl).cap (hT 3 _ rfl).row (hT 3 _ rfl).cap _ hx5)) (fun _ => ?_)
 refine o_q rfl rfl (q_not rfl) ?_
 refine o_end ?_
 refine za1 ?_
 refine zaw _ rfl (fun hb7 => ?_) (fun hb7 => ?_)
 ·replace hb7 := nt_t hb7
  replace h := bb_f hb7 h
  refine c_seq ?_
  refine za0 ?_
  refine o_q rfl rfl (q_build (vs := []) (cs := [.int .i64 0, .slice none 0 0, .slice none 0 0]) rfl rfl) ?_
  refine o_e rfl (zal (i := 0) rfl rfl rfl Z25 rfl rfl) (fun _ => ?_)
  refine o_q rfl rfl (q_asg rfl) ?_
  refine o_end ?_
  refine za1 ?_
  refine c_ret ?_
  refine zaj ?_
  refine x_nil kStep 107 ?_
  refine x_nil (Kd.int .i64) 3 ?_
  have e0_ := Option.some.inj h; clear h
  have d0_ := (Prod.mk.inj e0_).1; have e1_ := (Prod.mk.inj e0_).2; clear e0_; subst d0_
  have d1_ := (Prod.mk.inj e1_).1; have e2_ := (Prod.mk.inj e1_).2; clear e1_; subst d1_
  have d2_ := (Prod.mk.inj e2_).1; have e3_ := (Prod.mk.inj e2_).2; clear e2_; subst d2_
  subst e3_
  exact x_r2 (none, 0, none, 0) Try.results61 (rv_cell rfl G25 Z25 (fun w h => h.zaf (i := 2) rfl) rfl) (zan rfl) rfl (fun w h => za6 [1, 0] (by decide) rfl w h)
 ·replace hb7 := nt_f hb7
  replace h := bb_t hb7 h
  refine zat ?_
  refine za1 ?_
  refine c_seq ?_
  refine za0 ?_
  refine o_q rfl rfl (q_ldB G25 Z25 rfl (fun w h => h.zaf (i := 1) rfl) rfl) ?_
  refine o_e rfl (zal (i := 0) rfl rfl rfl Z25 rfl rfl) (fun _ => ?_)
  refine o_q rfl rfl (q_asg rfl) ?_
  refine o_end ?_
  refine za1 ?_
  refine c_ret ?_
  have e0_ := Option.some.inj h; clear h
  have d0_ := (Prod.mk.inj e0_).1; have e1_ := (Prod.mk.inj e0_).2; clear e0_; subst d0_
  have d1_ := (Prod.mk.inj e1_).1; have e2_ := (Prod.mk.inj e1_).2; clear e1_; subst d1_
  have d2_ := (Prod.mk.inj e2_).1; have e3_ := (Prod.mk.inj e2_).2; clear e2_; subst d2_
  subst e3_
  exact x_r2 (A0_1, c0_1, A0_2, c0_2) Try.results61 (rv_cell rfl G25 Z25 (fun w h => h.zaf (i := 0) rfl) rfl) (zan rfl) rfl (fun w h => za6 [2, 3] (by decide) rfl w h)

/-! ### loop.example/g01098/impl.BinaryPlan: function 32 -/
def impl_BinaryPlan.r0 : Int × Int → ((List SStep) × Int) → Option ((List SStep) × Int)
 | (ix_, y_), (l21, i24) => (impl_maker_multiply.f 1 l21 [] i24 i24).bind fun (i29, l30) => if y_ = 1 then ((impl_maker_multiply.f 1 l30 [] i29 0).bind fun (i35, l36) => some (l36, i35)) else (some (l30, i29))
def impl_BinaryPlan.f (k : Nat) (a0 : Int) : Option (Int × (List SStep) × (List Int) × Bool) := (impl_isNumber.f a0).bind fun b4 => if b4 = true then ((impl_newMaker.f 1).bind fun _ => (impl_digits.f k a0 2).bind fun l13 => (ct l13 (0 : Int) (w64 ((l13.length : Int) - 1))).bind fun l16 => (bw_int.f l16).bind fun _ => (rngB l16 (impl_BinaryPlan.r0) ([], 0)).bind fun (l26, i27) => (impl_maker_plan.f 1 l26 [] ([i27] : List Int)).bind fun _ => (impl_told.f k 1 l26 ([i27] : List Int)).bind fun (i44, l45, l46, b47) => some (i44, l45, l46, b47)) else (some (0, ([] : List SStep), ([] : List Int), false))
set_option maxHeartbeats 600000 in
set_option maxRecDepth 100000 in
theorem impl_BinaryPlan.calls (k : Nat) {w0 ws : World} {P0 : Nat → Prop} (a0 : Int) (Z : Below w0.heap.size w0 ws) (hF : Fr w0 ws P0 [] ws)  (r_1 : Int) (r_2 : List SStep) (r_5 : List Int) (r_8 : Bool) (h : impl_BinaryPlan.f k a0 = some (r_1, r_2, r_5, r_8)) :
  Calls Try.prog 32 #[.int .i64 a0] ws (Post1 w0 ws P0 (fun ((q_3, q_4, q_6, q_7) : (Option Addr) × Nat × (Option Addr) × Nat) => .tuple #[.agg #[.int .i64 r_1, .slice q_3 r_2.length q_4, .slice q_6 r_5.length q_7], .bool r_8]) (fun ((q_3, q_4, q_6, q_7) : (Option Addr) × Nat × (Option Addr) × Nat) => [row kStep 107 (.slice q_3 r_2.length q_4) r_2, row (Kd.int .i64) 3 (.slice q_6 r_5.length q_7) r_5])) := by
 unfold impl_BinaryPlan.f at h
 refine enterM Try.func32 rfl Try.ntmps32 rfl hF ?_
 refine c_seq ?_
 refine za0 ?_
 refine o_e rfl (zak V25 rfl) (fun g1 => ?_)
 refine o_q rfl rfl (q_asg rfl) ?_
 refine o_end ?_
 refine za1 ?_
 refine c_seq ?_
 refine c_seq ?_
 refine za0 ?_
 refine o_q rfl rfl (za2 rfl) ?_
 refine za9 h (fun b4 hx3 h => ?_) rfl
 refine o_e rfl (za4 0 Z Try.func74 N74 rfl rfl rfl (fun w P1 hF hB hS hT => impl_isNumber.calls a0 hB hF _ hx3)) (fun _ => ?_)
 refine o_q rfl rfl (q_not rfl) ?_
 refine o_end ?_
 refine za1 ?_
 refine zaw _ rfl (fun hb5 => ?_) (fun hb5 => ?_)
 ·replace hb5 := nt_t hb5
  replace h := bb_f hb5 h
  refine c_seq ?_
  refine za0 ?_
  refine o_q rfl rfl (q_build (vs := []) (cs := [.int .i64 0, .slice none 0 0, .slice none 0 0]) rfl rfl) ?_
  refine o_e rfl (zal (i := 0) rfl rfl rfl Z25 rfl rfl) (fun _ => ?_)
  refine o_q rfl rfl (q_asg rfl) ?_
  refine o_end ?_
  refine za1 ?_
  refine c_ret ?_
  refine zaj ?_
  refine x_nil kStep 107 ?_
  refine x_nil (Kd.int .i64) 3 ?_
  have e0_ := Option.some.inj h; clear h
  have d0_ := (Prod.mk.inj e0_).1; have e1_ := (Prod.mk.inj e0_).2; clear e0_; subst d0_
  have d1_ := (Prod.mk.inj e1_).1; have e2_ := (Prod.mk.inj e1_).2; clear e1_; subst d1_
  have d2_ := (Prod.mk.inj e2_).1; have e3_ := (Prod.mk.inj e2_).2; clear e2_; subst d2_
  subst e3_
  refine x_plainM (.inl rfl) ?_
  exact x_r2 (none, 0, none, 0) Try.results32 (rv_cell rfl G25 Z25 (fun w h => h.zaf (i := 2) rfl) rfl) (zan rfl) rfl (fun w h => za6 [1, 0] (by decide) rfl w h)
 ·replace hb5 := nt_f hb5
  replace h := bb_t hb5 h
  refine zat ?_
  refine za1 ?_
  refine c_seq ?_
  refine za0 ?_
  refine za9 h (fun _ hx6 h => ?_) rfl
  refine o_e rfl (za4 0 Z Try.func54 N54 rfl rfl rfl (fun w P1 hF hB hS hT => impl_newMaker.calls 1 hB hF hx6)) (fun c7 => ?_)
  refine o_e rfl (zak V60 rfl) (fun g8 => ?_)
  refine o_e rfl (zak V3 rfl) (fun g10 => ?_)
  refine o_e rfl (zah (i := 1) rfl rfl rfl rfl Z60 rfl rfl) (fun _ => ?_)
  refine o_e rfl (zah (i := 0) rfl rfl rfl rfl Z3 rfl rfl) (fun _ => ?_)
  refine o_end ?_
  refine za1 ?_
  refine c_seq ?_
  refine za0 ?_
  refine o_q rfl rfl (za2 rfl) ?_
  refine za9 h (fun l13 hx12 h => ?_) rfl
  refine o_e rfl (za4 0 Z Try.func55 N55 rfl rfl rfl (fun w P1 hF hB hS hT => impl_digits.calls k a0 2 hB hF _ hx12)) (cur2 (fun A14 c15 => ?_))
  refine o_q rfl rfl (q_asg rfl) ?_
  refine o_end ?_
  refine za1 ?_
  refine c_seq ?_
  refine c_seq ?_
  refine za0 ?_
  refine o_q rfl rfl (za2 rfl) ?_
  refine o_q rfl rfl (za2 rfl) ?_
  refine o_q rfl rfl (q_len Try.underlying23 rfl) ?_
  refine o_q rfl rfl (zb5 rfl rfl) ?_
  refine za9 h (fun l16 hz17 h => ?_) rfl
  refine zb7 (p := l13.length = l13.length ∧ l13.length ≤ c15) (fun w h => h.row_nc (i := 0) rfl) (fun hk18 => ?_)
  refine o_q rfl rfl (q_ctv Try.underlying23 Z3 rfl rfl ⟨_, rfl⟩ hk18.1 hk18.2 hz17) ?_
  refine za9 h (fun _ hx19 h => ?_) rfl
  refine o_e rfl (za4 0 Z Try.func58 N58 rfl rfl rfl (fun w P1 hF hB hS hT => bw_int.calls (cutA A14 c15 (0 : Int).toNat 1) (c15 - (0 : Int).toNat) l16.length l16 hB hF (stab_cut (dk := (Kd.int .i64)) rfl hz17 hk18.2 (hT 0 _ rfl).row) (ct_cap hz17 hk18.1 hk18.2) hx19)) (fun c20 => ?_)
  refine o_end ?_
  refine za1 ?_
  refine zam ?_
  refine bindE2 h (fun l26 i27 hrg25 h => ?_) rfl
  intro w_ hw_
  have hw1_ : Fr w0 _ _ ([box g10 3 #[.int .i64 0], box g8 60 #[.pointer (some ⟨c7, 0, none⟩)], box c7 94 #[.int .i64 1, .slice none 0 0, .slice none 0 0], row kStep 107 (.slice none 0 0) [], row (Kd.int .i64) 3 (.slice none 0 0) [], box g1 25 #[.int .i64 0, .slice none 0 0, .slice none 0 0]] ++ [box c20 23 #[.slice (cutA A14 c15 (0 : Int).toNat 1) l16.length (c15 - (0 : Int).toNat)], row (Kd.int .i64) 3 (.slice A14 l13.length c15) l13]) w_ := za6 [2, 3, 4, 5, 6, 7, 0, 1] (by decide) rfl w_ hw_
  obtain ⟨P2_, hF2_, hst_, hT_, hc2_, hback_⟩ := hw1_.here Z
  have Z2_ := hF2_.bel
  refine wpIn_any (N := ⟨40, [], none⟩) (n := 3) ?_
  refine wp_rangeE (σ := (List SStep) × Int) (τ := (Option Addr) × Nat) (α := BackT l16) (fun x => #[Value.int .i64 x.1.1, .int .i64 x.1.2]) (fun _ => rfl) ([], 0) (none, 0) (fun s x => stB (impl_BinaryPlan.r0) s x.1) (fun ((l21, i24) : (List SStep) × Int) ((A22, c23) : (Option Addr) × Nat) => [box g10 3 #[.int .i64 i24], box g8 60 #[.pointer (some ⟨c7, 0, none⟩)], box c7 94 #[.int .i64 1, .slice A22 l21.length c23, .slice none 0 0], row kStep 107 (.slice A22 l21.length c23) l21, row (Kd.int .i64) 3 (.slice none 0 0) [], box g1 25 #[.int .i64 0, .slice none 0 0, .slice none 0 0]]) (fun x => [(23, .int .i64 x.1.2), (22, .int .i64 x.1.1)]) (fun x => [(8, .int .i64 x.1.2), (23, .int .i64 x.1.2), (22, .int .i64 x.1.1)]) rfl (enters9 Try.func116 N116 rfl) hF2_ (bk_int c20 (cutA A14 c15 (0 : Int).toNat 1) (c15 - (0 : Int).toNat) l16 (stab_cut (dk := (Kd.int .i64)) rfl hz17 hk18.2 (hT_ 1 _ rfl).row) (Own.box (hT_ 0 _ rfl))) (fun x => act_zip2) ?_ ?_ ?_ ?_
  ·rintro ⟨l21, i24⟩ ⟨l21', i24'⟩ ⟨A22, c23⟩ ⟨A22', c23'⟩ W_ h1_ h2_
   have e_ := box_det h1_ h2_ (i := 0) (i' := 0) rfl rfl
   have d_ := congrArg (fun a : Array Value => a.getD 0 (.bool false)) e_
   injection d_ with d1_ d2_; subst d2_
   have e_ := box_det h1_ h2_ (i := 2) (i' := 2) rfl rfl
   have d_ := congrArg (fun a : Array Value => a.getD 1 (.bool false)) e_
   injection d_ with d1_ d2_ d3_
   subst d1_; subst d3_
   have d4_ : l21 = l21' := C_det (fun _ x y cs a b => by have e_ := (show cs = _ from a).symm.trans (show cs = _ from b); cases x; cases y; simpa using e_) d2_ (h1_.row_C (i := 3) rfl).1 (h2_.row_C (i := 3) rfl).1; subst d4_
   rfl
  ·intro l_ s_ t_ x_ W_ P_ Z_ hst2_
   refine za0 ?_
   refine o_q rfl rfl (q_asg rfl) ?_
   refine o_end ?_
   intro w3_ hw3_
   exact ⟨rfl, hw3_⟩
  ·intro l_ pre_ x_ t_ W_ P_ Z_ hst2_ hlen_ s_ hs_ s2_ hs2_
   obtain ⟨z_, h, hz_⟩ := rng_round hrg25 pre_ x_ hlen_
   rw [← hs_] at h hz_
   obtain rfl : z_ = s2_ := hz_.symm.trans hs2_
   clear hs_ hs2_ hz_ hlen_ pre_ hrg25
   obtain ⟨⟨ix_, y_⟩, hx_⟩ := x_
   obtain ⟨A22, c23⟩ := t_
   obtain ⟨l21, i24⟩ := s_; obtain ⟨l21_, i24_⟩ := z_
   have Z := Z_
   replace h : ((impl_maker_multiply.f 1 l21 [] i24 i24).bind fun (i29, l30) => if y_ = 1 then ((impl_maker_multiply.f 1 l30 [] i29 0).bind fun (i35, l36) => some (l36, i35)) else (some (l30, i29))) = some (l21_, i24_) := h
   refine zam ?_
   refine c_seq ?_
   refine za0 ?_
   refine o_q rfl rfl (q_ldb Y60 rfl (fun w h => h.zaf (i := 1) rfl) rfl) ?_
   refine o_q rfl rfl (q_ldb Y3 rfl (fun w h => h.zaf (i := 0) rfl) rfl) ?_
   refine o_q rfl rfl (q_ldb Y3 rfl (fun w h => h.zaf (i := 0) rfl) rfl) ?_
   refine o_pick [2, 3, 0, 1, 4, 5] (by decide) rfl ?_
   refine bindE2 h (fun i29 l30 hx28 h => ?_) rfl
   refine o_e rfl (za4 2 Z Try.func57 N57 rfl rfl rfl (fun w P1 hF hB hS hT => impl_maker_multiply.calls c7 1 A22 c23 l21.length l21 none 0 0 [] i24 i24 hB hF (hT 2 _ rfl).row (hT 2 _ rfl).cap _ _ hx28)) (cur2 (fun A31 c32 => ?_))
   refine o_e rfl (zah (i := 2) rfl rfl rfl rfl Z3 rfl rfl) (fun _ => ?_)
   refine o_end ?_
   refine za1 ?_
   refine c_seq ?_
   refine za0 ?_
   refine o_q rfl rfl (za2 rfl) ?_
   refine o_q rfl rfl (q_eql rfl rfl) ?_
   refine o_end ?_
   refine za1 ?_
   refine zaw _ rfl (fun hb33 => ?_) (fun hb33 => ?_)
   ·skip
    replace h := br_t hb33 h
    refine za0 ?_
    refine o_q rfl rfl (q_ldb Y60 rfl (fun w h => h.zaf (i := 3) rfl) rfl) ?_
    refine o_q rfl rfl (q_ldb Y3 rfl (fun w h => h.zaf (i := 2) rfl) rfl) ?_
    refine bindE2 h (fun i35 l36 hx34 h => ?_) rfl
    refine o_e rfl (za4 2 Z Try.func57 N57 rfl rfl rfl (fun w P1 hF hB hS hT => impl_maker_multiply.calls c7 1 A31 c32 l30.length l30 none 0 0 [] i29 0 hB hF (hT 2 _ rfl).row (hT 2 _ rfl).cap _ _ hx34)) (cur2 (fun A37 c38 => ?_))
    refine o_e rfl (zah (i := 2) rfl rfl rfl rfl Z3 rfl rfl) (fun _ => ?_)
    refine o_end ?_
    refine zao ?_
    have e0_ := Option.some.inj h; clear h
    have d0_ := (Prod.mk.inj e0_).1; have e1_ := (Prod.mk.inj e0_).2; clear e0_; subst d0_
    subst e1_
    intro w3_ hw3_
    exact ⟨(A37, c38), (fun w h => za6 [2, 3, 0, 1, 4, 5] (by decide) rfl w h) w3_ hw3_⟩
   ·skip
    replace h := br_f hb33 h
    refine zat ?_
    refine zao ?_
    have e0_ := Option.some.inj h; clear h
    have d0_ := (Prod.mk.inj e0_).1; have e1_ := (Prod.mk.inj e0_).2; clear e0_; subst d0_
    subst e1_
    intro w3_ hw3_
    exact ⟨(A31, c32), (fun w h => za6 [2, 3, 0, 1, 4, 5] (by decide) rfl w h) w3_ hw3_⟩
  ·intro D_ xs_ W_ t_ s_ hs_ hD_ hS_ hFW_ hdf_
   obtain rfl : s_ = (l26, i27) := hs_.trans (rng_done hrg25 hS_)
   clear hs_ hS_
   obtain ⟨A22o, c23o⟩ := t_
   obtain ⟨P4_, hF4_, hst4_, _, hc4_, hback4_⟩ := (show Fr w0 w_ P2_ ([box g10 3 #[.int .i64 i27], box g8 60 #[.pointer (some ⟨c7, 0, none⟩)], box c7 94 #[.int .i64 1, .slice A22o l26.length c23o, .slice none 0 0], row kStep 107 (.slice A22o l26.length c23o) l26, row (Kd.int .i64) 3 (.slice none 0 0) [], box g1 25 #[.int .i64 0, .slice none 0 0, .slice none 0 0]] ++ []) W_ from hFW_).here Z2_
   have hmk_ := mark_stab hc4_ hdf_
   have hws_ : ws.heap.size ≤ D_ := Nat.le_trans (hw_.keptB Z).kept.1 hD_
   have hbk_ : ∀ (Ts : List (Thing w0.heap.size)) w, Fr w0 W_ P4_ Ts w → Fr w0 ws P0 Ts w := fun Ts w h => hback_ _ _ (hback4_ _ _ h)
   refine (show X ⟨40, [{ target := .collected D_, args := #[] }], none⟩ w0 W_ P4_ .normal _ _ _ from ?_) W_ hF4_
   have Zo_ := Z; have Z := hF4_.bel
   refine zao ?_
   refine za1 ?_
   refine c_seq ?_
   refine za0 ?_
   refine o_q rfl rfl (q_ldb Y60 rfl (fun w h => h.zaf (i := 1) rfl) rfl) ?_
   refine o_q rfl rfl (q_ldb Y3 rfl (fun w h => h.zaf (i := 0) rfl) rfl) ?_
   refine o_e rfl (e_lit (vs := [(0, .int .i64 i27)]) (cs := [.int .i64 i27]) (Kd.int .i64) ([i27] : List Int) Try.underlying23 I3 (by decide) rfl (by decide) rfl rfl (fun _ _ => Kd.zab _)) (cur2 (fun A39 c40 => ?_))
   refine o_pick [3, 4, 0, 1, 2, 5, 6] (by decide) rfl ?_
   refine za9 h (fun _ hx42 h => ?_) rfl
   refine o_e rfl (za4 3 Z Try.func60 N60 rfl rfl rfl (fun w P1 hF hB hS hT => impl_maker_plan.calls c7 1 A22o c23o l26.length l26 none 0 0 [] A39 c40 (([i27] : List Int).length) ([i27] : List Int) hB hF (hT 2 _ rfl).row (hT 2 _ rfl).cap hx42)) (fun _ => ?_)
   refine bindE4 h (fun i44 l45 l46 b47 hx43 h => ?_) rfl
   refine o_e rfl (za4 2 Z Try.func61 N61 rfl rfl rfl (fun w P1 hF hB hS hT => impl_told.calls k 1 A22o c23o l26.length l26 A39 c40 (([i27] : List Int).length) ([i27] : List Int) hB hF _ _ _ _ hx43)) (cur4 (fun A48 c49 A50 c51 => ?_))
   refine o_q rfl rfl (q_ext rfl rfl) ?_
   refine o_q rfl rfl (q_ext rfl rfl) ?_
   refine o_e rfl (zal (i := 6) rfl rfl rfl Z25 rfl rfl) (fun _ => ?_)
   refine o_q rfl rfl (q_asg rfl) ?_
   refine o_end ?_
   refine za1 ?_
   refine c_ret ?_
   have e0_ := Option.some.inj h; clear h
   have d0_ := (Prod.mk.inj e0_).1; have e1_ := (Prod.mk.inj e0_).2; clear e0_; subst d0_
   have d1_ := (Prod.mk.inj e1_).1; have e2_ := (Prod.mk.inj e1_).2; clear e1_; subst d1_
   have d2_ := (Prod.mk.inj e2_).1; have e3_ := (Prod.mk.inj e2_).2; clear e2_; subst d2_
   subst e3_
   refine x_mark (D := D_) Zo_ hws_ hmk_ Z hbk_ ?_
   exact x_r2 (A48, c49, A50, c51) Try.results32 (rv_cell rfl G25 Z25 (fun w h => h.zaf (i := 6) rfl) rfl) (zan rfl) rfl (fun w h => za6 [0, 1] (by decide) rfl w h)

end Go.Proofs.Ytiaohjciddbpoaa.H8
