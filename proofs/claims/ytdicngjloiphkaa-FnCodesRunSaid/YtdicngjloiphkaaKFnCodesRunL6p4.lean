import Derived.Test.YtdicngjloiphkaaKFnCodesRunL6p3
namespace Go.Proofs.Ytdicngjloiphkaa.L6
open Go.RowKit Go.Proofs.Ytdicngjloiphkaa.Frame Go.Proofs.YtdicngjloiphkaaW.PrintLast Go.Proofs.Ytdicngjloiphkaa.Hand
open Go.Proofs.YtdicngjloiphkaaW.PrintWords hiding mn mx
set_option linter.unusedVariables false
/-! ### slices.Max[[]int,int]: function 134 -/
def slices_Max_int_int.l0 (l0 : List Int) : Nat → Int → Int → Option Int
 | 0, _, _ => none
 | k9 + 1, i5, i6 => if i6 < (l0.length : Int) then ((gt l0 i6).bind fun y19 => slices_Max_int_int.l0 l0 k9 (mx i5 y19) (w64 (i6 + 1))) else (some i5)
def slices_Max_int_int.f (k : Nat) (l0 : List Int) : Option Int := if (l0.length : Int) < 1 then (none) else ((gt l0 0).bind fun y4 => (slices_Max_int_int.l0 l0 k y4 1).bind fun i5 => some i5)
set_option maxHeartbeats 600000 in
set_option maxRecDepth 100000 in
theorem slices_Max_int_int.calls (k : Nat) {w0 ws : World} {P0 : Nat → Prop} (A0 : Option Addr) (c0 : Nat) (n0 : Nat) (l0 : List Int) (Z : Below w0.heap.size w0 ws) (hF : Fr w0 ws P0 [] ws) (R0 : Stable ws P0 (fun w => Kd.C (Kd.int .i64) w A0 n0 l0)) (hc0 : n0 ≤ c0) (r_1 : Int) (h : slices_Max_int_int.f k l0 = some r_1) :
  Calls Try.prog 134 #[.slice A0 n0 c0] ws (Post1 w0 ws P0 (fun (_ : Unit) => .int .i64 r_1) (fun (_ : Unit) => [])) := by
 unfold slices_Max_int_int.f at h
 obtain rfl := (R0 ws (KeptB.refl _ _)).1
 refine enter Try.func134 rfl Try.ntmps134 rfl hF ?_
 refine c_seq ?_
 refine za0 ?_
 refine o_q rfl rfl (q_asg rfl) ?_
 refine o_end ?_
 refine za1 ?_
 refine c_seq ?_
 refine c_seq ?_
 refine za0 ?_
 refine o_q rfl rfl (za2 rfl) ?_
 refine o_q rfl rfl (q_len Try.underlying25 rfl) ?_
 refine o_q rfl rfl (q_lss rfl rfl) ?_
 refine o_end ?_
 refine za1 ?_
 refine zau _ rfl (fun hb1 => ?_) (fun hb1 => ?_)
 ·skip
  replace h := br_t hb1 h
  refine za0 ?_
  exact noneE h
 ·skip
  replace h := br_f hb1 h
  refine zao ?_
  refine za1 ?_
  refine c_seq ?_
  refine za0 ?_
  refine o_q rfl rfl (za2 rfl) ?_
  refine zaz (p := Sh A0 l0.length l0.length) (fun w h => f_sh (dk := (Kd.int .i64)) h (fun w h => R0.now Z h)) (fun hq2 => ?_)
  refine za7 h (fun y4 hg3 h => ?_) rfl
  refine o_q rfl rfl (q_ix Try.underlying25 Z3 rfl rfl hq2 hg3) ?_
  refine o_q rfl rfl (q_lde (off := 0) Y3 rfl rfl (fun w h => R0.now Z h) hg3 (fun _ _ h => h) rfl) ?_
  refine o_q rfl rfl (q_asg rfl) ?_
  refine o_end ?_
  refine za1 ?_
  refine c_seq ?_
  refine c_seq ?_
  refine za0 ?_
  refine o_q rfl rfl (q_asg rfl) ?_
  refine o_end ?_
  refine za1 ?_
  refine zaj ?_
  refine za7 h (fun o14 hl13 hR12 => ?_) rfl
  clear h
  refine zax (σ := Int × Int) (fun k9 ((i5, i6) : Int × Int) => slices_Max_int_int.l0 l0 k9 i5 i6 = some o14) [3, 4, 12, 13, 14, 15, 16, 17, 18, 19, 20, 21, 22, 23] (fun ((i5, i6) : Int × Int) => [(3, .int .i64 i5), (4, .int .i64 i6)]) (fun ((i5, i6) : Int × Int) => []) k (y4, 1) hl13 ⟨rfl, rfl, trivial⟩ (fun w h => h) ?_
  refine natC (cur2 (fun i5 i6 => fun U15 hJ_ => ?_)) (fun k9 => (cur2 (fun i5 i6 => fun U15 hJ_ => ?_)))
  ·skip
   replace hJ_ : slices_Max_int_int.l0 l0 0 i5 i6 = some o14 := hJ_
   rw [slices_Max_int_int.l0] at hJ_
   exact noneE hJ_
  ·skip
   clear hl13
   have h := hJ_; clear hJ_
   replace h : slices_Max_int_int.l0 l0 (k9 + 1) i5 i6 = some o14 := h
   rw [slices_Max_int_int.l0] at h
   refine c_seq ?_
   refine c_seq ?_
   refine za0 ?_
   refine o_q rfl rfl (za2 rfl) ?_
   refine o_q rfl rfl (za2 rfl) ?_
   refine o_q rfl rfl (q_len Try.underlying25 rfl) ?_
   refine o_q rfl rfl (q_lss rfl rfl) ?_
   refine o_end ?_
   refine za1 ?_
   refine zau _ rfl (fun hb17 => ?_) (fun hb17 => ?_)
   ·skip
    replace h := br_t hb17 h
    refine zao ?_
    refine za1 ?_
    refine c_seq ?_
    refine zaj ?_
    refine za0 ?_
    refine o_q rfl rfl (za2 rfl) ?_
    refine o_q rfl rfl (za2 rfl) ?_
    refine o_q rfl rfl (za2 rfl) ?_
    refine za7 h (fun y19 hg18 h => ?_) rfl
    refine o_q rfl rfl (q_ix Try.underlying25 Z3 rfl rfl hq2 hg18) ?_
    refine o_q rfl rfl (q_lde (off := 0) Y3 rfl rfl (fun w h => R0.now Z h) hg18 (fun _ _ h => h) rfl) ?_
    refine o_q rfl rfl (q_max rfl rfl) ?_
    refine o_q rfl rfl (q_asg rfl) ?_
    refine o_end ?_
    refine zal ?_
    refine za1 ?_
    refine za0 ?_
    refine o_q rfl rfl (za2 rfl) ?_
    refine o_q rfl rfl (zb8 rfl rfl) ?_
    refine o_q rfl rfl (q_asg rfl) ?_
    refine o_end ?_
    refine zam k9 (mx i5 y19, w64 (i6 + 1)) (Nat.lt_succ_self _) h ⟨rfl, rfl, trivial⟩ (fun w h => za6 [] (by decide) rfl w h) ?_
    repeat (first | exact zac _ _ | refine zaf rfl ?_ | refine zad rfl ?_ | refine zah rfl ?_)
   ·skip
    replace h := br_f hb17 h
    refine zb4 ?_
    refine za8 ?_
    refine za8 ?_
    have e_ := Option.some.inj h; replace h := hR12; rw [← e_] at h; clear e_
    refine x_hit ?_
    refine za1 ?_
    refine c_seq ?_
    refine za0 ?_
    refine o_q rfl rfl (za2 rfl) ?_
    refine o_q rfl rfl (q_asg rfl) ?_
    refine o_end ?_
    refine za1 ?_
    refine c_ret ?_
    have e0_ := Option.some.inj h; clear h
    subst e0_
    exact x_r1 () Try.results134 (zai rfl) rfl (fun w h => za6 [] (by decide) rfl w h)

/-! ### loop.example/g01098/impl.IsPlan$1: function 133 -/
def impl_IsPlan_1.f (k : Nat) (l0 : List Int) : Option Bool := (slices_Max_int_int.f k l0).bind fun i2 => some (decide (1000000 < i2))
set_option maxHeartbeats 600000 in
set_option maxRecDepth 100000 in
theorem impl_IsPlan_1.calls (k : Nat) {w0 ws : World} {P0 : Nat → Prop} (A0 : Option Addr) (c0 : Nat) (n0 : Nat) (l0 : List Int) (Z : Below w0.heap.size w0 ws) (hF : Fr w0 ws P0 [] ws) (R0 : Stable ws P0 (fun w => Kd.C (Kd.int .i64) w A0 n0 l0)) (hc0 : n0 ≤ c0) (r_1 : Bool) (h : impl_IsPlan_1.f k l0 = some r_1) :
  Calls Try.prog 133 #[.slice A0 n0 c0] ws (Post1 w0 ws P0 (fun (_ : Unit) => .bool r_1) (fun (_ : Unit) => [])) := by
 unfold impl_IsPlan_1.f at h
 obtain rfl := (R0 ws (KeptB.refl _ _)).1
 refine enter Try.func133 rfl Try.ntmps133 rfl hF ?_
 refine c_seq ?_
 refine za0 ?_
 refine o_q rfl rfl (q_asg rfl) ?_
 refine o_end ?_
 refine za1 ?_
 refine c_seq ?_
 refine za0 ?_
 refine o_q rfl rfl (za2 rfl) ?_
 refine za7 h (fun i2 hx1 h => ?_) rfl
 refine o_e rfl (zab 0 Z Try.func134 N134 rfl rfl rfl (fun w P1 hF hB hS hT => slices_Max_int_int.calls k A0 c0 l0.length l0 hB hF (hS _ R0) hc0 _ hx1)) (fun _ => ?_)
 refine o_q rfl rfl (q_gtr rfl rfl) ?_
 refine o_q rfl rfl (q_asg rfl) ?_
 refine o_end ?_
 refine za1 ?_
 refine c_ret ?_
 have e0_ := Option.some.inj h; clear h
 subst e0_
 exact x_r1 () Try.results133 (zai rfl) rfl (fun w h => za6 [] (by decide) rfl w h)

/-! ### slices.IndexFunc[[][]int,[]int]: function 174 -/
def slices_IndexFunc_int_int_2.l0 (k : Nat) : (List (List Int)) → Int → Option ((Int) ⊕ (Unit))
 | [], i1 => some (.inr ())
 | y2 :: ys3, i1 => (impl_IsPlan_1.f k y2).bind fun b15 => if b15 = true then (some (.inl i1)) else (slices_IndexFunc_int_int_2.l0 k ys3 (i1 + 1))
def slices_IndexFunc_int_int_2.f (k : Nat) (l0 : List (List Int)) : Option Int := (slices_IndexFunc_int_int_2.l0 k l0 0).bind fun o_ => match o_ with | .inl r_ => some r_ | .inr _ => some (-1)
set_option maxHeartbeats 600000 in
set_option maxRecDepth 100000 in
theorem slices_IndexFunc_int_int_2.calls (k : Nat) {w0 ws : World} {P0 : Nat → Prop} (A0 : Option Addr) (c0 : Nat) (n0 : Nat) (H0 : Hd) (l0 : List (List Int)) (Z : Below w0.heap.size w0 ws) (hF : Fr w0 ws P0 [] ws) (R0 : Stable ws P0 (fun w => Kd.C (gk 3 (Kd.int .i64)) w A0 n0 (zp H0 l0))) (hc0 : n0 ≤ c0) (r_1 : Int) (h : slices_IndexFunc_int_int_2.f k l0 = some r_1) :
  Calls Try.prog 174 #[.slice A0 n0 c0, .func (.func 133) #[] #[]] ws (Post1 w0 ws P0 (fun (_ : Unit) => .int .i64 r_1) (fun (_ : Unit) => [])) := by
 unfold slices_IndexFunc_int_int_2.f at h
 obtain rfl := (zp_len _ _).symm.trans (R0 ws (KeptB.refl _ _)).1
 refine enter Try.func174 rfl Try.ntmps174 rfl hF ?_
 refine c_seq ?_
 refine za0 ?_
 refine o_q rfl rfl (q_asg rfl) ?_
 refine o_end ?_
 refine za1 ?_
 refine c_seq ?_
 refine c_seq ?_
 refine za0 ?_
 refine o_q rfl rfl (za2 rfl) ?_
 refine o_q rfl rfl (q_len Try.underlying73 rfl) ?_
 refine o_q rfl rfl (za2 rfl) ?_
 refine o_end ?_
 refine za1 ?_
 refine zaj ?_
 refine za7 h (fun o9 hl8 hR7 => ?_) rfl
 clear h
 refine zba (p := l0.length ≤ 9223372036854775807) (fun w h => (R0.now Z h).2.1) (fun hm6 => ?_)
 refine zax (σ := (List (List Int)) × Int) (fun k4 ((ys3, i1) : (List (List Int)) × Int) => Rg l0 i1 ys3 ∧ ys3.length = k4 ∧ slices_IndexFunc_int_int_2.l0 k ys3 i1 = some o9) [4, 5, 8, 9, 10, 11, 12, 13, 14, 15, 16, 17, 18] (fun ((ys3, i1) : (List (List Int)) × Int) => [(8, .int .i64 i1)]) (fun ((ys3, i1) : (List (List Int)) × Int) => []) l0.length (l0, 0) ⟨Rg.start _, rfl, hl8⟩ ⟨rfl, trivial⟩ (fun w h => h) ?_
 refine fun k4 => cur2 (listC (fun i1 U10 hJ_ => ?_) (fun y2 ys3 i1 U10 hJ_ => ?_))
 ·skip
  clear hl8
  have hr5 := hJ_.1; have hk11 := hJ_.2.1; have h := hJ_.2.2; clear hJ_
  replace h : slices_IndexFunc_int_int_2.l0 k [] i1 = some o9 := h
  rw [slices_IndexFunc_int_int_2.l0] at h
  refine c_seq ?_
  refine za0 ?_
  refine o_q rfl rfl (q_lss rfl rfl) ?_
  refine o_end ?_
  refine za1 ?_
  refine c_seq ?_
  refine zb3 (congrArg Value.bool hr5.ge) ?_
  refine zb4 ?_
  refine za8 ?_
  refine za8 ?_
  have e_ := Option.some.inj h; replace h := hR7; rw [← e_] at h; clear e_
  refine x_hit ?_
  refine za1 ?_
  refine c_seq ?_
  refine za0 ?_
  refine o_q rfl rfl (q_asg rfl) ?_
  refine o_end ?_
  refine za1 ?_
  refine c_ret ?_
  have e0_ := Option.some.inj h; clear h
  subst e0_
  exact x_r1 () Try.results174 (zai rfl) rfl (fun w h => za6 [] (by decide) rfl w h)
 ·skip
  clear hl8
  have hr5 := hJ_.1; have hk11 := hJ_.2.1; have h := hJ_.2.2; clear hJ_
  replace h : slices_IndexFunc_int_int_2.l0 k (y2 :: ys3) i1 = some o9 := h
  rw [slices_IndexFunc_int_int_2.l0] at h
  refine c_seq ?_
  refine za0 ?_
  refine o_q rfl rfl (q_lss rfl rfl) ?_
  refine o_end ?_
  refine za1 ?_
  refine c_seq ?_
  refine zb1 (congrArg Value.bool hr5.lt) ?_
  refine zao ?_
  refine za1 ?_
  refine c_seq ?_
  refine zaj ?_
  refine c_seq ?_
  refine za0 ?_
  refine o_q rfl rfl (za2 rfl) ?_
  refine o_q rfl rfl (q_asg rfl) ?_
  refine o_end ?_
  refine za1 ?_
  refine c_seq ?_
  refine za0 ?_
  refine o_q rfl rfl (za2 rfl) ?_
  refine o_q rfl rfl (za2 rfl) ?_
  refine o_q rfl rfl (za2 rfl) ?_
  refine zaz (p := Sh A0 l0.length (zp H0 l0).length) (fun w h => f_sh (dk := (gk 3 (Kd.int .i64))) h (fun w h => R0.now Z h)) (fun hq12 => ?_)
  refine o_q rfl rfl (q_ix Try.underlying73 Z25 rfl rfl hq12 (gt_zp hr5.get)) ?_
  refine zaz (p := y2.length ≤ hC H0 i1) (fun w h => (K_in (R0.now Z h) hr5.get).1) (fun hc13 => ?_)
  refine o_q rfl rfl (q_lde (off := 0) Y25 rfl rfl (fun w h => R0.now Z h) (gt_zp hr5.get) (fun _ _ h => h.1) rfl) ?_
  refine za7 h (fun b15 hx14 h => ?_) rfl
  refine o_e rfl (zab 0 Z Try.func133 N133 rfl rfl rfl (fun w P1 hF hB hS hT => impl_IsPlan_1.calls k (hA H0 i1) (hC H0 i1) y2.length y2 hB hF (stab_in (hS _ R0) hr5.get) hc13 _ hx14)) (fun _ => ?_)
  refine o_end ?_
  refine za1 ?_
  refine zau _ rfl (fun hb16 => ?_) (fun hb16 => ?_)
  ·skip
   replace h := bb_t hb16 h
   refine c_seq ?_
   refine za0 ?_
   refine o_q rfl rfl (za2 rfl) ?_
   refine o_q rfl rfl (q_asg rfl) ?_
   refine o_end ?_
   refine za1 ?_
   refine c_ret ?_
   refine zar ?_
   refine zaa ?_
   refine zaa ?_
   have e_ := Option.some.inj h; replace h := hR7; rw [← e_] at h; clear e_
   refine zar ?_
   refine zaa ?_
   have e0_ := Option.some.inj h; clear h
   subst e0_
   exact x_r1 () Try.results174 (zai rfl) rfl (fun w h => za6 [] (by decide) rfl w h)
  ·skip
   replace h := bb_f hb16 h
   refine zao ?_
   refine zal ?_
   refine za1 ?_
   refine za0 ?_
   refine o_q rfl rfl (q_up rfl rfl (hr5.up hm6)) ?_
   refine o_q rfl rfl (za2 rfl) ?_
   refine o_end ?_
   refine zam ys3.length (ys3, i1 + 1) (by rw [← hk11]; exact Nat.lt_succ_self _) ⟨hr5.step, rfl, h⟩ ⟨rfl, trivial⟩ (fun w h => za6 [] (by decide) rfl w h) ?_
   repeat (first | exact zac _ _ | refine zaf rfl ?_ | refine zad rfl ?_ | refine zah rfl ?_)

/-! ### slices.ContainsFunc[[][]int,[]int]: function 131 -/
def slices_ContainsFunc_int_int_2.f (k : Nat) (l0 : List (List Int)) : Option Bool := (slices_IndexFunc_int_int_2.f k l0).bind fun i2 => some (decide (0 ≤ i2))
set_option maxHeartbeats 600000 in
set_option maxRecDepth 100000 in
theorem slices_ContainsFunc_int_int_2.calls (k : Nat) {w0 ws : World} {P0 : Nat → Prop} (A0 : Option Addr) (c0 : Nat) (n0 : Nat) (H0 : Hd) (l0 : List (List Int)) (Z : Below w0.heap.size w0 ws) (hF : Fr w0 ws P0 [] ws) (R0 : Stable ws P0 (fun w => Kd.C (gk 3 (Kd.int .i64)) w A0 n0 (zp H0 l0))) (hc0 : n0 ≤ c0) (r_1 : Bool) (h : slices_ContainsFunc_int_int_2.f k l0 = some r_1) :
  Calls Try.prog 131 #[.slice A0 n0 c0, .func (.func 133) #[] #[]] ws (Post1 w0 ws P0 (fun (_ : Unit) => .bool r_1) (fun (_ : Unit) => [])) := by
 unfold slices_ContainsFunc_int_int_2.f at h
 obtain rfl := (zp_len _ _).symm.trans (R0 ws (KeptB.refl _ _)).1
 refine enter Try.func131 rfl Try.ntmps131 rfl hF ?_
 refine c_seq ?_
 refine za0 ?_
 refine o_q rfl rfl (q_asg rfl) ?_
 refine o_end ?_
 refine za1 ?_
 refine c_seq ?_
 refine za0 ?_
 refine o_q rfl rfl (za2 rfl) ?_
 refine o_q rfl rfl (za2 rfl) ?_
 refine za7 h (fun i2 hx1 h => ?_) rfl
 refine o_e rfl (zab 0 Z Try.func174 N174 rfl rfl rfl (fun w P1 hF hB hS hT => slices_IndexFunc_int_int_2.calls k A0 c0 l0.length H0 l0 hB hF (hS _ R0) hc0 _ hx1)) (fun _ => ?_)
 refine o_q rfl rfl (q_geq rfl rfl) ?_
 refine o_q rfl rfl (q_asg rfl) ?_
 refine o_end ?_
 refine za1 ?_
 refine c_ret ?_
 have e0_ := Option.some.inj h; clear h
 subst e0_
 exact x_r1 () Try.results131 (zai rfl) rfl (fun w h => za6 [] (by decide) rfl w h)

/-! ### loop.example/g01098/impl.IsPlan: function 67 -/
def impl_IsPlan.f (k : Nat) (a0_0 : Int) (l0_1 : List SStep) (l0_2 : List Int) : Option Bool := (impl_Plan_formed.f a0_0 l0_1 l0_2).bind fun b4 => if b4 = true then ((impl_Plan_exponents.f a0_0 l0_1 l0_2).bind fun l7 => (slices_ContainsFunc_int_int_2.f k l7).bind fun b12 => some (!b12)) else (some false)
set_option maxHeartbeats 600000 in
set_option maxRecDepth 100000 in
theorem impl_IsPlan.calls (k : Nat) {w0 ws : World} {P0 : Nat → Prop} (a0_0 : Int) (A0_1 : Option Addr) (c0_1 : Nat) (n0_1 : Nat) (l0_1 : List SStep) (A0_2 : Option Addr) (c0_2 : Nat) (n0_2 : Nat) (l0_2 : List Int) (Z : Below w0.heap.size w0 ws) (hF : Fr w0 ws P0 [] ws) (R0_1 : Stable ws P0 (fun w => Kd.C kStep w A0_1 n0_1 l0_1)) (hc0_1 : n0_1 ≤ c0_1) (R0_2 : Stable ws P0 (fun w => Kd.C (Kd.int .i64) w A0_2 n0_2 l0_2)) (hc0_2 : n0_2 ≤ c0_2) (r_1 : Bool) (h : impl_IsPlan.f k a0_0 l0_1 l0_2 = some r_1) :
  Calls Try.prog 67 #[.agg #[.int .i64 a0_0, .slice A0_1 n0_1 c0_1, .slice A0_2 n0_2 c0_2]] ws (Post1 w0 ws P0 (fun (_ : Unit) => .bool r_1) (fun (_ : Unit) => [])) := by
 unfold impl_IsPlan.f at h
 obtain rfl := (R0_1 ws (KeptB.refl _ _)).1
 obtain rfl := (R0_2 ws (KeptB.refl _ _)).1
 refine enter Try.func67 rfl Try.ntmps67 rfl hF ?_
 refine c_seq ?_
 refine za0 ?_
 refine o_e rfl (e_box rfl) (fun g1 => ?_)
 refine o_q rfl rfl (q_asg rfl) ?_
 refine o_end ?_
 refine za1 ?_
 refine c_seq ?_
 refine za0 ?_
 refine za7 h (fun b4 hx3 h => ?_) rfl
 refine o_e rfl (zab 0 Z Try.func130 N130 rfl rfl rfl (fun w P1 hF hB hS hT => impl_Plan_formed.calls g1 a0_0 A0_1 c0_1 l0_1.length l0_1 A0_2 c0_2 l0_2.length l0_2 hB hF (hS _ R0_1) hc0_1 (hS _ R0_2) hc0_2 (hT 0 _ rfl).box _ hx3)) (fun _ => ?_)
 refine o_q rfl rfl (za2 rfl) ?_
 refine byB b4 (fun hb5 => ?_) (fun hb5 => ?_)
 ·replace h := bb_t hb5 h
  refine za7 h (fun l7 hx6 h => ?_) rfl
  refine o_ew (za4 rfl rfl rfl (congrArg Value.bool hb5)) (zab 0 Z Try.func132 N132 rfl rfl rfl (fun w P1 hF hB hS hT => impl_Plan_exponents.calls g1 a0_0 A0_1 c0_1 l0_1.length l0_1 A0_2 c0_2 l0_2.length l0_2 hB hF (hS _ R0_1) hc0_1 (hS _ R0_2) hc0_2 (hT 0 _ rfl).box _ hx6)) (cur3 (fun A8 c9 H10 => ?_))
  refine za7 h (fun b12 hx11 h => ?_) rfl
  refine o_ew (za4 rfl rfl rfl (congrArg Value.bool hb5)) (zab 0 Z Try.func131 N131 rfl rfl rfl (fun w P1 hF hB hS hT => slices_ContainsFunc_int_int_2.calls k A8 c9 l7.length H10 l7 hB hF (hT 0 _ rfl).row (hT 0 _ rfl).cap _ hx11)) (fun _ => ?_)
  refine o_w (za4 rfl rfl rfl (congrArg Value.bool hb5)) rfl (q_not rfl) ?_
  refine o_q rfl rfl (zaq true (congrArg Value.bool hb5) rfl) ?_
  refine o_q rfl rfl (q_asg rfl) ?_
  refine o_end ?_
  refine za1 ?_
  refine c_ret ?_
  have e0_ := Option.some.inj h; clear h
  subst e0_
  exact x_r1 () Try.results67 (zai rfl) rfl (fun w h => za6 [] (by decide) rfl w h)
 ·replace h := bb_f hb5 h
  refine @o_n _ _ _ _ _ _ _ _ _ _ _ 5 (za3 rfl rfl rfl (congrArg Value.bool hb5) rfl) (Eq.refl (some 5)) ?_
  refine @o_n _ _ _ _ _ _ _ _ _ _ _ 6 (za3 rfl rfl rfl (congrArg Value.bool hb5) rfl) (Eq.refl (some 6)) ?_
  refine @o_n _ _ _ _ _ _ _ _ _ _ _ 7 (za3 rfl rfl rfl (congrArg Value.bool hb5) rfl) (Eq.refl (some 7)) ?_
  refine o_q rfl rfl (zaq false (congrArg Value.bool hb5) rfl) ?_
  refine o_q rfl rfl (q_asg rfl) ?_
  refine o_end ?_
  refine za1 ?_
  refine c_ret ?_
  have e0_ := Option.some.inj h; clear h
  subst e0_
  exact x_r1 () Try.results67 (zai rfl) rfl (fun w h => za6 [] (by decide) rfl w h)

/-! ### loop.example/g01098/impl.told: function 80 -/
def impl_told.f (k : Nat) (a0_0 : Int) (l0_1 : List SStep) (l0_2 : List Int) : Option (Int × (List SStep) × (List Int) × Bool) := (impl_IsPlan.f k a0_0 l0_1 l0_2).bind fun b6 => if b6 = true then (some (a0_0, l0_1, l0_2, true)) else (some (0, ([] : List SStep), ([] : List Int), false))
set_option maxHeartbeats 600000 in
set_option maxRecDepth 100000 in
theorem impl_told.calls (k : Nat) {w0 ws : World} {P0 : Nat → Prop} (a0_0 : Int) (A0_1 : Option Addr) (c0_1 : Nat) (n0_1 : Nat) (l0_1 : List SStep) (A0_2 : Option Addr) (c0_2 : Nat) (n0_2 : Nat) (l0_2 : List Int) (Z : Below w0.heap.size w0 ws) (hF : Fr w0 ws P0 [row kStep 88 (.slice A0_1 n0_1 c0_1) l0_1, row (Kd.int .i64) 3 (.slice A0_2 n0_2 c0_2) l0_2] ws)  (r_1 : Int) (r_2 : List SStep) (r_5 : List Int) (r_8 : Bool) (h : impl_told.f k a0_0 l0_1 l0_2 = some (r_1, r_2, r_5, r_8)) :
  Calls Try.prog 80 #[.agg #[.int .i64 a0_0, .slice A0_1 n0_1 c0_1, .slice A0_2 n0_2 c0_2]] ws (Post1 w0 ws P0 (fun ((q_3, q_4, q_6, q_7) : (Option Addr) × Nat × (Option Addr) × Nat) => .tuple #[.agg #[.int .i64 r_1, .slice q_3 r_2.length q_4, .slice q_6 r_5.length q_7], .bool r_8]) (fun ((q_3, q_4, q_6, q_7) : (Option Addr) × Nat × (Option Addr) × Nat) => [row kStep 88 (.slice q_3 r_2.length q_4) r_2, row (Kd.int .i64) 3 (.slice q_6 r_5.length q_7) r_5])) := by
 unfold impl_told.f at h
 obtain rfl := (hF.row_C (i := 0) rfl).2.1
 obtain rfl := (hF.row_C (i := 1) rfl).2.1
 refine enter Try.func80 rfl Try.ntmps80 rfl hF ?_
 refine c_seq ?_
 refine za0 ?_
 refine o_e rfl (e_box rfl) (fun g1 => ?_)
 refine o_e rfl (zat V27 rfl) (fun g3 => ?_)
 refine o_q rfl rfl (q_asg rfl) ?_
 refine o_end ?_
 refine za1 ?_
 refine c_seq ?_
 refine c_seq ?_
 refine za0 ?_
 refine o_q rfl rfl (q_ldB G27 Z27 rfl (fun w h => h.zae (i := 1) rfl) rfl) ?_
 refine za7 h (fun b6 hx5 h => ?_) rfl
 refine o_e rfl (zab 0 Z Try.func67 N67 rfl rfl rfl (fun w P1 hF hB hS hT => impl_IsPlan.calls k a0_0 A0_1 c0_1 l0_1.length l0_1 A0_2 c0_2 l0_2.length l0_2 hB hF (hT 2 _ rfl).row (hT 2 _ rfl).cap (hT 3 _ rfl).row (hT 3 _ rfl).cap _ hx5)) (fun _ => ?_)
 refine o_q rfl rfl (q_not rfl) ?_
 refine o_end ?_
 refine za1 ?_
 refine zau _ rfl (fun hb7 => ?_) (fun hb7 => ?_)
 ·replace hb7 := nt_t hb7
  replace h := bb_f hb7 h
  refine c_seq ?_
  refine za0 ?_
  refine o_q rfl rfl (zb5 (vs := []) (cs := [.int .i64 0, .slice none 0 0, .slice none 0 0]) rfl rfl) ?_
  refine o_e rfl (zan (i := 0) rfl rfl rfl Z27 rfl rfl) (fun _ => ?_)
  refine o_q rfl rfl (q_asg rfl) ?_
  refine o_end ?_
  refine za1 ?_
  refine c_ret ?_
  refine zaa ?_
  refine x_nil kStep 88 ?_
  refine x_nil (Kd.int .i64) 3 ?_
  have e0_ := Option.some.inj h; clear h
  have d0_ := (Prod.mk.inj e0_).1; have e1_ := (Prod.mk.inj e0_).2; clear e0_; subst d0_
  have d1_ := (Prod.mk.inj e1_).1; have e2_ := (Prod.mk.inj e1_).2; clear e1_; subst d1_
  have d2_ := (Prod.mk.inj e2_).1; have e3_ := (Prod.mk.inj e2_).2; clear e2_; subst d2_
  subst e3_
  exact x_r2 (none, 0, none, 0) Try.results80 (rv_cell rfl G27 Z27 (fun w h => h.zae (i := 2) rfl) rfl) (zai rfl) rfl (fun w h => za6 [1, 0] (by decide) rfl w h)
 ·replace hb7 := nt_f hb7
  replace h := bb_t hb7 h
  refine zao ?_
  refine za1 ?_
  refine c_seq ?_
  refine za0 ?_
  refine o_q rfl rfl (q_ldB G27 Z27 rfl (fun w h => h.zae (i := 1) rfl) rfl) ?_
  refine o_e rfl (zan (i := 0) rfl rfl rfl Z27 rfl rfl) (fun _ => ?_)
  refine o_q rfl rfl (q_asg rfl) ?_
  refine o_end ?_
  refine za1 ?_
  refine c_ret ?_
  have e0_ := Option.some.inj h; clear h
  have d0_ := (Prod.mk.inj e0_).1; have e1_ := (Prod.mk.inj e0_).2; clear e0_; subst d0_
  have d1_ := (Prod.mk.inj e1_).1; have e2_ := (Prod.mk.inj e1_).2; clear e1_; subst d1_
  have d2_ := (Prod.mk.inj e2_).1; have e3_ := (Prod.mk.inj e2_).2; clear e2_; subst d2_
  subst e3_
  exact x_r2 (A0_1, c0_1, A0_2, c0_2) Try.results80 (rv_cell rfl G27 Z27 (fun w h => h.zae (i := 0) rfl) rfl) (zai rfl) rfl (fun w h => za6 [2, 3] (by decide) rfl w h)

/-! ### (*loop.example/g01098/impl.RegCode).plan: function 88 -/
def impl_RegCode_plan.f (k : Nat) (a0_0 : Int) (l0_1 : List Int) (l0_2 : List SRegOp) (l0_3 : List Int) : Option (Int × (List SStep) × (List Int) × Bool) := (if 6 < (l0_1.length : Int) then (some true) else (if 40 < (l0_2.length : Int) then (some true) else (some (decide (6 < (l0_3.length : Int)))))).bind fun b5 => if b5 = true then (some (0, ([] : List SStep), ([] : List Int), false)) else ((impl_RegCode_read.f a0_0 l0_1 l0_2 l0_3).bind fun (i15, l16, l17, b18) => if b18 = true then ((impl_told.f k i15 l16 l17).bind fun (i27, l28, l29, b30) => some (i27, l28, l29, b30)) else (some (0, ([] : List SStep), ([] : List Int), false)))
set_option maxHeartbeats 600000 in
set_option maxRecDepth 100000 in
theorem impl_RegCode_plan.calls (k : Nat) {w0 ws : World} {P0 : Nat → Prop} (g0 : Nat) (a0_0 : Int) (A0_1 : Option Addr) (c0_1 : Nat) (n0_1 : Nat) (l0_1 : List Int) (A0_2 : Option Addr) (c0_2 : Nat) (n0_2 : Nat) (l0_2 : List SRegOp) (A0_3 : Option Addr) (c0_3 : Nat) (n0_3 : Nat) (l0_3 : List Int) (Z : Below w0.heap.size w0 ws) (hF : Fr w0 ws P0 [] ws) (R0_1 : Stable ws P0 (fun w => Kd.C (Kd.int .i64) w A0_1 n0_1 l0_1)) (hc0_1 : n0_1 ≤ c0_1) (R0_2 : Stable ws P0 (fun w => Kd.C zb6 w A0_2 n0_2 l0_2)) (hc0_2 : n0_2 ≤ c0_2) (R0_3 : Stable ws P0 (fun w => Kd.C (Kd.int .i64) w A0_3 n0_3 l0_3)) (hc0_3 : n0_3 ≤ c0_3) (B0 : Stable ws P0 (fun w => w.heap[g0]? = some (.cells #[.int .i64 a0_0, .slice A0_1 n0_1 c0_1, .slice A0_2 n0_2 c0_2, .slice A0_3 n0_3 c0_3] 43 (0, 0)))) (r_1 : Int) (r_2 : List SStep) (r_5 : List Int) (r_8 : Bool) (h : impl_RegCode_plan.f k a0_0 l0_1 l0_2 l0_3 = some (r_1, r_2, r_5, r_8)) :
  Calls Try.prog 88 #[.pointer (some ⟨g0, 0, none⟩)] ws (Post1 w0 ws P0 (fun ((q_3, q_4, q_6, q_7) : (Option Addr) × Nat × (Option Addr) × Nat) => .tuple #[.agg #[.int .i64 r_1, .slice q_3 r_2.length q_4, .slice q_6 r_5.length q_7], .bool r_8]) (fun ((q_3, q_4, q_6, q_7) : (Option Addr) × Nat × (Option Addr) × Nat) => [row kStep 88 (.slice q_3 r_2.length q_4) r_2, row (Kd.int .i64) 3 (.slice q_6 r_5.length q_7) r_5])) := by
 unfold impl_RegCode_plan.f at h
 obtain rfl := (R0_1 ws (KeptB.refl _ _)).1
 obtain rfl := (R0_2 ws (KeptB.refl _ _)).1
 obtain rfl := (R0_3 ws (KeptB.refl _ _)).1
 refine enter Try.func88 rfl Try.ntmps88 rfl hF ?_
 refine c_seq ?_
 refine za0 ?_
 refine o_e rfl (zat V27 rfl) (fun g1 => ?_)
 refine o_q rfl rfl (q_asg rfl) ?_
 refine o_end ?_
 refine za1 ?_
 refine c_seq ?_
 refine za7 h (fun o6 hl7 hR8 => ?_) rfl
 clear h
 refine c_cutJ (σ := Bool) (fun b5 => some b5 = some o6) [6, 7, 8, 9, 10, 11, 12, 13, 14, 15, 16, 17, 18, 19, 20, 21, 22, 23, 24, 25, 26, 27] (fun b5 => [(27, .bool b5)]) (fun b5 => [box g1 27 #[.int .i64 0, .slice none 0 0, .slice none 0 0]]) ?_ ?_
 ·skip
  have h := hl7; clear hl7
  clear hR8
  refine za0 ?_
  refine o_q rfl rfl (za2 rfl) ?_
  refine o_q rfl rfl (q_nil rfl) ?_
  refine o_q rfl rfl (q_f F43_1 rfl) ?_
  refine o_q rfl rfl (q_ldb Y25 rfl (fun w h => B0.now Z h) rfl) ?_
  refine o_q rfl rfl (q_len Try.underlying25 rfl) ?_
  refine o_q rfl rfl (q_gtr rfl rfl) ?_
  refine o_q rfl rfl (za2 rfl) ?_
  refine byB (decide (6 < (l0_1.length : Int))) (fun hb11 => ?_) (fun hb11 => ?_)
  ·replace h := br_t hb11 h
   refine @o_n _ _ _ _ _ _ _ _ _ _ _ 13 (za3 rfl rfl rfl (congrArg Value.bool hb11) rfl) (Eq.refl (some 13)) ?_
   refine @o_n _ _ _ _ _ _ _ _ _ _ _ 14 (za3 rfl rfl rfl (congrArg Value.bool hb11) rfl) (Eq.refl (some 14)) ?_
   refine @o_n _ _ _ _ _ _ _ _ _ _ _ 15 (za3 rfl rfl rfl (congrArg Value.bool hb11) rfl) (Eq.refl (some 15)) ?_
   refine @o_n _ _ _ _ _ _ _ _ _ _ _ 16 (za3 rfl rfl rfl (congrArg Value.bool hb11) rfl) (Eq.refl (some 16)) ?_
   refine @o_n _ _ _ _ _ _ _ _ _ _ _ 17 (za3 rfl rfl rfl (congrArg Value.bool hb11) rfl) (Eq.refl (some 17)) ?_
   refine @o_n _ _ _ _ _ _ _ _ _ _ _ 18 (za3 rfl rfl rfl (congrArg Value.bool hb11) rfl) (Eq.refl (some 18)) ?_
   refine o_q rfl rfl (zaq true (congrArg Value.bool hb11) rfl) ?_
   refine o_q rfl rfl (za2 rfl) ?_
   refine @o_n _ _ _ _ _ _ _ _ _ _ _ 21 (za3 rfl rfl rfl rfl rfl) (Eq.refl (some 21)) ?_
   refine @o_n _ _ _ _ _ _ _ _ _ _ _ 22 (za3 rfl rfl rfl rfl rfl) (Eq.refl (some 22)) ?_
   refine @o_n _ _ _ _ _ _ _ _ _ _ _ 23 (za3 rfl rfl rfl rfl rfl) (Eq.refl (some 23)) ?_
   refine @o_n _ _ _ _ _ _ _ _ _ _ _ 24 (za3 rfl rfl rfl rfl rfl) (Eq.refl (some 24)) ?_
   refine @o_n _ _ _ _ _ _ _ _ _ _ _ 25 (za3 rfl rfl rfl rfl rfl) (Eq.refl (some 25)) ?_
   refine @o_n _ _ _ _ _ _ _ _ _ _ _ 26 (za3 rfl rfl rfl rfl rfl) (Eq.refl (some 26)) ?_
   refine o_q rfl rfl (zaq true rfl rfl) ?_
   refine o_end ?_
   refine zas true h ⟨rfl, trivial⟩ (fun w h => za6 [0] (by decide) rfl w h) ?_
   repeat (first | exact zac _ _ | refine zaf rfl ?_ | refine zad rfl ?_ | refine zah rfl ?_)
  ·replace h := br_f hb11 h
   refine o_w (za4 rfl rfl rfl (congrArg Value.bool hb11)) rfl (za2 rfl) ?_
   refine o_w (za4 rfl rfl rfl (congrArg Value.bool hb11)) rfl (q_nil rfl) ?_
   refine o_w (za4 rfl rfl rfl (congrArg Value.bool hb11)) rfl (q_f F43_2 rfl) ?_
   refine o_w (za4 rfl rfl rfl (congrArg Value.bool hb11)) rfl (q_ldb Y41 rfl (fun w h => B0.now Z h) rfl) ?_
   refine o_w (za4 rfl rfl rfl (congrArg Value.bool hb11)) rfl (q_len Try.underlying41 rfl) ?_
   refine o_w (za4 rfl rfl rfl (congrArg Value.bool hb11)) rfl (q_gtr rfl rfl) ?_
   refine o_q rfl rfl (zaq false (congrArg Value.bool hb11) rfl) ?_
   refine o_q rfl rfl (za2 rfl) ?_
   refine byB (decide (40 < (l0_2.length : Int))) (fun hb12 => ?_) (fun hb12 => ?_)
   ·replace h := br_t hb12 h
    refine @o_n _ _ _ _ _ _ _ _ _ _ _ 21 (za3 rfl rfl rfl (congrArg Value.bool hb12) rfl) (Eq.refl (some 21)) ?_
    refine @o_n _ _ _ _ _ _ _ _ _ _ _ 22 (za3 rfl rfl rfl (congrArg Value.bool hb12) rfl) (Eq.refl (some 22)) ?_
    refine @o_n _ _ _ _ _ _ _ _ _ _ _ 23 (za3 rfl rfl rfl (congrArg Value.bool hb12) rfl) (Eq.refl (some 23)) ?_
    refine @o_n _ _ _ _ _ _ _ _ _ _ _ 24 (za3 rfl rfl rfl (congrArg Value.bool hb12) rfl) (Eq.refl (some 24)) ?_
    refine @o_n _ _ _ _ _ _ _ _ _ _ _ 25 (za3 rfl rfl rfl (congrArg Value.bool hb12) rfl) (Eq.refl (some 25)) ?_
    refine @o_n _ _ _ _ _ _ _ _ _ _ _ 26 (za3 rfl rfl rfl (congrArg Value.bool hb12) rfl) (Eq.refl (some 26)) ?_
    refine o_q rfl rfl (zaq true (congrArg Value.bool hb12) rfl) ?_
    refine o_end ?_
    refine zas true h ⟨rfl, trivial⟩ (fun w h => za6 [0] (by decide) rfl w h) ?_
    repeat (first | exact zac _ _ | refine zaf rfl ?_ | refine zad rfl ?_ | refine zah rfl ?_)
   ·replace h := br_f hb12 h
    refine o_w (za4 rfl rfl rfl (congrArg Value.bool hb12)) rfl (za2 rfl) ?_
    refine o_w (za4 rfl rfl rfl (congrArg Value.bool hb12)) rfl (q_nil rfl) ?_
    refine o_w (za4 rfl rfl rfl (congrArg Value.bool hb12)) rfl (q_f F43_3 rfl) ?_
    refine o_w (za4 rfl rfl rfl (congrArg Value.bool hb12)) rfl (q_ldb Y25 rfl (fun w h => B0.now Z h) rfl) ?_
    refine o_w (za4 rfl rfl rfl (congrArg Value.bool hb12)) rfl (q_len Try.underlying25 rfl) ?_
    refine o_w (za4 rfl rfl rfl (congrArg Value.bool hb12)) rfl (q_gtr rfl rfl) ?_
    refine o_q rfl rfl (zaq false (congrArg Value.bool hb12) rfl) ?_
    refine o_end ?_
    refine zas (decide (6 < (l0_3.length : Int))) h ⟨rfl, trivial⟩ (fun w h => za6 [0] (by decide) rfl w h) ?_
    repeat (first | exact zac _ _ | refine zaf rfl ?_ | refine zad rfl ?_ | refine zah rfl ?_)
 ·skip
  refine (fun b5 => fun U9 hJ10 => ?_)
  have e_ := Option.some.inj hJ10; have h := hR8; rw [← e_] at h; clear e_ hJ10 hR8 hl7
  refine zau _ rfl (fun hb13 => ?_) (fun hb13 => ?_)
  ·skip
   replace h := bb_t hb13 h
   refine c_seq ?_
   refine za0 ?_
   refine o_q rfl rfl (zb5 (vs := []) (cs := [.int .i64 0, .slice none 0 0, .slice none 0 0]) rfl rfl) ?_
   refine o_e rfl (zan (i := 0) rfl rfl rfl Z27 rfl rfl) (fun _ => ?_)
   refine o_q rfl rfl (q_asg rfl) ?_
   refine o_end ?_
   refine za1 ?_
   refine c_ret ?_
   refine zaa ?_
   refine x_nil kStep 88 ?_
   refine x_nil (Kd.int .i64) 3 ?_
   have e0_ := Option.some.inj h; clear h
   have d0_ := (Prod.mk.inj e0_).1; have e1_ := (Prod.mk.inj e0_).2; clear e0_; subst d0_
   have d1_ := (Prod.mk.inj e1_).1; have e2_ := (Prod.mk.inj e1_).2; clear e1_; subst d1_
   have d2_ := (Prod.mk.inj e2_).1; have e3_ := (Prod.mk.inj e2_).2; clear e2_; subst d2_
   subst e3_
   exact x_r2 (none, 0, none, 0) Try.results88 (rv_cell rfl G27 Z27 (fun w h => h.zae (i := 2) rfl) rfl) (zai rfl) rfl (fun w h => za6 [1, 0] (by decide) rfl w h)
  ·skip
   replace h := bb_f hb13 h
   refine zao ?_
   refine za1 ?_
   refine c_seq ?_
   refine za0 ?_
   refine o_q rfl rfl (za2 rfl) ?_
   refine bindE4 h (fun i15 l16 l17 b18 hx14 h => ?_) rfl
   refine o_e rfl (zab 0 Z Try.func143 N143 rfl rfl rfl (fun w P1 hF hB hS hT => impl_RegCode_read.calls g0 a0_0 A0_1 c0_1 l0_1.length l0_1 A0_2 c0_2 l0_2.length l0_2 A0_3 c0_3 l0_3.length l0_3 hB hF (hS _ R0_1) hc0_1 (hS _ R0_2) hc0_2 (hS _ R0_3) hc0_3 (hS _ B0) _ _ _ _ hx14)) (cur4 (fun A19 c20 A21 c22 => ?_))
   refine o_q rfl rfl (za2 rfl) ?_
   refine o_q rfl rfl (q_ext rfl rfl) ?_
   refine o_q rfl rfl (q_ext rfl rfl) ?_
   refine o_e rfl (zat V27 rfl) (fun g23 => ?_)
   refine o_e rfl (zan (i := 0) rfl rfl rfl Z27 rfl rfl) (fun _ => ?_)
   refine o_q rfl rfl (q_asg rfl) ?_
   refine o_end ?_
   refine za1 ?_
   refine c_seq ?_
   refine c_seq ?_
   refine za0 ?_
   refine o_q rfl rfl (za2 rfl) ?_
   refine o_q rfl rfl (q_not rfl) ?_
   refine o_end ?_
   refine za1 ?_
   refine zau _ rfl (fun hb25 => ?_) (fun hb25 => ?_)
   ·replace hb25 := nt_t hb25
    replace h := bb_f hb25 h
    refine c_seq ?_
    refine za0 ?_
    refine o_q rfl rfl (zb5 (vs := []) (cs := [.int .i64 0, .slice none 0 0, .slice none 0 0]) rfl rfl) ?_
    refine o_e rfl (zan (i := 3) rfl rfl rfl Z27 rfl rfl) (fun _ => ?_)
    refine o_q rfl rfl (q_asg rfl) ?_
    refine o_end ?_
    refine za1 ?_
    refine c_ret ?_
    refine zaa ?_
    refine x_nil kStep 88 ?_
    refine x_nil (Kd.int .i64) 3 ?_
    have e0_ := Option.some.inj h; clear h
    have d0_ := (Prod.mk.inj e0_).1; have e1_ := (Prod.mk.inj e0_).2; clear e0_; subst d0_
    have d1_ := (Prod.mk.inj e1_).1; have e2_ := (Prod.mk.inj e1_).2; clear e1_; subst d1_
    have d2_ := (Prod.mk.inj e2_).1; have e3_ := (Prod.mk.inj e2_).2; clear e2_; subst d2_
    subst e3_
    exact x_r2 (none, 0, none, 0) Try.results88 (rv_cell rfl G27 Z27 (fun w h => h.zae (i := 5) rfl) rfl) (zai rfl) rfl (fun w h => za6 [1, 0] (by decide) rfl w h)
   ·replace hb25 := nt_f hb25
    replace h := bb_t hb25 h
    refine zao ?_
    refine za1 ?_
    refine c_seq ?_
    refine za0 ?_
    refine o_q rfl rfl (q_ldB G27 Z27 rfl (fun w h => h.zae (i := 0) rfl) rfl) ?_
    refine o_pick [1, 2, 0, 3] (by decide) rfl ?_
    refine bindE4 h (fun i27 l28 l29 b30 hx26 h => ?_) rfl
    refine o_e rfl (zab 2 Z Try.func80 N80 rfl rfl rfl (fun w P1 hF hB hS hT => impl_told.calls k i15 A19 c20 l16.length l16 A21 c22 l17.length l17 hB hF _ _ _ _ hx26)) (cur4 (fun A31 c32 A33 c34 => ?_))
    refine o_q rfl rfl (q_ext rfl rfl) ?_
    refine o_q rfl rfl (q_ext rfl rfl) ?_
    refine o_e rfl (zan (i := 3) rfl rfl rfl Z27 rfl rfl) (fun _ => ?_)
    refine o_q rfl rfl (q_asg rfl) ?_
    refine o_end ?_
    refine za1 ?_
    refine c_ret ?_
    have e0_ := Option.some.inj h; clear h
    have d0_ := (Prod.mk.inj e0_).1; have e1_ := (Prod.mk.inj e0_).2; clear e0_; subst d0_
    have d1_ := (Prod.mk.inj e1_).1; have e2_ := (Prod.mk.inj e1_).2; clear e1_; subst d1_
    have d2_ := (Prod.mk.inj e2_).1; have e3_ := (Prod.mk.inj e2_).2; clear e2_; subst d2_
    subst e3_
    exact x_r2 (A31, c32, A33, c34) Try.results88 (rv_cell rfl G27 Z27 (fun w h => h.zae (i := 3) rfl) rfl) (zai rfl) rfl (fun w h => za6 [0, 1] (by decide) rfl w h)

/-! ### loop.example/g01098/impl.modulusOk: function 146 -/
def impl_modulusOk.f (a0 : Int) : Option Bool := (impl_in.f a0 2 10000).bind fun b2 => some b2
set_option maxHeartbeats 600000 in
set_option maxRecDepth 100000 in
theorem impl_modulusOk.calls {w0 ws : World} {P0 : Nat → Prop} (a0 : Int) (Z : Below w0.heap.size w0 ws) (hF : Fr w0 ws P0 [] ws)  (r_1 : Bool) (h : impl_modulusOk.f a0 = some r_1) :
  Calls Try.prog 146 #[.int .i64 a0] ws (Post1 w0 ws P0 (fun (_ : Unit) => .bool r_1) (fun (_ : Unit) => [])) := by
 unfold impl_modulusOk.f at h
 refine enter Try.func146 rfl Try.ntmps146 rfl hF ?_
 refine c_seq ?_
 refine za0 ?_
 refine o_q rfl rfl (q_asg rfl) ?_
 refine o_end ?_
 refine za1 ?_
 refine c_seq ?_
 refine za0 ?_
 refine o_q rfl rfl (za2 rfl) ?_
 refine za7 h (fun b2 hx1 h => ?_) rfl
 refine o_e rfl (zab 0 Z Try.func58 N58 rfl rfl rfl (fun w P1 hF hB hS hT => impl_in.calls a0 2 10000 hB hF _ hx1)) (fun _ => ?_)
 refine o_q rfl rfl (q_asg rfl) ?_
 refine o_end ?_
 refine za1 ?_
 refine c_ret ?_
 have e0_ := Option.some.inj h; clear h
 subst e0_
 exact x_r1 () Try.results146 (zai rfl) rfl (fun w h => za6 [] (by decide) rfl w h)

/-! ### loop.example/g01098/impl.residuesOk$1: function 148 -/
def impl_residuesOk_1.f (a0 : Int) (a1_0 : Int) : Option Bool := (impl_in.f a0 0 (w64 (a1_0 - 1))).bind fun b2 => some (!b2)
set_option maxHeartbeats 600000 in
set_option maxRecDepth 100000 in
theorem impl_residuesOk_1.calls {w0 ws : World} {P0 : Nat → Prop} (a0 : Int) (g1 : Nat) (a1_0 : Int) (Z : Below w0.heap.size w0 ws) (hF : Fr w0 ws P0 [] ws) (B1 : Stable ws P0 (fun w => w.heap[g1]? = some (.cells #[.int .i64 a1_0] 3 (0, 0)))) (r_1 : Bool) (h : impl_residuesOk_1.f a0 a1_0 = some r_1) :
  Calls Try.prog 148 #[.int .i64 a0, .pointer (some ⟨g1, 0, none⟩)] ws (Post1 w0 ws P0 (fun (_ : Unit) => .bool r_1) (fun (_ : Unit) => [])) := by
 unfold impl_residuesOk_1.f at h
 refine enter Try.func148 rfl Try.ntmps148 rfl hF ?_
 refine c_seq ?_
 refine za0 ?_
 refine o_q rfl rfl (q_asg rfl) ?_
 refine o_end ?_
 refine za1 ?_
 refine c_seq ?_
 refine za0 ?_
 refine o_q rfl rfl (za2 rfl) ?_
 refine o_q rfl rfl (q_ldb Y3 rfl (fun w h => B1.now Z h) rfl) ?_
 refine o_q rfl rfl (q_sub64 rfl rfl) ?_
 refine za7 h (fun b2 hx1 h => ?_) rfl
 refine o_e rfl (zab 0 Z Try.func58 N58 rfl rfl rfl (fun w P1 hF hB hS hT => impl_in.calls a0 0 (w64 (a1_0 - 1)) hB hF _ hx1)) (fun _ => ?_)
 refine o_q rfl rfl (q_not rfl) ?_
 refine o_q rfl rfl (q_asg rfl) ?_
 refine o_end ?_
 refine za1 ?_
 refine c_ret ?_
 have e0_ := Option.some.inj h; clear h
 subst e0_
 exact x_r1 () Try.results148 (zai rfl) rfl (fun w h => za6 [] (by decide) rfl w h)

/-! ### slices.IndexFunc[[]int,int]: function 182 -/
def slices_IndexFunc_int_int_3.l0 (a1_c0_0 : Int) : (List Int) → Int → Option ((Int) ⊕ (Unit))
 | [], i1 => some (.inr ())
 | y2 :: ys3, i1 => (impl_residuesOk_1.f y2 a1_c0_0).bind fun b14 => if b14 = true then (some (.inl i1)) else (slices_IndexFunc_int_int_3.l0 a1_c0_0 ys3 (i1 + 1))
def slices_IndexFunc_int_int_3.f (l0 : List Int) (a1_c0_0 : Int) : Option Int := (slices_IndexFunc_int_int_3.l0 a1_c0_0 l0 0).bind fun o_ => match o_ with | .inl r_ => some r_ | .inr _ => some (-1)
set_option maxHeartbeats 600000 in
set_option maxRecDepth 100000 in
theorem slices_IndexFunc_int_int_3.calls {w0 ws : World} {P0 : Nat → Prop} (A0 : Option Addr) (c0 : Nat) (n0 : Nat) (l0 : List Int) (g1_c0 : Nat) (a1_c0_0 : Int) (Z : Below w0.heap.size w0 ws) (hF : Fr w0 ws P0 [] ws) (R0 : Stable ws P0 (fun w => Kd.C (Kd.int .i64) w A0 n0 l0)) (hc0 : n0 ≤ c0) (B1_c0 : Stable ws P0 (fun w => w.heap[g1_c0]? = some (.cells #[.int .i64 a1_c0_0] 3 (0, 0)))) (r_1 : Int) (h : slices_IndexFunc_int_int_3.f l0 a1_c0_0 = some r_1) :
  Calls Try.prog 182 #[.slice A0 n0 c0, .func (.func 148) #[] #[.pointer (some ⟨g1_c0, 0, none⟩)]] ws (Post1 w0 ws P0 (fun (_ : Unit) => .int .i64 r_1) (fun (_ : Unit) => [])) := by
 unfold slices_IndexFunc_int_int_3.f at h
 obtain rfl := (R0 ws (KeptB.refl _ _)).1
 refine enter Try.func182 rfl Try.ntmps182 rfl hF ?_
 refine c_seq ?_
 refine za0 ?_
 refine o_q rfl rfl (q_asg rfl) ?_
 refine o_end ?_
 refine za1 ?_
 refine c_seq ?_
 refine c_seq ?_
 refine za0 ?_
 refine o_q rfl rfl (za2 rfl) ?_
 refine o_q rfl rfl (q_len Try.underlying25 rfl) ?_
 refine o_q rfl rfl (za2 rfl) ?_
 refine o_end ?_
 refine za1 ?_
 refine zaj ?_
 refine za7 h (fun o9 hl8 hR7 => ?_) rfl
 clear h
 refine zba (p := l0.length ≤ 9223372036854775807) (fun w h => (R0.now Z h).2.1) (fun hm6 => ?_)
 refine zax (σ := (List Int) × Int) (fun k4 ((ys3, i1) : (List Int) × Int) => Rg l0 i1 ys3 ∧ ys3.length = k4 ∧ slices_IndexFunc_int_int_3.l0 a1_c0_0 ys3 i1 = some o9) [4, 5, 8, 9, 10, 11, 12, 13, 14, 15, 16, 17, 18] (fun ((ys3, i1) : (List Int) × Int) => [(8, .int .i64 i1)]) (fun ((ys3, i1) : (List Int) × Int) => []) l0.length (l0, 0) ⟨Rg.start _, rfl, hl8⟩ ⟨rfl, trivial⟩ (fun w h => h) ?_
 refine fun k4 => cur2 (listC (fun i1 U10 hJ_ => ?_) (fun y2 ys3 i1 U10 hJ_ => ?_))
 ·skip
  clear hl8
  have hr5 := hJ_.1; have hk11 := hJ_.2.1; have h := hJ_.2.2; clear hJ_
  replace h : slices_IndexFunc_int_int_3.l0 a1_c0_0 [] i1 = some o9 := h
  rw [slices_IndexFunc_int_int_3.l0] at h
  refine c_seq ?_
  refine za0 ?_
  refine o_q rfl rfl (q_lss rfl rfl) ?_
  refine o_end ?_
  refine za1 ?_
  refine c_seq ?_
  refine zb3 (congrArg Value.bool hr5.ge) ?_
  refine zb4 ?_
  refine za8 ?_
  refine za8 ?_
  have e_ := Option.some.inj h; replace h := hR7; rw [← e_] at h; clear e_
  refine x_hit ?_
  refine za1 ?_
  refine c_seq ?_
  refine za0 ?_
  refine o_q rfl rfl (q_asg rfl) ?_
  refine o_end ?_
  refine za1 ?_
  refine c_ret ?_
  have e0_ := Option.some.inj h; clear h
  subst e0_
  exact x_r1 () Try.results182 (zai rfl) rfl (fun w h => za6 [] (by decide) rfl w h)
 ·skip
  clear hl8
  have hr5 := hJ_.1; have hk11 := hJ_.2.1; have h := hJ_.2.2; clear hJ_
  replace h : slices_IndexFunc_int_int_3.l0 a1_c0_0 (y2 :: ys3) i1 = some o9 := h
  rw [slices_IndexFunc_int_int_3.l0] at h
  refine c_seq ?_
  refine za0 ?_
  refine o_q rfl rfl (q_lss rfl rfl) ?_
  refine o_end ?_
  refine za1 ?_
  refine c_seq ?_
  refine zb1 (congrArg Value.bool hr5.lt) ?_
  refine zao ?_
  refine za1 ?_
  refine c_seq ?_
  refine zaj ?_
  refine c_seq ?_
  refine za0 ?_
  refine o_q rfl rfl (za2 rfl) ?_
  refine o_q rfl rfl (q_asg rfl) ?_
  refine o_end ?_
  refine za1 ?_
  refine c_seq ?_
  refine za0 ?_
  refine o_q rfl rfl (za2 rfl) ?_
  refine o_q rfl rfl (za2 rfl) ?_
  refine o_q rfl rfl (za2 rfl) ?_
  refine zaz (p := Sh A0 l0.length l0.length) (fun w h => f_sh (dk := (Kd.int .i64)) h (fun w h => R0.now Z h)) (fun hq12 => ?_)
  refine o_q rfl rfl (q_ix Try.underlying25 Z3 rfl rfl hq12 hr5.get) ?_
  refine o_q rfl rfl (q_lde (off := 0) Y3 rfl rfl (fun w h => R0.now Z h) hr5.get (fun _ _ h => h) rfl) ?_
  refine za7 h (fun b14 hx13 h => ?_) rfl
  refine o_e rfl (zab 0 Z Try.func148 N148 rfl rfl rfl (fun w P1 hF hB hS hT => impl_residuesOk_1.calls y2 g1_c0 a1_c0_0 hB hF (hS _ B1_c0) _ hx13)) (fun _ => ?_)
  refine o_end ?_
  refine za1 ?_
  refine zau _ rfl (fun hb15 => ?_) (fun hb15 => ?_)
  ·skip
   replace h := bb_t hb15 h
   refine c_seq ?_
   refine za0 ?_
   refine o_q rfl rfl (za2 rfl) ?_
   refine o_q rfl rfl (q_asg rfl) ?_
   refine o_end ?_
   refine za1 ?_
   refine c_ret ?_
   refine zar ?_
   refine zaa ?_
   refine zaa ?_
   have e_ := Option.some.inj h; replace h := hR7; rw [← e_] at h; clear e_
   refine zar ?_
   refine zaa ?_
   have e0_ := Option.some.inj h; clear h
   subst e0_
   exact x_r1 () Try.results182 (zai rfl) rfl (fun w h => za6 [] (by decide) rfl w h)
  ·skip
   replace h := bb_f hb15 h
   refine zao ?_
   refine zal ?_
   refine za1 ?_
   refine za0 ?_
   refine o_q rfl rfl (q_up rfl rfl (hr5.up hm6)) ?_
   refine o_q rfl rfl (za2 rfl) ?_
   refine o_end ?_
   refine zam ys3.length (ys3, i1 + 1) (by rw [← hk11]; exact Nat.lt_succ_self _) ⟨hr5.step, rfl, h⟩ ⟨rfl, trivial⟩ (fun w h => za6 [] (by decide) rfl w h) ?_
   repeat (first | exact zac _ _ | refine zaf rfl ?_ | refine zad rfl ?_ | refine zah rfl ?_)

/-! ### slices.ContainsFunc[[]int,int]: function 147 -/
def slices_ContainsFunc_int_int_3.f (l0 : List Int) (a1_c0_0 : Int) : Option Bool := (slices_IndexFunc_int_int_3.f l0 a1_c0_0).bind fun i2 => some (decide (0 ≤ i2))
set_option maxHeartbeats 600000 in
set_option maxRecDepth 100000 in
theorem slices_ContainsFunc_int_int_3.calls {w0 ws : World} {P0 : Nat → Prop} (A0 : Option Addr) (c0 : Nat) (n0 : Nat) (l0 : List Int) (g1_c0 : Nat) (a1_c0_0 : Int) (Z : Below w0.heap.size w0 ws) (hF : Fr w0 ws P0 [] ws) (R0 : Stable ws P0 (fun w => Kd.C (Kd.int .i64) w A0 n0 l0)) (hc0 : n0 ≤ c0) (B1_c0 : Stable ws P0 (fun w => w.heap[g1_c0]? = some (.cells #[.int .i64 a1_c0_0] 3 (0, 0)))) (r_1 : Bool) (h : slices_ContainsFunc_int_int_3.f l0 a1_c0_0 = some r_1) :
  Calls Try.prog 147 #[.slice A0 n0 c0, .func (.func 148) #[] #[.pointer (some ⟨g1_c0, 0, none⟩)]] ws (Post1 w0 ws P0 (fun (_ : Unit) => .bool r_1) (fun (_ : Unit) => [])) := by
 unfold slices_ContainsFunc_int_int_3.f at h
 obtain rfl := (R0 ws (KeptB.refl _ _)).1
 refine enter Try.func147 rfl Try.ntmps147 rfl hF ?_
 refine c_seq ?_
 refine za0 ?_
 refine o_q rfl rfl (q_asg rfl) ?_
 refine o_end ?_
 refine za1 ?_
 refine c_seq ?_
 refine za0 ?_
 refine o_q rfl rfl (za2 rfl) ?_
 refine o_q rfl rfl (za2 rfl) ?_
 refine za7 h (fun i2 hx1 h => ?_) rfl
 refine o_e rfl (zab 0 Z Try.func182 N182 rfl rfl rfl (fun w P1 hF hB hS hT => slices_IndexFunc_int_int_3.calls A0 c0 l0.length l0 g1_c0 a1_c0_0 hB hF (hS _ R0) hc0 (hS _ B1_c0) _ hx1)) (fun _ => ?_)
 refine o_q rfl rfl (q_geq rfl rfl) ?_
 refine o_q rfl rfl (q_asg rfl) ?_
 refine o_end ?_
 refine za1 ?_
 refine c_ret ?_
 have e0_ := Option.some.inj h; clear h
 subst e0_
 exact x_r1 () Try.results147 (zai rfl) rfl (fun w h => za6 [] (by decide) rfl w h)

/-! ### loop.example/g01098/impl.residuesOk: function 90 -/
def impl_residuesOk.f (l0 : List Int) (a1 : Int) : Option Bool := (impl_modulusOk.f a1).bind fun b4 => if b4 = true then ((slices_ContainsFunc_int_int_3.f l0 a1).bind fun b7 => some (!b7)) else (some false)
set_option maxHeartbeats 600000 in
set_option maxRecDepth 100000 in
theorem impl_residuesOk.calls {w0 ws : World} {P0 : Nat → Prop} (A0 : Option Addr) (c0 : Nat) (n0 : Nat) (l0 : List Int) (a1 : Int) (Z : Below w0.heap.size w0 ws) (hF : Fr w0 ws P0 [] ws) (R0 : Stable ws P0 (fun w => Kd.C (Kd.int .i64) w A0 n0 l0)) (hc0 : n0 ≤ c0) (r_1 : Bool) (h : impl_residuesOk.f l0 a1 = some r_1) :
  Calls Try.prog 90 #[.slice A0 n0 c0, .int .i64 a1] ws (Post1 w0 ws P0 (fun (_ : Unit) => .bool r_1) (fun (_ : Unit) => [])) := by
 unfold impl_residuesOk.f at h
 obtain rfl := (R0 ws (KeptB.refl _ _)).1
 refine enter Try.func90 rfl Try.ntmps90 rfl hF ?_
 refine c_seq ?_
 refine za0 ?_
 refine o_e rfl (e_box rfl) (fun g1 => ?_)
 refine o_q rfl rfl (q_asg rfl) ?_
 refine o_end ?_
 refine za1 ?_
 refine c_seq ?_
 refine za0 ?_
 refine o_q rfl rfl (q_ldb Y3 rfl (fun w h => h.zae (i := 0) rfl) rfl) ?_
 refine za7 h (fun b4 hx3 h => ?_) rfl
 refine o_e rfl (zab 0 Z Try.func146 N146 rfl rfl rfl (fun w P1 hF hB hS hT => impl_modulusOk.calls a1 hB hF _ hx3)) (fun _ => ?_)
 refine o_q rfl rfl (za2 rfl) ?_
 refine byB b4 (fun hb5 => ?_) (fun hb5 => ?_)
 ·replace h := bb_t hb5 h
  refine o_w (za4 rfl rfl rfl (congrArg Value.bool hb5)) rfl (za2 rfl) ?_
  refine o_w (za4 rfl rfl rfl (congrArg Value.bool hb5)) rfl (q_func rfl rfl) ?_
  refine za7 h (fun b7 hx6 h => ?_) rfl
  refine o_ew (za4 rfl rfl rfl (congrArg Value.bool hb5)) (zab 0 Z Try.func147 N147 rfl rfl rfl (fun w P1 hF hB hS hT => slices_ContainsFunc_int_int_3.calls A0 c0 l0.length l0 g1 a1 hB hF (hS _ R0) hc0 (hT 0 _ rfl).box _ hx6)) (fun _ => ?_)
  refine o_w (za4 rfl rfl rfl (congrArg Value.bool hb5)) rfl (q_not rfl) ?_
  refine o_q rfl rfl (zaq true (congrArg Value.bool hb5) rfl) ?_
  refine o_q rfl rfl (q_asg rfl) ?_
  refine o_end ?_
  refine za1 ?_
  refine c_ret ?_
  have e0_ := Option.some.inj h; clear h
  subst e0_
  exact x_r1 () Try.results90 (zai rfl) rfl (fun w h => za6 [] (by decide) rfl w h)
 ·replace h := bb_f hb5 h
  refine @o_n _ _ _ _ _ _ _ _ _ _ _ 8 (za3 rfl rfl rfl (congrArg Value.bool hb5) rfl) (Eq.refl (some 8)) ?_
  refine @o_n _ _ _ _ _ _ _ _ _ _ _ 9 (za3 rfl rfl rfl (congrArg Value.bool hb5) rfl) (Eq.refl (some 9)) ?_
  refine @o_n _ _ _ _ _ _ _ _ _ _ _ 10 (za3 rfl rfl rfl (congrArg Value.bool hb5) rfl) (Eq.refl (some 10)) ?_
  refine @o_n _ _ _ _ _ _ _ _ _ _ _ 11 (za3 rfl rfl rfl (congrArg Value.bool hb5) rfl) (Eq.refl (some 11)) ?_
  refine o_q rfl rfl (zaq false (congrArg Value.bool hb5) rfl) ?_
  refine o_q rfl rfl (q_asg rfl) ?_
  refine o_end ?_
  refine za1 ?_
  refine c_ret ?_
  have e0_ := Option.some.inj h; clear h
  subst e0_
  exact x_r1 () Try.results90 (zai rfl) rfl (fun w h => za6 [] (by decide) rfl w h)

/-! ### slices.Clone[[]int,int]: function 137 -/
def slices_Clone_int_int.f (l0 : List Int) : Option (List Int) := (ap ([] : List Int) l0).bind fun l5 => some l5
set_option maxHeartbeats 600000 in
set_option maxRecDepth 100000 in
theorem slices_Clone_int_int.calls {w0 ws : World} {P0 : Nat → Prop} (A0 : Option Addr) (c0 : Nat) (n0 : Nat) (l0 : List Int) (Z : Below w0.heap.size w0 ws) (hF : Fr w0 ws P0 [] ws) (R0 : Stable ws P0 (fun w => Kd.C (Kd.int .i64) w A0 n0 l0)) (hc0 : n0 ≤ c0) (r_1 : List Int) (h : slices_Clone_int_int.f l0 = some r_1) :
  Calls Try.prog 137 #[.slice A0 n0 c0] ws (Post1 w0 ws P0 (fun ((q_2, q_3) : (Option Addr) × Nat) => .slice q_2 r_1.length q_3) (fun ((q_2, q_3) : (Option Addr) × Nat) => [row (Kd.int .i64) 3 (.slice q_2 r_1.length q_3) r_1])) := by
 unfold slices_Clone_int_int.f at h
 obtain rfl := (R0 ws (KeptB.refl _ _)).1
 refine enter Try.func137 rfl Try.ntmps137 rfl hF ?_
 refine c_seq ?_
 refine za0 ?_
 refine o_q rfl rfl (q_asg rfl) ?_
 refine o_end ?_
 refine za1 ?_
 refine c_seq ?_
 refine c_seq ?_
 refine za0 ?_
 refine o_q rfl rfl (za2 rfl) ?_
 refine o_q rfl rfl (q_snil Try.underlying25 rfl rfl) ?_
 refine o_end ?_
 refine za1 ?_
 refine zau _ rfl (fun hb1 => ?_) (fun hb1 => ?_)
 ·skip
  have hl_ := nil_of hb1 (R0 ws (KeptB.refl _ _)); subst hl_
  replace h : some ([] : List Int) = some r_1 := h
  refine c_seq ?_
  refine za0 ?_
  refine o_q rfl rfl (q_asg rfl) ?_
  refine o_end ?_
  refine za1 ?_
  refine c_ret ?_
  refine zaa ?_
  refine x_nil (Kd.int .i64) 3 ?_
  have e0_ := Option.some.inj h; clear h
  subst e0_
  exact x_r1 (none, 0) Try.results137 (zai rfl) rfl (fun w h => za6 [0] (by decide) rfl w h)
 ·skip
  refine zao ?_
  refine za1 ?_
  refine c_seq ?_
  refine za0 ?_
  refine o_e rfl (e_lit0 (Kd.int .i64) Try.underlying25 I3) (cur2 (fun A2 c3 => ?_))
  refine o_q rfl rfl (za2 rfl) ?_
  refine za7 h (fun l5 ha6 h => ?_) rfl
  refine o_e rfl (e_appr (i := 0) Try.underlying25 I3 rfl (by decide) (by decide) (fun _ _ _ _ h => h) rfl (fun w h => R0.now Z h) rfl rfl ha6) (cur2 (fun A7 c8 => ?_))
  refine o_q rfl rfl (q_asg rfl) ?_
  refine o_end ?_
  refine za1 ?_
  refine c_ret ?_
  have e0_ := Option.some.inj h; clear h
  subst e0_
  exact x_r1 (A7, c8) Try.results137 (zai rfl) rfl (fun w h => za6 [0] (by decide) rfl w h)

/-! ### loop.example/g01098/impl.RunResidues$1: function 93 -/
def impl_RunResidues_1.f (a0 : Int) (a1 : Int) (a2_0 : Int) : Option Unit := (nz a2_0).bind fun _ => some ()
set_option maxHeartbeats 600000 in
set_option maxRecDepth 100000 in
theorem impl_RunResidues_1.calls {w0 ws : World} {P0 : Nat → Prop} (a0 : Int) (a1 : Int) (g2 : Nat) (a2_0 : Int) (Z : Below w0.heap.size w0 ws) (hF : Fr w0 ws P0 [] ws) (B2 : Stable ws P0 (fun w => w.heap[g2]? = some (.cells #[.int .i64 a2_0] 3 (0, 0))))  (h : impl_RunResidues_1.f a0 a1 a2_0 = some ()) :
  Calls Try.prog 93 #[.int .i64 a0, .int .i64 a1, .pointer (some ⟨g2, 0, none⟩)] ws (Post1 w0 ws P0 (fun (_ : Unit) => .int .i64 ((w64 (a0 * a1)).tmod a2_0)) (fun (_ : Unit) => [])) := by
 unfold impl_RunResidues_1.f at h
 refine enter Try.func93 rfl Try.ntmps93 rfl hF ?_
 refine c_seq ?_
 refine za0 ?_
 refine o_q rfl rfl (q_asg rfl) ?_
 refine o_end ?_
 refine za1 ?_
 refine c_seq ?_
 refine za0 ?_
 refine o_q rfl rfl (za2 rfl) ?_
 refine o_q rfl rfl (za2 rfl) ?_
 refine o_q rfl rfl (q_mul64 rfl rfl) ?_
 refine o_q rfl rfl (q_ldb Y3 rfl (fun w h => B2.now Z h) rfl) ?_
 refine za7 h (fun _ hz1 h => ?_) rfl
 refine o_q rfl rfl (q_rem rfl rfl (nz_ne hz1)) ?_
 refine o_q rfl rfl (q_asg rfl) ?_
 refine o_end ?_
 refine za1 ?_
 refine c_ret ?_
 exact x_r1 () Try.results93 (zai rfl) rfl (fun w h => za6 [] (by decide) rfl w h)

/-! ### loop.example/g01098/impl.run[int]: function 92 -/
def impl_run_int.l0 (a2_c0_0 : Int) : (List SStep) → (List Int) → Int → Option (List Int)
 | [], l5, i8 => some l5
 | y9 :: ys10, l5, i8 => (gt l5 y9.f0).bind fun y325 => (gt l5 y9.f1).bind fun y624 => (impl_RunResidues_1.f y325 y624 a2_c0_0).bind fun _ => (ap l5 ([(w64 (y325 * y624)).tmod a2_c0_0] : List Int)).bind fun l863 => impl_run_int.l0 a2_c0_0 ys10 l863 (i8 + 1)
def impl_run_int.f (a0_0 : Int) (l0_1 : List SStep) (l0_2 : List Int) (l1 : List Int) (a2_c0_0 : Int) : Option (List Int) := (slices_Clone_int_int.f l1).bind fun l2 => (impl_run_int.l0 a2_c0_0 l0_1 l2 0).bind fun l5 => some l5
set_option maxHeartbeats 600000 in
set_option maxRecDepth 100000 in
theorem impl_run_int.calls {w0 ws : World} {P0 : Nat → Prop} (g0 : Nat) (a0_0 : Int) (A0_1 : Option Addr) (c0_1 : Nat) (n0_1 : Nat) (l0_1 : List SStep) (A0_2 : Option Addr) (c0_2 : Nat) (n0_2 : Nat) (l0_2 : List Int) (A1 : Option Addr) (c1 : Nat) (n1 : Nat) (l1 : List Int) (g2_c0 : Nat) (a2_c0_0 : Int) (Z : Below w0.heap.size w0 ws) (hF : Fr w0 ws P0 [] ws) (R0_1 : Stable ws P0 (fun w => Kd.C kStep w A0_1 n0_1 l0_1)) (hc0_1 : n0_1 ≤ c0_1) (R0_2 : Stable ws P0 (fun w => Kd.C (Kd.int .i64) w A0_2 n0_2 l0_2)) (hc0_2 : n0_2 ≤ c0_2) (B0 : Stable ws P0 (fun w => w.heap[g0]? = some (.cells #[.int .i64 a0_0, .slice A0_1 n0_1 c0_1, .slice A0_2 n0_2 c0_2] 27 (0, 0)))) (R1 : Stable ws P0 (fun w => Kd.C (Kd.int .i64) w A1 n1 l1)) (hc1 : n1 ≤ c1) (B2_c0 : Stable ws P0 (fun w => w.heap[g2_c0]? = some (.cells #[.int .i64 a2_c0_0] 3 (0, 0)))) (r_1 : List Int) (h : impl_run_int.f a0_0 l0_1 l0_2 l1 a2_c0_0 = some r_1) :
  Calls Try.prog 92 #[.pointer (some ⟨g0, 0, none⟩), .slice A1 n1 c1, .func (.func 93) #[] #[.pointer (some ⟨g2_c0, 0, none⟩)]] ws (Post1 w0 ws P0 (fun ((q_2, q_3) : (Option Addr) × Nat) => .slice q_2 r_1.length q_3) (fun ((q_2, q_3) : (Option Addr) × Nat) => [row (Kd.int .i64) 3 (.slice q_2 r_1.length q_3) r_1])) := by
 unfold impl_run_int.f at h
 obtain rfl := (R0_1 ws (KeptB.refl _ _)).1
 obtain rfl := (R0_2 ws (KeptB.refl _ _)).1
 obtain rfl := (R1 ws (KeptB.refl _ _)).1
 refine enter Try.func92 rfl Try.ntmps92 rfl hF ?_
 refine c_seq ?_
 refine za0 ?_
 refine o_q rfl rfl (q_asg rfl) ?_
 refine o_end ?_
 refine za1 ?_
 refine c_seq ?_
 refine za0 ?_
 refine o_q rfl rfl (za2 rfl) ?_
 refine za7 h (fun l2 hx1 h => ?_) rfl
 refine o_e rfl (zab 0 Z Try.func137 N137 rfl rfl rfl (fun w P1 hF hB hS hT => slices_Clone_int_int.calls A1 c1 l1.length l1 hB hF (hS _ R1) hc1 _ hx1)) (cur2 (fun A3 c4 => ?_))
 refine o_q rfl rfl (q_asg rfl) ?_
 refine o_end ?_
 refine za1 ?_
 refine c_seq ?_
 refine c_seq ?_
 refine za0 ?_
 refine o_q rfl rfl (za2 rfl) ?_
 refine o_q rfl rfl (q_nil rfl) ?_
 refine o_q rfl rfl (q_f F27_1 rfl) ?_
 refine o_q rfl rfl (q_ldb Y24 rfl (fun w h => B0.now Z h) rfl) ?_
 refine o_q rfl rfl (q_len Try.underlying24 rfl) ?_
 refine o_q rfl rfl (za2 rfl) ?_
 refine o_end ?_
 refine za1 ?_
 refine zaj ?_
 refine za7 h (fun o16 hl15 hR14 => ?_) rfl
 clear h
 refine zba (p := l0_1.length ≤ 9223372036854775807) (fun w h => (R0_1.now Z h).2.1) (fun hm13 => ?_)
 refine zax (σ := (List SStep) × (List Int) × Int × (Option Addr) × Nat) (fun k11 ((ys10, l5, i8, A6, c7) : (List SStep) × (List Int) × Int × (Option Addr) × Nat) => Rg l0_1 i8 ys10 ∧ ys10.length = k11 ∧ impl_run_int.l0 a2_c0_0 ys10 l5 i8 = some o16) [7, 9, 17, 18, 19, 20, 21, 22, 23, 24, 25, 26, 27, 28, 29, 30, 31, 32, 33, 34, 35, 36] (fun ((ys10, l5, i8, A6, c7) : (List SStep) × (List Int) × Int × (Option Addr) × Nat) => [(7, .slice A6 l5.length c7), (17, .int .i64 i8)]) (fun ((ys10, l5, i8, A6, c7) : (List SStep) × (List Int) × Int × (Option Addr) × Nat) => [row (Kd.int .i64) 3 (.slice A6 l5.length c7) l5]) l0_1.length (l0_1, l2, 0, A3, c4) ⟨Rg.start _, rfl, hl15⟩ ⟨rfl, rfl, trivial⟩ (fun w h => h) ?_
 refine fun k11 => cur5 (listC (fun l5 i8 A6 c7 U17 hJ_ => ?_) (fun y9 ys10 l5 i8 A6 c7 U17 hJ_ => ?_))
 ·skip
  clear hl15
  have hr12 := hJ_.1; have hk18 := hJ_.2.1; have h := hJ_.2.2; clear hJ_
  replace h : impl_run_int.l0 a2_c0_0 [] l5 i8 = some o16 := h
  rw [impl_run_int.l0] at h
  refine c_seq ?_
  refine za0 ?_
  refine o_q rfl rfl (q_lss rfl rfl) ?_
  refine o_end ?_
  refine za1 ?_
  refine c_seq ?_
  refine zb3 (congrArg Value.bool hr12.ge) ?_
  refine zb4 ?_
  refine za8 ?_
  refine za8 ?_
  have e_ := Option.some.inj h; replace h := hR14; rw [← e_] at h; clear e_
  refine x_hit ?_
  refine za1 ?_
  refine c_seq ?_
  refine za0 ?_
  refine o_q rfl rfl (za2 rfl) ?_
  refine o_q rfl rfl (q_asg rfl) ?_
  refine o_end ?_
  refine za1 ?_
  refine c_ret ?_
  have e0_ := Option.some.inj h; clear h
  subst e0_
  exact x_r1 (A6, c7) Try.results92 (zai rfl) rfl (fun w h => za6 [0] (by decide) rfl w h)
 ·skip
  clear hl15
  have hr12 := hJ_.1; have hk18 := hJ_.2.1; have h := hJ_.2.2; clear hJ_
  replace h : impl_run_int.l0 a2_c0_0 (y9 :: ys10) l5 i8 = some o16 := h
  rw [impl_run_int.l0] at h
  refine c_seq ?_
  refine za0 ?_
  refine o_q rfl rfl (q_lss rfl rfl) ?_
  refine o_end ?_
  refine za1 ?_
  refine c_seq ?_
  refine zb1 (congrArg Value.bool hr12.lt) ?_
  refine zao ?_
  refine za1 ?_
  refine c_seq ?_
  refine zaj ?_
  refine c_seq ?_
  refine za0 ?_
  refine zaz (p := Sh A0_1 l0_1.length l0_1.length) (fun w h => f_sh (dk := kStep) h (fun w h => R0_1.now Z h)) (fun hq19 => ?_)
  refine o_q rfl rfl (q_ix Try.underlying24 Z88 rfl rfl hq19 hr12.get) ?_
  refine o_q rfl rfl (q_ldE G88 Z88 rfl rfl (fun w h => R0_1.now Z h) hr12.get (fun _ _ h => h) rfl) ?_
  refine o_e rfl (zat V88 rfl) (fun g20 => ?_)
  refine o_e rfl (zan (i := 0) rfl rfl rfl Z88 rfl rfl) (fun _ => ?_)
  refine o_end ?_
  refine za1 ?_
  refine za7 h (fun y325 hg324 h => ?_) rfl
  refine za7 h (fun y624 hg623 h => ?_) rfl
  refine za7 h (fun _ hx743 h => ?_) rfl
  refine za7 h (fun l863 ha864 h => ?_) rfl
  refine a_startS (ds := []) [some 0, none] MO rfl ?_
  refine za9 0 rfl rfl rfl (by kernel_rfl) (fun _ _ _ h => h) (za2 rfl) ?_
  refine za9 1 rfl rfl rfl (by kernel_rfl) (fun _ _ _ h => h) (za2 rfl) ?_
  refine za9 2 rfl rfl rfl (by kernel_rfl) (fun _ _ _ h => h) (za2 rfl) ?_
  refine za9 3 rfl rfl rfl (by kernel_rfl) (fun _ _ _ h => h) (q_f F88_0 rfl) ?_
  refine zb0 4 rfl rfl rfl (by kernel_rfl) (fun _ _ _ h => h) (fun w h => za5 [some 0, none] (by decide) w h rfl) (q_ldb Y3 rfl (fun w h => h.zae (i := 0) rfl) rfl) ?_
  refine a_fact (p := Sh A6 l5.length l5.length) (fun w h => f_sh (dk := (Kd.int .i64)) h (fun w h => h.zaw (i := 1) rfl)) (fun hq323 => ?_)
  refine za9 5 rfl rfl rfl (by kernel_rfl) (fun _ _ _ h => h) (q_ix Try.underlying25 Z3 rfl rfl hq323 hg324) ?_
  refine za9 7 rfl rfl rfl (by kernel_rfl) (fun _ _ _ h => h) (za2 rfl) ?_
  refine za9 8 rfl rfl rfl (by kernel_rfl) (fun _ _ _ h => h) (q_f F88_1 rfl) ?_
  refine zb0 9 rfl rfl rfl (by kernel_rfl) (fun _ _ _ h => h) (fun w h => za5 [some 0, none] (by decide) w h rfl) (q_ldb Y3 rfl (fun w h => h.zae (i := 0) rfl) rfl) ?_
  refine za9 10 rfl rfl rfl (by kernel_rfl) (fun _ _ _ h => h) (q_ix Try.underlying25 Z3 rfl rfl hq323 hg623) ?_
  refine a_two 6 11 rfl rfl rfl rfl (by kernel_rfl) rfl rfl (ev_q rfl (q_lde (off := 0) Y3 rfl rfl (fun w h => h.zaw (i := 1) rfl) hg324 (fun _ _ h => h) rfl)) (fun s w h => za5 [some 0, none] (by decide) w h rfl) (ev_q rfl (q_lde (off := 0) Y3 rfl rfl (fun w h => h.zaw (i := 1) rfl) hg623 (fun _ _ h => h) rfl)) (fun s w h => za5 [some 0, none] (by decide) w h rfl) (fun _ => ?_) (fun _ => ?_)
  ·skip
   refine a_one 11 rfl rfl (by kernel_rfl) rfl (ev_q rfl (q_lde (off := 0) Y3 rfl rfl (fun w h => h.zaw (i := 1) rfl) hg623 (fun _ _ h => h) rfl)) (fun s w h => za5 [some 0, none] (by decide) w h rfl) (fun _ => ?_)
   refine a_one 12 rfl rfl (by kernel_rfl) rfl (zab 0 Z Try.func93 N93 rfl rfl rfl (fun w P1 hF hB hS hT => impl_RunResidues_1.calls y325 y624 g2_c0 a2_c0_0 hB hF (hS _ B2_c0) hx743)) (fun s w h => za5 [some 0, none] (by decide) w h rfl) (fun _ => ?_)
   refine a_one 13 rfl rfl (by kernel_rfl) rfl (e_lit (vs := [(0, .int .i64 ((w64 (y325 * y624)).tmod a2_c0_0))]) (cs := [.int .i64 ((w64 (y325 * y624)).tmod a2_c0_0)]) (Kd.int .i64) ([(w64 (y325 * y624)).tmod a2_c0_0] : List Int) Try.underlying25 I3 (by decide) rfl (by decide) rfl rfl (fun _ _ => Kd.zak _)) (fun s w h => za5 [some 1, none] (by decide) w h rfl) (cur2 (fun A803 c804 => ?_))
   refine a_one 14 rfl rfl (by kernel_rfl) rfl (e_app (i := 2) (j := 0) Try.underlying25 I3 rfl (by decide) (by decide) rfl rfl rfl rfl rfl ha864) (fun s w h => za5 [some 1, none] (by decide) w h rfl) (cur2 (fun A865 c866 => ?_))
   refine za9 15 rfl rfl rfl (by kernel_rfl) (fun _ _ _ h => h) (q_asg rfl) ?_
   refine zav (by kernel_rfl) ?_
   refine zal ?_
   refine za1 ?_
   refine za0 ?_
   refine o_q rfl rfl (q_up rfl rfl (hr12.up hm13)) ?_
   refine o_q rfl rfl (za2 rfl) ?_
   refine o_end ?_
   refine zam ys10.length (ys10, l863, i8 + 1, A865, c866) (by rw [← hk18]; exact Nat.lt_succ_self _) ⟨hr12.step, rfl, h⟩ ⟨rfl, rfl, trivial⟩ (fun w h => za6 [2] (by decide) rfl w h) ?_
   repeat (first | exact zac _ _ | refine zaf rfl ?_ | refine zad rfl ?_ | refine zah rfl ?_)
  ·skip
   refine a_one 6 rfl rfl (by kernel_rfl) rfl (ev_q rfl (q_lde (off := 0) Y3 rfl rfl (fun w h => h.zaw (i := 1) rfl) hg324 (fun _ _ h => h) rfl)) (fun s w h => za5 [some 0, none] (by decide) w h rfl) (fun _ => ?_)
   refine a_one 12 rfl rfl (by kernel_rfl) rfl (zab 0 Z Try.func93 N93 rfl rfl rfl (fun w P1 hF hB hS hT => impl_RunResidues_1.calls y325 y624 g2_c0 a2_c0_0 hB hF (hS _ B2_c0) hx743)) (fun s w h => za5 [some 0, none] (by decide) w h rfl) (fun _ => ?_)
   refine a_one 13 rfl rfl (by kernel_rfl) rfl (e_lit (vs := [(0, .int .i64 ((w64 (y325 * y624)).tmod a2_c0_0))]) (cs := [.int .i64 ((w64 (y325 * y624)).tmod a2_c0_0)]) (Kd.int .i64) ([(w64 (y325 * y624)).tmod a2_c0_0] : List Int) Try.underlying25 I3 (by decide) rfl (by decide) rfl rfl (fun _ _ => Kd.zak _)) (fun s w h => za5 [some 1, none] (by decide) w h rfl) (cur2 (fun A803 c804 => ?_))
   refine a_one 14 rfl rfl (by kernel_rfl) rfl (e_app (i := 2) (j := 0) Try.underlying25 I3 rfl (by decide) (by decide) rfl rfl rfl rfl rfl ha864) (fun s w h => za5 [some 1, none] (by decide) w h rfl) (cur2 (fun A865 c866 => ?_))
   refine za9 15 rfl rfl rfl (by kernel_rfl) (fun _ _ _ h => h) (q_asg rfl) ?_
   refine zav (by kernel_rfl) ?_
   refine zal ?_
   refine za1 ?_
   refine za0 ?_
   refine o_q rfl rfl (q_up rfl rfl (hr12.up hm13)) ?_
   refine o_q rfl rfl (za2 rfl) ?_
   refine o_end ?_
   refine zam ys10.length (ys10, l863, i8 + 1, A865, c866) (by rw [← hk18]; exact Nat.lt_succ_self _) ⟨hr12.step, rfl, h⟩ ⟨rfl, rfl, trivial⟩ (fun w h => za6 [2] (by decide) rfl w h) ?_
   repeat (first | exact zac _ _ | refine zaf rfl ?_ | refine zad rfl ?_ | refine zah rfl ?_)

/-! ### loop.example/g01098/impl.outputsOf[int]: function 91 -/
def impl_outputsOf_int.l0 (l1 : List Int) : (List Int) → (List Int) → Int → Option (List Int)
 | [], l5, i8 => some l5
 | y9 :: ys10, l5, i8 => (gt l1 y9).bind fun y22 => (ap l5 ([y22] : List Int)).bind fun l26 => impl_outputsOf_int.l0 l1 ys10 l26 (i8 + 1)
def impl_outputsOf_int.f (a0_0 : Int) (l0_1 : List SStep) (l0_2 : List Int) (l1 : List Int) : Option (List Int) := (impl_outputsOf_int.l0 l1 l0_2 ([] : List Int) 0).bind fun l5 => some l5
set_option maxHeartbeats 600000 in
set_option maxRecDepth 100000 in
theorem impl_outputsOf_int.calls {w0 ws : World} {P0 : Nat → Prop} (g0 : Nat) (a0_0 : Int) (A0_1 : Option Addr) (c0_1 : Nat) (n0_1 : Nat) (l0_1 : List SStep) (A0_2 : Option Addr) (c0_2 : Nat) (n0_2 : Nat) (l0_2 : List Int) (A1 : Option Addr) (c1 : Nat) (n1 : Nat) (l1 : List Int) (Z : Below w0.heap.size w0 ws) (hF : Fr w0 ws P0 [] ws) (R0_1 : Stable ws P0 (fun w => Kd.C kStep w A0_1 n0_1 l0_1)) (hc0_1 : n0_1 ≤ c0_1) (R0_2 : Stable ws P0 (fun w => Kd.C (Kd.int .i64) w A0_2 n0_2 l0_2)) (hc0_2 : n0_2 ≤ c0_2) (B0 : Stable ws P0 (fun w => w.heap[g0]? = some (.cells #[.int .i64 a0_0, .slice A0_1 n0_1 c0_1, .slice A0_2 n0_2 c0_2] 27 (0, 0)))) (R1 : Stable ws P0 (fun w => Kd.C (Kd.int .i64) w A1 n1 l1)) (hc1 : n1 ≤ c1) (r_1 : List Int) (h : impl_outputsOf_int.f a0_0 l0_1 l0_2 l1 = some r_1) :
  Calls Try.prog 91 #[.pointer (some ⟨g0, 0, none⟩), .slice A1 n1 c1] ws (Post1 w0 ws P0 (fun ((q_2, q_3) : (Option Addr) × Nat) => .slice q_2 r_1.length q_3) (fun ((q_2, q_3) : (Option Addr) × Nat) => [row (Kd.int .i64) 3 (.slice q_2 r_1.length q_3) r_1])) := by
 unfold impl_outputsOf_int.f at h
 obtain rfl := (R0_1 ws (KeptB.refl _ _)).1
 obtain rfl := (R0_2 ws (KeptB.refl _ _)).1
 obtain rfl := (R1 ws (KeptB.refl _ _)).1
 refine enter Try.func91 rfl Try.ntmps91 rfl hF ?_
 refine c_seq ?_
 refine za0 ?_
 refine o_q rfl rfl (q_asg rfl) ?_
 refine o_end ?_
 refine za1 ?_
 refine c_seq ?_
 refine za0 ?_
 refine o_e rfl (e_lit0 (Kd.int .i64) Try.underlying25 I3) (cur2 (fun A2 c3 => ?_))
 refine o_q rfl rfl (q_asg rfl) ?_
 refine o_end ?_
 refine za1 ?_
 refine c_seq ?_
 refine c_seq ?_
 refine za0 ?_
 refine o_q rfl rfl (za2 rfl) ?_
 refine o_q rfl rfl (q_nil rfl) ?_
 refine o_q rfl rfl (q_f F27_2 rfl) ?_
 refine o_q rfl rfl (q_ldb Y25 rfl (fun w h => B0.now Z h) rfl) ?_
 refine o_q rfl rfl (q_len Try.underlying25 rfl) ?_
 refine o_q rfl rfl (za2 rfl) ?_
 refine o_end ?_
 refine za1 ?_
 refine zaj ?_
 refine za7 h (fun o16 hl15 hR14 => ?_) rfl
 clear h
 refine zba (p := l0_2.length ≤ 9223372036854775807) (fun w h => (R0_2.now Z h).2.1) (fun hm13 => ?_)
 refine zax (σ := (List Int) × (List Int) × Int × (Option Addr) × Nat) (fun k11 ((ys10, l5, i8, A6, c7) : (List Int) × (List Int) × Int × (Option Addr) × Nat) => Rg l0_2 i8 ys10 ∧ ys10.length = k11 ∧ impl_outputsOf_int.l0 l1 ys10 l5 i8 = some o16) [5, 7, 14, 15, 16, 17, 18, 19, 20, 21, 22, 23, 24, 25] (fun ((ys10, l5, i8, A6, c7) : (List Int) × (List Int) × Int × (Option Addr) × Nat) => [(5, .slice A6 l5.length c7), (14, .int .i64 i8)]) (fun ((ys10, l5, i8, A6, c7) : (List Int) × (List Int) × Int × (Option Addr) × Nat) => [row (Kd.int .i64) 3 (.slice A6 l5.length c7) l5]) l0_2.length (l0_2, ([] : List Int), 0, A2, c3) ⟨Rg.start _, rfl, hl15⟩ ⟨rfl, rfl, trivial⟩ (fun w h => h) ?_
 refine fun k11 => cur5 (listC (fun l5 i8 A6 c7 U17 hJ_ => ?_) (fun y9 ys10 l5 i8 A6 c7 U17 hJ_ => ?_))
 ·skip
  clear hl15
  have hr12 := hJ_.1; have hk18 := hJ_.2.1; have h := hJ_.2.2; clear hJ_
  replace h : impl_outputsOf_int.l0 l1 [] l5 i8 = some o16 := h
  rw [impl_outputsOf_int.l0] at h
  refine c_seq ?_
  refine za0 ?_
  refine o_q rfl rfl (q_lss rfl rfl) ?_
  refine o_end ?_
  refine za1 ?_
  refine c_seq ?_
  refine zb3 (congrArg Value.bool hr12.ge) ?_
  refine zb4 ?_
  refine za8 ?_
  refine za8 ?_
  have e_ := Option.some.inj h; replace h := hR14; rw [← e_] at h; clear e_
  refine x_hit ?_
  refine za1 ?_
  refine c_seq ?_
  refine za0 ?_
  refine o_q rfl rfl (za2 rfl) ?_
  refine o_q rfl rfl (q_asg rfl) ?_
  refine o_end ?_
  refine za1 ?_
  refine c_ret ?_
  have e0_ := Option.some.inj h; clear h
  subst e0_
  exact x_r1 (A6, c7) Try.results91 (zai rfl) rfl (fun w h => za6 [0] (by decide) rfl w h)
 ·skip
  clear hl15
  have hr12 := hJ_.1; have hk18 := hJ_.2.1; have h := hJ_.2.2; clear hJ_
  replace h : impl_outputsOf_int.l0 l1 (y9 :: ys10) l5 i8 = some o16 := h
  rw [impl_outputsOf_int.l0] at h
  refine c_seq ?_
  refine za0 ?_
  refine o_q rfl rfl (q_lss rfl rfl) ?_
  refine o_end ?_
  refine za1 ?_
  refine c_seq ?_
  refine zb1 (congrArg Value.bool hr12.lt) ?_
  refine zao ?_
  refine za1 ?_
  refine c_seq ?_
  refine zaj ?_
  refine c_seq ?_
  refine za0 ?_
  refine zaz (p := Sh A0_2 l0_2.length l0_2.length) (fun w h => f_sh (dk := (Kd.int .i64)) h (fun w h => R0_2.now Z h)) (fun hq19 => ?_)
  refine o_q rfl rfl (q_ix Try.underlying25 Z3 rfl rfl hq19 hr12.get) ?_
  refine o_q rfl rfl (q_lde (off := 0) Y3 rfl rfl (fun w h => R0_2.now Z h) hr12.get (fun _ _ h => h) rfl) ?_
  refine o_q rfl rfl (q_asg rfl) ?_
  refine o_end ?_
  refine za1 ?_
  refine za0 ?_
  refine o_q rfl rfl (za2 rfl) ?_
  refine o_q rfl rfl (za2 rfl) ?_
  refine o_q rfl rfl (za2 rfl) ?_
  refine zaz (p := Sh A1 l1.length l1.length) (fun w h => f_sh (dk := (Kd.int .i64)) h (fun w h => R1.now Z h)) (fun hq20 => ?_)
  refine za7 h (fun y22 hg21 h => ?_) rfl
  refine o_q rfl rfl (q_ix Try.underlying25 Z3 rfl rfl hq20 hg21) ?_
  refine o_q rfl rfl (q_lde (off := 0) Y3 rfl rfl (fun w h => R1.now Z h) hg21 (fun _ _ h => h) rfl) ?_
  refine o_e rfl (e_lit (vs := [(0, .int .i64 y22)]) (cs := [.int .i64 y22]) (Kd.int .i64) ([y22] : List Int) Try.underlying25 I3 (by decide) rfl (by decide) rfl rfl (fun _ _ => Kd.zak _)) (cur2 (fun A23 c24 => ?_))
  refine za7 h (fun l26 ha27 h => ?_) rfl
  refine o_e rfl (e_app (i := 1) (j := 0) Try.underlying25 I3 rfl (by decide) (by decide) rfl rfl rfl rfl rfl ha27) (cur2 (fun A28 c29 => ?_))
  refine o_q rfl rfl (q_asg rfl) ?_
  refine o_end ?_
  refine zal ?_
  refine za1 ?_
  refine za0 ?_
  refine o_q rfl rfl (q_up rfl rfl (hr12.up hm13)) ?_
  refine o_q rfl rfl (za2 rfl) ?_
  refine o_end ?_
  refine zam ys10.length (ys10, l26, i8 + 1, A28, c29) (by rw [← hk18]; exact Nat.lt_succ_self _) ⟨hr12.step, rfl, h⟩ ⟨rfl, rfl, trivial⟩ (fun w h => za6 [1] (by decide) rfl w h) ?_
  repeat (first | exact zac _ _ | refine zaf rfl ?_ | refine zad rfl ?_ | refine zah rfl ?_)

/-! ### loop.example/g01098/impl.RunResidues: function 35 -/
def impl_RunResidues.f (k : Nat) (a0_0 : Int) (l0_1 : List SStep) (l0_2 : List Int) (a1 : Int) (l2 : List Int) : Option ((List Int) × Bool) := (impl_IsPlan.f k a0_0 l0_1 l0_2).bind fun b6 => if b6 = true then (if (l2.length : Int) ≠ a0_0 then (some (([] : List Int), false)) else ((impl_residuesOk.f l2 a1).bind fun b10 => if b10 = true then ((impl_run_int.f a0_0 l0_1 l0_2 l2 a1).bind fun l13 => (impl_outputsOf_int.f a0_0 l0_1 l0_2 l13).bind fun l17 => some (l17, true)) else (some (([] : List Int), false)))) else (some (([] : List Int), false))
set_option maxHeartbeats 600000 in
set_option maxRecDepth 100000 in
theorem impl_RunResidues.calls (k : Nat) {w0 ws : World} {P0 : Nat → Prop} (a0_0 : Int) (A0_1 : Option Addr) (c0_1 : Nat) (n0_1 : Nat) (l0_1 : List SStep) (A0_2 : Option Addr) (c0_2 : Nat) (n0_2 : Nat) (l0_2 : List Int) (a1 : Int) (A2 : Option Addr) (c2 : Nat) (n2 : Nat) (l2 : List Int) (Z : Below w0.heap.size w0 ws) (hF : Fr w0 ws P0 [] ws) (R0_1 : Stable ws P0 (fun w => Kd.C kStep w A0_1 n0_1 l0_1)) (hc0_1 : n0_1 ≤ c0_1) (R0_2 : Stable ws P0 (fun w => Kd.C (Kd.int .i64) w A0_2 n0_2 l0_2)) (hc0_2 : n0_2 ≤ c0_2) (R2 : Stable ws P0 (fun w => Kd.C (Kd.int .i64) w A2 n2 l2)) (hc2 : n2 ≤ c2) (r_1 : List Int) (r_4 : Bool) (h : impl_RunResidues.f k a0_0 l0_1 l0_2 a1 l2 = some (r_1, r_4)) :
  Calls Try.prog 35 #[.agg #[.int .i64 a0_0, .slice A0_1 n0_1 c0_1, .slice A0_2 n0_2 c0_2], .int .i64 a1, .slice A2 n2 c2] ws (Post1 w0 ws P0 (fun ((q_2, q_3) : (Option Addr) × Nat) => .tuple #[.slice q_2 r_1.length q_3, .bool r_4]) (fun ((q_2, q_3) : (Option Addr) × Nat) => [row (Kd.int .i64) 3 (.slice q_2 r_1.length q_3) r_1])) := by
 unfold impl_RunResidues.f at h
 obtain rfl := (R0_1 ws (KeptB.refl _ _)).1
 obtain rfl := (R0_2 ws (KeptB.refl _ _)).1
 obtain rfl := (R2 ws (KeptB.refl _ _)).1
 refine enter Try.func35 rfl Try.ntmps35 rfl hF ?_
 refine c_seq ?_
 refine za0 ?_
 refine o_e rfl (e_box rfl) (fun g1 => ?_)
 refine o_e rfl (e_box rfl) (fun g3 => ?_)
 refine o_q rfl rfl (q_asg rfl) ?_
 refine o_q rfl rfl (q_asg rfl) ?_
 refine o_end ?_
 refine za1 ?_
 refine c_seq ?_
 refine c_seq ?_
 refine za0 ?_
 refine o_q rfl rfl (q_ldB G27 Z27 rfl (fun w h => h.zae (i := 1) rfl) rfl) ?_
 refine za7 h (fun b6 hx5 h => ?_) rfl
 refine o_e rfl (zab 0 Z Try.func67 N67 rfl rfl rfl (fun w P1 hF hB hS hT => impl_IsPlan.calls k a0_0 A0_1 c0_1 l0_1.length l0_1 A0_2 c0_2 l0_2.length l0_2 hB hF (hS _ R0_1) hc0_1 (hS _ R0_2) hc0_2 _ hx5)) (fun _ => ?_)
 refine o_q rfl rfl (q_not rfl) ?_
 refine o_q rfl rfl (za2 rfl) ?_
 refine byB b6 (fun hb7 => ?_) (fun hb7 => ?_)
 ·replace h := bb_t hb7 h
  refine o_w (za4 rfl rfl rfl (congrArg (fun b => Value.bool (!(b))) hb7)) rfl (za2 rfl) ?_
  refine o_w (za4 rfl rfl rfl (congrArg (fun b => Value.bool (!(b))) hb7)) rfl (q_len Try.underlying25 rfl) ?_
  refine o_w (za4 rfl rfl rfl (congrArg (fun b => Value.bool (!(b))) hb7)) rfl (q_f F27_0 rfl) ?_
  refine o_w (za4 rfl rfl rfl (congrArg (fun b => Value.bool (!(b))) hb7)) rfl (q_ldb Y3 rfl (fun w h => h.zae (i := 1) rfl) rfl) ?_
  refine o_w (za4 rfl rfl rfl (congrArg (fun b => Value.bool (!(b))) hb7)) rfl (q_neq rfl rfl) ?_
  refine o_q rfl rfl (zaq false (congrArg (fun b => Value.bool (!(b))) hb7) rfl) ?_
  refine o_q rfl rfl (za2 rfl) ?_
  refine byB (decide ((l2.length : Int) ≠ a0_0)) (fun hb8 => ?_) (fun hb8 => ?_)
  ·replace h := br_t hb8 h
   refine @o_n _ _ _ _ _ _ _ _ _ _ _ 19 (za3 rfl rfl rfl (congrArg Value.bool hb8) rfl) (Eq.refl (some 19)) ?_
   refine @o_n _ _ _ _ _ _ _ _ _ _ _ 20 (za3 rfl rfl rfl (congrArg Value.bool hb8) rfl) (Eq.refl (some 20)) ?_
   refine @o_n _ _ _ _ _ _ _ _ _ _ _ 21 (za3 rfl rfl rfl (congrArg Value.bool hb8) rfl) (Eq.refl (some 21)) ?_
   refine @o_n _ _ _ _ _ _ _ _ _ _ _ 22 (za3 rfl rfl rfl (congrArg Value.bool hb8) rfl) (Eq.refl (some 22)) ?_
   refine o_q rfl rfl (zaq true (congrArg Value.bool hb8) rfl) ?_
   refine o_end ?_
   refine za1 ?_
   refine zb1 rfl ?_
   refine c_seq ?_
   refine za0 ?_
   refine o_q rfl rfl (q_asg rfl) ?_
   refine o_q rfl rfl (q_asg rfl) ?_
   refine o_end ?_
   refine za1 ?_
   refine c_ret ?_
   refine zaa ?_
   refine x_nil (Kd.int .i64) 3 ?_
   have e0_ := Option.some.inj h; clear h
   have d0_ := (Prod.mk.inj e0_).1; have e1_ := (Prod.mk.inj e0_).2; clear e0_; subst d0_
   subst e1_
   exact x_r2 (none, 0) Try.results35 (zai rfl) (zai rfl) rfl (fun w h => za6 [0] (by decide) rfl w h)
  ·replace h := br_f hb8 h
   refine o_w (za4 rfl rfl rfl (congrArg Value.bool hb8)) rfl (za2 rfl) ?_
   refine o_w (za4 rfl rfl rfl (congrArg Value.bool hb8)) rfl (q_ldb Y3 rfl (fun w h => h.zae (i := 0) rfl) rfl) ?_
   refine za7 h (fun b10 hx9 h => ?_) rfl
   refine o_ew (za4 rfl rfl rfl (congrArg Value.bool hb8)) (zab 0 Z Try.func90 N90 rfl rfl rfl (fun w P1 hF hB hS hT => impl_residuesOk.calls A2 c2 l2.length l2 a1 hB hF (hS _ R2) hc2 _ hx9)) (fun _ => ?_)
   refine o_w (za4 rfl rfl rfl (congrArg Value.bool hb8)) rfl (q_not rfl) ?_
   refine o_q rfl rfl (zaq false (congrArg Value.bool hb8) rfl) ?_
   refine o_end ?_
   refine za1 ?_
   refine zau _ rfl (fun hb11 => ?_) (fun hb11 => ?_)
   ·replace hb11 := nt_t hb11
    replace h := bb_f hb11 h
    refine c_seq ?_
    refine za0 ?_
    refine o_q rfl rfl (q_asg rfl) ?_
    refine o_q rfl rfl (q_asg rfl) ?_
    refine o_end ?_
    refine za1 ?_
    refine c_ret ?_
    refine zaa ?_
    refine x_nil (Kd.int .i64) 3 ?_
    have e0_ := Option.some.inj h; clear h
    have d0_ := (Prod.mk.inj e0_).1; have e1_ := (Prod.mk.inj e0_).2; clear e0_; subst d0_
    subst e1_
    exact x_r2 (none, 0) Try.results35 (zai rfl) (zai rfl) rfl (fun w h => za6 [0] (by decide) rfl w h)
   ·replace hb11 := nt_f hb11
    replace h := bb_t hb11 h
    refine zao ?_
    refine za1 ?_
    refine c_seq ?_
    refine za0 ?_
    refine o_q rfl rfl (za2 rfl) ?_
    refine o_q rfl rfl (q_func rfl rfl) ?_
    refine za7 h (fun l13 hx12 h => ?_) rfl
    refine o_e rfl (zab 0 Z Try.func92 N92 rfl rfl rfl (fun w P1 hF hB hS hT => impl_run_int.calls g1 a0_0 A0_1 c0_1 l0_1.length l0_1 A0_2 c0_2 l0_2.length l0_2 A2 c2 l2.length l2 g3 a1 hB hF (hS _ R0_1) hc0_1 (hS _ R0_2) hc0_2 (hT 1 _ rfl).box (hS _ R2) hc2 (hT 0 _ rfl).box _ hx12)) (cur2 (fun A14 c15 => ?_))
    refine za7 h (fun l17 hx16 h => ?_) rfl
    refine o_e rfl (zab 0 Z Try.func91 N91 rfl rfl rfl (fun w P1 hF hB hS hT => impl_outputsOf_int.calls g1 a0_0 A0_1 c0_1 l0_1.length l0_1 A0_2 c0_2 l0_2.length l0_2 A14 c15 l13.length l13 hB hF (hS _ R0_1) hc0_1 (hS _ R0_2) hc0_2 (hT 2 _ rfl).box (hT 0 _ rfl).row (hT 0 _ rfl).cap _ hx16)) (cur2 (fun A18 c19 => ?_))
    refine o_q rfl rfl (q_asg rfl) ?_
    refine o_q rfl rfl (q_asg rfl) ?_
    refine o_end ?_
    refine za1 ?_
    refine c_ret ?_
    have e0_ := Option.some.inj h; clear h
    have d0_ := (Prod.mk.inj e0_).1; have e1_ := (Prod.mk.inj e0_).2; clear e0_; subst d0_
    subst e1_
    exact x_r2 (A18, c19) Try.results35 (zai rfl) (zai rfl) rfl (fun w h => za6 [0] (by decide) rfl w h)
 ·replace h := bb_f hb7 h
  refine @o_n _ _ _ _ _ _ _ _ _ _ _ 12 (za3 rfl rfl rfl (congrArg (fun b => Value.bool (!(b))) hb7) rfl) (Eq.refl (some 12)) ?_
  refine @o_n _ _ _ _ _ _ _ _ _ _ _ 13 (za3 rfl rfl rfl (congrArg (fun b => Value.bool (!(b))) hb7) rfl) (Eq.refl (some 13)) ?_
  refine @o_n _ _ _ _ _ _ _ _ _ _ _ 14 (za3 rfl rfl rfl (congrArg (fun b => Value.bool (!(b))) hb7) rfl) (Eq.refl (some 14)) ?_
  refine @o_n _ _ _ _ _ _ _ _ _ _ _ 15 (za3 rfl rfl rfl (congrArg (fun b => Value.bool (!(b))) hb7) rfl) (Eq.refl (some 15)) ?_
  refine @o_n _ _ _ _ _ _ _ _ _ _ _ 16 (za3 rfl rfl rfl (congrArg (fun b => Value.bool (!(b))) hb7) rfl) (Eq.refl (some 16)) ?_
  refine o_q rfl rfl (zaq true (congrArg (fun b => Value.bool (!(b))) hb7) rfl) ?_
  refine o_q rfl rfl (za2 rfl) ?_
  refine @o_n _ _ _ _ _ _ _ _ _ _ _ 19 (za3 rfl rfl rfl rfl rfl) (Eq.refl (some 19)) ?_
  refine @o_n _ _ _ _ _ _ _ _ _ _ _ 20 (za3 rfl rfl rfl rfl rfl) (Eq.refl (some 20)) ?_
  refine @o_n _ _ _ _ _ _ _ _ _ _ _ 21 (za3 rfl rfl rfl rfl rfl) (Eq.refl (some 21)) ?_
  refine @o_n _ _ _ _ _ _ _ _ _ _ _ 22 (za3 rfl rfl rfl rfl rfl) (Eq.refl (some 22)) ?_
  refine o_q rfl rfl (zaq true rfl rfl) ?_
  refine o_end ?_
  refine za1 ?_
  refine zb1 rfl ?_
  refine c_seq ?_
  refine za0 ?_
  refine o_q rfl rfl (q_asg rfl) ?_
  refine o_q rfl rfl (q_asg rfl) ?_
  refine o_end ?_
  refine za1 ?_
  refine c_ret ?_
  refine zaa ?_
  refine x_nil (Kd.int .i64) 3 ?_
  have e0_ := Option.some.inj h; clear h
  have d0_ := (Prod.mk.inj e0_).1; have e1_ := (Prod.mk.inj e0_).2; clear e0_; subst d0_
  subst e1_
  exact x_r2 (none, 0) Try.results35 (zai rfl) (zai rfl) rfl (fun w h => za6 [0] (by decide) rfl w h)

/-! ### loop.example/g01098/impl.RunRegCode: function 34 -/
def impl_RunRegCode.f (k : Nat) (a0_0 : Int) (l0_1 : List Int) (l0_2 : List SRegOp) (l0_3 : List Int) (a1 : Int) (l2 : List Int) : Option ((List Int) × Bool) := (impl_RegCode_plan.f k a0_0 l0_1 l0_2 l0_3).bind fun (i4, l5, l6, b7) => if b7 = true then ((impl_RunResidues.f k i4 l5 l6 a1 l2).bind fun (l16, b17) => some (l16, b17)) else (some (([] : List Int), false))
set_option maxHeartbeats 600000 in
set_option maxRecDepth 100000 in
theorem impl_RunRegCode.calls (k : Nat) {w0 ws : World} {P0 : Nat → Prop} (a0_0 : Int) (A0_1 : Option Addr) (c0_1 : Nat) (n0_1 : Nat) (l0_1 : List Int) (A0_2 : Option Addr) (c0_2 : Nat) (n0_2 : Nat) (l0_2 : List SRegOp) (A0_3 : Option Addr) (c0_3 : Nat) (n0_3 : Nat) (l0_3 : List Int) (a1 : Int) (A2 : Option Addr) (c2 : Nat) (n2 : Nat) (l2 : List Int) (Z : Below w0.heap.size w0 ws) (hF : Fr w0 ws P0 [] ws) (R0_1 : Stable ws P0 (fun w => Kd.C (Kd.int .i64) w A0_1 n0_1 l0_1)) (hc0_1 : n0_1 ≤ c0_1) (R0_2 : Stable ws P0 (fun w => Kd.C zb6 w A0_2 n0_2 l0_2)) (hc0_2 : n0_2 ≤ c0_2) (R0_3 : Stable ws P0 (fun w => Kd.C (Kd.int .i64) w A0_3 n0_3 l0_3)) (hc0_3 : n0_3 ≤ c0_3) (R2 : Stable ws P0 (fun w => Kd.C (Kd.int .i64) w A2 n2 l2)) (hc2 : n2 ≤ c2) (r_1 : List Int) (r_4 : Bool) (h : impl_RunRegCode.f k a0_0 l0_1 l0_2 l0_3 a1 l2 = some (r_1, r_4)) :
  Calls Try.prog 34 #[.agg #[.int .i64 a0_0, .slice A0_1 n0_1 c0_1, .slice A0_2 n0_2 c0_2, .slice A0_3 n0_3 c0_3], .int .i64 a1, .slice A2 n2 c2] ws (Post1 w0 ws P0 (fun ((q_2, q_3) : (Option Addr) × Nat) => .tuple #[.slice q_2 r_1.length q_3, .bool r_4]) (fun ((q_2, q_3) : (Option Addr) × Nat) => [row (Kd.int .i64) 3 (.slice q_2 r_1.length q_3) r_1])) := by
 unfold impl_RunRegCode.f at h
 obtain rfl := (R0_1 ws (KeptB.refl _ _)).1
 obtain rfl := (R0_2 ws (KeptB.refl _ _)).1
 obtain rfl := (R0_3 ws (KeptB.refl _ _)).1
 obtain rfl := (R2 ws (KeptB.refl _ _)).1
 refine enter Try.func34 rfl Try.ntmps34 rfl hF ?_
 refine c_seq ?_
 refine za0 ?_
 refine o_e rfl (e_box rfl) (fun g1 => ?_)
 refine o_q rfl rfl (q_asg rfl) ?_
 refine o_q rfl rfl (q_asg rfl) ?_
 refine o_end ?_
 refine za1 ?_
 refine c_seq ?_
 refine za0 ?_
 refine bindE4 h (fun i4 l5 l6 b7 hx3 h => ?_) rfl
 refine o_e rfl (zab 0 Z Try.func88 N88 rfl rfl rfl (fun w P1 hF hB hS hT => impl_RegCode_plan.calls k g1 a0_0 A0_1 c0_1 l0_1.length l0_1 A0_2 c0_2 l0_2.length l0_2 A0_3 c0_3 l0_3.length l0_3 hB hF (hS _ R0_1) hc0_1 (hS _ R0_2) hc0_2 (hS _ R0_3) hc0_3 (hT 0 _ rfl).box _ _ _ _ hx3)) (cur4 (fun A8 c9 A10 c11 => ?_))
 refine o_q rfl rfl (za2 rfl) ?_
 refine o_q rfl rfl (q_ext rfl rfl) ?_
 refine o_q rfl rfl (q_ext rfl rfl) ?_
 refine o_e rfl (zat V27 rfl) (fun g12 => ?_)
 refine o_e rfl (zan (i := 0) rfl rfl rfl Z27 rfl rfl) (fun _ => ?_)
 refine o_q rfl rfl (q_asg rfl) ?_
 refine o_end ?_
 refine za1 ?_
 refine c_seq ?_
 refine c_seq ?_
 refine za0 ?_
 refine o_q rfl rfl (za2 rfl) ?_
 refine o_q rfl rfl (q_not rfl) ?_
 refine o_end ?_
 refine za1 ?_
 refine zau _ rfl (fun hb14 => ?_) (fun hb14 => ?_)
 ·replace hb14 := nt_t hb14
  replace h := bb_f hb14 h
  refine c_seq ?_
  refine za0 ?_
  refine o_q rfl rfl (q_asg rfl) ?_
  refine o_q rfl rfl (q_asg rfl) ?_
  refine o_end ?_
  refine za1 ?_
  refine c_ret ?_
  refine zaa ?_
  refine x_nil (Kd.int .i64) 3 ?_
  have e0_ := Option.some.inj h; clear h
  have d0_ := (Prod.mk.inj e0_).1; have e1_ := (Prod.mk.inj e0_).2; clear e0_; subst d0_
  subst e1_
  exact x_r2 (none, 0) Try.results34 (zai rfl) (zai rfl) rfl (fun w h => za6 [0] (by decide) rfl w h)
 ·replace hb14 := nt_f hb14
  replace h := bb_t hb14 h
  refine zao ?_
  refine za1 ?_
  refine c_seq ?_
  refine za0 ?_
  refine o_q rfl rfl (q_ldB G27 Z27 rfl (fun w h => h.zae (i := 0) rfl) rfl) ?_
  refine o_q rfl rfl (za2 rfl) ?_
  refine o_q rfl rfl (za2 rfl) ?_
  refine bindE2 h (fun l16 b17 hx15 h => ?_) rfl
  refine o_e rfl (zab 0 Z Try.func35 N35 rfl rfl rfl (fun w P1 hF hB hS hT => impl_RunResidues.calls k i4 A8 c9 l5.length l5 A10 c11 l6.length l6 a1 A2 c2 l2.length l2 hB hF (hT 1 _ rfl).row (hT 1 _ rfl).cap (hT 2 _ rfl).row (hT 2 _ rfl).cap (hS _ R2) hc2 _ _ hx15)) (cur2 (fun A18 c19 => ?_))
  refine o_q rfl rfl (q_ext rfl rfl) ?_
  refine o_q rfl rfl (q_ext rfl rfl) ?_
  refine o_q rfl rfl (q_asg rfl) ?_
  refine o_q rfl rfl (q_asg rfl) ?_
  refine o_end ?_
  refine za1 ?_
  refine c_ret ?_
  have e0_ := Option.some.inj h; clear h
  have d0_ := (Prod.mk.inj e0_).1; have e1_ := (Prod.mk.inj e0_).2; clear e0_; subst d0_
  subst e1_
  exact x_r2 (A18, c19) Try.results34 (zai rfl) (zai rfl) rfl (fun w h => za6 [0] (by decide) rfl w h)

/-! ### loop.example/g01098/spec.reShape: function 150 -/
def spec_reShape.l1 (a0_0 : Int) : (List SRegOp) → Int → Option ((Bool) ⊕ (Unit))
 | [], i22 => some (.inr ())
 | y23 :: ys24, i22 => (spec_l1All.f ([y23.f0, y23.f1, y23.f2] : List Int) 0 (w64 (a0_0 - 1))).bind fun b45 => if b45 = true then (spec_reShape.l1 a0_0 ys24 (i22 + 1)) else (some (.inl false))
def spec_reShape.l0 (l0_1 : List Int) : (List Int) → Int → Option ((Bool) ⊕ (Unit))
 | [], i11 => some (.inr ())
 | y12 :: ys13, i11 => (ct l0_1 (0 : Int) i11).bind fun l48 => (spec_l1Has.f l48 y12).bind fun b51 => if b51 = true then (some (.inl false)) else (spec_reShape.l0 l0_1 ys13 (i11 + 1))
def spec_reShape.f (a0_0 : Int) (l0_1 : List Int) (l0_2 : List SRegOp) (l0_3 : List Int) : Option Bool := (spec_l1In.f a0_0 1 46).bind fun b4 => if b4 = true then ((spec_l1In.f (l0_1.length : Int) 1 6).bind fun b7 => if b7 = true then (if 40 < (l0_2.length : Int) then (some false) else (if 6 < (l0_3.length : Int) then (some false) else ((spec_reShape.l0 l0_1 l0_1 0).bind fun o_ => match o_ with | .inl r_ => some r_ | .inr _ => (spec_reShape.l1 a0_0 l0_2 0).bind fun o_ => match o_ with | .inl r_ => some r_ | .inr _ => (spec_l1All.f l0_1 0 (w64 (a0_0 - 1))).bind fun b34 => if b34 = true then ((spec_l1All.f l0_3 0 (w64 (a0_0 - 1))).bind fun b37 => some b37) else (some false)))) else (some false)) else (some false)
set_option maxHeartbeats 600000 in
set_option maxRecDepth 100000 in
theorem spec_reShape.calls {w0 ws : World} {P0 : Nat → Prop} (a0_0 : Int) (A0_1 : Option Addr) (c0_1 : Nat) (n0_1 : Nat) (l0_1 : List Int) (A0_2 : Option Addr) (c0_2 : Nat) (n0_2 : Nat) (l0_2 : List SRegOp) (A0_3 : Option Addr) (c0_3 : Nat) (n0_3 : Nat) (l0_3 : List Int) (Z : Below w0.heap.size w0 ws) (hF : Fr w0 ws P0 [] ws) (R0_1 : Stable ws P0 (fun w => Kd.C (Kd.int .i64) w A0_1 n0_1 l0_1)) (hc0_1 : n0_1 ≤ c0_1) (R0_2 : Stable ws P0 (fun w => Kd.C zb6 w A0_2 n0_2 l0_2)) (hc0_2 : n0_2 ≤ c0_2) (R0_3 : Stable ws P0 (fun w => Kd.C (Kd.int .i64) w A0_3 n0_3 l0_3)) (hc0_3 : n0_3 ≤ c0_3) (r_1 : Bool) (h : spec_reShape.f a0_0 l0_1 l0_2 l0_3 = some r_1) :
  Calls Try.prog 150 #[.agg #[.int .i64 a0_0, .slice A0_1 n0_1 c0_1, .slice A0_2 n0_2 c0_2, .slice A0_3 n0_3 c0_3]] ws (Post1 w0 ws P0 (fun (_ : Unit) => .bool r_1) (fun (_ : Unit) => [])) := by
 unfold spec_reShape.f at h
 obtain rfl := (R0_1 ws (KeptB.refl _ _)).1
 obtain rfl := (R0_2 ws (KeptB.refl _ _)).1
 obtain rfl := (R0_3 ws (KeptB.refl _ _)).1
 refine enter Try.func150 rfl Try.ntmps150 rfl hF ?_
 refine c_seq ?_
 refine za0 ?_
 refine o_e rfl (e_box rfl) (fun g1 => ?_)
 refine o_q rfl rfl (q_asg rfl) ?_
 refine o_end ?_
 refine za1 ?_
 refine c_seq ?_
 refine c_seq ?_
 refine za0 ?_
 refine o_q rfl rfl (q_f F43_0 rfl) ?_
 refine o_q rfl rfl (q_ldb Y3 rfl (fun w h => h.zae (i := 0) rfl) rfl) ?_
 refine za7 h (fun b4 hx3 h => ?_) rfl
 refine o_e rfl (zab 0 Z Try.func61 N61 rfl rfl rfl (fun w P1 hF hB hS hT => spec_l1In.calls a0_0 1 46 hB hF _ hx3)) (fun _ => ?_)
 refine o_q rfl rfl (q_not rfl) ?_
 refine o_q rfl rfl (za2 rfl) ?_
 refine byB b4 (fun hb5 => ?_) (fun hb5 => ?_)
 ·replace h := bb_t hb5 h
  refine o_w (za4 rfl rfl rfl (congrArg (fun b => Value.bool (!(b))) hb5)) rfl (q_f F43_1 rfl) ?_
  refine o_w (za4 rfl rfl rfl (congrArg (fun b => Value.bool (!(b))) hb5)) rfl (q_ldb Y25 rfl (fun w h => h.zae (i := 0) rfl) rfl) ?_
  refine o_w (za4 rfl rfl rfl (congrArg (fun b => Value.bool (!(b))) hb5)) rfl (q_len Try.underlying25 rfl) ?_
  refine za7 h (fun b7 hx6 h => ?_) rfl
  refine o_ew (za4 rfl rfl rfl (congrArg (fun b => Value.bool (!(b))) hb5)) (zab 0 Z Try.func61 N61 rfl rfl rfl (fun w P1 hF hB hS hT => spec_l1In.calls (l0_1.length : Int) 1 6 hB hF _ hx6)) (fun _ => ?_)
  refine o_w (za4 rfl rfl rfl (congrArg (fun b => Value.bool (!(b))) hb5)) rfl (q_not rfl) ?_
  refine o_q rfl rfl (zaq false (congrArg (fun b => Value.bool (!(b))) hb5) rfl) ?_
  refine o_q rfl rfl (za2 rfl) ?_
  refine byB b7 (fun hb8 => ?_) (fun hb8 => ?_)
  ·replace h := bb_t hb8 h
   refine o_w (za4 rfl rfl rfl (congrArg (fun b => Value.bool (!(b))) hb8)) rfl (q_f F43_2 rfl) ?_
   refine o_w (za4 rfl rfl rfl (congrArg (fun b => Value.bool (!(b))) hb8)) rfl (q_ldb Y41 rfl (fun w h => h.zae (i := 0) rfl) rfl) ?_
   refine o_w (za4 rfl rfl rfl (congrArg (fun b => Value.bool (!(b))) hb8)) rfl (q_len Try.underlying41 rfl) ?_
   refine o_w (za4 rfl rfl rfl (congrArg (fun b => Value.bool (!(b))) hb8)) rfl (q_gtr rfl rfl) ?_
   refine o_q rfl rfl (zaq false (congrArg (fun b => Value.bool (!(b))) hb8) rfl) ?_
   refine o_q rfl rfl (za2 rfl) ?_
   refine byB (decide (40 < (l0_2.length : Int))) (fun hb9 => ?_) (fun hb9 => ?_)
   ·replace h := br_t hb9 h
    refine @o_n _ _ _ _ _ _ _ _ _ _ _ 25 (za3 rfl rfl rfl (congrArg Value.bool hb9) rfl) (Eq.refl (some 25)) ?_
    refine @o_n _ _ _ _ _ _ _ _ _ _ _ 26 (za3 rfl rfl rfl (congrArg Value.bool hb9) rfl) (Eq.refl (some 26)) ?_
    refine @o_n _ _ _ _ _ _ _ _ _ _ _ 27 (za3 rfl rfl rfl (congrArg Value.bool hb9) rfl) (Eq.refl (some 27)) ?_
    refine @o_n _ _ _ _ _ _ _ _ _ _ _ 28 (za3 rfl rfl rfl (congrArg Value.bool hb9) rfl) (Eq.refl (some 28)) ?_
    refine o_q rfl rfl (zaq true (congrArg Value.bool hb9) rfl) ?_
    refine o_end ?_
    refine za1 ?_
    refine zb1 rfl ?_
    refine c_seq ?_
    refine za0 ?_
    refine o_q rfl rfl (q_asg rfl) ?_
    refine o_end ?_
    refine za1 ?_
    refine c_ret ?_
    refine zaa ?_
    have e0_ := Option.some.inj h; clear h
    subst e0_
    exact x_r1 () Try.results150 (zai rfl) rfl (fun w h => za6 [] (by decide) rfl w h)
   ·replace h := br_f hb9 h
    refine o_w (za4 rfl rfl rfl (congrArg Value.bool hb9)) rfl (q_f F43_3 rfl) ?_
    refine o_w (za4 rfl rfl rfl (congrArg Value.bool hb9)) rfl (q_ldb Y25 rfl (fun w h => h.zae (i := 0) rfl) rfl) ?_
    refine o_w (za4 rfl rfl rfl (congrArg Value.bool hb9)) rfl (q_len Try.underlying25 rfl) ?_
    refine o_w (za4 rfl rfl rfl (congrArg Value.bool hb9)) rfl (q_gtr rfl rfl) ?_
    refine o_q rfl rfl (zaq false (congrArg Value.bool hb9) rfl) ?_
    refine o_end ?_
    refine za1 ?_
    refine zau _ rfl (fun hb10 => ?_) (fun hb10 => ?_)
    ·skip
     replace h := br_t hb10 h
     refine c_seq ?_
     refine za0 ?_
     refine o_q rfl rfl (q_asg rfl) ?_
     refine o_end ?_
     refine za1 ?_
     refine c_ret ?_
     refine zaa ?_
     have e0_ := Option.some.inj h; clear h
     subst e0_
     exact x_r1 () Try.results150 (zai rfl) rfl (fun w h => za6 [] (by decide) rfl w h)
    ·skip
     replace h := br_f hb10 h
     refine zao ?_
     refine za1 ?_
     refine c_seq ?_
     refine c_seq ?_
     refine za0 ?_
     refine o_q rfl rfl (q_f F43_1 rfl) ?_
     refine o_q rfl rfl (q_ldb Y25 rfl (fun w h => h.zae (i := 0) rfl) rfl) ?_
     refine o_q rfl rfl (q_len Try.underlying25 rfl) ?_
     refine o_q rfl rfl (za2 rfl) ?_
     refine o_end ?_
     refine za1 ?_
     refine zaj ?_
     refine za7 h (fun o19 hl18 hR17 => ?_) rfl
     clear h
     refine zba (p := l0_1.length ≤ 9223372036854775807) (fun w h => (R0_1.now Z h).2.1) (fun hm16 => ?_)
     refine zax (σ := (List Int) × Int) (fun k14 ((ys13, i11) : (List Int) × Int) => Rg l0_1 i11 ys13 ∧ ys13.length = k14 ∧ spec_reShape.l0 l0_1 ys13 i11 = some o19) [2, 3, 4, 33, 34, 35, 36, 37, 38, 39, 40, 41, 42, 43, 44] (fun ((ys13, i11) : (List Int) × Int) => [(33, .int .i64 i11)]) (fun ((ys13, i11) : (List Int) × Int) => [box g1 43 #[.int .i64 a0_0, .slice A0_1 l0_1.length c0_1, .slice A0_2 l0_2.length c0_2, .slice A0_3 l0_3.length c0_3]]) l0_1.length (l0_1, 0) ⟨Rg.start _, rfl, hl18⟩ ⟨rfl, trivial⟩ (fun w h => h) ?_
     refine fun k14 => cur2 (listC (fun i11 U20 hJ_ => ?_) (fun y12 ys13 i11 U20 hJ_ => ?_))
     ·skip
      clear hl18
      have hr15 := hJ_.1; have hk21 := hJ_.2.1; have h := hJ_.2.2; clear hJ_
      replace h : spec_reShape.l0 l0_1 [] i11 = some o19 := h
      rw [spec_reShape.l0] at h
      refine c_seq ?_
      refine za0 ?_
      refine o_q rfl rfl (q_lss rfl rfl) ?_
      refine o_end ?_
      refine za1 ?_
      refine c_seq ?_
      refine zb3 (congrArg Value.bool hr15.ge) ?_
      refine zb4 ?_
      refine za8 ?_
      refine za8 ?_
      have e_ := Option.some.inj h; replace h := hR17; rw [← e_] at h; clear e_
      refine x_hit ?_
      refine za1 ?_
      refine c_seq ?_
      refine c_seq ?_
      refine za0 ?_
      refine o_q rfl rfl (q_f F43_2 rfl) ?_
      refine o_q rfl rfl (q_ldb Y41 rfl (fun w h => h.zae (i := 0) rfl) rfl) ?_
      refine o_q rfl rfl (q_len Try.underlying41 rfl) ?_
      refine o_q rfl rfl (za2 rfl) ?_
      refine o_end ?_
      refine za1 ?_
      refine zaj ?_
      refine za7 h (fun o30 hl29 hR28 => ?_) rfl
      clear h
      refine zba (p := l0_2.length ≤ 9223372036854775807) (fun w h => (R0_2.now Z h).2.1) (fun hm27 => ?_)
      refine zax (σ := (List SRegOp) × Int) (fun k25 ((ys24, i22) : (List SRegOp) × Int) => Rg l0_2 i22 ys24 ∧ ys24.length = k25 ∧ spec_reShape.l1 a0_0 ys24 i22 = some o30) [2, 6, 48, 49, 50, 51, 52, 53, 54, 55, 56, 57, 58, 59, 60, 61, 62, 63, 64] (fun ((ys24, i22) : (List SRegOp) × Int) => [(48, .int .i64 i22)]) (fun ((ys24, i22) : (List SRegOp) × Int) => [box g1 43 #[.int .i64 a0_0, .slice A0_1 l0_1.length c0_1, .slice A0_2 l0_2.length c0_2, .slice A0_3 l0_3.length c0_3]]) l0_2.length (l0_2, 0) ⟨Rg.start _, rfl, hl29⟩ ⟨rfl, trivial⟩ (fun w h => h) ?_
      refine fun k25 => cur2 (listC (fun i22 U31 hJ_ => ?_) (fun y23 ys24 i22 U31 hJ_ => ?_))
      ·skip
       clear hl29
       have hr26 := hJ_.1; have hk32 := hJ_.2.1; have h := hJ_.2.2; clear hJ_
       replace h : spec_reShape.l1 a0_0 [] i22 = some o30 := h
       rw [spec_reShape.l1] at h
       refine c_seq ?_
       refine za0 ?_
       refine o_q rfl rfl (q_lss rfl rfl) ?_
       refine o_end ?_
       refine za1 ?_
       refine c_seq ?_
       refine zb3 (congrArg Value.bool hr26.ge) ?_
       refine zb4 ?_
       refine za8 ?_
       refine za8 ?_
       have e_ := Option.some.inj h; replace h := hR28; rw [← e_] at h; clear e_
       refine x_hit ?_
       refine za1 ?_
       refine c_seq ?_
       refine za0 ?_
       refine o_q rfl rfl (q_f F43_1 rfl) ?_
       refine o_q rfl rfl (q_ldb Y25 rfl (fun w h => h.zae (i := 0) rfl) rfl) ?_
       refine o_q rfl rfl (q_f F43_0 rfl) ?_
       refine o_q rfl rfl (q_ldb Y3 rfl (fun w h => h.zae (i := 0) rfl) rfl) ?_
       refine o_q rfl rfl (q_sub64 rfl rfl) ?_
       refine za7 h (fun b34 hx33 h => ?_) rfl
       refine o_e rfl (zab 0 Z Try.func99 N99 rfl rfl rfl (fun w P1 hF hB hS hT => spec_l1All.calls A0_1 c0_1 l0_1.length l0_1 0 (w64 (a0_0 - 1)) hB hF (hS _ R0_1) hc0_1 _ hx33)) (fun _ => ?_)
       refine o_q rfl rfl (za2 rfl) ?_
       refine byB b34 (fun hb35 => ?_) (fun hb35 => ?_)
       ·replace h := bb_t hb35 h
        refine o_w (za4 rfl rfl rfl (congrArg Value.bool hb35)) rfl (q_f F43_3 rfl) ?_
        refine o_w (za4 rfl rfl rfl (congrArg Value.bool hb35)) rfl (q_ldb Y25 rfl (fun w h => h.zae (i := 0) rfl) rfl) ?_
        refine o_w (za4 rfl rfl rfl (congrArg Value.bool hb35)) rfl (q_f F43_0 rfl) ?_
        refine o_w (za4 rfl rfl rfl (congrArg Value.bool hb35)) rfl (q_ldb Y3 rfl (fun w h => h.zae (i := 0) rfl) rfl) ?_
        refine o_w (za4 rfl rfl rfl (congrArg Value.bool hb35)) rfl (q_sub64 rfl rfl) ?_
        refine za7 h (fun b37 hx36 h => ?_) rfl
        refine o_ew (za4 rfl rfl rfl (congrArg Value.bool hb35)) (zab 0 Z Try.func99 N99 rfl rfl rfl (fun w P1 hF hB hS hT => spec_l1All.calls A0_3 c0_3 l0_3.length l0_3 0 (w64 (a0_0 - 1)) hB hF (hS _ R0_3) hc0_3 _ hx36)) (fun _ => ?_)
        refine o_q rfl rfl (zaq true (congrArg Value.bool hb35) rfl) ?_
        refine o_q rfl rfl (q_asg rfl) ?_
        refine o_end ?_
        refine za1 ?_
        refine c_ret ?_
        have e0_ := Option.some.inj h; clear h
        subst e0_
        exact x_r1 () Try.results150 (zai rfl) rfl (fun w h => za6 [] (by decide) rfl w h)
       ·replace h := bb_f hb35 h
        refine @o_n _ _ _ _ _ _ _ _ _ _ _ 72 (za3 rfl rfl rfl (congrArg Value.bool hb35) rfl) (Eq.refl (some 72)) ?_
        refine @o_n _ _ _ _ _ _ _ _ _ _ _ 73 (za3 rfl rfl rfl (congrArg Value.bool hb35) rfl) (Eq.refl (some 73)) ?_
        refine @o_n _ _ _ _ _ _ _ _ _ _ _ 74 (za3 rfl rfl rfl (congrArg Value.bool hb35) rfl) (Eq.refl (some 74)) ?_
        refine @o_n _ _ _ _ _ _ _ _ _ _ _ 75 (za3 rfl rfl rfl (congrArg Value.bool hb35) rfl) (Eq.refl (some 75)) ?_
        refine @o_n _ _ _ _ _ _ _ _ _ _ _ 76 (za3 rfl rfl rfl (congrArg Value.bool hb35) rfl) (Eq.refl (some 76)) ?_
        refine @o_n _ _ _ _ _ _ _ _ _ _ _ 77 (za3 rfl rfl rfl (congrArg Value.bool hb35) rfl) (Eq.refl (some 77)) ?_
        refine o_q rfl rfl (zaq false (congrArg Value.bool hb35) rfl) ?_
        refine o_q rfl rfl (q_asg rfl) ?_
        refine o_end ?_
        refine za1 ?_
        refine c_ret ?_
        have e0_ := Option.some.inj h; clear h
        subst e0_
        exact x_r1 () Try.results150 (zai rfl) rfl (fun w h => za6 [] (by decide) rfl w h)
      ·skip
       clear hl29
       have hr26 := hJ_.1; have hk32 := hJ_.2.1; have h := hJ_.2.2; clear hJ_
       replace h : spec_reShape.l1 a0_0 (y23 :: ys24) i22 = some o30 := h
       rw [spec_reShape.l1] at h
       refine c_seq ?_
       refine za0 ?_
       refine o_q rfl rfl (q_lss rfl rfl) ?_
       refine o_end ?_
       refine za1 ?_
       refine c_seq ?_
       refine zb1 (congrArg Value.bool hr26.lt) ?_
       refine zao ?_
       refine za1 ?_
       refine c_seq ?_
       refine zaj ?_
       refine c_seq ?_
       refine za0 ?_
       refine zaz (p := Sh A0_2 l0_2.length l0_2.length) (fun w h => f_sh (dk := zb6) h (fun w h => R0_2.now Z h)) (fun hq38 => ?_)
       refine o_q rfl rfl (q_ix Try.underlying41 Z94 rfl rfl hq38 hr26.get) ?_
       refine o_q rfl rfl (q_ldE G94 Z94 rfl rfl (fun w h => R0_2.now Z h) hr26.get (fun _ _ h => h) rfl) ?_
       refine o_e rfl (zat V94 rfl) (fun g39 => ?_)
       refine o_e rfl (zan (i := 0) rfl rfl rfl Z94 rfl rfl) (fun _ => ?_)
       refine o_end ?_
       refine za1 ?_
       refine c_seq ?_
       refine za0 ?_
       refine o_q rfl rfl (q_f F94_0 rfl) ?_
       refine o_q rfl rfl (q_ldb Y3 rfl (fun w h => h.zae (i := 0) rfl) rfl) ?_
       refine o_q rfl rfl (q_f F94_1 rfl) ?_
       refine o_q rfl rfl (q_ldb Y3 rfl (fun w h => h.zae (i := 0) rfl) rfl) ?_
       refine o_q rfl rfl (q_f F94_2 rfl) ?_
       refine o_q rfl rfl (q_ldb Y3 rfl (fun w h => h.zae (i := 0) rfl) rfl) ?_
       refine o_e rfl (e_lit (vs := [(0, .int .i64 y23.f0), (1, .int .i64 y23.f1), (2, .int .i64 y23.f2)]) (cs := [.int .i64 y23.f0, .int .i64 y23.f1, .int .i64 y23.f2]) (Kd.int .i64) ([y23.f0, y23.f1, y23.f2] : List Int) Try.underlying25 I3 (by decide) rfl (by decide) rfl rfl (fun _ _ => Kd.zak _)) (cur2 (fun A41 c42 => ?_))
       refine o_q rfl rfl (q_f F43_0 rfl) ?_
       refine o_q rfl rfl (q_ldb Y3 rfl (fun w h => h.zae (i := 2) rfl) rfl) ?_
       refine o_q rfl rfl (q_sub64 rfl rfl) ?_
       refine za7 h (fun b45 hx44 h => ?_) rfl
       refine o_e rfl (zab 0 Z Try.func99 N99 rfl rfl rfl (fun w P1 hF hB hS hT => spec_l1All.calls A41 c42 (([y23.f0, y23.f1, y23.f2] : List Int).length) ([y23.f0, y23.f1, y23.f2] : List Int) 0 (w64 (a0_0 - 1)) hB hF (hT 0 _ rfl).row (hT 0 _ rfl).cap _ hx44)) (fun _ => ?_)
       refine o_q rfl rfl (q_not rfl) ?_
       refine o_end ?_
       refine za1 ?_
       refine zau _ rfl (fun hb46 => ?_) (fun hb46 => ?_)
       ·replace hb46 := nt_t hb46
        replace h := bb_f hb46 h
        refine c_seq ?_
        refine za0 ?_
        refine o_q rfl rfl (q_asg rfl) ?_
        refine o_end ?_
        refine za1 ?_
        refine c_ret ?_
        refine zar ?_
        refine zaa ?_
        refine zaa ?_
        have e_ := Option.some.inj h; replace h := hR28; rw [← e_] at h; clear e_
        refine zar ?_
        refine zaa ?_
        have e0_ := Option.some.inj h; clear h
        subst e0_
        exact x_r1 () Try.results150 (zai rfl) rfl (fun w h => za6 [] (by decide) rfl w h)
       ·replace hb46 := nt_f hb46
        replace h := bb_t hb46 h
        refine zao ?_
        refine zal ?_
        refine za1 ?_
        refine za0 ?_
        refine o_q rfl rfl (q_up rfl rfl (hr26.up hm27)) ?_
        refine o_q rfl rfl (za2 rfl) ?_
        refine o_end ?_
        refine zam ys24.length (ys24, i22 + 1) (by rw [← hk32]; exact Nat.lt_succ_self _) ⟨hr26.step, rfl, h⟩ ⟨rfl, trivial⟩ (fun w h => za6 [2] (by decide) rfl w h) ?_
        repeat (first | exact zac _ _ | refine zaf rfl ?_ | refine zad rfl ?_ | refine zah rfl ?_)
     ·skip
      clear hl18
      have hr15 := hJ_.1; have hk21 := hJ_.2.1; have h := hJ_.2.2; clear hJ_
      replace h : spec_reShape.l0 l0_1 (y12 :: ys13) i11 = some o19 := h
      rw [spec_reShape.l0] at h
      refine c_seq ?_
      refine za0 ?_
      refine o_q rfl rfl (q_lss rfl rfl) ?_
      refine o_end ?_
      refine za1 ?_
      refine c_seq ?_
      refine zb1 (congrArg Value.bool hr15.lt) ?_
      refine zao ?_
      refine za1 ?_
      refine c_seq ?_
      refine zaj ?_
      refine c_seq ?_
      refine za0 ?_
      refine o_q rfl rfl (za2 rfl) ?_
      refine zaz (p := Sh A0_1 l0_1.length l0_1.length) (fun w h => f_sh (dk := (Kd.int .i64)) h (fun w h => R0_1.now Z h)) (fun hq47 => ?_)
      refine o_q rfl rfl (q_ix Try.underlying25 Z3 rfl rfl hq47 hr15.get) ?_
      refine o_q rfl rfl (q_lde (off := 0) Y3 rfl rfl (fun w h => R0_1.now Z h) hr15.get (fun _ _ h => h) rfl) ?_
      refine o_q rfl rfl (q_asg rfl) ?_
      refine o_q rfl rfl (q_asg rfl) ?_
      refine o_end ?_
      refine za1 ?_
      refine c_seq ?_
      refine za0 ?_
      refine o_q rfl rfl (q_f F43_1 rfl) ?_
      refine o_q rfl rfl (q_ldb Y25 rfl (fun w h => h.zae (i := 0) rfl) rfl) ?_
      refine o_q rfl rfl (za2 rfl) ?_
      refine za7 h (fun l48 hz49 h => ?_) rfl
      refine o_q rfl rfl (q_ctv Try.underlying25 Z3 rfl rfl ⟨_, rfl⟩ rfl hc0_1 hz49) ?_
      refine o_q rfl rfl (za2 rfl) ?_
      refine za7 h (fun b51 hx50 h => ?_) rfl
      refine o_e rfl (zab 0 Z Try.func87 N87 rfl rfl rfl (fun w P1 hF hB hS hT => spec_l1Has.calls (cutA A0_1 c0_1 (0 : Int).toNat 1) (c0_1 - (0 : Int).toNat) l48.length l48 y12 hB hF (stab_cut (dk := (Kd.int .i64)) rfl hz49 hc0_1 (hS _ R0_1)) (ct_cap hz49 rfl hc0_1) _ hx50)) (fun _ => ?_)
      refine o_end ?_
      refine za1 ?_
      refine zau _ rfl (fun hb52 => ?_) (fun hb52 => ?_)
      ·skip
       replace h := bb_t hb52 h
       refine c_seq ?_
       refine za0 ?_
       refine o_q rfl rfl (q_asg rfl) ?_
       refine o_end ?_
       refine za1 ?_
       refine c_ret ?_
       refine zar ?_
       refine zaa ?_
       refine zaa ?_
       have e_ := Option.some.inj h; replace h := hR17; rw [← e_] at h; clear e_
       refine zar ?_
       refine zaa ?_
       have e0_ := Option.some.inj h; clear h
       subst e0_
       exact x_r1 () Try.results150 (zai rfl) rfl (fun w h => za6 [] (by decide) rfl w h)
      ·skip
       replace h := bb_f hb52 h
       refine zao ?_
       refine zal ?_
       refine za1 ?_
       refine za0 ?_
       refine o_q rfl rfl (q_up rfl rfl (hr15.up hm16)) ?_
       refine o_q rfl rfl (za2 rfl) ?_
       refine o_end ?_
       refine zam ys13.length (ys13, i11 + 1) (by rw [← hk21]; exact Nat.lt_succ_self _) ⟨hr15.step, rfl, h⟩ ⟨rfl, trivial⟩ (fun w h => za6 [0] (by decide) rfl w h) ?_
       repeat (first | exact zac _ _ | refine zaf rfl ?_ | refine zad rfl ?_ | refine zah rfl ?_)
  ·replace h := bb_f hb8 h
   refine @o_n _ _ _ _ _ _ _ _ _ _ _ 19 (za3 rfl rfl rfl (congrArg (fun b => Value.bool (!(b))) hb8) rfl) (Eq.refl (some 19)) ?_
   refine @o_n _ _ _ _ _ _ _ _ _ _ _ 20 (za3 rfl rfl rfl (congrArg (fun b => Value.bool (!(b))) hb8) rfl) (Eq.refl (some 20)) ?_
   refine @o_n _ _ _ _ _ _ _ _ _ _ _ 21 (za3 rfl rfl rfl (congrArg (fun b => Value.bool (!(b))) hb8) rfl) (Eq.refl (some 21)) ?_
   refine @o_n _ _ _ _ _ _ _ _ _ _ _ 22 (za3 rfl rfl rfl (congrArg (fun b => Value.bool (!(b))) hb8) rfl) (Eq.refl (some 22)) ?_
   refine o_q rfl rfl (zaq true (congrArg (fun b => Value.bool (!(b))) hb8) rfl) ?_
   refine o_q rfl rfl (za2 rfl) ?_
   refine @o_n _ _ _ _ _ _ _ _ _ _ _ 25 (za3 rfl rfl rfl rfl rfl) (Eq.refl (some 25)) ?_
   refine @o_n _ _ _ _ _ _ _ _ _ _ _ 26 (za3 rfl rfl rfl rfl rfl) (Eq.refl (some 26)) ?_
   refine @o_n _ _ _ _ _ _ _ _ _ _ _ 27 (za3 rfl rfl rfl rfl rfl) (Eq.refl (some 27)) ?_
   refine @o_n _ _ _ _ _ _ _ _ _ _ _ 28 (za3 rfl rfl rfl rfl rfl) (Eq.refl (some 28)) ?_
   refine o_q rfl rfl (zaq true rfl rfl) ?_
   refine o_end ?_
   refine za1 ?_
   refine zb1 rfl ?_
   refine c_seq ?_
   refine za0 ?_
   refine o_q rfl rfl (q_asg rfl) ?_
   refine o_end ?_
   refine za1 ?_
   refine c_ret ?_
   refine zaa ?_
   have e0_ := Option.some.inj h; clear h
   subst e0_
   exact x_r1 () Try.results150 (zai rfl) rfl (fun w h => za6 [] (by decide) rfl w h)
 ·replace h := bb_f hb5 h
  refine @o_n _ _ _ _ _ _ _ _ _ _ _ 12 (za3 rfl rfl rfl (congrArg (fun b => Value.bool (!(b))) hb5) rfl) (Eq.refl (some 12)) ?_
  refine @o_n _ _ _ _ _ _ _ _ _ _ _ 13 (za3 rfl rfl rfl (congrArg (fun b => Value.bool (!(b))) hb5) rfl) (Eq.refl (some 13)) ?_
  refine @o_n _ _ _ _ _ _ _ _ _ _ _ 14 (za3 rfl rfl rfl (congrArg (fun b => Value.bool (!(b))) hb5) rfl) (Eq.refl (some 14)) ?_
  refine @o_n _ _ _ _ _ _ _ _ _ _ _ 15 (za3 rfl rfl rfl (congrArg (fun b => Value.bool (!(b))) hb5) rfl) (Eq.refl (some 15)) ?_
  refine @o_n _ _ _ _ _ _ _ _ _ _ _ 16 (za3 rfl rfl rfl (congrArg (fun b => Value.bool (!(b))) hb5) rfl) (Eq.refl (some 16)) ?_
  refine o_q rfl rfl (zaq true (congrArg (fun b => Value.bool (!(b))) hb5) rfl) ?_
  refine o_q rfl rfl (za2 rfl) ?_
  refine @o_n _ _ _ _ _ _ _ _ _ _ _ 19 (za3 rfl rfl rfl rfl rfl) (Eq.refl (some 19)) ?_
  refine @o_n _ _ _ _ _ _ _ _ _ _ _ 20 (za3 rfl rfl rfl rfl rfl) (Eq.refl (some 20)) ?_
  refine @o_n _ _ _ _ _ _ _ _ _ _ _ 21 (za3 rfl rfl rfl rfl rfl) (Eq.refl (some 21)) ?_
  refine @o_n _ _ _ _ _ _ _ _ _ _ _ 22 (za3 rfl rfl rfl rfl rfl) (Eq.refl (some 22)) ?_
  refine o_q rfl rfl (zaq true rfl rfl) ?_
  refine o_q rfl rfl (za2 rfl) ?_
  refine @o_n _ _ _ _ _ _ _ _ _ _ _ 25 (za3 rfl rfl rfl rfl rfl) (Eq.refl (some 25)) ?_
  refine @o_n _ _ _ _ _ _ _ _ _ _ _ 26 (za3 rfl rfl rfl rfl rfl) (Eq.refl (some 26)) ?_
  refine @o_n _ _ _ _ _ _ _ _ _ _ _ 27 (za3 rfl rfl rfl rfl rfl) (Eq.refl (some 27)) ?_
  refine @o_n _ _ _ _ _ _ _ _ _ _ _ 28 (za3 rfl rfl rfl rfl rfl) (Eq.refl (some 28)) ?_
  refine o_q rfl rfl (zaq true rfl rfl) ?_
  refine o_end ?_
  refine za1 ?_
  refine zb1 rfl ?_
  refine c_seq ?_
  refine za0 ?_
  refine o_q rfl rfl (q_asg rfl) ?_
  refine o_end ?_
  refine za1 ?_
  refine c_ret ?_
  refine zaa ?_
  have e0_ := Option.some.inj h; clear h
  subst e0_
  exact x_r1 () Try.results150 (zai rfl) rfl (fun w h => za6 [] (by decide) rfl w h)

/-! ### loop.example/g01098/spec.reValues: function 151 -/
def spec_reValues.l2 (l0_1 : List Int) : (List SRegOp) → (List Int) → (List SStep) → Int → Option (((List Int) × (List SStep) × Bool) ⊕ ((List Int) × (List SStep)))
 | [], l41, l42, i45 => some (.inr (l41, l42))
 | y46 :: ys47, l41, l42, i45 => ((gt l41 y46.f1).bind fun y74 => if y74 < 0 then (some true) else ((gt l41 y46.f2).bind fun y77 => some (decide (y77 < 0)))).bind fun b66 => if b66 = true then (some (.inl (([] : List Int), ([] : List SStep), false))) else ((gt l41 y46.f1).bind fun y81 => (gt l41 y46.f2).bind fun y83 => (spec_plStep.f y81 y83).bind fun z85 => (ap l42 ([z85] : List SStep)).bind fun l89 => (gt l41 y46.f0).bind fun y94 => (st l41 y46.f0 (w64 (w64 ((l0_1.length : Int) + (l89.length : Int)) - 1))).bind fun l95 => spec_reValues.l2 l0_1 ys47 l95 l89 (i45 + 1))
def spec_reValues.l1 : (List Int) → (List Int) → Int → Option (List Int)
 | [], l26, i27 => some l26
 | y28 :: ys29, l26, i27 => (gt l26 y28).bind fun y100 => (st l26 y28 i27).bind fun l101 => spec_reValues.l1 ys29 l101 (i27 + 1)
def spec_reValues.l0 (a0_0 : Int) : Nat → (List Int) → Int → Option (List Int)
 | 0, _, _ => none
 | k10 + 1, l4, i7 => if i7 < a0_0 then ((ap l4 ([(-1)] : List Int)).bind fun l22 => spec_reValues.l0 a0_0 k10 l22 (w64 (i7 + 1))) else (some l4)
def spec_reValues.f (k : Nat) (a0_0 : Int) (l0_1 : List Int) (l0_2 : List SRegOp) (l0_3 : List Int) (a1 : Int) : Option ((List Int) × (List SStep) × Bool) := (spec_reValues.l0 a0_0 k ([] : List Int) 0).bind fun l4 => (spec_reValues.l1 l0_1 l4 0).bind fun l26 => (ct l0_2 (0 : Int) a1).bind fun l38 => (spec_reValues.l2 l0_1 l38 l26 ([] : List SStep) 0).bind fun o_ => match o_ with | .inl r_ => some r_ | .inr (l41, l42) => some (l41, l42, true)
set_option maxHeartbeats 600000 in
set_option maxRecDepth 100000 in
theorem spec_reValues.calls (k : Nat) {w0 ws : World} {P0 : Nat → Prop} (a0_0 : Int) (A0_1 : Option Addr) (c0_1 : Nat) (n0_1 : Nat) (l0_1 : List Int) (A0_2 : Option Addr) (c0_2 : Nat) (n0_2 : Nat) (l0_2 : List SRegOp) (A0_3 : Option Addr) (c0_3 : Nat) (n0_3 : Nat) (l0_3 : List Int) (a1 : Int) (Z : Below w0.heap.size w0 ws) (hF : Fr w0 ws P0 [] ws) (R0_1 : Stable ws P0 (fun w => Kd.C (Kd.int .i64) w A0_1 n0_1 l0_1)) (hc0_1 : n0_1 ≤ c0_1) (R0_2 : Stable ws P0 (fun w => Kd.C zb6 w A0_2 n0_2 l0_2)) (hc0_2 : n0_2 ≤ c0_2) (R0_3 : Stable ws P0 (fun w => Kd.C (Kd.int .i64) w A0_3 n0_3 l0_3)) (hc0_3 : n0_3 ≤ c0_3) (r_1 : List Int) (r_4 : List SStep) (r_7 : Bool) (h : spec_reValues.f k a0_0 l0_1 l0_2 l0_3 a1 = some (r_1, r_4, r_7)) :
  Calls Try.prog 151 #[.agg #[.int .i64 a0_0, .slice A0_1 n0_1 c0_1, .slice A0_2 n0_2 c0_2, .slice A0_3 n0_3 c0_3], .int .i64 a1] ws (Post1 w0 ws P0 (fun ((q_2, q_3, q_5, q_6) : (Option Addr) × Nat × (Option Addr) × Nat) => .tuple #[.slice q_2 r_1.length q_3, .slice q_5 r_4.length q_6, .bool r_7]) (fun ((q_2, q_3, q_5, q_6) : (Option Addr) × Nat × (Option Addr) × Nat) => [row (Kd.int .i64) 3 (.slice q_2 r_1.length q_3) r_1, row kStep 88 (.slice q_5 r_4.length q_6) r_4])) := by
 unfold spec_reValues.f at h
 obtain rfl := (R0_1 ws (KeptB.refl _ _)).1
 obtain rfl := (R0_2 ws (KeptB.refl _ _)).1
 obtain rfl := (R0_3 ws (KeptB.refl _ _)).1
 refine enter Try.func151 rfl Try.ntmps151 rfl hF ?_
 refine c_seq ?_
 refine za0 ?_
 refine o_e rfl (e_box rfl) (fun g1 => ?_)
 refine o_q rfl rfl (q_asg rfl) ?_
 refine o_q rfl rfl (q_asg rfl) ?_
 refine o_q rfl rfl (q_asg rfl) ?_
 refine o_end ?_
 refine za1 ?_
 refine c_seq ?_
 refine za0 ?_
 refine o_q rfl rfl (q_asg rfl) ?_
 refine o_end ?_
 refine za1 ?_
 refine c_seq ?_
 refine c_seq ?_
 refine za0 ?_
 refine o_q rfl rfl (q_asg rfl) ?_
 refine o_end ?_
 refine za1 ?_
 refine zaj ?_
 refine c_nil (Kd.int .i64) 3 ?_
 refine za7 h (fun o15 hl14 hR13 => ?_) rfl
 clear h
 refine zax (σ := (List Int) × Int × (Option Addr) × Nat) (fun k10 ((l4, i7, A5, c6) : (List Int) × Int × (Option Addr) × Nat) => spec_reValues.l0 a0_0 k10 l4 i7 = some o15) [7, 8, 14, 15, 16, 17, 18, 19, 20, 21, 22] (fun ((l4, i7, A5, c6) : (List Int) × Int × (Option Addr) × Nat) => [(7, .slice A5 l4.length c6), (8, .int .i64 i7)]) (fun ((l4, i7, A5, c6) : (List Int) × Int × (Option Addr) × Nat) => [row (Kd.int .i64) 3 (.slice A5 l4.length c6) l4, box g1 43 #[.int .i64 a0_0, .slice A0_1 l0_1.length c0_1, .slice A0_2 l0_2.length c0_2, .slice A0_3 l0_3.length c0_3]]) k (([] : List Int), 0, none, 0) hl14 ⟨rfl, rfl, trivial⟩ (fun w h => h) ?_
 refine natC (cur4 (fun l4 i7 A5 c6 => fun U16 hJ_ => ?_)) (fun k10 => (cur4 (fun l4 i7 A5 c6 => fun U16 hJ_ => ?_)))
 ·skip
  replace hJ_ : spec_reValues.l0 a0_0 0 l4 i7 = some o15 := hJ_
  rw [spec_reValues.l0] at hJ_
  exact noneE hJ_
 ·skip
  clear hl14
  have h := hJ_; clear hJ_
  replace h : spec_reValues.l0 a0_0 (k10 + 1) l4 i7 = some o15 := h
  rw [spec_reValues.l0] at h
  refine c_seq ?_
  refine c_seq ?_
  refine za0 ?_
  refine o_q rfl rfl (za2 rfl) ?_
  refine o_q rfl rfl (q_f F43_0 rfl) ?_
  refine o_q rfl rfl (q_ldb Y3 rfl (fun w h => h.zae (i := 1) rfl) rfl) ?_
  refine o_q rfl rfl (q_lss rfl rfl) ?_
  refine o_end ?_
  refine za1 ?_
  refine zau _ rfl (fun hb18 => ?_) (fun hb18 => ?_)
  ·skip
   replace h := br_t hb18 h
   refine zao ?_
   refine za1 ?_
   refine c_seq ?_
   refine zaj ?_
   refine za0 ?_
   refine o_q rfl rfl (za2 rfl) ?_
   refine o_e rfl (e_lit (vs := [(0, .int .i64 (-1))]) (cs := [.int .i64 (-1)]) (Kd.int .i64) ([(-1)] : List Int) Try.underlying25 I3 (by decide) rfl (by decide) rfl rfl (fun _ _ => Kd.zak _)) (cur2 (fun A19 c20 => ?_))
   refine za7 h (fun l22 ha23 h => ?_) rfl
   refine o_e rfl (e_app (i := 1) (j := 0) Try.underlying25 I3 rfl (by decide) (by decide) rfl rfl rfl rfl rfl ha23) (cur2 (fun A24 c25 => ?_))
   refine o_q rfl rfl (q_asg rfl) ?_
   refine o_end ?_
   refine zal ?_
   refine za1 ?_
   refine za0 ?_
   refine o_q rfl rfl (za2 rfl) ?_
   refine o_q rfl rfl (zb8 rfl rfl) ?_
   refine o_q rfl rfl (q_asg rfl) ?_
   refine o_end ?_
   refine zam k10 (l22, w64 (i7 + 1), A24, c25) (Nat.lt_succ_self _) h ⟨rfl, rfl, trivial⟩ (fun w h => za6 [1, 2] (by decide) rfl w h) ?_
   repeat (first | exact zac _ _ | refine zaf rfl ?_ | refine zad rfl ?_ | refine zah rfl ?_)
  ·skip
   replace h := br_f hb18 h
   refine zb4 ?_
   refine za8 ?_
   refine za8 ?_
   have e_ := Option.some.inj h; replace h := hR13; rw [← e_] at h; clear e_
   refine x_hit ?_
   refine za1 ?_
   refine c_seq ?_
   refine c_seq ?_
   refine za0 ?_
   refine o_q rfl rfl (q_f F43_1 rfl) ?_
   refine o_q rfl rfl (q_ldb Y25 rfl (fun w h => h.zae (i := 1) rfl) rfl) ?_
   refine o_q rfl rfl (q_len Try.underlying25 rfl) ?_
   refine o_q rfl rfl (za2 rfl) ?_
   refine o_end ?_
   refine za1 ?_
   refine zaj ?_
   refine za7 h (fun o35 hl34 hR33 => ?_) rfl
   clear h
   refine zba (p := l0_1.length ≤ 9223372036854775807) (fun w h => (R0_1.now Z h).2.1) (fun hm32 => ?_)
   refine zax (σ := (List Int) × (List Int) × Int) (fun k30 ((ys29, l26, i27) : (List Int) × (List Int) × Int) => Rg l0_1 i27 ys29 ∧ ys29.length = k30 ∧ spec_reValues.l1 ys29 l26 i27 = some o35) [9, 10, 26, 27, 28, 29, 30, 31, 32, 33, 34, 35] (fun ((ys29, l26, i27) : (List Int) × (List Int) × Int) => [(26, .int .i64 i27)]) (fun ((ys29, l26, i27) : (List Int) × (List Int) × Int) => [row (Kd.int .i64) 3 (.slice A5 l4.length c6) l26, box g1 43 #[.int .i64 a0_0, .slice A0_1 l0_1.length c0_1, .slice A0_2 l0_2.length c0_2, .slice A0_3 l0_3.length c0_3]]) l0_1.length (l0_1, l4, 0) ⟨Rg.start _, rfl, hl34⟩ ⟨rfl, trivial⟩ (fun w h => h) ?_
   refine fun k30 => cur3 (listC (fun l26 i27 U36 hJ_ => ?_) (fun y28 ys29 l26 i27 U36 hJ_ => ?_))
   ·skip
    clear hl34
    have hr31 := hJ_.1; have hk37 := hJ_.2.1; have h := hJ_.2.2; clear hJ_
    replace h : spec_reValues.l1 [] l26 i27 = some o35 := h
    rw [spec_reValues.l1] at h
    refine c_seq ?_
    refine za0 ?_
    refine o_q rfl rfl (q_lss rfl rfl) ?_
    refine o_end ?_
    refine za1 ?_
    refine c_seq ?_
    refine zb3 (congrArg Value.bool hr31.ge) ?_
    refine zb4 ?_
    refine za8 ?_
    refine za8 ?_
    have e_ := Option.some.inj h; replace h := hR33; rw [← e_] at h; clear e_
    refine x_hit ?_
    refine za1 ?_
    refine c_seq ?_
    refine za0 ?_
    refine o_q rfl rfl (q_asg rfl) ?_
    refine o_end ?_
    refine za1 ?_
    refine c_seq ?_
    refine c_seq ?_
    refine za0 ?_
    refine o_q rfl rfl (q_f F43_2 rfl) ?_
    refine o_q rfl rfl (q_ldb Y41 rfl (fun w h => h.zae (i := 1) rfl) rfl) ?_
    refine o_q rfl rfl (za2 rfl) ?_
    refine za7 h (fun l38 hz39 h => ?_) rfl
    refine o_q rfl rfl (q_ctv Try.underlying41 Z94 rfl rfl ⟨_, rfl⟩ rfl hc0_2 hz39) ?_
    refine o_q rfl rfl (q_len Try.underlying41 rfl) ?_
    refine o_q rfl rfl (za2 rfl) ?_
    refine o_end ?_
    refine za1 ?_
    refine zaj ?_
    refine c_nil kStep 88 ?_
    refine za7 h (fun o53 hl52 hR51 => ?_) rfl
    clear h
    refine zba (p := l38.length ≤ 9223372036854775807) (fun w h => (C_cut (dk := zb6) rfl hz39 hc0_2 (R0_2.now Z h)).2.1) (fun hm50 => ?_)
    refine zax (σ := (List SRegOp) × (List Int) × (List SStep) × Int × (Option Addr) × Nat) (fun k48 ((ys47, l41, l42, i45, A43, c44) : (List SRegOp) × (List Int) × (List SStep) × Int × (Option Addr) × Nat) => Rg l38 i45 ys47 ∧ ys47.length = k48 ∧ spec_reValues.l2 l0_1 ys47 l41 l42 i45 = some o53) [4, 5, 6, 11, 13, 41, 42, 43, 44, 45, 46, 47, 48, 49, 50, 51, 52, 53, 54, 55, 56, 57, 58, 59, 60, 61, 62, 63, 64, 65, 66, 67, 68, 69, 70, 71, 72, 73, 74, 75, 76, 77, 78, 79, 80, 81, 82, 83, 84] (fun ((ys47, l41, l42, i45, A43, c44) : (List SRegOp) × (List Int) × (List SStep) × Int × (Option Addr) × Nat) => [(11, .slice A43 l42.length c44), (41, .int .i64 i45)]) (fun ((ys47, l41, l42, i45, A43, c44) : (List SRegOp) × (List Int) × (List SStep) × Int × (Option Addr) × Nat) => [row kStep 88 (.slice A43 l42.length c44) l42, row (Kd.int .i64) 3 (.slice A5 l4.length c6) l41, box g1 43 #[.int .i64 a0_0, .slice A0_1 l0_1.length c0_1, .slice A0_2 l0_2.length c0_2, .slice A0_3 l0_3.length c0_3]]) l38.length (l38, l26, ([] : List SStep), 0, none, 0) ⟨Rg.start _, rfl, hl52⟩ ⟨rfl, rfl, trivial⟩ (fun w h => h) ?_
    refine fun k48 => cur6 (listC (fun l41 l42 i45 A43 c44 U54 hJ_ => ?_) (fun y46 ys47 l41 l42 i45 A43 c44 U54 hJ_ => ?_))
    ·skip
     clear hl52
     have hr49 := hJ_.1; have hk55 := hJ_.2.1; have h := hJ_.2.2; clear hJ_
     replace h : spec_reValues.l2 l0_1 [] l41 l42 i45 = some o53 := h
     rw [spec_reValues.l2] at h
     refine c_seq ?_
     refine za0 ?_
     refine o_q rfl rfl (q_lss rfl rfl) ?_
     refine o_end ?_
     refine za1 ?_
     refine c_seq ?_
     refine zb3 (congrArg Value.bool hr49.ge) ?_
     refine zb4 ?_
     refine za8 ?_
     refine za8 ?_
     have e_ := Option.some.inj h; replace h := hR51; rw [← e_] at h; clear e_
     refine x_hit ?_
     refine za1 ?_
     refine c_seq ?_
     refine za0 ?_
     refine o_q rfl rfl (za2 rfl) ?_
     refine o_q rfl rfl (za2 rfl) ?_
     refine o_q rfl rfl (q_asg rfl) ?_
     refine o_q rfl rfl (q_asg rfl) ?_
     refine o_q rfl rfl (q_asg rfl) ?_
     refine o_end ?_
     refine za1 ?_
     refine c_ret ?_
     refine x_fact (p := l4.length = l41.length) (fun w h => (h.row_C (i := 1) rfl).2.1) (fun hn56 => ?_)
     have e0_ := Option.some.inj h; clear h
     have d0_ := (Prod.mk.inj e0_).1; have e1_ := (Prod.mk.inj e0_).2; clear e0_; subst d0_
     have d1_ := (Prod.mk.inj e1_).1; have e2_ := (Prod.mk.inj e1_).2; clear e1_; subst d1_
     subst e2_
     exact x_r3 (A5, c6, A43, c44) Try.results151 (zai (v := .slice A5 l4.length c6) rfl) (zai (v := .slice A43 l42.length c44) rfl) (zai (v := .bool true) rfl) (by (try rw [hn56]); first | done | rfl) (f_pickE (L1 := [row kStep 88 (.slice A43 l42.length c44) l42, row (Kd.int .i64) 3 (.slice A5 l4.length c6) l41, box g1 43 #[.int .i64 a0_0, .slice A0_1 l0_1.length c0_1, .slice A0_2 l0_2.length c0_2, .slice A0_3 l0_3.length c0_3]]) rfl [1, 0] (by decide) rfl (by (try rw [hn56]); first | done | rfl))
    ·skip
     clear hl52
     have hr49 := hJ_.1; have hk55 := hJ_.2.1; have h := hJ_.2.2; clear hJ_
     replace h : spec_reValues.l2 l0_1 (y46 :: ys47) l41 l42 i45 = some o53 := h
     rw [spec_reValues.l2] at h
     refine c_seq ?_
     refine za0 ?_
     refine o_q rfl rfl (q_lss rfl rfl) ?_
     refine o_end ?_
     refine za1 ?_
     refine c_seq ?_
     refine zb1 (congrArg Value.bool hr49.lt) ?_
     refine zao ?_
     refine za1 ?_
     refine c_seq ?_
     refine zaj ?_
     refine c_seq ?_
     refine za0 ?_
     refine zaz (p := Sh (cutA A0_2 c0_2 (0 : Int).toNat 3) l38.length l38.length) (fun w h => f_sh (dk := zb6) h (fun w h => C_cut (dk := zb6) rfl hz39 hc0_2 (R0_2.now Z h))) (fun hq57 => ?_)
     refine o_q rfl rfl (q_ix Try.underlying41 Z94 rfl rfl hq57 hr49.get) ?_
     refine o_q rfl rfl (q_ldE G94 Z94 rfl rfl (fun w h => C_cut (dk := zb6) rfl hz39 hc0_2 (R0_2.now Z h)) hr49.get (fun _ _ h => h) rfl) ?_
     refine o_e rfl (zat V94 rfl) (fun g58 => ?_)
     refine o_e rfl (zan (i := 0) rfl rfl rfl Z94 rfl rfl) (fun _ => ?_)
     refine o_end ?_
     refine za1 ?_
     refine c_seq ?_
     refine za7 h (fun o67 hl68 hR69 => ?_) rfl
     clear h
     refine c_cutJ (σ := Bool) (fun b66 => some b66 = some o67) [45, 46, 47, 48, 49, 50, 51, 52, 53, 54, 55, 56, 57, 58] (fun b66 => [(58, .bool b66)]) (fun b66 => [box g1 43 #[.int .i64 a0_0, .slice A0_1 l0_1.length c0_1, .slice A0_2 l0_2.length c0_2, .slice A0_3 l0_3.length c0_3], row (Kd.int .i64) 3 (.slice A5 l4.length c6) l41, row kStep 88 (.slice A43 l42.length c44) l42, box g58 94 #[.int .i64 y46.f0, .int .i64 y46.f1, .int .i64 y46.f2]]) ?_ ?_
     ·skip
      have h := hl68; clear hl68
      clear hR69
      refine za0 ?_
      refine o_q rfl rfl (za2 rfl) ?_
      refine o_q rfl rfl (q_f F94_1 rfl) ?_
      refine o_q rfl rfl (q_ldb Y3 rfl (fun w h => h.zae (i := 0) rfl) rfl) ?_
      refine zaz (p := Sh A5 l4.length l41.length) (fun w h => f_sh (dk := (Kd.int .i64)) h (fun w h => h.zaw (i := 2) rfl)) (fun hq72 => ?_)
      refine za7 h (fun y74 hg73 h => ?_) rfl
      refine o_q rfl rfl (q_ix Try.underlying25 Z3 rfl rfl hq72 hg73) ?_
      refine o_q rfl rfl (q_lde (off := 0) Y3 rfl rfl (fun w h => h.zaw (i := 2) rfl) hg73 (fun _ _ h => h) rfl) ?_
      refine o_q rfl rfl (q_lss rfl rfl) ?_
      refine o_q rfl rfl (za2 rfl) ?_
      refine byB (decide (y74 < 0)) (fun hb75 => ?_) (fun hb75 => ?_)
      ·replace h := br_t hb75 h
       refine @o_n _ _ _ _ _ _ _ _ _ _ _ 52 (za3 rfl rfl rfl (congrArg Value.bool hb75) rfl) (Eq.refl (some 52)) ?_
       refine @o_n _ _ _ _ _ _ _ _ _ _ _ 53 (za3 rfl rfl rfl (congrArg Value.bool hb75) rfl) (Eq.refl (some 53)) ?_
       refine @o_n _ _ _ _ _ _ _ _ _ _ _ 54 (za3 rfl rfl rfl (congrArg Value.bool hb75) rfl) (Eq.refl (some 54)) ?_
       refine @o_n _ _ _ _ _ _ _ _ _ _ _ 55 (za3 rfl rfl rfl (congrArg Value.bool hb75) rfl) (Eq.refl (some 55)) ?_
       refine @o_n _ _ _ _ _ _ _ _ _ _ _ 56 (za3 rfl rfl rfl (congrArg Value.bool hb75) rfl) (Eq.refl (some 56)) ?_
       refine @o_n _ _ _ _ _ _ _ _ _ _ _ 57 (za3 rfl rfl rfl (congrArg Value.bool hb75) rfl) (Eq.refl (some 57)) ?_
       refine o_q rfl rfl (zaq true (congrArg Value.bool hb75) rfl) ?_
       refine o_end ?_
       refine zas true h ⟨rfl, trivial⟩ (fun w h => za6 [3, 2, 1, 0] (by decide) rfl w h) ?_
       repeat (first | exact zac _ _ | refine zaf rfl ?_ | refine zad rfl ?_ | refine zah rfl ?_)
      ·replace h := br_f hb75 h
       refine o_w (za4 rfl rfl rfl (congrArg Value.bool hb75)) rfl (za2 rfl) ?_
       refine o_w (za4 rfl rfl rfl (congrArg Value.bool hb75)) rfl (q_f F94_2 rfl) ?_
       refine o_w (za4 rfl rfl rfl (congrArg Value.bool hb75)) rfl (q_ldb Y3 rfl (fun w h => h.zae (i := 0) rfl) rfl) ?_
       refine za7 h (fun y77 hg76 h => ?_) rfl
       refine o_w (za4 rfl rfl rfl (congrArg Value.bool hb75)) rfl (q_ix Try.underlying25 Z3 rfl rfl hq72 hg76) ?_
       refine o_w (za4 rfl rfl rfl (congrArg Value.bool hb75)) rfl (q_lde (off := 0) Y3 rfl rfl (fun w h => h.zaw (i := 2) rfl) hg76 (fun _ _ h => h) rfl) ?_
       refine o_w (za4 rfl rfl rfl (congrArg Value.bool hb75)) rfl (q_lss rfl rfl) ?_
       refine o_q rfl rfl (zaq false (congrArg Value.bool hb75) rfl) ?_
       refine o_end ?_
       refine zas (decide (y77 < 0)) h ⟨rfl, trivial⟩ (fun w h => za6 [3, 2, 1, 0] (by decide) rfl w h) ?_
       repeat (first | exact zac _ _ | refine zaf rfl ?_ | refine zad rfl ?_ | refine zah rfl ?_)
     ·skip
      refine (fun b66 => fun U70 hJ71 => ?_)
      have e_ := Option.some.inj hJ71; have h := hR69; rw [← e_] at h; clear e_ hJ71 hR69 hl68
      refine zau _ rfl (fun hb78 => ?_) (fun hb78 => ?_)
      ·skip
       replace h := bb_t hb78 h
       refine c_seq ?_
       refine za0 ?_
       refine o_q rfl rfl (q_asg rfl) ?_
       refine o_q rfl rfl (q_asg rfl) ?_
       refine o_q rfl rfl (q_asg rfl) ?_
       refine o_end ?_
       refine za1 ?_
       refine c_ret ?_
       refine zaa ?_
       refine zar ?_
       refine zaa ?_
       refine zaa ?_
       have e_ := Option.some.inj h; replace h := hR51; rw [← e_] at h; clear e_
       refine zar ?_
       refine zaa ?_
       refine x_nil (Kd.int .i64) 3 ?_
       refine x_nil kStep 88 ?_
       have e0_ := Option.some.inj h; clear h
       have d0_ := (Prod.mk.inj e0_).1; have e1_ := (Prod.mk.inj e0_).2; clear e0_; subst d0_
       have d1_ := (Prod.mk.inj e1_).1; have e2_ := (Prod.mk.inj e1_).2; clear e1_; subst d1_
       subst e2_
       exact x_r3 (none, 0, none, 0) Try.results151 (zai rfl) (zai rfl) (zai rfl) rfl (fun w h => za6 [1, 0] (by decide) rfl w h)
      ·skip
       replace h := bb_f hb78 h
       refine zao ?_
       refine za1 ?_
       refine c_seq ?_
       refine a_startS (ds := []) [some 0, some 1, none, some 3] MO rfl ?_
       refine za9 0 rfl rfl rfl (by kernel_rfl) (fun _ _ _ h => h) (za2 rfl) ?_
       refine za9 1 rfl rfl rfl (by kernel_rfl) (fun _ _ _ h => h) (za2 rfl) ?_
       refine za9 2 rfl rfl rfl (by kernel_rfl) (fun _ _ _ h => h) (q_f F94_1 rfl) ?_
       refine zb0 3 rfl rfl rfl (by kernel_rfl) (fun _ _ _ h => h) (fun w h => za5 [some 0, some 1, none, some 3] (by decide) w h rfl) (q_ldb Y3 rfl (fun w h => h.zae (i := 3) rfl) rfl) ?_
       refine a_fact (p := Sh A5 l4.length l41.length) (fun w h => f_sh (dk := (Kd.int .i64)) h (fun w h => h.zaw (i := 1) rfl)) (fun hq79 => ?_)
       refine za7 h (fun y81 hg80 h => ?_) rfl
       refine za9 4 rfl rfl rfl (by kernel_rfl) (fun _ _ _ h => h) (q_ix Try.underlying25 Z3 rfl rfl hq79 hg80) ?_
       refine zb0 5 rfl rfl rfl (by kernel_rfl) (fun _ _ _ h => h) (fun w h => za5 [some 0, some 1, none, some 3] (by decide) w h rfl) (q_lde (off := 0) Y3 rfl rfl (fun w h => h.zaw (i := 1) rfl) hg80 (fun _ _ h => h) rfl) ?_
       refine za9 6 rfl rfl rfl (by kernel_rfl) (fun _ _ _ h => h) (za2 rfl) ?_
       refine za9 7 rfl rfl rfl (by kernel_rfl) (fun _ _ _ h => h) (q_f F94_2 rfl) ?_
       refine zb0 8 rfl rfl rfl (by kernel_rfl) (fun _ _ _ h => h) (fun w h => za5 [some 0, some 1, none, some 3] (by decide) w h rfl) (q_ldb Y3 rfl (fun w h => h.zae (i := 3) rfl) rfl) ?_
       refine za7 h (fun y83 hg82 h => ?_) rfl
       refine za9 9 rfl rfl rfl (by kernel_rfl) (fun _ _ _ h => h) (q_ix Try.underlying25 Z3 rfl rfl hq79 hg82) ?_
       refine zb0 10 rfl rfl rfl (by kernel_rfl) (fun _ _ _ h => h) (fun w h => za5 [some 0, some 1, none, some 3] (by decide) w h rfl) (q_lde (off := 0) Y3 rfl rfl (fun w h => h.zaw (i := 1) rfl) hg82 (fun _ _ h => h) rfl) ?_
       refine za7 h (fun z85 hx84 h => ?_) rfl
       refine a_one 11 rfl rfl (by kernel_rfl) rfl (zab 0 Z Try.func171 N171 rfl rfl rfl (fun w P1 hF hB hS hT => spec_plStep.calls y81 y83 hB hF _ hx84)) (fun s w h => za5 [some 0, some 1, none, some 3] (by decide) w h rfl) (fun _ => ?_)
       refine a_one 12 rfl rfl (by kernel_rfl) rfl (e_lit (vs := [(0, .agg #[.int .i64 z85.f0, .int .i64 z85.f1])]) (cs := [.int .i64 z85.f0, .int .i64 z85.f1]) kStep ([z85] : List SStep) Try.underlying24 I88 (by decide) rfl (by decide) rfl rfl (fun _ _ => zb9 _)) (fun s w h => za5 [some 1, some 2, none, some 4] (by decide) w h rfl) (cur2 (fun A86 c87 => ?_))
       refine za7 h (fun l89 ha90 h => ?_) rfl
       refine a_one 13 rfl rfl (by kernel_rfl) rfl (e_app (i := 3) (j := 0) Try.underlying24 I88 rfl (by decide) (by decide) rfl rfl rfl rfl rfl ha90) (fun s w h => za5 [some 1, some 2, none, some 4] (by decide) w h rfl) (cur2 (fun A91 c92 => ?_))
       refine za9 14 rfl rfl rfl (by kernel_rfl) (fun _ _ _ h => h) (q_asg rfl) ?_
       refine zav (by kernel_rfl) ?_
       refine za1 ?_
       refine za0 ?_
       refine o_q rfl rfl (za2 rfl) ?_
       refine o_q rfl rfl (q_f F94_0 rfl) ?_
       refine o_q rfl rfl (q_ldb Y3 rfl (fun w h => h.zae (i := 4) rfl) rfl) ?_
       refine o_q rfl rfl (q_f F43_1 rfl) ?_
       refine o_q rfl rfl (q_ldb Y25 rfl (fun w h => h.zae (i := 1) rfl) rfl) ?_
       refine o_q rfl rfl (q_len Try.underlying25 rfl) ?_
       refine o_q rfl rfl (za2 rfl) ?_
       refine o_q rfl rfl (q_len Try.underlying24 rfl) ?_
       refine o_q rfl rfl (zb8 rfl rfl) ?_
       refine o_q rfl rfl (q_sub64 rfl rfl) ?_
       refine za7 h (fun y94 hg93 h => ?_) rfl
       refine o_q rfl rfl (q_ix Try.underlying25 Z3 rfl rfl hq79 hg93) ?_
       refine za7 h (fun l95 hs96 h => ?_) rfl
       refine o_e rfl (e_set (i := 2) rfl rfl rfl Z3 hs96) (fun _ => ?_)
       refine o_end ?_
       refine zal ?_
       refine za1 ?_
       refine za0 ?_
       refine o_q rfl rfl (q_up rfl rfl (hr49.up hm50)) ?_
       refine o_q rfl rfl (za2 rfl) ?_
       refine o_end ?_
       refine zam ys47.length (ys47, l95, l89, i45 + 1, A91, c92) (by rw [← hk55]; exact Nat.lt_succ_self _) ⟨hr49.step, rfl, h⟩ ⟨rfl, rfl, trivial⟩ (fun w h => za6 [3, 2, 1] (by decide) rfl w h) ?_
       repeat (first | exact zac _ _ | refine zaf rfl ?_ | refine zad rfl ?_ | refine zah rfl ?_)
   ·skip
    clear hl34
    have hr31 := hJ_.1; have hk37 := hJ_.2.1; have h := hJ_.2.2; clear hJ_
    replace h : spec_reValues.l1 (y28 :: ys29) l26 i27 = some o35 := h
    rw [spec_reValues.l1] at h
    refine c_seq ?_
    refine za0 ?_
    refine o_q rfl rfl (q_lss rfl rfl) ?_
    refine o_end ?_
    refine za1 ?_
    refine c_seq ?_
    refine zb1 (congrArg Value.bool hr31.lt) ?_
    refine zao ?_
    refine za1 ?_
    refine c_seq ?_
    refine zaj ?_
    refine c_seq ?_
    refine za0 ?_
    refine o_q rfl rfl (za2 rfl) ?_
    refine zaz (p := Sh A0_1 l0_1.length l0_1.length) (fun w h => f_sh (dk := (Kd.int .i64)) h (fun w h => R0_1.now Z h)) (fun hq97 => ?_)
    refine o_q rfl rfl (q_ix Try.underlying25 Z3 rfl rfl hq97 hr31.get) ?_
    refine o_q rfl rfl (q_lde (off := 0) Y3 rfl rfl (fun w h => R0_1.now Z h) hr31.get (fun _ _ h => h) rfl) ?_
    refine o_q rfl rfl (q_asg rfl) ?_
    refine o_q rfl rfl (q_asg rfl) ?_
    refine o_end ?_
    refine za1 ?_
    refine za0 ?_
    refine o_q rfl rfl (za2 rfl) ?_
    refine o_q rfl rfl (za2 rfl) ?_
    refine o_q rfl rfl (za2 rfl) ?_
    refine zaz (p := Sh A5 l4.length l26.length) (fun w h => f_sh (dk := (Kd.int .i64)) h (fun w h => h.zaw (i := 0) rfl)) (fun hq98 => ?_)
    refine za7 h (fun y100 hg99 h => ?_) rfl
    refine o_q rfl rfl (q_ix Try.underlying25 Z3 rfl rfl hq98 hg99) ?_
    refine za7 h (fun l101 hs102 h => ?_) rfl
    refine o_e rfl (e_set (i := 0) rfl rfl rfl Z3 hs102) (fun _ => ?_)
    refine o_end ?_
    refine zal ?_
    refine za1 ?_
    refine za0 ?_
    refine o_q rfl rfl (q_up rfl rfl (hr31.up hm32)) ?_
    refine o_q rfl rfl (za2 rfl) ?_
    refine o_end ?_
    refine zam ys29.length (ys29, l101, i27 + 1) (by rw [← hk37]; exact Nat.lt_succ_self _) ⟨hr31.step, rfl, h⟩ ⟨rfl, trivial⟩ (fun w h => za6 [0, 1] (by decide) rfl w h) ?_
    repeat (first | exact zac _ _ | refine zaf rfl ?_ | refine zad rfl ?_ | refine zah rfl ?_)

/-! ### loop.example/g01098/spec.rePlan: function 101 -/
def spec_rePlan.l0 (l9 : List Int) : (List Int) → (List Int) → Int → Option ((Int × (List SStep) × (List Int) × Bool) ⊕ ((List Int)))
 | [], l20, i23 => some (.inr l20)
 | y24 :: ys25, l20, i23 => (gt l9 y24).bind fun y39 => if y39 < 0 then (some (.inl (0, ([] : List SStep), ([] : List Int), false))) else ((gt l9 y24).bind fun y283 => (ap l20 ([y283] : List Int)).bind fun l462 => spec_rePlan.l0 l9 ys25 l462 (i23 + 1))
def spec_rePlan.f (k : Nat) (a0_0 : Int) (l0_1 : List Int) (l0_2 : List SRegOp) (l0_3 : List Int) : Option (Int × (List SStep) × (List Int) × Bool) := (spec_reShape.f a0_0 l0_1 l0_2 l0_3).bind fun b6 => if b6 = true then ((spec_reValues.f k a0_0 l0_1 l0_2 l0_3 (l0_2.length : Int)).bind fun (l9, l10, b11) => if b11 = true then ((spec_rePlan.l0 l9 l0_3 ([] : List Int) 0).bind fun o_ => match o_ with | .inl r_ => some r_ | .inr l20 => (spec_plGood.f k (l0_1.length : Int) l10 l20).bind fun b35 => some ((l0_1.length : Int), l10, l20, b35)) else (some (0, ([] : List SStep), ([] : List Int), false))) else (some (0, ([] : List SStep), ([] : List Int), false))
set_option maxHeartbeats 600000 in
set_option maxRecDepth 100000 in
theorem spec_rePlan.calls (k : Nat) {w0 ws : World} {P0 : Nat → Prop} (a0_0 : Int) (A0_1 : Option Addr) (c0_1 : Nat) (n0_1 : Nat) (l0_1 : List Int) (A0_2 : Option Addr) (c0_2 : Nat) (n0_2 : Nat) (l0_2 : List SRegOp) (A0_3 : Option Addr) (c0_3 : Nat) (n0_3 : Nat) (l0_3 : List Int) (Z : Below w0.heap.size w0 ws) (hF : Fr w0 ws P0 [] ws) (R0_1 : Stable ws P0 (fun w => Kd.C (Kd.int .i64) w A0_1 n0_1 l0_1)) (hc0_1 : n0_1 ≤ c0_1) (R0_2 : Stable ws P0 (fun w => Kd.C zb6 w A0_2 n0_2 l0_2)) (hc0_2 : n0_2 ≤ c0_2) (R0_3 : Stable ws P0 (fun w => Kd.C (Kd.int .i64) w A0_3 n0_3 l0_3)) (hc0_3 : n0_3 ≤ c0_3) (r_1 : Int) (r_2 : List SStep) (r_5 : List Int) (r_8 : Bool) (h : spec_rePlan.f k a0_0 l0_1 l0_2 l0_3 = some (r_1, r_2, r_5, r_8)) :
  Calls Try.prog 101 #[.agg #[.int .i64 a0_0, .slice A0_1 n0_1 c0_1, .slice A0_2 n0_2 c0_2, .slice A0_3 n0_3 c0_3]] ws (Post1 w0 ws P0 (fun ((q_3, q_4, q_6, q_7) : (Option Addr) × Nat × (Option Addr) × Nat) => .tuple #[.agg #[.int .i64 r_1, .slice q_3 r_2.length q_4, .slice q_6 r_5.length q_7], .bool r_8]) (fun ((q_3, q_4, q_6, q_7) : (Option Addr) × Nat × (Option Addr) × Nat) => [row kStep 88 (.slice q_3 r_2.length q_4) r_2, row (Kd.int .i64) 3 (.slice q_6 r_5.length q_7) r_5])) := by
 unfold spec_rePlan.f at h
 obtain rfl := (R0_1 ws (KeptB.refl _ _)).1
 obtain rfl := (R0_2 ws (KeptB.refl _ _)).1
 obtain rfl := (R0_3 ws (KeptB.refl _ _)).1
 refine enter Try.func101 rfl Try.ntmps101 rfl hF ?_
 refine c_seq ?_
 refine za0 ?_
 refine o_e rfl (e_box rfl) (fun g1 => ?_)
 refine o_e rfl (zat V27 rfl) (fun g3 => ?_)
 refine o_q rfl rfl (q_asg rfl) ?_
 refine o_end ?_
 refine za1 ?_
 refine c_seq ?_
 refine c_seq ?_
 refine za0 ?_
 refine o_q rfl rfl (q_ldB G43 Z43 rfl (fun w h => h.zae (i := 1) rfl) rfl) ?_
 refine za7 h (fun b6 hx5 h => ?_) rfl
 refine o_e rfl (zab 0 Z Try.func150 N150 rfl rfl rfl (fun w P1 hF hB hS hT => spec_reShape.calls a0_0 A0_1 c0_1 l0_1.length l0_1 A0_2 c0_2 l0_2.length l0_2 A0_3 c0_3 l0_3.length l0_3 hB hF (hS _ R0_1) hc0_1 (hS _ R0_2) hc0_2 (hS _ R0_3) hc0_3 _ hx5)) (fun _ => ?_)
 refine o_q rfl rfl (q_not rfl) ?_
 refine o_end ?_
 refine za1 ?_
 refine zau _ rfl (fun hb7 => ?_) (fun hb7 => ?_)
 ·replace hb7 := nt_t hb7
  replace h := bb_f hb7 h
  refine c_seq ?_
  refine za0 ?_
  refine o_q rfl rfl (zb5 (vs := []) (cs := [.int .i64 0, .slice none 0 0, .slice none 0 0]) rfl rfl) ?_
  refine o_e rfl (zan (i := 0) rfl rfl rfl Z27 rfl rfl) (fun _ => ?_)
  refine o_q rfl rfl (q_asg rfl) ?_
  refine o_end ?_
  refine za1 ?_
  refine c_ret ?_
  refine zaa ?_
  refine x_nil kStep 88 ?_
  refine x_nil (Kd.int .i64) 3 ?_
  have e0_ := Option.some.inj h; clear h
  have d0_ := (Prod.mk.inj e0_).1; have e1_ := (Prod.mk.inj e0_).2; clear e0_; subst d0_
  have d1_ := (Prod.mk.inj e1_).1; have e2_ := (Prod.mk.inj e1_).2; clear e1_; subst d1_
  have d2_ := (Prod.mk.inj e2_).1; have e3_ := (Prod.mk.inj e2_).2; clear e2_; subst d2_
  subst e3_
  exact x_r2 (none, 0, none, 0) Try.results101 (rv_cell rfl G27 Z27 (fun w h => h.zae (i := 2) rfl) rfl) (zai rfl) rfl (fun w h => za6 [1, 0] (by decide) rfl w h)
 ·replace hb7 := nt_f hb7
  replace h := bb_t hb7 h
  refine zao ?_
  refine za1 ?_
  refine c_seq ?_
  refine za0 ?_
  refine o_q rfl rfl (q_ldB G43 Z43 rfl (fun w h => h.zae (i := 1) rfl) rfl) ?_
  refine o_q rfl rfl (q_f F43_2 rfl) ?_
  refine o_q rfl rfl (q_ldb Y41 rfl (fun w h => h.zae (i := 1) rfl) rfl) ?_
  refine o_q rfl rfl (q_len Try.underlying41 rfl) ?_
  refine bindE3 h (fun l9 l10 b11 hx8 h => ?_) rfl
  refine o_e rfl (zab 0 Z Try.func151 N151 rfl rfl rfl (fun w P1 hF hB hS hT => spec_reValues.calls k a0_0 A0_1 c0_1 l0_1.length l0_1 A0_2 c0_2 l0_2.length l0_2 A0_3 c0_3 l0_3.length l0_3 (l0_2.length : Int) hB hF (hS _ R0_1) hc0_1 (hS _ R0_2) hc0_2 (hS _ R0_3) hc0_3 _ _ _ hx8)) (cur4 (fun A12 c13 A14 c15 => ?_))
  refine o_q rfl rfl (za2 rfl) ?_
  refine o_q rfl rfl (q_ext rfl rfl) ?_
  refine o_q rfl rfl (q_ext rfl rfl) ?_
  refine o_q rfl rfl (q_ext rfl rfl) ?_
  refine o_q rfl rfl (q_asg rfl) ?_
  refine o_q rfl rfl (q_asg rfl) ?_
  refine o_q rfl rfl (q_asg rfl) ?_
  refine o_end ?_
  refine za1 ?_
  refine c_seq ?_
  refine c_seq ?_
  refine za0 ?_
  refine o_q rfl rfl (za2 rfl) ?_
  refine o_q rfl rfl (q_not rfl) ?_
  refine o_end ?_
  refine za1 ?_
  refine zau _ rfl (fun hb16 => ?_) (fun hb16 => ?_)
  ·replace hb16 := nt_t hb16
   replace h := bb_f hb16 h
   refine c_seq ?_
   refine za0 ?_
   refine o_q rfl rfl (zb5 (vs := []) (cs := [.int .i64 0, .slice none 0 0, .slice none 0 0]) rfl rfl) ?_
   refine o_e rfl (zan (i := 2) rfl rfl rfl Z27 rfl rfl) (fun _ => ?_)
   refine o_q rfl rfl (q_asg rfl) ?_
   refine o_end ?_
   refine za1 ?_
   refine c_ret ?_
   refine zaa ?_
   refine x_nil kStep 88 ?_
   refine x_nil (Kd.int .i64) 3 ?_
   have e0_ := Option.some.inj h; clear h
   have d0_ := (Prod.mk.inj e0_).1; have e1_ := (Prod.mk.inj e0_).2; clear e0_; subst d0_
   have d1_ := (Prod.mk.inj e1_).1; have e2_ := (Prod.mk.inj e1_).2; clear e1_; subst d1_
   have d2_ := (Prod.mk.inj e2_).1; have e3_ := (Prod.mk.inj e2_).2; clear e2_; subst d2_
   subst e3_
   exact x_r2 (none, 0, none, 0) Try.results101 (rv_cell rfl G27 Z27 (fun w h => h.zae (i := 4) rfl) rfl) (zai rfl) rfl (fun w h => za6 [1, 0] (by decide) rfl w h)
  ·replace hb16 := nt_f hb16
   replace h := bb_t hb16 h
   refine zao ?_
   refine za1 ?_
   refine c_seq ?_
   refine za0 ?_
   refine o_q rfl rfl (q_f F43_1 rfl) ?_
   refine o_q rfl rfl (q_ldb Y25 rfl (fun w h => h.zae (i := 3) rfl) rfl) ?_
   refine o_q rfl rfl (q_len Try.underlying25 rfl) ?_
   refine o_q rfl rfl (za2 rfl) ?_
   refine o_q rfl rfl (zb5 (vs := [(0, .int .i64 (l0_1.length : Int)), (1, .slice A14 l10.length c15)]) (cs := [.int .i64 (l0_1.length : Int), .slice A14 l10.length c15, .slice none 0 0]) rfl rfl) ?_
   refine o_e rfl (zat V27 rfl) (fun g17 => ?_)
   refine o_e rfl (zan (i := 0) rfl rfl rfl Z27 rfl rfl) (fun _ => ?_)
   refine o_end ?_
   refine za1 ?_
   refine c_seq ?_
   refine c_seq ?_
   refine za0 ?_
   refine o_q rfl rfl (q_f F43_3 rfl) ?_
   refine o_q rfl rfl (q_ldb Y25 rfl (fun w h => h.zae (i := 4) rfl) rfl) ?_
   refine o_q rfl rfl (q_len Try.underlying25 rfl) ?_
   refine o_q rfl rfl (za2 rfl) ?_
   refine o_end ?_
   refine za1 ?_
   refine zaj ?_
   refine c_nil (Kd.int .i64) 3 ?_
   refine za7 h (fun o31 hl30 hR29 => ?_) rfl
   clear h
   refine zba (p := l0_3.length ≤ 9223372036854775807) (fun w h => (R0_3.now Z h).2.1) (fun hm28 => ?_)
   refine zax (σ := (List Int) × (List Int) × Int × (Option Addr) × Nat) (fun k26 ((ys25, l20, i23, A21, c22) : (List Int) × (List Int) × Int × (Option Addr) × Nat) => Rg l0_3 i23 ys25 ∧ ys25.length = k26 ∧ spec_rePlan.l0 l9 ys25 l20 i23 = some o31) [3, 9, 34, 35, 36, 37, 38, 39, 40, 41, 42, 43, 44, 45, 46, 47, 48, 49, 50, 51, 52, 53] (fun ((ys25, l20, i23, A21, c22) : (List Int) × (List Int) × Int × (Option Addr) × Nat) => [(34, .int .i64 i23)]) (fun ((ys25, l20, i23, A21, c22) : (List Int) × (List Int) × Int × (Option Addr) × Nat) => [row (Kd.int .i64) 3 (.slice A21 l20.length c22) l20, box g17 27 #[.int .i64 (l0_1.length : Int), .slice A14 l10.length c15, .slice A21 l20.length c22], row (Kd.int .i64) 3 (.slice A12 l9.length c13) l9, row kStep 88 (.slice A14 l10.length c15) l10, box g3 27 #[.int .i64 0, .slice none 0 0, .slice none 0 0], box g1 43 #[.int .i64 a0_0, .slice A0_1 l0_1.length c0_1, .slice A0_2 l0_2.length c0_2, .slice A0_3 l0_3.length c0_3]]) l0_3.length (l0_3, ([] : List Int), 0, none, 0) ⟨Rg.start _, rfl, hl30⟩ ⟨rfl, trivial⟩ (fun w h => h) ?_
   refine fun k26 => cur5 (listC (fun l20 i23 A21 c22 U32 hJ_ => ?_) (fun y24 ys25 l20 i23 A21 c22 U32 hJ_ => ?_))
   ·skip
    clear hl30
    have hr27 := hJ_.1; have hk33 := hJ_.2.1; have h := hJ_.2.2; clear hJ_
    replace h : spec_rePlan.l0 l9 [] l20 i23 = some o31 := h
    rw [spec_rePlan.l0] at h
    refine c_seq ?_
    refine za0 ?_
    refine o_q rfl rfl (q_lss rfl rfl) ?_
    refine o_end ?_
    refine za1 ?_
    refine c_seq ?_
    refine zb3 (congrArg Value.bool hr27.ge) ?_
    refine zb4 ?_
    refine za8 ?_
    refine za8 ?_
    have e_ := Option.some.inj h; replace h := hR29; rw [← e_] at h; clear e_
    refine x_hit ?_
    refine za1 ?_
    refine c_seq ?_
    refine a_startS (ds := []) [some 0, some 1, some 2, some 3, none, some 5] MO rfl ?_
    refine zb0 0 rfl rfl rfl (by kernel_rfl) (fun _ _ _ h => h) (fun w h => za5 [some 0, some 1, some 2, some 3, none, some 5] (by decide) w h rfl) (q_ldB G27 Z27 rfl (fun w h => h.zae (i := 1) rfl) rfl) ?_
    refine zb0 1 rfl rfl rfl (by kernel_rfl) (fun _ _ _ h => h) (fun w h => za5 [some 0, some 1, some 2, some 3, none, some 5] (by decide) w h rfl) (q_ldB G27 Z27 rfl (fun w h => h.zae (i := 1) rfl) rfl) ?_
    refine za7 h (fun b35 hx34 h => ?_) rfl
    refine a_one 2 rfl rfl (by kernel_rfl) rfl (zab 0 Z Try.func70 N70 rfl rfl rfl (fun w P1 hF hB hS hT => spec_plGood.calls k (l0_1.length : Int) A14 c15 l10.length l10 A21 c22 l20.length l20 hB hF (hT 3 _ rfl).row (hT 3 _ rfl).cap (hT 0 _ rfl).row (hT 0 _ rfl).cap _ hx34)) (fun s w h => za5 [some 0, some 1, some 2, some 3, none, some 5] (by decide) w h rfl) (fun _ => ?_)
    refine a_one 3 rfl rfl (by kernel_rfl) rfl (zan (i := 4) rfl rfl rfl Z27 rfl rfl) (fun s w h => za5 [some 0, some 1, some 2, some 3, none, some 5] (by decide) w h rfl) (fun _ => ?_)
    refine za9 4 rfl rfl rfl (by kernel_rfl) (fun _ _ _ h => h) (q_asg rfl) ?_
    refine zav (by kernel_rfl) ?_
    refine za1 ?_
    refine c_ret ?_
    have e0_ := Option.some.inj h; clear h
    have d0_ := (Prod.mk.inj e0_).1; have e1_ := (Prod.mk.inj e0_).2; clear e0_; subst d0_
    have d1_ := (Prod.mk.inj e1_).1; have e2_ := (Prod.mk.inj e1_).2; clear e1_; subst d1_
    have d2_ := (Prod.mk.inj e2_).1; have e3_ := (Prod.mk.inj e2_).2; clear e2_; subst d2_
    subst e3_
    exact x_r2 (A14, c15, A21, c22) Try.results101 (rv_cell rfl G27 Z27 (fun w h => h.zae (i := 4) rfl) rfl) (zai rfl) rfl (fun w h => za6 [3, 0] (by decide) rfl w h)
   ·skip
    clear hl30
    have hr27 := hJ_.1; have hk33 := hJ_.2.1; have h := hJ_.2.2; clear hJ_
    replace h : spec_rePlan.l0 l9 (y24 :: ys25) l20 i23 = some o31 := h
    rw [spec_rePlan.l0] at h
    refine c_seq ?_
    refine za0 ?_
    refine o_q rfl rfl (q_lss rfl rfl) ?_
    refine o_end ?_
    refine za1 ?_
    refine c_seq ?_
    refine zb1 (congrArg Value.bool hr27.lt) ?_
    refine zao ?_
    refine za1 ?_
    refine c_seq ?_
    refine zaj ?_
    refine c_seq ?_
    refine za0 ?_
    refine zaz (p := Sh A0_3 l0_3.length l0_3.length) (fun w h => f_sh (dk := (Kd.int .i64)) h (fun w h => R0_3.now Z h)) (fun hq36 => ?_)
    refine o_q rfl rfl (q_ix Try.underlying25 Z3 rfl rfl hq36 hr27.get) ?_
    refine o_q rfl rfl (q_lde (off := 0) Y3 rfl rfl (fun w h => R0_3.now Z h) hr27.get (fun _ _ h => h) rfl) ?_
    refine o_q rfl rfl (q_asg rfl) ?_
    refine o_end ?_
    refine za1 ?_
    refine c_seq ?_
    refine c_seq ?_
    refine za0 ?_
    refine o_q rfl rfl (za2 rfl) ?_
    refine o_q rfl rfl (za2 rfl) ?_
    refine zaz (p := Sh A12 l9.length l9.length) (fun w h => f_sh (dk := (Kd.int .i64)) h (fun w h => h.zaw (i := 2) rfl)) (fun hq37 => ?_)
    refine za7 h (fun y39 hg38 h => ?_) rfl
    refine o_q rfl rfl (q_ix Try.underlying25 Z3 rfl rfl hq37 hg38) ?_
    refine o_q rfl rfl (q_lde (off := 0) Y3 rfl rfl (fun w h => h.zaw (i := 2) rfl) hg38 (fun _ _ h => h) rfl) ?_
    refine o_q rfl rfl (q_lss rfl rfl) ?_
    refine o_end ?_
    refine za1 ?_
    refine zau _ rfl (fun hb40 => ?_) (fun hb40 => ?_)
    ·skip
     replace h := br_t hb40 h
     refine c_seq ?_
     refine za0 ?_
     refine o_q rfl rfl (zb5 (vs := []) (cs := [.int .i64 0, .slice none 0 0, .slice none 0 0]) rfl rfl) ?_
     refine o_e rfl (zan (i := 4) rfl rfl rfl Z27 rfl rfl) (fun _ => ?_)
     refine o_q rfl rfl (q_asg rfl) ?_
     refine o_end ?_
     refine za1 ?_
     refine c_ret ?_
     refine zaa ?_
     refine zar ?_
     refine zaa ?_
     refine zaa ?_
     have e_ := Option.some.inj h; replace h := hR29; rw [← e_] at h; clear e_
     refine zar ?_
     refine zaa ?_
     refine x_nil kStep 88 ?_
     refine x_nil (Kd.int .i64) 3 ?_
     have e0_ := Option.some.inj h; clear h
     have d0_ := (Prod.mk.inj e0_).1; have e1_ := (Prod.mk.inj e0_).2; clear e0_; subst d0_
     have d1_ := (Prod.mk.inj e1_).1; have e2_ := (Prod.mk.inj e1_).2; clear e1_; subst d1_
     have d2_ := (Prod.mk.inj e2_).1; have e3_ := (Prod.mk.inj e2_).2; clear e2_; subst d2_
     subst e3_
     exact x_r2 (none, 0, none, 0) Try.results101 (rv_cell rfl G27 Z27 (fun w h => h.zae (i := 6) rfl) rfl) (zai rfl) rfl (fun w h => za6 [1, 0] (by decide) rfl w h)
    ·skip
     replace h := br_f hb40 h
     refine zao ?_
     refine za1 ?_
     refine za7 h (fun y283 hg282 h => ?_) rfl
     refine za7 h (fun l462 ha463 h => ?_) rfl
     refine a_startS (ds := []) [none, none, some 2, some 3, some 4, some 5] MO rfl ?_
     refine za9 0 rfl rfl rfl (by kernel_rfl) (fun _ _ _ h => h) (q_f F27_2 rfl) ?_
     refine za9 2 rfl rfl rfl (by kernel_rfl) (fun _ _ _ h => h) (za2 rfl) ?_
     refine za9 3 rfl rfl rfl (by kernel_rfl) (fun _ _ _ h => h) (za2 rfl) ?_
     refine za9 4 rfl rfl rfl (by kernel_rfl) (fun _ _ _ h => h) (q_ix Try.underlying25 Z3 rfl rfl hq37 hg282) ?_
     refine zb0 5 rfl rfl rfl (by kernel_rfl) (fun _ _ _ h => h) (fun w h => za5 [none, none, some 2, some 3, some 4, some 5] (by decide) w h rfl) (q_lde (off := 0) Y3 rfl rfl (fun w h => h.zaw (i := 2) rfl) hg282 (fun _ _ h => h) rfl) ?_
     refine a_two 1 6 rfl rfl rfl rfl (by kernel_rfl) rfl rfl (ev_q rfl (q_ldb Y25 rfl (fun w h => h.zae (i := 1) rfl) rfl)) (fun s w h => za5 [none, none, some 2, some 3, some 4, some 5] (by decide) w h rfl) (e_lit (vs := [(0, .int .i64 y283)]) (cs := [.int .i64 y283]) (Kd.int .i64) ([y283] : List Int) Try.underlying25 I3 (by decide) rfl (by decide) rfl rfl (fun _ _ => Kd.zak _)) (fun s w h => za5 [none, none, some 3, some 4, some 5, some 6] (by decide) w h rfl) (fun _ => ?_) (cur2 (fun A402 c403 => ?_))
     ·skip
      refine a_one 6 rfl rfl (by kernel_rfl) rfl (e_lit (vs := [(0, .int .i64 y283)]) (cs := [.int .i64 y283]) (Kd.int .i64) ([y283] : List Int) Try.underlying25 I3 (by decide) rfl (by decide) rfl rfl (fun _ _ => Kd.zak _)) (fun s w h => za5 [none, none, some 3, some 4, some 5, some 6] (by decide) w h rfl) (cur2 (fun A402 c403 => ?_))
      refine a_one 7 rfl rfl (by kernel_rfl) rfl (e_app (i := 1) (j := 0) Try.underlying25 I3 rfl (by decide) (by decide) rfl rfl rfl rfl rfl ha463) (fun s w h => za5 [none, none, some 3, some 4, some 5, some 6] (by decide) w h rfl) (cur2 (fun A464 c465 => ?_))
      refine za9 8 rfl rfl rfl (by kernel_rfl) (fun _ _ _ h => h) (q_f F27_2 rfl) ?_
      refine a_one 9 rfl rfl (by kernel_rfl) rfl (zay (i := 2) rfl rfl rfl rfl Z25 rfl rfl) (fun s w h => za5 [none, none, some 3, some 4, some 5, some 6] (by decide) w h rfl) (fun _ => ?_)
      refine zav (by kernel_rfl) ?_
      refine zal ?_
      refine za1 ?_
      refine za0 ?_
      refine o_q rfl rfl (q_up rfl rfl (hr27.up hm28)) ?_
      refine o_q rfl rfl (za2 rfl) ?_
      refine o_end ?_
      refine zam ys25.length (ys25, l462, i23 + 1, A464, c465) (by rw [← hk33]; exact Nat.lt_succ_self _) ⟨hr27.step, rfl, h⟩ ⟨rfl, trivial⟩ (fun w h => za6 [1, 2, 3, 4, 5, 6] (by decide) rfl w h) ?_
      repeat (first | exact zac _ _ | refine zaf rfl ?_ | refine zad rfl ?_ | refine zah rfl ?_)
     ·skip
      refine a_one 1 rfl rfl (by kernel_rfl) rfl (ev_q rfl (q_ldb Y25 rfl (fun w h => h.zae (i := 2) rfl) rfl)) (fun s w h => za5 [none, none, some 3, some 4, some 5, some 6] (by decide) w h rfl) (fun _ => ?_)
      refine a_one 7 rfl rfl (by kernel_rfl) rfl (e_app (i := 1) (j := 0) Try.underlying25 I3 rfl (by decide) (by decide) rfl rfl rfl rfl rfl ha463) (fun s w h => za5 [none, none, some 3, some 4, some 5, some 6] (by decide) w h rfl) (cur2 (fun A464 c465 => ?_))
      refine za9 8 rfl rfl rfl (by kernel_rfl) (fun _ _ _ h => h) (q_f F27_2 rfl) ?_
      refine a_one 9 rfl rfl (by kernel_rfl) rfl (zay (i := 2) rfl rfl rfl rfl Z25 rfl rfl) (fun s w h => za5 [none, none, some 3, some 4, some 5, some 6] (by decide) w h rfl) (fun _ => ?_)
      refine zav (by kernel_rfl) ?_
      refine zal ?_
      refine za1 ?_
      refine za0 ?_
      refine o_q rfl rfl (q_up rfl rfl (hr27.up hm28)) ?_
      refine o_q rfl rfl (za2 rfl) ?_
      refine o_end ?_
      refine zam ys25.length (ys25, l462, i23 + 1, A464, c465) (by rw [← hk33]; exact Nat.lt_succ_self _) ⟨hr27.step, rfl, h⟩ ⟨rfl, trivial⟩ (fun w h => za6 [1, 2, 3, 4, 5, 6] (by decide) rfl w h) ?_
      repeat (first | exact zac _ _ | refine zaf rfl ?_ | refine zad rfl ?_ | refine zah rfl ?_)

end Go.Proofs.Ytdicngjloiphkaa.L6
