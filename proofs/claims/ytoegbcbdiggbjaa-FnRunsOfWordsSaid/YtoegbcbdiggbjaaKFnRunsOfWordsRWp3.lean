import Derived.Test.YtoegbcbdiggbjaaKFnRunsOfWordsRWp2
namespace Go.Proofs.Ytoegbcbdiggbjaa.RW
open Go.RowKit Go.Proofs.Ytoegbcbdiggbjaa.Frame Go.Proofs.YtoegbcbdiggbjaaW.PrintLast Go.Proofs.Ytoegbcbdiggbjaa.Hand
open Go.Proofs.YtoegbcbdiggbjaaW.PrintWords hiding mn mx
/-! ### loop.example/g01098/spec.l1All: function 133 -/
def spec_l1All.l0 (a1 : Int) (a2 : Int) : (List Int) → Int → Option ((Bool) ⊕ (Unit))
  | [], i1 => some (.inr ())
  | y2 :: ys3, i1 => (spec_l1In.f y2 a1 a2).bind fun b14 => if b14 = true then (spec_l1All.l0 a1 a2 ys3 (i1 + 1)) else (some (.inl false))
def spec_l1All.f (l0 : List Int) (a1 : Int) (a2 : Int) : Option Bool := (spec_l1All.l0 a1 a2 l0 0).bind fun o_ => match o_ with | .inl r_ => some r_ | .inr _ => some true
set_option maxHeartbeats 600000 in
set_option maxRecDepth 100000 in
theorem spec_l1All.calls {w0 ws : World} {P0 : Nat → Prop} (A0 : Option Addr) (c0 : Nat) (n0 : Nat) (l0 : List Int) (a1 : Int) (a2 : Int) (Z : Below w0.heap.size w0 ws) (hF : Fr w0 ws P0 [] ws) (R0 : Stable ws P0 (fun w => Kd.C (Kd.int .i64) w A0 n0 l0)) (hc0 : n0 ≤ c0) (r_1 : Bool) (h : spec_l1All.f l0 a1 a2 = some r_1) :
    Calls Try.prog 133 #[.slice A0 n0 c0, .int .i64 a1, .int .i64 a2] ws (Post1 w0 ws P0 (fun (_ : Unit) => .bool r_1) (fun (_ : Unit) => [])) := by
  unfold spec_l1All.f at h
  obtain rfl := (R0 ws (KeptB.refl _ _)).1
  refine enter Try.func133 rfl Try.ntmps133 rfl hF ?_
  refine c_seq ?_
  refine za0 ?_
  refine o_q rfl rfl (q_asg rfl) ?_
  refine o_end ?_
  refine za1 ?_
  refine c_seq ?_
  refine c_seq ?_
  refine za0 ?_
  refine o_q rfl rfl (za2 rfl) ?_
  refine o_q rfl rfl (q_len Try.underlying25 rfl) ?_
  refine o_q rfl rfl (za2 rfl) ?_
  refine o_end ?_
  refine za1 ?_
  refine zah ?_
  refine za8 h (fun o9 hl8 hR7 => ?_) rfl
  clear h
  refine c_fact (p := l0.length ≤ 9223372036854775807) (fun w h => (R0.now Z h).2.1) (fun hm6 => ?_)
  refine zat (σ := (List Int) × Int) (fun k4 ((ys3, i1) : (List Int) × Int) => Rg l0 i1 ys3 ∧ ys3.length = k4 ∧ spec_l1All.l0 a1 a2 ys3 i1 = some o9) [6, 8, 11, 12, 13, 14, 15, 16, 17, 18, 19, 20] (fun ((ys3, i1) : (List Int) × Int) => [(11, .int .i64 i1)]) (fun ((ys3, i1) : (List Int) × Int) => []) l0.length (l0, 0) ⟨Rg.start _, rfl, hl8⟩ ⟨rfl, trivial⟩ (fun w h => h) ?_
  refine fun k4 => cur2 (listC (fun i1 U10 hJ_ => ?_) (fun y2 ys3 i1 U10 hJ_ => ?_))
  · skip
    clear hl8
    have hr5 := hJ_.1; have hk11 := hJ_.2.1; have h := hJ_.2.2; clear hJ_
    replace h : spec_l1All.l0 a1 a2 [] i1 = some o9 := h
    rw [spec_l1All.l0] at h
    refine c_seq ?_
    refine za0 ?_
    refine o_q rfl rfl (q_lss rfl rfl) ?_
    refine o_end ?_
    refine za1 ?_
    refine c_seq ?_
    refine c_false (congrArg Value.bool hr5.ge) ?_
    refine c_exit ?_
    refine za6 ?_
    refine za6 ?_
    have e_ := Option.some.inj h; replace h := hR7; rw [← e_] at h; clear e_
    refine x_hit ?_
    refine za1 ?_
    refine c_seq ?_
    refine za0 ?_
    refine o_q rfl rfl (q_asg rfl) ?_
    refine o_end ?_
    refine za1 ?_
    refine c_ret ?_
    have e0_ := Option.some.inj h; clear h
    subst e0_
    exact x_r1 () Try.results133 (zab rfl) rfl (fun w h => za7 [] (by decide) rfl w h)
  · skip
    clear hl8
    have hr5 := hJ_.1; have hk11 := hJ_.2.1; have h := hJ_.2.2; clear hJ_
    replace h : spec_l1All.l0 a1 a2 (y2 :: ys3) i1 = some o9 := h
    rw [spec_l1All.l0] at h
    refine c_seq ?_
    refine za0 ?_
    refine o_q rfl rfl (q_lss rfl rfl) ?_
    refine o_end ?_
    refine za1 ?_
    refine c_seq ?_
    refine c_true (congrArg Value.bool hr5.lt) ?_
    refine zan ?_
    refine za1 ?_
    refine c_seq ?_
    refine zah ?_
    refine c_seq ?_
    refine za0 ?_
    refine o_fact (p := Sh A0 l0.length l0.length) (fun w h => f_sh (dk := (Kd.int .i64)) h (fun w h => R0.now Z h)) (fun hq12 => ?_)
    refine o_q rfl rfl (q_ix Try.underlying25 Z3 rfl rfl hq12 hr5.get) ?_
    refine o_q rfl rfl (q_lde (off := 0) Y3 rfl rfl (fun w h => R0.now Z h) hr5.get (fun _ _ h => h) rfl) ?_
    refine o_q rfl rfl (q_asg rfl) ?_
    refine o_end ?_
    refine za1 ?_
    refine c_seq ?_
    refine za0 ?_
    refine o_q rfl rfl (za2 rfl) ?_
    refine o_q rfl rfl (za2 rfl) ?_
    refine o_q rfl rfl (za2 rfl) ?_
    refine za8 h (fun b14 hx13 h => ?_) rfl
    refine o_e rfl (zaa 0 Z Try.func94 N94 rfl rfl rfl (fun w P1 hF hB hS hT => spec_l1In.calls y2 a1 a2 hB hF _ hx13)) (fun _ => ?_)
    refine o_q rfl rfl (q_not rfl) ?_
    refine o_end ?_
    refine za1 ?_
    refine zas _ rfl (fun hb15 => ?_) (fun hb15 => ?_)
    · replace hb15 := nt_t hb15
      replace h := bb_f hb15 h
      refine c_seq ?_
      refine za0 ?_
      refine o_q rfl rfl (q_asg rfl) ?_
      refine o_end ?_
      refine za1 ?_
      refine c_ret ?_
      refine zaf ?_
      refine za5 ?_
      refine za5 ?_
      have e_ := Option.some.inj h; replace h := hR7; rw [← e_] at h; clear e_
      refine zaf ?_
      refine za5 ?_
      have e0_ := Option.some.inj h; clear h
      subst e0_
      exact x_r1 () Try.results133 (zab rfl) rfl (fun w h => za7 [] (by decide) rfl w h)
    · replace hb15 := nt_f hb15
      replace h := bb_t hb15 h
      refine zan ?_
      refine zao ?_
      refine za1 ?_
      refine za0 ?_
      refine o_q rfl rfl (q_up rfl rfl (hr5.up hm6)) ?_
      refine o_q rfl rfl (za2 rfl) ?_
      refine o_end ?_
      refine zam ys3.length (ys3, i1 + 1) (by rw [← hk11]; exact Nat.lt_succ_self _) ⟨hr5.step, rfl, h⟩ ⟨rfl, trivial⟩ (fun w h => za7 [] (by decide) rfl w h) ?_
      repeat (first | exact zac _ _ | refine zak rfl ?_ | refine zad rfl ?_ | refine zal rfl ?_)

/-! ### loop.example/g01098/spec.plGood: function 93 -/
def spec_plGood.l1 : (List (List Int)) → Int → Option ((Bool) ⊕ (Unit))
  | [], i24 => some (.inr ())
  | y25 :: ys26, i24 => (spec_l1All.f y25 0 1000000).bind fun b40 => if b40 = true then (spec_plGood.l1 ys26 (i24 + 1)) else (some (.inl false))
def spec_plGood.l0 (a0_0 : Int) : (List SStep) → Int → Option ((Bool) ⊕ (Unit))
  | [], i8 => some (.inr ())
  | y9 :: ys10, i8 => (spec_l1In.f y9.f0 0 y9.f1).bind fun b46 => if b46 = true then (if w64 (a0_0 + i8) ≤ y9.f1 then (some (.inl false)) else (spec_plGood.l0 a0_0 ys10 (i8 + 1))) else (some (.inl false))
def spec_plGood.f (k : Nat) (a0_0 : Int) (l0_1 : List SStep) (l0_2 : List Int) : Option Bool := (spec_l1In.f a0_0 1 6).bind fun b4 => if b4 = true then (if 40 < (l0_1.length : Int) then (some false) else (if 6 < (l0_2.length : Int) then (some false) else ((spec_plGood.l0 a0_0 l0_1 0).bind fun o_ => match o_ with | .inl r_ => some r_ | .inr _ => (spec_plExponents.f k a0_0 l0_1 l0_2).bind fun l20 => (spec_plGood.l1 l20 0).bind fun o_ => match o_ with | .inl r_ => some r_ | .inr _ => (spec_l1All.f l0_2 0 (w64 (w64 (a0_0 + (l0_1.length : Int)) - 1))).bind fun b36 => some b36))) else (some false)
set_option maxHeartbeats 600000 in
set_option maxRecDepth 100000 in
theorem spec_plGood.calls (k : Nat) {w0 ws : World} {P0 : Nat → Prop} (a0_0 : Int) (A0_1 : Option Addr) (c0_1 : Nat) (n0_1 : Nat) (l0_1 : List SStep) (A0_2 : Option Addr) (c0_2 : Nat) (n0_2 : Nat) (l0_2 : List Int) (Z : Below w0.heap.size w0 ws) (hF : Fr w0 ws P0 [] ws) (R0_1 : Stable ws P0 (fun w => Kd.C kStep w A0_1 n0_1 l0_1)) (hc0_1 : n0_1 ≤ c0_1) (R0_2 : Stable ws P0 (fun w => Kd.C (Kd.int .i64) w A0_2 n0_2 l0_2)) (hc0_2 : n0_2 ≤ c0_2) (r_1 : Bool) (h : spec_plGood.f k a0_0 l0_1 l0_2 = some r_1) :
    Calls Try.prog 93 #[.agg #[.int .i64 a0_0, .slice A0_1 n0_1 c0_1, .slice A0_2 n0_2 c0_2]] ws (Post1 w0 ws P0 (fun (_ : Unit) => .bool r_1) (fun (_ : Unit) => [])) := by
  unfold spec_plGood.f at h
  obtain rfl := (R0_1 ws (KeptB.refl _ _)).1
  obtain rfl := (R0_2 ws (KeptB.refl _ _)).1
  refine enter Try.func93 rfl Try.ntmps93 rfl hF ?_
  refine c_seq ?_
  refine za0 ?_
  refine o_e rfl (e_box rfl) (fun g1 => ?_)
  refine o_q rfl rfl (q_asg rfl) ?_
  refine o_end ?_
  refine za1 ?_
  refine c_seq ?_
  refine c_seq ?_
  refine za0 ?_
  refine o_q rfl rfl (q_f F27_0 rfl) ?_
  refine o_q rfl rfl (q_ldb Y3 rfl (fun w h => h.zai (i := 0) rfl) rfl) ?_
  refine za8 h (fun b4 hx3 h => ?_) rfl
  refine o_e rfl (zaa 0 Z Try.func94 N94 rfl rfl rfl (fun w P1 hF hB hS hT => spec_l1In.calls a0_0 1 6 hB hF _ hx3)) (fun _ => ?_)
  refine o_q rfl rfl (q_not rfl) ?_
  refine o_q rfl rfl (za2 rfl) ?_
  refine byB b4 (fun hb5 => ?_) (fun hb5 => ?_)
  · replace h := bb_t hb5 h
    refine o_w (za4 rfl rfl rfl (congrArg (fun b => Value.bool (!(b))) hb5)) rfl (q_f F27_1 rfl) ?_
    refine o_w (za4 rfl rfl rfl (congrArg (fun b => Value.bool (!(b))) hb5)) rfl (q_ldb Y24 rfl (fun w h => h.zai (i := 0) rfl) rfl) ?_
    refine o_w (za4 rfl rfl rfl (congrArg (fun b => Value.bool (!(b))) hb5)) rfl (q_len Try.underlying24 rfl) ?_
    refine o_w (za4 rfl rfl rfl (congrArg (fun b => Value.bool (!(b))) hb5)) rfl (q_gtr rfl rfl) ?_
    refine o_q rfl rfl (q_pick false (congrArg (fun b => Value.bool (!(b))) hb5) rfl) ?_
    refine o_q rfl rfl (za2 rfl) ?_
    refine byB (decide (40 < (l0_1.length : Int))) (fun hb6 => ?_) (fun hb6 => ?_)
    · replace h := br_t hb6 h
      refine @o_n _ _ _ _ _ _ _ _ _ _ _ 18 (za3 rfl rfl rfl (congrArg Value.bool hb6) rfl) (Eq.refl (some 18)) ?_
      refine @o_n _ _ _ _ _ _ _ _ _ _ _ 19 (za3 rfl rfl rfl (congrArg Value.bool hb6) rfl) (Eq.refl (some 19)) ?_
      refine @o_n _ _ _ _ _ _ _ _ _ _ _ 20 (za3 rfl rfl rfl (congrArg Value.bool hb6) rfl) (Eq.refl (some 20)) ?_
      refine @o_n _ _ _ _ _ _ _ _ _ _ _ 21 (za3 rfl rfl rfl (congrArg Value.bool hb6) rfl) (Eq.refl (some 21)) ?_
      refine o_q rfl rfl (q_pick true (congrArg Value.bool hb6) rfl) ?_
      refine o_end ?_
      refine za1 ?_
      refine c_true rfl ?_
      refine c_seq ?_
      refine za0 ?_
      refine o_q rfl rfl (q_asg rfl) ?_
      refine o_end ?_
      refine za1 ?_
      refine c_ret ?_
      refine za5 ?_
      have e0_ := Option.some.inj h; clear h
      subst e0_
      exact x_r1 () Try.results93 (zab rfl) rfl (fun w h => za7 [] (by decide) rfl w h)
    · replace h := br_f hb6 h
      refine o_w (za4 rfl rfl rfl (congrArg Value.bool hb6)) rfl (q_f F27_2 rfl) ?_
      refine o_w (za4 rfl rfl rfl (congrArg Value.bool hb6)) rfl (q_ldb Y25 rfl (fun w h => h.zai (i := 0) rfl) rfl) ?_
      refine o_w (za4 rfl rfl rfl (congrArg Value.bool hb6)) rfl (q_len Try.underlying25 rfl) ?_
      refine o_w (za4 rfl rfl rfl (congrArg Value.bool hb6)) rfl (q_gtr rfl rfl) ?_
      refine o_q rfl rfl (q_pick false (congrArg Value.bool hb6) rfl) ?_
      refine o_end ?_
      refine za1 ?_
      refine zas _ rfl (fun hb7 => ?_) (fun hb7 => ?_)
      · skip
        replace h := br_t hb7 h
        refine c_seq ?_
        refine za0 ?_
        refine o_q rfl rfl (q_asg rfl) ?_
        refine o_end ?_
        refine za1 ?_
        refine c_ret ?_
        refine za5 ?_
        have e0_ := Option.some.inj h; clear h
        subst e0_
        exact x_r1 () Try.results93 (zab rfl) rfl (fun w h => za7 [] (by decide) rfl w h)
      · skip
        replace h := br_f hb7 h
        refine zan ?_
        refine za1 ?_
        refine c_seq ?_
        refine c_seq ?_
        refine za0 ?_
        refine o_q rfl rfl (q_f F27_1 rfl) ?_
        refine o_q rfl rfl (q_ldb Y24 rfl (fun w h => h.zai (i := 0) rfl) rfl) ?_
        refine o_q rfl rfl (q_len Try.underlying24 rfl) ?_
        refine o_q rfl rfl (za2 rfl) ?_
        refine o_end ?_
        refine za1 ?_
        refine zah ?_
        refine za8 h (fun o16 hl15 hR14 => ?_) rfl
        clear h
        refine c_fact (p := l0_1.length ≤ 9223372036854775807) (fun w h => (R0_1.now Z h).2.1) (fun hm13 => ?_)
        refine zat (σ := (List SStep) × Int) (fun k11 ((ys10, i8) : (List SStep) × Int) => Rg l0_1 i8 ys10 ∧ ys10.length = k11 ∧ spec_plGood.l0 a0_0 ys10 i8 = some o16) [2, 3, 4, 26, 27, 28, 29, 30, 31, 32, 33, 34, 35, 36, 37, 38, 39, 40, 41, 42, 43, 44, 45, 46] (fun ((ys10, i8) : (List SStep) × Int) => [(26, .int .i64 i8)]) (fun ((ys10, i8) : (List SStep) × Int) => [box g1 27 #[.int .i64 a0_0, .slice A0_1 l0_1.length c0_1, .slice A0_2 l0_2.length c0_2]]) l0_1.length (l0_1, 0) ⟨Rg.start _, rfl, hl15⟩ ⟨rfl, trivial⟩ (fun w h => h) ?_
        refine fun k11 => cur2 (listC (fun i8 U17 hJ_ => ?_) (fun y9 ys10 i8 U17 hJ_ => ?_))
        · skip
          clear hl15
          have hr12 := hJ_.1; have hk18 := hJ_.2.1; have h := hJ_.2.2; clear hJ_
          replace h : spec_plGood.l0 a0_0 [] i8 = some o16 := h
          rw [spec_plGood.l0] at h
          refine c_seq ?_
          refine za0 ?_
          refine o_q rfl rfl (q_lss rfl rfl) ?_
          refine o_end ?_
          refine za1 ?_
          refine c_seq ?_
          refine c_false (congrArg Value.bool hr12.ge) ?_
          refine c_exit ?_
          refine za6 ?_
          refine za6 ?_
          have e_ := Option.some.inj h; replace h := hR14; rw [← e_] at h; clear e_
          refine x_hit ?_
          refine za1 ?_
          refine c_seq ?_
          refine c_seq ?_
          refine za0 ?_
          refine o_q rfl rfl (q_ldB G27 Z27 rfl (fun w h => h.zai (i := 0) rfl) rfl) ?_
          refine za8 h (fun l20 hx19 h => ?_) rfl
          refine o_e rfl (zaa 0 Z Try.func183 N183 rfl rfl rfl (fun w P1 hF hB hS hT => spec_plExponents.calls k a0_0 A0_1 c0_1 l0_1.length l0_1 A0_2 c0_2 l0_2.length l0_2 hB hF (hS _ R0_1) hc0_1 (hS _ R0_2) hc0_2 _ hx19)) (cur3 (fun A21 c22 H23 => ?_))
          refine o_q rfl rfl (q_len Try.underlying60 rfl) ?_
          refine o_q rfl rfl (za2 rfl) ?_
          refine o_end ?_
          refine za1 ?_
          refine zah ?_
          refine za8 h (fun o32 hl31 hR30 => ?_) rfl
          clear h
          refine c_fact (p := l20.length ≤ 9223372036854775807) (fun w h => (h.zaq (i := 0) rfl).2.1) (fun hm29 => ?_)
          refine zat (σ := (List (List Int)) × Int) (fun k27 ((ys26, i24) : (List (List Int)) × Int) => Rg l20 i24 ys26 ∧ ys26.length = k27 ∧ spec_plGood.l1 ys26 i24 = some o32) [2, 6, 50, 51, 52, 53, 54, 55, 56, 57] (fun ((ys26, i24) : (List (List Int)) × Int) => [(50, .int .i64 i24)]) (fun ((ys26, i24) : (List (List Int)) × Int) => [row (gk 3 (Kd.int .i64)) 25 (.slice A21 l20.length c22) (zp H23 l20), box g1 27 #[.int .i64 a0_0, .slice A0_1 l0_1.length c0_1, .slice A0_2 l0_2.length c0_2]]) l20.length (l20, 0) ⟨Rg.start _, rfl, hl31⟩ ⟨rfl, trivial⟩ (fun w h => h) ?_
          refine fun k27 => cur2 (listC (fun i24 U33 hJ_ => ?_) (fun y25 ys26 i24 U33 hJ_ => ?_))
          · skip
            clear hl31
            have hr28 := hJ_.1; have hk34 := hJ_.2.1; have h := hJ_.2.2; clear hJ_
            replace h : spec_plGood.l1 [] i24 = some o32 := h
            rw [spec_plGood.l1] at h
            refine c_seq ?_
            refine za0 ?_
            refine o_q rfl rfl (q_lss rfl rfl) ?_
            refine o_end ?_
            refine za1 ?_
            refine c_seq ?_
            refine c_false (congrArg Value.bool hr28.ge) ?_
            refine c_exit ?_
            refine za6 ?_
            refine za6 ?_
            have e_ := Option.some.inj h; replace h := hR30; rw [← e_] at h; clear e_
            refine x_hit ?_
            refine za1 ?_
            refine c_seq ?_
            refine za0 ?_
            refine o_q rfl rfl (q_f F27_2 rfl) ?_
            refine o_q rfl rfl (q_ldb Y25 rfl (fun w h => h.zai (i := 1) rfl) rfl) ?_
            refine o_q rfl rfl (q_f F27_0 rfl) ?_
            refine o_q rfl rfl (q_ldb Y3 rfl (fun w h => h.zai (i := 1) rfl) rfl) ?_
            refine o_q rfl rfl (q_f F27_1 rfl) ?_
            refine o_q rfl rfl (q_ldb Y24 rfl (fun w h => h.zai (i := 1) rfl) rfl) ?_
            refine o_q rfl rfl (q_len Try.underlying24 rfl) ?_
            refine o_q rfl rfl (q_add64 rfl rfl) ?_
            refine o_q rfl rfl (q_sub64 rfl rfl) ?_
            refine za8 h (fun b36 hx35 h => ?_) rfl
            refine o_e rfl (zaa 0 Z Try.func133 N133 rfl rfl rfl (fun w P1 hF hB hS hT => spec_l1All.calls A0_2 c0_2 l0_2.length l0_2 0 (w64 (w64 (a0_0 + (l0_1.length : Int)) - 1)) hB hF (hS _ R0_2) hc0_2 _ hx35)) (fun _ => ?_)
            refine o_q rfl rfl (q_asg rfl) ?_
            refine o_end ?_
            refine za1 ?_
            refine c_ret ?_
            have e0_ := Option.some.inj h; clear h
            subst e0_
            exact x_r1 () Try.results93 (zab rfl) rfl (fun w h => za7 [] (by decide) rfl w h)
          · skip
            clear hl31
            have hr28 := hJ_.1; have hk34 := hJ_.2.1; have h := hJ_.2.2; clear hJ_
            replace h : spec_plGood.l1 (y25 :: ys26) i24 = some o32 := h
            rw [spec_plGood.l1] at h
            refine c_seq ?_
            refine za0 ?_
            refine o_q rfl rfl (q_lss rfl rfl) ?_
            refine o_end ?_
            refine za1 ?_
            refine c_seq ?_
            refine c_true (congrArg Value.bool hr28.lt) ?_
            refine zan ?_
            refine za1 ?_
            refine c_seq ?_
            refine zah ?_
            refine c_seq ?_
            refine za0 ?_
            refine o_fact (p := Sh A21 l20.length (zp H23 l20).length) (fun w h => f_sh (dk := (gk 3 (Kd.int .i64))) h (fun w h => h.zaq (i := 0) rfl)) (fun hq37 => ?_)
            refine o_q rfl rfl (q_ix Try.underlying60 Z25 rfl rfl hq37 (gt_zp hr28.get)) ?_
            refine o_fact (p := y25.length ≤ hC H23 i24) (fun w h => (K_in (h.zaq (i := 0) rfl) hr28.get).1) (fun hc38 => ?_)
            refine o_q rfl rfl (q_lde (off := 0) Y25 rfl rfl (fun w h => h.zaq (i := 0) rfl) (gt_zp hr28.get) (fun _ _ h => h.1) rfl) ?_
            refine o_q rfl rfl (q_asg rfl) ?_
            refine o_end ?_
            refine za1 ?_
            refine c_seq ?_
            refine za0 ?_
            refine o_q rfl rfl (za2 rfl) ?_
            refine za8 h (fun b40 hx39 h => ?_) rfl
            refine o_e rfl (zaa 0 Z Try.func133 N133 rfl rfl rfl (fun w P1 hF hB hS hT => spec_l1All.calls (hA H23 i24) (hC H23 i24) y25.length y25 0 1000000 hB hF (stab_in (hT 0 _ rfl).row hr28.get) hc38 _ hx39)) (fun _ => ?_)
            refine o_q rfl rfl (q_not rfl) ?_
            refine o_end ?_
            refine za1 ?_
            refine zas _ rfl (fun hb41 => ?_) (fun hb41 => ?_)
            · replace hb41 := nt_t hb41
              replace h := bb_f hb41 h
              refine c_seq ?_
              refine za0 ?_
              refine o_q rfl rfl (q_asg rfl) ?_
              refine o_end ?_
              refine za1 ?_
              refine c_ret ?_
              refine zaf ?_
              refine za5 ?_
              refine za5 ?_
              have e_ := Option.some.inj h; replace h := hR30; rw [← e_] at h; clear e_
              refine zaf ?_
              refine za5 ?_
              have e0_ := Option.some.inj h; clear h
              subst e0_
              exact x_r1 () Try.results93 (zab rfl) rfl (fun w h => za7 [] (by decide) rfl w h)
            · replace hb41 := nt_f hb41
              replace h := bb_t hb41 h
              refine zan ?_
              refine zao ?_
              refine za1 ?_
              refine za0 ?_
              refine o_q rfl rfl (q_up rfl rfl (hr28.up hm29)) ?_
              refine o_q rfl rfl (za2 rfl) ?_
              refine o_end ?_
              refine zam ys26.length (ys26, i24 + 1) (by rw [← hk34]; exact Nat.lt_succ_self _) ⟨hr28.step, rfl, h⟩ ⟨rfl, trivial⟩ (fun w h => za7 [0, 1] (by decide) rfl w h) ?_
              repeat (first | exact zac _ _ | refine zak rfl ?_ | refine zad rfl ?_ | refine zal rfl ?_)
        · skip
          clear hl15
          have hr12 := hJ_.1; have hk18 := hJ_.2.1; have h := hJ_.2.2; clear hJ_
          replace h : spec_plGood.l0 a0_0 (y9 :: ys10) i8 = some o16 := h
          rw [spec_plGood.l0] at h
          refine c_seq ?_
          refine za0 ?_
          refine o_q rfl rfl (q_lss rfl rfl) ?_
          refine o_end ?_
          refine za1 ?_
          refine c_seq ?_
          refine c_true (congrArg Value.bool hr12.lt) ?_
          refine zan ?_
          refine za1 ?_
          refine c_seq ?_
          refine zah ?_
          refine c_seq ?_
          refine za0 ?_
          refine o_q rfl rfl (za2 rfl) ?_
          refine o_fact (p := Sh A0_1 l0_1.length l0_1.length) (fun w h => f_sh (dk := kStep) h (fun w h => R0_1.now Z h)) (fun hq42 => ?_)
          refine o_q rfl rfl (q_ix Try.underlying24 Z89 rfl rfl hq42 hr12.get) ?_
          refine o_q rfl rfl (q_ldE G89 Z89 rfl rfl (fun w h => R0_1.now Z h) hr12.get (fun _ _ h => h) rfl) ?_
          refine o_e rfl (e_alloc V89 rfl) (fun g43 => ?_)
          refine o_q rfl rfl (q_asg rfl) ?_
          refine o_e rfl (e_storeA (i := 0) rfl rfl rfl Z89 rfl rfl) (fun _ => ?_)
          refine o_end ?_
          refine za1 ?_
          refine c_seq ?_
          refine za0 ?_
          refine o_q rfl rfl (q_f F89_0 rfl) ?_
          refine o_q rfl rfl (q_ldb Y3 rfl (fun w h => h.zai (i := 0) rfl) rfl) ?_
          refine o_q rfl rfl (q_f F89_1 rfl) ?_
          refine o_q rfl rfl (q_ldb Y3 rfl (fun w h => h.zai (i := 0) rfl) rfl) ?_
          refine za8 h (fun b46 hx45 h => ?_) rfl
          refine o_e rfl (zaa 0 Z Try.func94 N94 rfl rfl rfl (fun w P1 hF hB hS hT => spec_l1In.calls y9.f0 0 y9.f1 hB hF _ hx45)) (fun _ => ?_)
          refine o_q rfl rfl (q_not rfl) ?_
          refine o_q rfl rfl (za2 rfl) ?_
          refine byB b46 (fun hb47 => ?_) (fun hb47 => ?_)
          · replace h := bb_t hb47 h
            refine o_w (za4 rfl rfl rfl (congrArg (fun b => Value.bool (!(b))) hb47)) rfl (q_f F89_1 rfl) ?_
            refine o_w (za4 rfl rfl rfl (congrArg (fun b => Value.bool (!(b))) hb47)) rfl (q_ldb Y3 rfl (fun w h => h.zai (i := 0) rfl) rfl) ?_
            refine o_w (za4 rfl rfl rfl (congrArg (fun b => Value.bool (!(b))) hb47)) rfl (q_f F27_0 rfl) ?_
            refine o_w (za4 rfl rfl rfl (congrArg (fun b => Value.bool (!(b))) hb47)) rfl (q_ldb Y3 rfl (fun w h => h.zai (i := 1) rfl) rfl) ?_
            refine o_w (za4 rfl rfl rfl (congrArg (fun b => Value.bool (!(b))) hb47)) rfl (za2 rfl) ?_
            refine o_w (za4 rfl rfl rfl (congrArg (fun b => Value.bool (!(b))) hb47)) rfl (q_add64 rfl rfl) ?_
            refine o_w (za4 rfl rfl rfl (congrArg (fun b => Value.bool (!(b))) hb47)) rfl (q_geq rfl rfl) ?_
            refine o_q rfl rfl (q_pick false (congrArg (fun b => Value.bool (!(b))) hb47) rfl) ?_
            refine o_end ?_
            refine za1 ?_
            refine zas _ rfl (fun hb48 => ?_) (fun hb48 => ?_)
            · skip
              replace h := br_t hb48 h
              refine c_seq ?_
              refine za0 ?_
              refine o_q rfl rfl (q_asg rfl) ?_
              refine o_end ?_
              refine za1 ?_
              refine c_ret ?_
              refine zaf ?_
              refine za5 ?_
              refine za5 ?_
              have e_ := Option.some.inj h; replace h := hR14; rw [← e_] at h; clear e_
              refine zaf ?_
              refine za5 ?_
              have e0_ := Option.some.inj h; clear h
              subst e0_
              exact x_r1 () Try.results93 (zab rfl) rfl (fun w h => za7 [] (by decide) rfl w h)
            · skip
              replace h := br_f hb48 h
              refine zan ?_
              refine zao ?_
              refine za1 ?_
              refine za0 ?_
              refine o_q rfl rfl (q_up rfl rfl (hr12.up hm13)) ?_
              refine o_q rfl rfl (za2 rfl) ?_
              refine o_end ?_
              refine zam ys10.length (ys10, i8 + 1) (by rw [← hk18]; exact Nat.lt_succ_self _) ⟨hr12.step, rfl, h⟩ ⟨rfl, trivial⟩ (fun w h => za7 [1] (by decide) rfl w h) ?_
              repeat (first | exact zac _ _ | refine zak rfl ?_ | refine zad rfl ?_ | refine zal rfl ?_)
          · replace h := bb_f hb47 h
            refine @o_n _ _ _ _ _ _ _ _ _ _ _ 38 (za3 rfl rfl rfl (congrArg (fun b => Value.bool (!(b))) hb47) rfl) (Eq.refl (some 38)) ?_
            refine @o_n _ _ _ _ _ _ _ _ _ _ _ 39 (za3 rfl rfl rfl (congrArg (fun b => Value.bool (!(b))) hb47) rfl) (Eq.refl (some 39)) ?_
            refine @o_n _ _ _ _ _ _ _ _ _ _ _ 40 (za3 rfl rfl rfl (congrArg (fun b => Value.bool (!(b))) hb47) rfl) (Eq.refl (some 40)) ?_
            refine @o_n _ _ _ _ _ _ _ _ _ _ _ 41 (za3 rfl rfl rfl (congrArg (fun b => Value.bool (!(b))) hb47) rfl) (Eq.refl (some 41)) ?_
            refine @o_n _ _ _ _ _ _ _ _ _ _ _ 42 (za3 rfl rfl rfl (congrArg (fun b => Value.bool (!(b))) hb47) rfl) (Eq.refl (some 42)) ?_
            refine @o_n _ _ _ _ _ _ _ _ _ _ _ 43 (za3 rfl rfl rfl (congrArg (fun b => Value.bool (!(b))) hb47) rfl) (Eq.refl (some 43)) ?_
            refine @o_n _ _ _ _ _ _ _ _ _ _ _ 44 (za3 rfl rfl rfl (congrArg (fun b => Value.bool (!(b))) hb47) rfl) (Eq.refl (some 44)) ?_
            refine o_q rfl rfl (q_pick true (congrArg (fun b => Value.bool (!(b))) hb47) rfl) ?_
            refine o_end ?_
            refine za1 ?_
            refine c_true rfl ?_
            refine c_seq ?_
            refine za0 ?_
            refine o_q rfl rfl (q_asg rfl) ?_
            refine o_end ?_
            refine za1 ?_
            refine c_ret ?_
            refine zaf ?_
            refine za5 ?_
            refine za5 ?_
            have e_ := Option.some.inj h; replace h := hR14; rw [← e_] at h; clear e_
            refine zaf ?_
            refine za5 ?_
            have e0_ := Option.some.inj h; clear h
            subst e0_
            exact x_r1 () Try.results93 (zab rfl) rfl (fun w h => za7 [] (by decide) rfl w h)
  · replace h := bb_f hb5 h
    refine @o_n _ _ _ _ _ _ _ _ _ _ _ 12 (za3 rfl rfl rfl (congrArg (fun b => Value.bool (!(b))) hb5) rfl) (Eq.refl (some 12)) ?_
    refine @o_n _ _ _ _ _ _ _ _ _ _ _ 13 (za3 rfl rfl rfl (congrArg (fun b => Value.bool (!(b))) hb5) rfl) (Eq.refl (some 13)) ?_
    refine @o_n _ _ _ _ _ _ _ _ _ _ _ 14 (za3 rfl rfl rfl (congrArg (fun b => Value.bool (!(b))) hb5) rfl) (Eq.refl (some 14)) ?_
    refine @o_n _ _ _ _ _ _ _ _ _ _ _ 15 (za3 rfl rfl rfl (congrArg (fun b => Value.bool (!(b))) hb5) rfl) (Eq.refl (some 15)) ?_
    refine o_q rfl rfl (q_pick true (congrArg (fun b => Value.bool (!(b))) hb5) rfl) ?_
    refine o_q rfl rfl (za2 rfl) ?_
    refine @o_n _ _ _ _ _ _ _ _ _ _ _ 18 (za3 rfl rfl rfl rfl rfl) (Eq.refl (some 18)) ?_
    refine @o_n _ _ _ _ _ _ _ _ _ _ _ 19 (za3 rfl rfl rfl rfl rfl) (Eq.refl (some 19)) ?_
    refine @o_n _ _ _ _ _ _ _ _ _ _ _ 20 (za3 rfl rfl rfl rfl rfl) (Eq.refl (some 20)) ?_
    refine @o_n _ _ _ _ _ _ _ _ _ _ _ 21 (za3 rfl rfl rfl rfl rfl) (Eq.refl (some 21)) ?_
    refine o_q rfl rfl (q_pick true rfl rfl) ?_
    refine o_end ?_
    refine za1 ?_
    refine c_true rfl ?_
    refine c_seq ?_
    refine za0 ?_
    refine o_q rfl rfl (q_asg rfl) ?_
    refine o_end ?_
    refine za1 ?_
    refine c_ret ?_
    refine za5 ?_
    have e0_ := Option.some.inj h; clear h
    subst e0_
    exact x_r1 () Try.results93 (zab rfl) rfl (fun w h => za7 [] (by decide) rfl w h)

/-! ### loop.example/g01098/spec.l1OwnS: function 131 -/
def spec_l1OwnS.f (l0 : List ByteArray) : Option (List ByteArray) := (ap ([] : List ByteArray) l0).bind fun l4 => some l4
set_option maxHeartbeats 600000 in
set_option maxRecDepth 100000 in
theorem spec_l1OwnS.calls {w0 ws : World} {P0 : Nat → Prop} (A0 : Option Addr) (c0 : Nat) (n0 : Nat) (l0 : List ByteArray) (Z : Below w0.heap.size w0 ws) (hF : Fr w0 ws P0 [] ws) (R0 : Stable ws P0 (fun w => Kd.C Kd.string w A0 n0 l0)) (hc0 : n0 ≤ c0) (r_1 : List ByteArray) (h : spec_l1OwnS.f l0 = some r_1) :
    Calls Try.prog 131 #[.slice A0 n0 c0] ws (Post1 w0 ws P0 (fun ((q_2, q_3) : (Option Addr) × Nat) => .slice q_2 r_1.length q_3) (fun ((q_2, q_3) : (Option Addr) × Nat) => [row Kd.string 9 (.slice q_2 r_1.length q_3) r_1])) := by
  unfold spec_l1OwnS.f at h
  obtain rfl := (R0 ws (KeptB.refl _ _)).1
  refine enter Try.func131 rfl Try.ntmps131 rfl hF ?_
  refine c_seq ?_
  refine za0 ?_
  refine o_q rfl rfl (q_asg rfl) ?_
  refine o_end ?_
  refine za1 ?_
  refine c_seq ?_
  refine za0 ?_
  refine o_e rfl (e_lit0 Kd.string Try.underlying53 I9) (cur2 (fun A1 c2 => ?_))
  refine o_q rfl rfl (za2 rfl) ?_
  refine za8 h (fun l4 ha5 h => ?_) rfl
  refine o_e rfl (e_appr (i := 0) Try.underlying53 I9 rfl (by decide) (by decide) (fun _ _ _ _ h => h) rfl (fun w h => R0.now Z h) rfl rfl ha5) (cur2 (fun A6 c7 => ?_))
  refine o_q rfl rfl (q_asg rfl) ?_
  refine o_end ?_
  refine za1 ?_
  refine c_ret ?_
  have e0_ := Option.some.inj h; clear h
  subst e0_
  exact x_r1 (A6, c7) Try.results131 (zab rfl) rfl (fun w h => za7 [0] (by decide) rfl w h)

/-! ### loop.example/g01098/spec.RunWords: function 46 -/
def spec_RunWords.l2 : (List ByteArray) → Int → Option (((List ByteArray) × Bool) ⊕ (Unit))
  | [], i40 => some (.inr ())
  | y41 :: ys42, i40 => if 2000 < (y41.size : Int) then (some (.inl (([] : List ByteArray), false))) else (spec_RunWords.l2 ys42 (i40 + 1))
def spec_RunWords.l1 (l11 : List ByteArray) : (List Int) → (List ByteArray) → Int → Option (List ByteArray)
  | [], l26, i29 => some l26
  | y30 :: ys31, l26, i29 => (gt l11 y30).bind fun y56 => (ap l26 ([y56] : List ByteArray)).bind fun l60 => spec_RunWords.l1 l11 ys31 l60 (i29 + 1)
def spec_RunWords.l0 : (List SStep) → (List ByteArray) → Int → Option (((List ByteArray) × Bool) ⊕ ((List ByteArray)))
  | [], l11, i14 => some (.inr l11)
  | y15 :: ys16, l11, i14 => (gt l11 y15.f0).bind fun y69 => (gt l11 y15.f1).bind fun y71 => if 2000 < w64 ((y69.size : Int) + (y71.size : Int)) then (some (.inl (([] : List ByteArray), false))) else ((gt l11 y15.f0).bind fun y315 => (gt l11 y15.f1).bind fun y615 => (sap y315 y615).bind fun s735 => (ap l11 ([s735] : List ByteArray)).bind fun l854 => spec_RunWords.l0 ys16 l854 (i14 + 1))
def spec_RunWords.f (k : Nat) (a0_0 : Int) (l0_1 : List SStep) (l0_2 : List Int) (l1 : List ByteArray) : Option ((List ByteArray) × Bool) := (spec_plGood.f k a0_0 l0_1 l0_2).bind fun b4 => if b4 = true then (if (l1.length : Int) ≠ a0_0 then (some (([] : List ByteArray), false)) else ((spec_l1OwnS.f l1).bind fun l8 => (spec_RunWords.l0 l0_1 l8 0).bind fun o_ => match o_ with | .inl r_ => some r_ | .inr l11 => (spec_RunWords.l1 l11 l0_2 ([] : List ByteArray) 0).bind fun l26 => (spec_RunWords.l2 l1 0).bind fun o_ => match o_ with | .inl r_ => some r_ | .inr _ => some (l26, true))) else (some (([] : List ByteArray), false))
set_option maxHeartbeats 600000 in
set_option maxRecDepth 100000 in
theorem spec_RunWords.calls (k : Nat) {w0 ws : World} {P0 : Nat → Prop} (a0_0 : Int) (A0_1 : Option Addr) (c0_1 : Nat) (n0_1 : Nat) (l0_1 : List SStep) (A0_2 : Option Addr) (c0_2 : Nat) (n0_2 : Nat) (l0_2 : List Int) (A1 : Option Addr) (c1 : Nat) (n1 : Nat) (l1 : List ByteArray) (Z : Below w0.heap.size w0 ws) (hF : Fr w0 ws P0 [] ws) (R0_1 : Stable ws P0 (fun w => Kd.C kStep w A0_1 n0_1 l0_1)) (hc0_1 : n0_1 ≤ c0_1) (R0_2 : Stable ws P0 (fun w => Kd.C (Kd.int .i64) w A0_2 n0_2 l0_2)) (hc0_2 : n0_2 ≤ c0_2) (R1 : Stable ws P0 (fun w => Kd.C Kd.string w A1 n1 l1)) (hc1 : n1 ≤ c1) (r_1 : List ByteArray) (r_4 : Bool) (h : spec_RunWords.f k a0_0 l0_1 l0_2 l1 = some (r_1, r_4)) :
    Calls Try.prog 46 #[.agg #[.int .i64 a0_0, .slice A0_1 n0_1 c0_1, .slice A0_2 n0_2 c0_2], .slice A1 n1 c1] ws (Post1 w0 ws P0 (fun ((q_2, q_3) : (Option Addr) × Nat) => .tuple #[.slice q_2 r_1.length q_3, .bool r_4]) (fun ((q_2, q_3) : (Option Addr) × Nat) => [row Kd.string 9 (.slice q_2 r_1.length q_3) r_1])) := by
  unfold spec_RunWords.f at h
  obtain rfl := (R0_1 ws (KeptB.refl _ _)).1
  obtain rfl := (R0_2 ws (KeptB.refl _ _)).1
  obtain rfl := (R1 ws (KeptB.refl _ _)).1
  refine enter Try.func46 rfl Try.ntmps46 rfl hF ?_
  refine c_seq ?_
  refine za0 ?_
  refine o_e rfl (e_box rfl) (fun g1 => ?_)
  refine o_q rfl rfl (q_asg rfl) ?_
  refine o_q rfl rfl (q_asg rfl) ?_
  refine o_end ?_
  refine za1 ?_
  refine c_seq ?_
  refine c_seq ?_
  refine za0 ?_
  refine o_q rfl rfl (q_ldB G27 Z27 rfl (fun w h => h.zai (i := 0) rfl) rfl) ?_
  refine za8 h (fun b4 hx3 h => ?_) rfl
  refine o_e rfl (zaa 0 Z Try.func93 N93 rfl rfl rfl (fun w P1 hF hB hS hT => spec_plGood.calls k a0_0 A0_1 c0_1 l0_1.length l0_1 A0_2 c0_2 l0_2.length l0_2 hB hF (hS _ R0_1) hc0_1 (hS _ R0_2) hc0_2 _ hx3)) (fun _ => ?_)
  refine o_q rfl rfl (q_not rfl) ?_
  refine o_q rfl rfl (za2 rfl) ?_
  refine byB b4 (fun hb5 => ?_) (fun hb5 => ?_)
  · replace h := bb_t hb5 h
    refine o_w (za4 rfl rfl rfl (congrArg (fun b => Value.bool (!(b))) hb5)) rfl (za2 rfl) ?_
    refine o_w (za4 rfl rfl rfl (congrArg (fun b => Value.bool (!(b))) hb5)) rfl (q_len Try.underlying53 rfl) ?_
    refine o_w (za4 rfl rfl rfl (congrArg (fun b => Value.bool (!(b))) hb5)) rfl (q_f F27_0 rfl) ?_
    refine o_w (za4 rfl rfl rfl (congrArg (fun b => Value.bool (!(b))) hb5)) rfl (q_ldb Y3 rfl (fun w h => h.zai (i := 0) rfl) rfl) ?_
    refine o_w (za4 rfl rfl rfl (congrArg (fun b => Value.bool (!(b))) hb5)) rfl (q_neq rfl rfl) ?_
    refine o_q rfl rfl (q_pick false (congrArg (fun b => Value.bool (!(b))) hb5) rfl) ?_
    refine o_end ?_
    refine za1 ?_
    refine zas _ rfl (fun hb6 => ?_) (fun hb6 => ?_)
    · skip
      replace h := br_t hb6 h
      refine c_seq ?_
      refine za0 ?_
      refine o_q rfl rfl (q_asg rfl) ?_
      refine o_q rfl rfl (q_asg rfl) ?_
      refine o_end ?_
      refine za1 ?_
      refine c_ret ?_
      refine za5 ?_
      refine x_nil Kd.string 9 ?_
      have e0_ := Option.some.inj h; clear h
      have d0_ := (Prod.mk.inj e0_).1; have e1_ := (Prod.mk.inj e0_).2; clear e0_; subst d0_
      subst e1_
      exact x_r2 (none, 0) Try.results46 (zab rfl) (zab rfl) rfl (fun w h => za7 [0] (by decide) rfl w h)
    · skip
      replace h := br_f hb6 h
      refine zan ?_
      refine za1 ?_
      refine c_seq ?_
      refine za0 ?_
      refine o_q rfl rfl (za2 rfl) ?_
      refine za8 h (fun l8 hx7 h => ?_) rfl
      refine o_e rfl (zaa 0 Z Try.func131 N131 rfl rfl rfl (fun w P1 hF hB hS hT => spec_l1OwnS.calls A1 c1 l1.length l1 hB hF (hS _ R1) hc1 _ hx7)) (cur2 (fun A9 c10 => ?_))
      refine o_q rfl rfl (q_asg rfl) ?_
      refine o_end ?_
      refine za1 ?_
      refine c_seq ?_
      refine c_seq ?_
      refine za0 ?_
      refine o_q rfl rfl (q_f F27_1 rfl) ?_
      refine o_q rfl rfl (q_ldb Y24 rfl (fun w h => h.zai (i := 1) rfl) rfl) ?_
      refine o_q rfl rfl (q_len Try.underlying24 rfl) ?_
      refine o_q rfl rfl (za2 rfl) ?_
      refine o_end ?_
      refine za1 ?_
      refine zah ?_
      refine za8 h (fun o22 hl21 hR20 => ?_) rfl
      clear h
      refine c_fact (p := l0_1.length ≤ 9223372036854775807) (fun w h => (R0_1.now Z h).2.1) (fun hm19 => ?_)
      refine zat (σ := (List SStep) × (List ByteArray) × Int × (Option Addr) × Nat) (fun k17 ((ys16, l11, i14, A12, c13) : (List SStep) × (List ByteArray) × Int × (Option Addr) × Nat) => Rg l0_1 i14 ys16 ∧ ys16.length = k17 ∧ spec_RunWords.l0 ys16 l11 i14 = some o22) [4, 5, 6, 8, 29, 30, 31, 32, 33, 34, 35, 36, 37, 38, 39, 40, 41, 42, 43, 44, 45, 46, 47, 48, 49, 50, 51, 52, 53, 54, 55, 56, 57, 58, 59, 60, 61] (fun ((ys16, l11, i14, A12, c13) : (List SStep) × (List ByteArray) × Int × (Option Addr) × Nat) => [(6, .slice A12 l11.length c13), (29, .int .i64 i14)]) (fun ((ys16, l11, i14, A12, c13) : (List SStep) × (List ByteArray) × Int × (Option Addr) × Nat) => [row Kd.string 9 (.slice A12 l11.length c13) l11, box g1 27 #[.int .i64 a0_0, .slice A0_1 l0_1.length c0_1, .slice A0_2 l0_2.length c0_2]]) l0_1.length (l0_1, l8, 0, A9, c10) ⟨Rg.start _, rfl, hl21⟩ ⟨rfl, rfl, trivial⟩ (fun w h => h) ?_
      refine fun k17 => cur5 (listC (fun l11 i14 A12 c13 U23 hJ_ => ?_) (fun y15 ys16 l11 i14 A12 c13 U23 hJ_ => ?_))
      · skip
        clear hl21
        have hr18 := hJ_.1; have hk24 := hJ_.2.1; have h := hJ_.2.2; clear hJ_
        replace h : spec_RunWords.l0 [] l11 i14 = some o22 := h
        rw [spec_RunWords.l0] at h
        refine c_seq ?_
        refine za0 ?_
        refine o_q rfl rfl (q_lss rfl rfl) ?_
        refine o_end ?_
        refine za1 ?_
        refine c_seq ?_
        refine c_false (congrArg Value.bool hr18.ge) ?_
        refine c_exit ?_
        refine za6 ?_
        refine za6 ?_
        have e_ := Option.some.inj h; replace h := hR20; rw [← e_] at h; clear e_
        refine x_hit ?_
        refine za1 ?_
        refine c_seq ?_
        refine za0 ?_
        refine o_q rfl rfl (q_asg rfl) ?_
        refine o_end ?_
        refine za1 ?_
        refine c_seq ?_
        refine c_seq ?_
        refine za0 ?_
        refine o_q rfl rfl (q_f F27_2 rfl) ?_
        refine o_q rfl rfl (q_ldb Y25 rfl (fun w h => h.zai (i := 1) rfl) rfl) ?_
        refine o_q rfl rfl (q_len Try.underlying25 rfl) ?_
        refine o_q rfl rfl (za2 rfl) ?_
        refine o_end ?_
        refine za1 ?_
        refine zah ?_
        refine c_nil Kd.string 9 ?_
        refine za8 h (fun o37 hl36 hR35 => ?_) rfl
        clear h
        refine c_fact (p := l0_2.length ≤ 9223372036854775807) (fun w h => (R0_2.now Z h).2.1) (fun hm34 => ?_)
        refine zat (σ := (List Int) × (List ByteArray) × Int × (Option Addr) × Nat) (fun k32 ((ys31, l26, i29, A27, c28) : (List Int) × (List ByteArray) × Int × (Option Addr) × Nat) => Rg l0_2 i29 ys31 ∧ ys31.length = k32 ∧ spec_RunWords.l1 l11 ys31 l26 i29 = some o37) [9, 11, 65, 66, 67, 68, 69, 70, 71, 72, 73, 74, 75, 76] (fun ((ys31, l26, i29, A27, c28) : (List Int) × (List ByteArray) × Int × (Option Addr) × Nat) => [(9, .slice A27 l26.length c28), (65, .int .i64 i29)]) (fun ((ys31, l26, i29, A27, c28) : (List Int) × (List ByteArray) × Int × (Option Addr) × Nat) => [row Kd.string 9 (.slice A27 l26.length c28) l26, row Kd.string 9 (.slice A12 l11.length c13) l11, box g1 27 #[.int .i64 a0_0, .slice A0_1 l0_1.length c0_1, .slice A0_2 l0_2.length c0_2]]) l0_2.length (l0_2, ([] : List ByteArray), 0, none, 0) ⟨Rg.start _, rfl, hl36⟩ ⟨rfl, rfl, trivial⟩ (fun w h => h) ?_
        refine fun k32 => cur5 (listC (fun l26 i29 A27 c28 U38 hJ_ => ?_) (fun y30 ys31 l26 i29 A27 c28 U38 hJ_ => ?_))
        · skip
          clear hl36
          have hr33 := hJ_.1; have hk39 := hJ_.2.1; have h := hJ_.2.2; clear hJ_
          replace h : spec_RunWords.l1 l11 [] l26 i29 = some o37 := h
          rw [spec_RunWords.l1] at h
          refine c_seq ?_
          refine za0 ?_
          refine o_q rfl rfl (q_lss rfl rfl) ?_
          refine o_end ?_
          refine za1 ?_
          refine c_seq ?_
          refine c_false (congrArg Value.bool hr33.ge) ?_
          refine c_exit ?_
          refine za6 ?_
          refine za6 ?_
          have e_ := Option.some.inj h; replace h := hR35; rw [← e_] at h; clear e_
          refine x_hit ?_
          refine za1 ?_
          refine c_seq ?_
          refine c_seq ?_
          refine za0 ?_
          refine o_q rfl rfl (za2 rfl) ?_
          refine o_q rfl rfl (q_len Try.underlying53 rfl) ?_
          refine o_q rfl rfl (za2 rfl) ?_
          refine o_end ?_
          refine za1 ?_
          refine zah ?_
          refine za8 h (fun o48 hl47 hR46 => ?_) rfl
          clear h
          refine c_fact (p := l1.length ≤ 9223372036854775807) (fun w h => (R1.now Z h).2.1) (fun hm45 => ?_)
          refine zat (σ := (List ByteArray) × Int) (fun k43 ((ys42, i40) : (List ByteArray) × Int) => Rg l1 i40 ys42 ∧ ys42.length = k43 ∧ spec_RunWords.l2 ys42 i40 = some o48) [4, 5, 13, 79, 80, 81, 82, 83, 84, 85, 86] (fun ((ys42, i40) : (List ByteArray) × Int) => [(79, .int .i64 i40)]) (fun ((ys42, i40) : (List ByteArray) × Int) => [row Kd.string 9 (.slice A27 l26.length c28) l26, row Kd.string 9 (.slice A12 l11.length c13) l11, box g1 27 #[.int .i64 a0_0, .slice A0_1 l0_1.length c0_1, .slice A0_2 l0_2.length c0_2]]) l1.length (l1, 0) ⟨Rg.start _, rfl, hl47⟩ ⟨rfl, trivial⟩ (fun w h => h) ?_
          refine fun k43 => cur2 (listC (fun i40 U49 hJ_ => ?_) (fun y41 ys42 i40 U49 hJ_ => ?_))
          · skip
            clear hl47
            have hr44 := hJ_.1; have hk50 := hJ_.2.1; have h := hJ_.2.2; clear hJ_
            replace h : spec_RunWords.l2 [] i40 = some o48 := h
            rw [spec_RunWords.l2] at h
            refine c_seq ?_
            refine za0 ?_
            refine o_q rfl rfl (q_lss rfl rfl) ?_
            refine o_end ?_
            refine za1 ?_
            refine c_seq ?_
            refine c_false (congrArg Value.bool hr44.ge) ?_
            refine c_exit ?_
            refine za6 ?_
            refine za6 ?_
            have e_ := Option.some.inj h; replace h := hR46; rw [← e_] at h; clear e_
            refine x_hit ?_
            refine za1 ?_
            refine c_seq ?_
            refine za0 ?_
            refine o_q rfl rfl (za2 rfl) ?_
            refine o_q rfl rfl (q_asg rfl) ?_
            refine o_q rfl rfl (q_asg rfl) ?_
            refine o_end ?_
            refine za1 ?_
            refine c_ret ?_
            have e0_ := Option.some.inj h; clear h
            have d0_ := (Prod.mk.inj e0_).1; have e1_ := (Prod.mk.inj e0_).2; clear e0_; subst d0_
            subst e1_
            exact x_r2 (A27, c28) Try.results46 (zab rfl) (zab rfl) rfl (fun w h => za7 [0] (by decide) rfl w h)
          · skip
            clear hl47
            have hr44 := hJ_.1; have hk50 := hJ_.2.1; have h := hJ_.2.2; clear hJ_
            replace h : spec_RunWords.l2 (y41 :: ys42) i40 = some o48 := h
            rw [spec_RunWords.l2] at h
            refine c_seq ?_
            refine za0 ?_
            refine o_q rfl rfl (q_lss rfl rfl) ?_
            refine o_end ?_
            refine za1 ?_
            refine c_seq ?_
            refine c_true (congrArg Value.bool hr44.lt) ?_
            refine zan ?_
            refine za1 ?_
            refine c_seq ?_
            refine zah ?_
            refine c_seq ?_
            refine za0 ?_
            refine o_fact (p := Sh A1 l1.length l1.length) (fun w h => f_sh (dk := Kd.string) h (fun w h => R1.now Z h)) (fun hq51 => ?_)
            refine o_q rfl rfl (q_ix Try.underlying53 Z9 rfl rfl hq51 hr44.get) ?_
            refine o_q rfl rfl (q_lde (off := 0) Y9 rfl rfl (fun w h => R1.now Z h) hr44.get (fun _ _ h => h) rfl) ?_
            refine o_q rfl rfl (q_asg rfl) ?_
            refine o_end ?_
            refine za1 ?_
            refine c_seq ?_
            refine za0 ?_
            refine o_q rfl rfl (za2 rfl) ?_
            refine o_q rfl rfl (q_lens Try.underlying9 rfl) ?_
            refine o_q rfl rfl (q_gtr rfl rfl) ?_
            refine o_end ?_
            refine za1 ?_
            refine zas _ rfl (fun hb52 => ?_) (fun hb52 => ?_)
            · skip
              replace h := br_t hb52 h
              refine c_seq ?_
              refine za0 ?_
              refine o_q rfl rfl (q_asg rfl) ?_
              refine o_q rfl rfl (q_asg rfl) ?_
              refine o_end ?_
              refine za1 ?_
              refine c_ret ?_
              refine zaf ?_
              refine za5 ?_
              refine za5 ?_
              have e_ := Option.some.inj h; replace h := hR46; rw [← e_] at h; clear e_
              refine zaf ?_
              refine za5 ?_
              refine x_nil Kd.string 9 ?_
              have e0_ := Option.some.inj h; clear h
              have d0_ := (Prod.mk.inj e0_).1; have e1_ := (Prod.mk.inj e0_).2; clear e0_; subst d0_
              subst e1_
              exact x_r2 (none, 0) Try.results46 (zab rfl) (zab rfl) rfl (fun w h => za7 [0] (by decide) rfl w h)
            · skip
              replace h := br_f hb52 h
              refine zan ?_
              refine zao ?_
              refine za1 ?_
              refine za0 ?_
              refine o_q rfl rfl (q_up rfl rfl (hr44.up hm45)) ?_
              refine o_q rfl rfl (za2 rfl) ?_
              refine o_end ?_
              refine zam ys42.length (ys42, i40 + 1) (by rw [← hk50]; exact Nat.lt_succ_self _) ⟨hr44.step, rfl, h⟩ ⟨rfl, trivial⟩ (fun w h => za7 [0, 1, 2] (by decide) rfl w h) ?_
              repeat (first | exact zac _ _ | refine zak rfl ?_ | refine zad rfl ?_ | refine zal rfl ?_)
        · skip
          clear hl36
          have hr33 := hJ_.1; have hk39 := hJ_.2.1; have h := hJ_.2.2; clear hJ_
          replace h : spec_RunWords.l1 l11 (y30 :: ys31) l26 i29 = some o37 := h
          rw [spec_RunWords.l1] at h
          refine c_seq ?_
          refine za0 ?_
          refine o_q rfl rfl (q_lss rfl rfl) ?_
          refine o_end ?_
          refine za1 ?_
          refine c_seq ?_
          refine c_true (congrArg Value.bool hr33.lt) ?_
          refine zan ?_
          refine za1 ?_
          refine c_seq ?_
          refine zah ?_
          refine c_seq ?_
          refine za0 ?_
          refine o_fact (p := Sh A0_2 l0_2.length l0_2.length) (fun w h => f_sh (dk := (Kd.int .i64)) h (fun w h => R0_2.now Z h)) (fun hq53 => ?_)
          refine o_q rfl rfl (q_ix Try.underlying25 Z3 rfl rfl hq53 hr33.get) ?_
          refine o_q rfl rfl (q_lde (off := 0) Y3 rfl rfl (fun w h => R0_2.now Z h) hr33.get (fun _ _ h => h) rfl) ?_
          refine o_q rfl rfl (q_asg rfl) ?_
          refine o_end ?_
          refine za1 ?_
          refine za0 ?_
          refine o_q rfl rfl (za2 rfl) ?_
          refine o_q rfl rfl (za2 rfl) ?_
          refine o_q rfl rfl (za2 rfl) ?_
          refine o_fact (p := Sh A12 l11.length l11.length) (fun w h => f_sh (dk := Kd.string) h (fun w h => h.zaq (i := 1) rfl)) (fun hq54 => ?_)
          refine za8 h (fun y56 hg55 h => ?_) rfl
          refine o_q rfl rfl (q_ix Try.underlying53 Z9 rfl rfl hq54 hg55) ?_
          refine o_q rfl rfl (q_lde (off := 0) Y9 rfl rfl (fun w h => h.zaq (i := 1) rfl) hg55 (fun _ _ h => h) rfl) ?_
          refine o_e rfl (e_lit (vs := [(0, .string y56)]) (cs := [.string y56]) Kd.string ([y56] : List ByteArray) Try.underlying53 I9 (by decide) rfl (by decide) rfl rfl (fun _ _ => Kd.zaj _)) (cur2 (fun A57 c58 => ?_))
          refine za8 h (fun l60 ha61 h => ?_) rfl
          refine o_e rfl (e_app (i := 1) (j := 0) Try.underlying53 I9 rfl (by decide) (by decide) rfl rfl rfl rfl rfl ha61) (cur2 (fun A62 c63 => ?_))
          refine o_q rfl rfl (q_asg rfl) ?_
          refine o_end ?_
          refine zao ?_
          refine za1 ?_
          refine za0 ?_
          refine o_q rfl rfl (q_up rfl rfl (hr33.up hm34)) ?_
          refine o_q rfl rfl (za2 rfl) ?_
          refine o_end ?_
          refine zam ys31.length (ys31, l60, i29 + 1, A62, c63) (by rw [← hk39]; exact Nat.lt_succ_self _) ⟨hr33.step, rfl, h⟩ ⟨rfl, rfl, trivial⟩ (fun w h => za7 [1, 2, 3] (by decide) rfl w h) ?_
          repeat (first | exact zac _ _ | refine zak rfl ?_ | refine zad rfl ?_ | refine zal rfl ?_)
      · skip
        clear hl21
        have hr18 := hJ_.1; have hk24 := hJ_.2.1; have h := hJ_.2.2; clear hJ_
        replace h : spec_RunWords.l0 (y15 :: ys16) l11 i14 = some o22 := h
        rw [spec_RunWords.l0] at h
        refine c_seq ?_
        refine za0 ?_
        refine o_q rfl rfl (q_lss rfl rfl) ?_
        refine o_end ?_
        refine za1 ?_
        refine c_seq ?_
        refine c_true (congrArg Value.bool hr18.lt) ?_
        refine zan ?_
        refine za1 ?_
        refine c_seq ?_
        refine zah ?_
        refine c_seq ?_
        refine za0 ?_
        refine o_fact (p := Sh A0_1 l0_1.length l0_1.length) (fun w h => f_sh (dk := kStep) h (fun w h => R0_1.now Z h)) (fun hq64 => ?_)
        refine o_q rfl rfl (q_ix Try.underlying24 Z89 rfl rfl hq64 hr18.get) ?_
        refine o_q rfl rfl (q_ldE G89 Z89 rfl rfl (fun w h => R0_1.now Z h) hr18.get (fun _ _ h => h) rfl) ?_
        refine o_e rfl (e_alloc V89 rfl) (fun g65 => ?_)
        refine o_e rfl (e_storeA (i := 0) rfl rfl rfl Z89 rfl rfl) (fun _ => ?_)
        refine o_end ?_
        refine za1 ?_
        refine c_seq ?_
        refine c_seq ?_
        refine a_start (ds := []) MO rfl ?_
        refine za9 0 rfl rfl rfl (by kernel_rfl) (fun _ _ _ h => h) (za2 rfl) ?_
        refine za9 1 rfl rfl rfl (by kernel_rfl) (fun _ _ _ h => h) (q_f F89_0 rfl) ?_
        refine a_take 2 rfl rfl rfl (by kernel_rfl) (fun _ _ _ h => h) (fun w h => h) (q_ldb Y3 rfl (fun w h => h.zai (i := 0) rfl) rfl) ?_
        refine a_fact (p := Sh A12 l11.length l11.length) (fun w h => f_sh (dk := Kd.string) h (fun w h => h.zaq (i := 1) rfl)) (fun hq67 => ?_)
        refine za8 h (fun y69 hg68 h => ?_) rfl
        refine za9 3 rfl rfl rfl (by kernel_rfl) (fun _ _ _ h => h) (q_ix Try.underlying53 Z9 rfl rfl hq67 hg68) ?_
        refine a_take 4 rfl rfl rfl (by kernel_rfl) (fun _ _ _ h => h) (fun w h => h) (q_lde (off := 0) Y9 rfl rfl (fun w h => h.zaq (i := 1) rfl) hg68 (fun _ _ h => h) rfl) ?_
        refine za9 5 rfl rfl rfl (by kernel_rfl) (fun _ _ _ h => h) (q_lens Try.underlying9 rfl) ?_
        refine za9 6 rfl rfl rfl (by kernel_rfl) (fun _ _ _ h => h) (za2 rfl) ?_
        refine za9 7 rfl rfl rfl (by kernel_rfl) (fun _ _ _ h => h) (q_f F89_1 rfl) ?_
        refine a_take 8 rfl rfl rfl (by kernel_rfl) (fun _ _ _ h => h) (fun w h => h) (q_ldb Y3 rfl (fun w h => h.zai (i := 0) rfl) rfl) ?_
        refine za8 h (fun y71 hg70 h => ?_) rfl
        refine za9 9 rfl rfl rfl (by kernel_rfl) (fun _ _ _ h => h) (q_ix Try.underlying53 Z9 rfl rfl hq67 hg70) ?_
        refine a_take 10 rfl rfl rfl (by kernel_rfl) (fun _ _ _ h => h) (fun w h => h) (q_lde (off := 0) Y9 rfl rfl (fun w h => h.zaq (i := 1) rfl) hg70 (fun _ _ h => h) rfl) ?_
        refine za9 11 rfl rfl rfl (by kernel_rfl) (fun _ _ _ h => h) (q_lens Try.underlying9 rfl) ?_
        refine za9 12 rfl rfl rfl (by kernel_rfl) (fun _ _ _ h => h) (q_add64 rfl rfl) ?_
        refine za9 13 rfl rfl rfl (by kernel_rfl) (fun _ _ _ h => h) (q_gtr rfl rfl) ?_
        refine a_done (by kernel_rfl) ?_
        refine za1 ?_
        refine zas _ rfl (fun hb72 => ?_) (fun hb72 => ?_)
        · skip
          replace h := br_t hb72 h
          refine c_seq ?_
          refine za0 ?_
          refine o_q rfl rfl (q_asg rfl) ?_
          refine o_q rfl rfl (q_asg rfl) ?_
          refine o_end ?_
          refine za1 ?_
          refine c_ret ?_
          refine za5 ?_
          refine zaf ?_
          refine za5 ?_
          refine za5 ?_
          have e_ := Option.some.inj h; replace h := hR20; rw [← e_] at h; clear e_
          refine zaf ?_
          refine za5 ?_
          refine x_nil Kd.string 9 ?_
          have e0_ := Option.some.inj h; clear h
          have d0_ := (Prod.mk.inj e0_).1; have e1_ := (Prod.mk.inj e0_).2; clear e0_; subst d0_
          subst e1_
          exact x_r2 (none, 0) Try.results46 (zab rfl) (zab rfl) rfl (fun w h => za7 [0] (by decide) rfl w h)
        · skip
          replace h := br_f hb72 h
          refine zan ?_
          refine za1 ?_
          refine za8 h (fun y315 hg314 h => ?_) rfl
          refine za8 h (fun y615 hg614 h => ?_) rfl
          refine za8 h (fun s735 hs734 h => ?_) rfl
          refine za8 h (fun l854 ha855 h => ?_) rfl
          refine a_startS (ds := []) [some 0, none, some 2] MO rfl ?_
          refine za9 0 rfl rfl rfl (by kernel_rfl) (fun _ _ _ h => h) (za2 rfl) ?_
          refine za9 1 rfl rfl rfl (by kernel_rfl) (fun _ _ _ h => h) (za2 rfl) ?_
          refine za9 2 rfl rfl rfl (by kernel_rfl) (fun _ _ _ h => h) (q_f F89_0 rfl) ?_
          refine a_take 3 rfl rfl rfl (by kernel_rfl) (fun _ _ _ h => h) (fun w h => zae [some 0, none, some 2] (by decide) w h rfl) (q_ldb Y3 rfl (fun w h => h.zai (i := 0) rfl) rfl) ?_
          refine za9 4 rfl rfl rfl (by kernel_rfl) (fun _ _ _ h => h) (q_ix Try.underlying53 Z9 rfl rfl hq67 hg314) ?_
          refine za9 6 rfl rfl rfl (by kernel_rfl) (fun _ _ _ h => h) (za2 rfl) ?_
          refine za9 7 rfl rfl rfl (by kernel_rfl) (fun _ _ _ h => h) (q_f F89_1 rfl) ?_
          refine a_take 8 rfl rfl rfl (by kernel_rfl) (fun _ _ _ h => h) (fun w h => zae [some 0, none, some 2] (by decide) w h rfl) (q_ldb Y3 rfl (fun w h => h.zai (i := 0) rfl) rfl) ?_
          refine za9 9 rfl rfl rfl (by kernel_rfl) (fun _ _ _ h => h) (q_ix Try.underlying53 Z9 rfl rfl hq67 hg614) ?_
          refine a_two 5 10 rfl rfl rfl rfl (by kernel_rfl) rfl rfl (ev_q rfl (q_lde (off := 0) Y9 rfl rfl (fun w h => h.zaq (i := 1) rfl) hg314 (fun _ _ h => h) rfl)) (fun s w h => zae [some 0, none, some 2] (by decide) w h rfl) (ev_q rfl (q_lde (off := 0) Y9 rfl rfl (fun w h => h.zaq (i := 1) rfl) hg614 (fun _ _ h => h) rfl)) (fun s w h => zae [some 0, none, some 2] (by decide) w h rfl) (fun _ => ?_) (fun _ => ?_)
          · skip
            refine a_one 10 rfl rfl (by kernel_rfl) rfl (ev_q rfl (q_lde (off := 0) Y9 rfl rfl (fun w h => h.zaq (i := 1) rfl) hg614 (fun _ _ h => h) rfl)) (fun s w h => zae [some 0, none, some 2] (by decide) w h rfl) (fun _ => ?_)
            refine za9 11 rfl rfl rfl (by kernel_rfl) (fun _ _ _ h => h) (q_sap rfl rfl hs734) ?_
            refine a_one 12 rfl rfl (by kernel_rfl) rfl (e_lit (vs := [(0, .string s735)]) (cs := [.string s735]) Kd.string ([s735] : List ByteArray) Try.underlying53 I9 (by decide) rfl (by decide) rfl rfl (fun _ _ => Kd.zaj _)) (fun s w h => zae [some 1, none, some 3] (by decide) w h rfl) (cur2 (fun A794 c795 => ?_))
            refine a_one 13 rfl rfl (by kernel_rfl) rfl (e_app (i := 2) (j := 0) Try.underlying53 I9 rfl (by decide) (by decide) rfl rfl rfl rfl rfl ha855) (fun s w h => zae [some 1, none, some 3] (by decide) w h rfl) (cur2 (fun A856 c857 => ?_))
            refine za9 14 rfl rfl rfl (by kernel_rfl) (fun _ _ _ h => h) (q_asg rfl) ?_
            refine a_done (by kernel_rfl) ?_
            refine zao ?_
            refine za1 ?_
            refine za0 ?_
            refine o_q rfl rfl (q_up rfl rfl (hr18.up hm19)) ?_
            refine o_q rfl rfl (za2 rfl) ?_
            refine o_end ?_
            refine zam ys16.length (ys16, l854, i14 + 1, A856, c857) (by rw [← hk24]; exact Nat.lt_succ_self _) ⟨hr18.step, rfl, h⟩ ⟨rfl, rfl, trivial⟩ (fun w h => za7 [2, 3] (by decide) rfl w h) ?_
            repeat (first | exact zac _ _ | refine zak rfl ?_ | refine zad rfl ?_ | refine zal rfl ?_)
          · skip
            refine a_one 5 rfl rfl (by kernel_rfl) rfl (ev_q rfl (q_lde (off := 0) Y9 rfl rfl (fun w h => h.zaq (i := 1) rfl) hg314 (fun _ _ h => h) rfl)) (fun s w h => zae [some 0, none, some 2] (by decide) w h rfl) (fun _ => ?_)
            refine za9 11 rfl rfl rfl (by kernel_rfl) (fun _ _ _ h => h) (q_sap rfl rfl hs734) ?_
            refine a_one 12 rfl rfl (by kernel_rfl) rfl (e_lit (vs := [(0, .string s735)]) (cs := [.string s735]) Kd.string ([s735] : List ByteArray) Try.underlying53 I9 (by decide) rfl (by decide) rfl rfl (fun _ _ => Kd.zaj _)) (fun s w h => zae [some 1, none, some 3] (by decide) w h rfl) (cur2 (fun A794 c795 => ?_))
            refine a_one 13 rfl rfl (by kernel_rfl) rfl (e_app (i := 2) (j := 0) Try.underlying53 I9 rfl (by decide) (by decide) rfl rfl rfl rfl rfl ha855) (fun s w h => zae [some 1, none, some 3] (by decide) w h rfl) (cur2 (fun A856 c857 => ?_))
            refine za9 14 rfl rfl rfl (by kernel_rfl) (fun _ _ _ h => h) (q_asg rfl) ?_
            refine a_done (by kernel_rfl) ?_
            refine zao ?_
            refine za1 ?_
            refine za0 ?_
            refine o_q rfl rfl (q_up rfl rfl (hr18.up hm19)) ?_
            refine o_q rfl rfl (za2 rfl) ?_
            refine o_end ?_
            refine zam ys16.length (ys16, l854, i14 + 1, A856, c857) (by rw [← hk24]; exact Nat.lt_succ_self _) ⟨hr18.step, rfl, h⟩ ⟨rfl, rfl, trivial⟩ (fun w h => za7 [2, 3] (by decide) rfl w h) ?_
            repeat (first | exact zac _ _ | refine zak rfl ?_ | refine zad rfl ?_ | refine zal rfl ?_)
  · replace h := bb_f hb5 h
    refine @o_n _ _ _ _ _ _ _ _ _ _ _ 18 (za3 rfl rfl rfl (congrArg (fun b => Value.bool (!(b))) hb5) rfl) (Eq.refl (some 18)) ?_
    refine @o_n _ _ _ _ _ _ _ _ _ _ _ 19 (za3 rfl rfl rfl (congrArg (fun b => Value.bool (!(b))) hb5) rfl) (Eq.refl (some 19)) ?_
    refine @o_n _ _ _ _ _ _ _ _ _ _ _ 20 (za3 rfl rfl rfl (congrArg (fun b => Value.bool (!(b))) hb5) rfl) (Eq.refl (some 20)) ?_
    refine @o_n _ _ _ _ _ _ _ _ _ _ _ 21 (za3 rfl rfl rfl (congrArg (fun b => Value.bool (!(b))) hb5) rfl) (Eq.refl (some 21)) ?_
    refine @o_n _ _ _ _ _ _ _ _ _ _ _ 22 (za3 rfl rfl rfl (congrArg (fun b => Value.bool (!(b))) hb5) rfl) (Eq.refl (some 22)) ?_
    refine o_q rfl rfl (q_pick true (congrArg (fun b => Value.bool (!(b))) hb5) rfl) ?_
    refine o_end ?_
    refine za1 ?_
    refine c_true rfl ?_
    refine c_seq ?_
    refine za0 ?_
    refine o_q rfl rfl (q_asg rfl) ?_
    refine o_q rfl rfl (q_asg rfl) ?_
    refine o_end ?_
    refine za1 ?_
    refine c_ret ?_
    refine za5 ?_
    refine x_nil Kd.string 9 ?_
    have e0_ := Option.some.inj h; clear h
    have d0_ := (Prod.mk.inj e0_).1; have e1_ := (Prod.mk.inj e0_).2; clear e0_; subst d0_
    subst e1_
    exact x_r2 (none, 0) Try.results46 (zab rfl) (zab rfl) rfl (fun w h => za7 [0] (by decide) rfl w h)

/-! ### loop.example/g01098/laws.rSameTexts: function 47 -/
def laws_rSameTexts.l0 (l1 : List ByteArray) : (List ByteArray) → Int → Option ((Bool) ⊕ (Unit))
  | [], i2 => some (.inr ())
  | y3 :: ys4, i2 => (gt l1 i2).bind fun y16 => if y3 ≠ y16 then (some (.inl false)) else (laws_rSameTexts.l0 l1 ys4 (i2 + 1))
def laws_rSameTexts.f (l0 : List ByteArray) (l1 : List ByteArray) : Option Bool := if (l0.length : Int) ≠ (l1.length : Int) then (some false) else ((laws_rSameTexts.l0 l1 l0 0).bind fun o_ => match o_ with | .inl r_ => some r_ | .inr _ => some true)
set_option maxHeartbeats 600000 in
set_option maxRecDepth 100000 in
theorem laws_rSameTexts.calls {w0 ws : World} {P0 : Nat → Prop} (A0 : Option Addr) (c0 : Nat) (n0 : Nat) (l0 : List ByteArray) (A1 : Option Addr) (c1 : Nat) (n1 : Nat) (l1 : List ByteArray) (Z : Below w0.heap.size w0 ws) (hF : Fr w0 ws P0 [] ws) (R0 : Stable ws P0 (fun w => Kd.C Kd.string w A0 n0 l0)) (hc0 : n0 ≤ c0) (R1 : Stable ws P0 (fun w => Kd.C Kd.string w A1 n1 l1)) (hc1 : n1 ≤ c1) (r_1 : Bool) (h : laws_rSameTexts.f l0 l1 = some r_1) :
    Calls Try.prog 47 #[.slice A0 n0 c0, .slice A1 n1 c1] ws (Post1 w0 ws P0 (fun (_ : Unit) => .bool r_1) (fun (_ : Unit) => [])) := by
  unfold laws_rSameTexts.f at h
  obtain rfl := (R0 ws (KeptB.refl _ _)).1
  obtain rfl := (R1 ws (KeptB.refl _ _)).1
  refine enter Try.func47 rfl Try.ntmps47 rfl hF ?_
  refine c_seq ?_
  refine za0 ?_
  refine o_q rfl rfl (q_asg rfl) ?_
  refine o_end ?_
  refine za1 ?_
  refine c_seq ?_
  refine c_seq ?_
  refine za0 ?_
  refine o_q rfl rfl (za2 rfl) ?_
  refine o_q rfl rfl (q_len Try.underlying53 rfl) ?_
  refine o_q rfl rfl (za2 rfl) ?_
  refine o_q rfl rfl (q_len Try.underlying53 rfl) ?_
  refine o_q rfl rfl (q_neq rfl rfl) ?_
  refine o_end ?_
  refine za1 ?_
  refine zas _ rfl (fun hb1 => ?_) (fun hb1 => ?_)
  · skip
    replace h := br_t hb1 h
    refine c_seq ?_
    refine za0 ?_
    refine o_q rfl rfl (q_asg rfl) ?_
    refine o_end ?_
    refine za1 ?_
    refine c_ret ?_
    refine za5 ?_
    have e0_ := Option.some.inj h; clear h
    subst e0_
    exact x_r1 () Try.results47 (zab rfl) rfl (fun w h => za7 [] (by decide) rfl w h)
  · skip
    replace h := br_f hb1 h
    refine zan ?_
    refine za1 ?_
    refine c_seq ?_
    refine c_seq ?_
    refine za0 ?_
    refine o_q rfl rfl (za2 rfl) ?_
    refine o_q rfl rfl (q_len Try.underlying53 rfl) ?_
    refine o_q rfl rfl (za2 rfl) ?_
    refine o_end ?_
    refine za1 ?_
    refine zah ?_
    refine za8 h (fun o10 hl9 hR8 => ?_) rfl
    clear h
    refine c_fact (p := l0.length ≤ 9223372036854775807) (fun w h => (R0.now Z h).2.1) (fun hm7 => ?_)
    refine zat (σ := (List ByteArray) × Int) (fun k5 ((ys4, i2) : (List ByteArray) × Int) => Rg l0 i2 ys4 ∧ ys4.length = k5 ∧ laws_rSameTexts.l0 l1 ys4 i2 = some o10) [4, 5, 13, 14, 15, 16, 17, 18, 19, 20, 21, 22, 23, 24, 25] (fun ((ys4, i2) : (List ByteArray) × Int) => [(13, .int .i64 i2)]) (fun ((ys4, i2) : (List ByteArray) × Int) => []) l0.length (l0, 0) ⟨Rg.start _, rfl, hl9⟩ ⟨rfl, trivial⟩ (fun w h => h) ?_
    refine fun k5 => cur2 (listC (fun i2 U11 hJ_ => ?_) (fun y3 ys4 i2 U11 hJ_ => ?_))
    · skip
      clear hl9
      have hr6 := hJ_.1; have hk12 := hJ_.2.1; have h := hJ_.2.2; clear hJ_
      replace h : laws_rSameTexts.l0 l1 [] i2 = some o10 := h
      rw [laws_rSameTexts.l0] at h
      refine c_seq ?_
      refine za0 ?_
      refine o_q rfl rfl (q_lss rfl rfl) ?_
      refine o_end ?_
      refine za1 ?_
      refine c_seq ?_
      refine c_false (congrArg Value.bool hr6.ge) ?_
      refine c_exit ?_
      refine za6 ?_
      refine za6 ?_
      have e_ := Option.some.inj h; replace h := hR8; rw [← e_] at h; clear e_
      refine x_hit ?_
      refine za1 ?_
      refine c_seq ?_
      refine za0 ?_
      refine o_q rfl rfl (q_asg rfl) ?_
      refine o_end ?_
      refine za1 ?_
      refine c_ret ?_
      have e0_ := Option.some.inj h; clear h
      subst e0_
      exact x_r1 () Try.results47 (zab rfl) rfl (fun w h => za7 [] (by decide) rfl w h)
    · skip
      clear hl9
      have hr6 := hJ_.1; have hk12 := hJ_.2.1; have h := hJ_.2.2; clear hJ_
      replace h : laws_rSameTexts.l0 l1 (y3 :: ys4) i2 = some o10 := h
      rw [laws_rSameTexts.l0] at h
      refine c_seq ?_
      refine za0 ?_
      refine o_q rfl rfl (q_lss rfl rfl) ?_
      refine o_end ?_
      refine za1 ?_
      refine c_seq ?_
      refine c_true (congrArg Value.bool hr6.lt) ?_
      refine zan ?_
      refine za1 ?_
      refine c_seq ?_
      refine zah ?_
      refine c_seq ?_
      refine za0 ?_
      refine o_q rfl rfl (za2 rfl) ?_
      refine o_q rfl rfl (q_asg rfl) ?_
      refine o_end ?_
      refine za1 ?_
      refine c_seq ?_
      refine a_start (ds := []) MO rfl ?_
      refine za9 0 rfl rfl rfl (by kernel_rfl) (fun _ _ _ h => h) (za2 rfl) ?_
      refine za9 1 rfl rfl rfl (by kernel_rfl) (fun _ _ _ h => h) (za2 rfl) ?_
      refine a_fact (p := Sh A0 l0.length l0.length) (fun w h => f_sh (dk := Kd.string) h (fun w h => R0.now Z h)) (fun hq13 => ?_)
      refine za9 2 rfl rfl rfl (by kernel_rfl) (fun _ _ _ h => h) (q_ix Try.underlying53 Z9 rfl rfl hq13 hr6.get) ?_
      refine a_take 3 rfl rfl rfl (by kernel_rfl) (fun _ _ _ h => h) (fun w h => h) (q_lde (off := 0) Y9 rfl rfl (fun w h => R0.now Z h) hr6.get (fun _ _ h => h) rfl) ?_
      refine za9 4 rfl rfl rfl (by kernel_rfl) (fun _ _ _ h => h) (za2 rfl) ?_
      refine za9 5 rfl rfl rfl (by kernel_rfl) (fun _ _ _ h => h) (za2 rfl) ?_
      refine a_fact (p := Sh A1 l1.length l1.length) (fun w h => f_sh (dk := Kd.string) h (fun w h => R1.now Z h)) (fun hq14 => ?_)
      refine za8 h (fun y16 hg15 h => ?_) rfl
      refine za9 6 rfl rfl rfl (by kernel_rfl) (fun _ _ _ h => h) (q_ix Try.underlying53 Z9 rfl rfl hq14 hg15) ?_
      refine a_take 7 rfl rfl rfl (by kernel_rfl) (fun _ _ _ h => h) (fun w h => h) (q_lde (off := 0) Y9 rfl rfl (fun w h => R1.now Z h) hg15 (fun _ _ h => h) rfl) ?_
      refine za9 8 rfl rfl rfl (by kernel_rfl) (fun _ _ _ h => h) (q_sneq rfl rfl) ?_
      refine a_done (by kernel_rfl) ?_
      refine za1 ?_
      refine zas _ rfl (fun hb17 => ?_) (fun hb17 => ?_)
      · skip
        replace h := br_t hb17 h
        refine c_seq ?_
        refine za0 ?_
        refine o_q rfl rfl (q_asg rfl) ?_
        refine o_end ?_
        refine za1 ?_
        refine c_ret ?_
        refine zaf ?_
        refine za5 ?_
        refine za5 ?_
        have e_ := Option.some.inj h; replace h := hR8; rw [← e_] at h; clear e_
        refine zaf ?_
        refine za5 ?_
        have e0_ := Option.some.inj h; clear h
        subst e0_
        exact x_r1 () Try.results47 (zab rfl) rfl (fun w h => za7 [] (by decide) rfl w h)
      · skip
        replace h := br_f hb17 h
        refine zan ?_
        refine zao ?_
        refine za1 ?_
        refine za0 ?_
        refine o_q rfl rfl (q_up rfl rfl (hr6.up hm7)) ?_
        refine o_q rfl rfl (za2 rfl) ?_
        refine o_end ?_
        refine zam ys4.length (ys4, i2 + 1) (by rw [← hk12]; exact Nat.lt_succ_self _) ⟨hr6.step, rfl, h⟩ ⟨rfl, trivial⟩ (fun w h => za7 [] (by decide) rfl w h) ?_
        repeat (first | exact zac _ _ | refine zak rfl ?_ | refine zad rfl ?_ | refine zal rfl ?_)

/-! ### loop.example/g01098/impl.outputsOf[int]: function 132 -/
def impl_outputsOf_int.l0 (l1 : List Int) : (List Int) → (List Int) → Int → Option (List Int)
  | [], l5, i8 => some l5
  | y9 :: ys10, l5, i8 => (gt l1 y9).bind fun y22 => (ap l5 ([y22] : List Int)).bind fun l26 => impl_outputsOf_int.l0 l1 ys10 l26 (i8 + 1)
def impl_outputsOf_int.f (a0_0 : Int) (l0_1 : List SStep) (l0_2 : List Int) (l1 : List Int) : Option (List Int) := (impl_outputsOf_int.l0 l1 l0_2 ([] : List Int) 0).bind fun l5 => some l5
set_option maxHeartbeats 600000 in
set_option maxRecDepth 100000 in
theorem impl_outputsOf_int.calls {w0 ws : World} {P0 : Nat → Prop} (g0 : Nat) (a0_0 : Int) (A0_1 : Option Addr) (c0_1 : Nat) (n0_1 : Nat) (l0_1 : List SStep) (A0_2 : Option Addr) (c0_2 : Nat) (n0_2 : Nat) (l0_2 : List Int) (A1 : Option Addr) (c1 : Nat) (n1 : Nat) (l1 : List Int) (Z : Below w0.heap.size w0 ws) (hF : Fr w0 ws P0 [] ws) (R0_1 : Stable ws P0 (fun w => Kd.C kStep w A0_1 n0_1 l0_1)) (hc0_1 : n0_1 ≤ c0_1) (R0_2 : Stable ws P0 (fun w => Kd.C (Kd.int .i64) w A0_2 n0_2 l0_2)) (hc0_2 : n0_2 ≤ c0_2) (B0 : Stable ws P0 (fun w => w.heap[g0]? = some (.cells #[.int .i64 a0_0, .slice A0_1 n0_1 c0_1, .slice A0_2 n0_2 c0_2] 27 (0, 0)))) (R1 : Stable ws P0 (fun w => Kd.C (Kd.int .i64) w A1 n1 l1)) (hc1 : n1 ≤ c1) (r_1 : List Int) (h : impl_outputsOf_int.f a0_0 l0_1 l0_2 l1 = some r_1) :
    Calls Try.prog 132 #[.pointer (some ⟨g0, 0, none⟩), .slice A1 n1 c1] ws (Post1 w0 ws P0 (fun ((q_2, q_3) : (Option Addr) × Nat) => .slice q_2 r_1.length q_3) (fun ((q_2, q_3) : (Option Addr) × Nat) => [row (Kd.int .i64) 3 (.slice q_2 r_1.length q_3) r_1])) := by
  unfold impl_outputsOf_int.f at h
  obtain rfl := (R0_1 ws (KeptB.refl _ _)).1
  obtain rfl := (R0_2 ws (KeptB.refl _ _)).1
  obtain rfl := (R1 ws (KeptB.refl _ _)).1
  refine enter Try.func132 rfl Try.ntmps132 rfl hF ?_
  refine c_seq ?_
  refine za0 ?_
  refine o_q rfl rfl (q_asg rfl) ?_
  refine o_end ?_
  refine za1 ?_
  refine c_seq ?_
  refine za0 ?_
  refine o_e rfl (e_lit0 (Kd.int .i64) Try.underlying25 I3) (cur2 (fun A2 c3 => ?_))
  refine o_q rfl rfl (q_asg rfl) ?_
  refine o_end ?_
  refine za1 ?_
  refine c_seq ?_
  refine c_seq ?_
  refine za0 ?_
  refine o_q rfl rfl (za2 rfl) ?_
  refine o_q rfl rfl (q_nil rfl) ?_
  refine o_q rfl rfl (q_f F27_2 rfl) ?_
  refine o_q rfl rfl (q_ldb Y25 rfl (fun w h => B0.now Z h) rfl) ?_
  refine o_q rfl rfl (q_len Try.underlying25 rfl) ?_
  refine o_q rfl rfl (za2 rfl) ?_
  refine o_end ?_
  refine za1 ?_
  refine zah ?_
  refine za8 h (fun o16 hl15 hR14 => ?_) rfl
  clear h
  refine c_fact (p := l0_2.length ≤ 9223372036854775807) (fun w h => (R0_2.now Z h).2.1) (fun hm13 => ?_)
  refine zat (σ := (List Int) × (List Int) × Int × (Option Addr) × Nat) (fun k11 ((ys10, l5, i8, A6, c7) : (List Int) × (List Int) × Int × (Option Addr) × Nat) => Rg l0_2 i8 ys10 ∧ ys10.length = k11 ∧ impl_outputsOf_int.l0 l1 ys10 l5 i8 = some o16) [5, 7, 14, 15, 16, 17, 18, 19, 20, 21, 22, 23, 24, 25] (fun ((ys10, l5, i8, A6, c7) : (List Int) × (List Int) × Int × (Option Addr) × Nat) => [(5, .slice A6 l5.length c7), (14, .int .i64 i8)]) (fun ((ys10, l5, i8, A6, c7) : (List Int) × (List Int) × Int × (Option Addr) × Nat) => [row (Kd.int .i64) 3 (.slice A6 l5.length c7) l5]) l0_2.length (l0_2, ([] : List Int), 0, A2, c3) ⟨Rg.start _, rfl, hl15⟩ ⟨rfl, rfl, trivial⟩ (fun w h => h) ?_
  refine fun k11 => cur5 (listC (fun l5 i8 A6 c7 U17 hJ_ => ?_) (fun y9 ys10 l5 i8 A6 c7 U17 hJ_ => ?_))
  · skip
    clear hl15
    have hr12 := hJ_.1; have hk18 := hJ_.2.1; have h := hJ_.2.2; clear hJ_
    replace h : impl_outputsOf_int.l0 l1 [] l5 i8 = some o16 := h
    rw [impl_outputsOf_int.l0] at h
    refine c_seq ?_
    refine za0 ?_
    refine o_q rfl rfl (q_lss rfl rfl) ?_
    refine o_end ?_
    refine za1 ?_
    refine c_seq ?_
    refine c_false (congrArg Value.bool hr12.ge) ?_
    refine c_exit ?_
    refine za6 ?_
    refine za6 ?_
    have e_ := Option.some.inj h; replace h := hR14; rw [← e_] at h; clear e_
    refine x_hit ?_
    refine za1 ?_
    refine c_seq ?_
    refine za0 ?_
    refine o_q rfl rfl (za2 rfl) ?_
    refine o_q rfl rfl (q_asg rfl) ?_
    refine o_end ?_
    refine za1 ?_
    refine c_ret ?_
    have e0_ := Option.some.inj h; clear h
    subst e0_
    exact x_r1 (A6, c7) Try.results132 (zab rfl) rfl (fun w h => za7 [0] (by decide) rfl w h)
  · skip
    clear hl15
    have hr12 := hJ_.1; have hk18 := hJ_.2.1; have h := hJ_.2.2; clear hJ_
    replace h : impl_outputsOf_int.l0 l1 (y9 :: ys10) l5 i8 = some o16 := h
    rw [impl_outputsOf_int.l0] at h
    refine c_seq ?_
    refine za0 ?_
    refine o_q rfl rfl (q_lss rfl rfl) ?_
    refine o_end ?_
    refine za1 ?_
    refine c_seq ?_
    refine c_true (congrArg Value.bool hr12.lt) ?_
    refine zan ?_
    refine za1 ?_
    refine c_seq ?_
    refine zah ?_
    refine c_seq ?_
    refine za0 ?_
    refine o_fact (p := Sh A0_2 l0_2.length l0_2.length) (fun w h => f_sh (dk := (Kd.int .i64)) h (fun w h => R0_2.now Z h)) (fun hq19 => ?_)
    refine o_q rfl rfl (q_ix Try.underlying25 Z3 rfl rfl hq19 hr12.get) ?_
    refine o_q rfl rfl (q_lde (off := 0) Y3 rfl rfl (fun w h => R0_2.now Z h) hr12.get (fun _ _ h => h) rfl) ?_
    refine o_q rfl rfl (q_asg rfl) ?_
    refine o_end ?_
    refine za1 ?_
    refine za0 ?_
    refine o_q rfl rfl (za2 rfl) ?_
    refine o_q rfl rfl (za2 rfl) ?_
    refine o_q rfl rfl (za2 rfl) ?_
    refine o_fact (p := Sh A1 l1.length l1.length) (fun w h => f_sh (dk := (Kd.int .i64)) h (fun w h => R1.now Z h)) (fun hq20 => ?_)
    refine za8 h (fun y22 hg21 h => ?_) rfl
    refine o_q rfl rfl (q_ix Try.underlying25 Z3 rfl rfl hq20 hg21) ?_
    refine o_q rfl rfl (q_lde (off := 0) Y3 rfl rfl (fun w h => R1.now Z h) hg21 (fun _ _ h => h) rfl) ?_
    refine o_e rfl (e_lit (vs := [(0, .int .i64 y22)]) (cs := [.int .i64 y22]) (Kd.int .i64) ([y22] : List Int) Try.underlying25 I3 (by decide) rfl (by decide) rfl rfl (fun _ _ => Kd.zaj _)) (cur2 (fun A23 c24 => ?_))
    refine za8 h (fun l26 ha27 h => ?_) rfl
    refine o_e rfl (e_app (i := 1) (j := 0) Try.underlying25 I3 rfl (by decide) (by decide) rfl rfl rfl rfl rfl ha27) (cur2 (fun A28 c29 => ?_))
    refine o_q rfl rfl (q_asg rfl) ?_
    refine o_end ?_
    refine zao ?_
    refine za1 ?_
    refine za0 ?_
    refine o_q rfl rfl (q_up rfl rfl (hr12.up hm13)) ?_
    refine o_q rfl rfl (za2 rfl) ?_
    refine o_end ?_
    refine zam ys10.length (ys10, l26, i8 + 1, A28, c29) (by rw [← hk18]; exact Nat.lt_succ_self _) ⟨hr12.step, rfl, h⟩ ⟨rfl, rfl, trivial⟩ (fun w h => za7 [1] (by decide) rfl w h) ?_
    repeat (first | exact zac _ _ | refine zak rfl ?_ | refine zad rfl ?_ | refine zal rfl ?_)

/-! ### loop.example/g01098/impl.WordLengths: function 48 -/
def impl_WordLengths.f (k : Nat) (a0_0 : Int) (l0_1 : List SStep) (l0_2 : List Int) (l1 : List Int) : Option ((List Int) × Bool) := (impl_lengths.f k a0_0 l0_1 l0_2 l1).bind fun (l4, b5) => if b5 = true then ((impl_outputsOf_int.f a0_0 l0_1 l0_2 l4).bind fun l10 => some (l10, true)) else (some (([] : List Int), false))
set_option maxHeartbeats 600000 in
set_option maxRecDepth 100000 in
theorem impl_WordLengths.calls (k : Nat) {w0 ws : World} {P0 : Nat → Prop} (a0_0 : Int) (A0_1 : Option Addr) (c0_1 : Nat) (n0_1 : Nat) (l0_1 : List SStep) (A0_2 : Option Addr) (c0_2 : Nat) (n0_2 : Nat) (l0_2 : List Int) (A1 : Option Addr) (c1 : Nat) (n1 : Nat) (l1 : List Int) (Z : Below w0.heap.size w0 ws) (hF : Fr w0 ws P0 [] ws) (R0_1 : Stable ws P0 (fun w => Kd.C kStep w A0_1 n0_1 l0_1)) (hc0_1 : n0_1 ≤ c0_1) (R0_2 : Stable ws P0 (fun w => Kd.C (Kd.int .i64) w A0_2 n0_2 l0_2)) (hc0_2 : n0_2 ≤ c0_2) (R1 : Stable ws P0 (fun w => Kd.C (Kd.int .i64) w A1 n1 l1)) (hc1 : n1 ≤ c1) (r_1 : List Int) (r_4 : Bool) (h : impl_WordLengths.f k a0_0 l0_1 l0_2 l1 = some (r_1, r_4)) :
    Calls Try.prog 48 #[.agg #[.int .i64 a0_0, .slice A0_1 n0_1 c0_1, .slice A0_2 n0_2 c0_2], .slice A1 n1 c1] ws (Post1 w0 ws P0 (fun ((q_2, q_3) : (Option Addr) × Nat) => .tuple #[.slice q_2 r_1.length q_3, .bool r_4]) (fun ((q_2, q_3) : (Option Addr) × Nat) => [row (Kd.int .i64) 3 (.slice q_2 r_1.length q_3) r_1])) := by
  unfold impl_WordLengths.f at h
  obtain rfl := (R0_1 ws (KeptB.refl _ _)).1
  obtain rfl := (R0_2 ws (KeptB.refl _ _)).1
  obtain rfl := (R1 ws (KeptB.refl _ _)).1
  refine enter Try.func48 rfl Try.ntmps48 rfl hF ?_
  refine c_seq ?_
  refine za0 ?_
  refine o_e rfl (e_box rfl) (fun g1 => ?_)
  refine o_q rfl rfl (q_asg rfl) ?_
  refine o_q rfl rfl (q_asg rfl) ?_
  refine o_end ?_
  refine za1 ?_
  refine c_seq ?_
  refine za0 ?_
  refine o_q rfl rfl (za2 rfl) ?_
  refine bindE2 h (fun l4 b5 hx3 h => ?_) rfl
  refine o_e rfl (zaa 0 Z Try.func126 N126 rfl rfl rfl (fun w P1 hF hB hS hT => impl_lengths.calls k g1 a0_0 A0_1 c0_1 l0_1.length l0_1 A0_2 c0_2 l0_2.length l0_2 A1 c1 l1.length l1 hB hF (hS _ R0_1) hc0_1 (hS _ R0_2) hc0_2 (hT 0 _ rfl).box (hS _ R1) hc1 _ _ hx3)) (cur2 (fun A6 c7 => ?_))
  refine o_q rfl rfl (za2 rfl) ?_
  refine o_q rfl rfl (q_ext rfl rfl) ?_
  refine o_q rfl rfl (q_ext rfl rfl) ?_
  refine o_q rfl rfl (q_asg rfl) ?_
  refine o_q rfl rfl (q_asg rfl) ?_
  refine o_end ?_
  refine za1 ?_
  refine c_seq ?_
  refine c_seq ?_
  refine za0 ?_
  refine o_q rfl rfl (za2 rfl) ?_
  refine o_q rfl rfl (q_not rfl) ?_
  refine o_end ?_
  refine za1 ?_
  refine zas _ rfl (fun hb8 => ?_) (fun hb8 => ?_)
  · replace hb8 := nt_t hb8
    replace h := bb_f hb8 h
    refine c_seq ?_
    refine za0 ?_
    refine o_q rfl rfl (q_asg rfl) ?_
    refine o_q rfl rfl (q_asg rfl) ?_
    refine o_end ?_
    refine za1 ?_
    refine c_ret ?_
    refine za5 ?_
    refine x_nil (Kd.int .i64) 3 ?_
    have e0_ := Option.some.inj h; clear h
    have d0_ := (Prod.mk.inj e0_).1; have e1_ := (Prod.mk.inj e0_).2; clear e0_; subst d0_
    subst e1_
    exact x_r2 (none, 0) Try.results48 (zab rfl) (zab rfl) rfl (fun w h => za7 [0] (by decide) rfl w h)
  · replace hb8 := nt_f hb8
    replace h := bb_t hb8 h
    refine zan ?_
    refine za1 ?_
    refine c_seq ?_
    refine za0 ?_
    refine o_q rfl rfl (za2 rfl) ?_
    refine za8 h (fun l10 hx9 h => ?_) rfl
    refine o_e rfl (zaa 0 Z Try.func132 N132 rfl rfl rfl (fun w P1 hF hB hS hT => impl_outputsOf_int.calls g1 a0_0 A0_1 c0_1 l0_1.length l0_1 A0_2 c0_2 l0_2.length l0_2 A6 c7 l4.length l4 hB hF (hS _ R0_1) hc0_1 (hS _ R0_2) hc0_2 (hT 1 _ rfl).box (hT 0 _ rfl).row (hT 0 _ rfl).cap _ hx9)) (cur2 (fun A11 c12 => ?_))
    refine o_q rfl rfl (q_asg rfl) ?_
    refine o_q rfl rfl (q_asg rfl) ?_
    refine o_end ?_
    refine za1 ?_
    refine c_ret ?_
    have e0_ := Option.some.inj h; clear h
    have d0_ := (Prod.mk.inj e0_).1; have e1_ := (Prod.mk.inj e0_).2; clear e0_; subst d0_
    subst e1_
    exact x_r2 (A11, c12) Try.results48 (zab rfl) (zab rfl) rfl (fun w h => za7 [0] (by decide) rfl w h)

/-! ### loop.example/g01098/spec.DrawWordLengths: function 49 -/
def spec_DrawWordLengths.l0 (l0 : List Int) : Nat → (List Int) → Int → Int → Int → Option ((List Int) × Int × Int)
  | 0, _, _, _, _ => none
  | k41 + 1, l33, i36, i37, i38 => if 0 < i38 then ((spec_l1Cur_among.f l0 i36 i37 ([0, 1, 2, 3, 17, 500, 2000, 2001, (-1), 1, 2, 3] : List Int)).bind fun (i54, i55, i56) => (ap l33 ([i54] : List Int)).bind fun l60 => spec_DrawWordLengths.l0 l0 k41 l60 i55 i56 (w64 (i38 - 1))) else (some (l33, i36, i37))
def spec_DrawWordLengths.f (k : Nat) (l0 : List Int) : Option (Int × (List SStep) × (List Int) × (List Int)) := (spec_l1Cur_inputs.f l0 0 0).bind fun (i6, i7, i8) => (spec_l1Cur_among.f l0 i7 i8 ([3, 5, 8] : List Int)).bind fun (i13, i14, i15) => (spec_l1Cur_anyPlan.f k l0 i14 i15 i6 i13).bind fun (i17, l18, l19, i20, i21) => (spec_l1Least.f i17 9).bind fun i29 => (spec_l1Most.f 0 i29).bind fun i31 => (spec_DrawWordLengths.l0 l0 k ([] : List Int) i20 i21 i31).bind fun (l33, i36, i37) => some (i17, l18, l19, l33)
set_option maxHeartbeats 600000 in
set_option maxRecDepth 100000 in
theorem spec_DrawWordLengths.calls (k : Nat) {w0 ws : World} {P0 : Nat → Prop} (A0 : Option Addr) (c0 : Nat) (n0 : Nat) (l0 : List Int) (Z : Below w0.heap.size w0 ws) (hF : Fr w0 ws P0 [] ws) (R0 : Stable ws P0 (fun w => Kd.C (Kd.int .u8) w A0 n0 l0)) (hc0 : n0 ≤ c0) (r_1 : Int) (r_2 : List SStep) (r_5 : List Int) (r_8 : List Int) (h : spec_DrawWordLengths.f k l0 = some (r_1, r_2, r_5, r_8)) :
    Calls Try.prog 49 #[.slice A0 n0 c0] ws (Post1 w0 ws P0 (fun ((q_3, q_4, q_6, q_7, q_9, q_10) : (Option Addr) × Nat × (Option Addr) × Nat × (Option Addr) × Nat) => .tuple #[.agg #[.int .i64 r_1, .slice q_3 r_2.length q_4, .slice q_6 r_5.length q_7], .slice q_9 r_8.length q_10]) (fun ((q_3, q_4, q_6, q_7, q_9, q_10) : (Option Addr) × Nat × (Option Addr) × Nat × (Option Addr) × Nat) => [row kStep 89 (.slice q_3 r_2.length q_4) r_2, row (Kd.int .i64) 3 (.slice q_6 r_5.length q_7) r_5, row (Kd.int .i64) 3 (.slice q_9 r_8.length q_10) r_8])) := by
  unfold spec_DrawWordLengths.f at h
  obtain rfl := (R0 ws (KeptB.refl _ _)).1
  refine enter Try.func49 rfl Try.ntmps49 rfl hF ?_
  refine c_seq ?_
  refine za0 ?_
  refine o_e rfl (e_alloc V27 rfl) (fun g1 => ?_)
  refine o_q rfl rfl (q_asg rfl) ?_
  refine o_end ?_
  refine za1 ?_
  refine c_seq ?_
  refine za0 ?_
  refine o_q rfl rfl (za2 rfl) ?_
  refine o_q rfl rfl (q_build (vs := [(0, .slice A0 l0.length c0)]) (cs := [.slice A0 l0.length c0, .int .i64 0, .int .u64 0]) rfl rfl) ?_
  refine o_e rfl (e_box rfl) (fun g3 => ?_)
  refine o_q rfl rfl (q_asg rfl) ?_
  refine o_end ?_
  refine za1 ?_
  refine c_seq ?_
  refine za0 ?_
  refine o_q rfl rfl (za2 rfl) ?_
  refine o_q rfl rfl (za2 rfl) ?_
  refine bindE3 h (fun i6 i7 i8 hx5 h => ?_) rfl
  refine o_e rfl (zaa 1 Z Try.func121 N121 rfl rfl rfl (fun w P1 hF hB hS hT => spec_l1Cur_inputs.calls g3 A0 c0 l0.length l0 0 0 hB hF (hS _ R0) hc0 _ _ _ hx5)) (fun _ => ?_)
  refine o_q rfl rfl (za2 rfl) ?_
  refine o_e rfl (e_lit (vs := [(0, .int .i64 3), (1, .int .i64 5), (2, .int .i64 8)]) (cs := [.int .i64 3, .int .i64 5, .int .i64 8]) (Kd.int .i64) ([3, 5, 8] : List Int) Try.underlying25 I3 (by decide) rfl (by decide) rfl rfl (fun _ _ => Kd.zaj _)) (cur2 (fun A9 c10 => ?_))
  refine o_pick [1, 0, 2] (by decide) rfl ?_
  refine bindE3 h (fun i13 i14 i15 hx12 h => ?_) rfl
  refine o_e rfl (zaa 1 Z Try.func122 N122 rfl rfl rfl (fun w P1 hF hB hS hT => spec_l1Cur_among.calls g3 A0 c0 l0.length l0 i7 i8 A9 c10 (([3, 5, 8] : List Int).length) ([3, 5, 8] : List Int) hB hF (hS _ R0) hc0 (hT 0 _ rfl).row (hT 0 _ rfl).cap _ _ _ hx12)) (fun _ => ?_)
  refine bindE5 h (fun i17 l18 l19 i20 i21 hx16 h => ?_) rfl
  refine o_e rfl (zaa 1 Z Try.func84 N84 rfl rfl rfl (fun w P1 hF hB hS hT => spec_l1Cur_anyPlan.calls k g3 A0 c0 l0.length l0 i14 i15 i6 i13 hB hF (hS _ R0) hc0 _ _ _ _ _ hx16)) (cur4 (fun A22 c23 A24 c25 => ?_))
  refine o_e rfl (e_alloc V27 rfl) (fun g26 => ?_)
  refine o_e rfl (e_storeA (i := 0) rfl rfl rfl Z27 rfl rfl) (fun _ => ?_)
  refine o_end ?_
  refine za1 ?_
  refine c_seq ?_
  refine za0 ?_
  refine o_q rfl rfl (q_asg rfl) ?_
  refine o_end ?_
  refine za1 ?_
  refine c_seq ?_
  refine c_seq ?_
  refine za0 ?_
  refine o_q rfl rfl (q_f F27_0 rfl) ?_
  refine o_q rfl rfl (q_ldb Y3 rfl (fun w h => h.zai (i := 0) rfl) rfl) ?_
  refine za8 h (fun i29 hx28 h => ?_) rfl
  refine o_e rfl (zaa 0 Z Try.func124 N124 rfl rfl rfl (fun w P1 hF hB hS hT => spec_l1Least.calls i17 9 hB hF _ hx28)) (fun _ => ?_)
  refine za8 h (fun i31 hx30 h => ?_) rfl
  refine o_e rfl (zaa 0 Z Try.func123 N123 rfl rfl rfl (fun w P1 hF hB hS hT => spec_l1Most.calls 0 i29 hB hF _ hx30)) (fun _ => ?_)
  refine o_q rfl rfl (q_asg rfl) ?_
  refine o_end ?_
  refine za1 ?_
  refine zah ?_
  refine c_nil (Kd.int .i64) 3 ?_
  refine za8 h (fun o46 hl45 hR44 => ?_) rfl
  clear h
  refine zat (σ := (List Int) × Int × Int × Int × (Option Addr) × Nat) (fun k41 ((l33, i36, i37, i38, A34, c35) : (List Int) × Int × Int × Int × (Option Addr) × Nat) => spec_DrawWordLengths.l0 l0 k41 l33 i36 i37 i38 = some o46) [6, 7, 22, 23, 24, 25, 26, 27, 28, 29, 30, 31] (fun ((l33, i36, i37, i38, A34, c35) : (List Int) × Int × Int × Int × (Option Addr) × Nat) => [(6, .slice A34 l33.length c35), (7, .int .i64 i38)]) (fun ((l33, i36, i37, i38, A34, c35) : (List Int) × Int × Int × Int × (Option Addr) × Nat) => [row (Kd.int .i64) 3 (.slice A34 l33.length c35) l33, box g26 27 #[.int .i64 i17, .slice A22 l18.length c23, .slice A24 l19.length c25], row kStep 89 (.slice A22 l18.length c23) l18, row (Kd.int .i64) 3 (.slice A24 l19.length c25) l19, box g3 81 #[.slice A0 l0.length c0, .int .i64 i36, .int .u64 i37], row (Kd.int .i64) 3 (.slice A9 (([3, 5, 8] : List Int).length) c10) ([3, 5, 8] : List Int), box g1 27 #[.int .i64 0, .slice none 0 0, .slice none 0 0]]) k (([] : List Int), i20, i21, i31, none, 0) hl45 ⟨rfl, rfl, trivial⟩ (fun w h => h) ?_
  refine natC (cur6 (fun l33 i36 i37 i38 A34 c35 => fun U47 hJ_ => ?_)) (fun k41 => (cur6 (fun l33 i36 i37 i38 A34 c35 => fun U47 hJ_ => ?_)))
  · skip
    replace hJ_ : spec_DrawWordLengths.l0 l0 0 l33 i36 i37 i38 = some o46 := hJ_
    rw [spec_DrawWordLengths.l0] at hJ_
    exact noneE hJ_
  · skip
    clear hl45
    have h := hJ_; clear hJ_
    replace h : spec_DrawWordLengths.l0 l0 (k41 + 1) l33 i36 i37 i38 = some o46 := h
    rw [spec_DrawWordLengths.l0] at h
    refine c_seq ?_
    refine c_seq ?_
    refine za0 ?_
    refine o_q rfl rfl (za2 rfl) ?_
    refine o_q rfl rfl (q_gtr rfl rfl) ?_
    refine o_end ?_
    refine za1 ?_
    refine zas _ rfl (fun hb49 => ?_) (fun hb49 => ?_)
    · skip
      replace h := br_t hb49 h
      refine zan ?_
      refine za1 ?_
      refine c_seq ?_
      refine zah ?_
      refine za0 ?_
      refine o_q rfl rfl (za2 rfl) ?_
      refine o_q rfl rfl (za2 rfl) ?_
      refine o_e rfl (e_lit (vs := [(0, .int .i64 0), (1, .int .i64 1), (2, .int .i64 2), (3, .int .i64 3), (4, .int .i64 17), (5, .int .i64 500), (6, .int .i64 2000), (7, .int .i64 2001), (8, .int .i64 (-1)), (9, .int .i64 1), (10, .int .i64 2), (11, .int .i64 3)]) (cs := [.int .i64 0, .int .i64 1, .int .i64 2, .int .i64 3, .int .i64 17, .int .i64 500, .int .i64 2000, .int .i64 2001, .int .i64 (-1), .int .i64 1, .int .i64 2, .int .i64 3]) (Kd.int .i64) ([0, 1, 2, 3, 17, 500, 2000, 2001, (-1), 1, 2, 3] : List Int) Try.underlying25 I3 (by decide) rfl (by decide) rfl rfl (fun _ _ => Kd.zaj _)) (cur2 (fun A50 c51 => ?_))
      refine o_pick [5, 0, 1, 2, 3, 4, 6, 7] (by decide) rfl ?_
      refine bindE3 h (fun i54 i55 i56 hx53 h => ?_) rfl
      refine o_e rfl (zaa 1 Z Try.func122 N122 rfl rfl rfl (fun w P1 hF hB hS hT => spec_l1Cur_among.calls g3 A0 c0 l0.length l0 i36 i37 A50 c51 (([0, 1, 2, 3, 17, 500, 2000, 2001, (-1), 1, 2, 3] : List Int).length) ([0, 1, 2, 3, 17, 500, 2000, 2001, (-1), 1, 2, 3] : List Int) hB hF (hS _ R0) hc0 (hT 0 _ rfl).row (hT 0 _ rfl).cap _ _ _ hx53)) (fun _ => ?_)
      refine o_e rfl (e_lit (vs := [(0, .int .i64 i54)]) (cs := [.int .i64 i54]) (Kd.int .i64) ([i54] : List Int) Try.underlying25 I3 (by decide) rfl (by decide) rfl rfl (fun _ _ => Kd.zaj _)) (cur2 (fun A57 c58 => ?_))
      refine za8 h (fun l60 ha61 h => ?_) rfl
      refine o_e rfl (e_app (i := 3) (j := 0) Try.underlying25 I3 rfl (by decide) (by decide) rfl rfl rfl rfl rfl ha61) (cur2 (fun A62 c63 => ?_))
      refine o_q rfl rfl (q_asg rfl) ?_
      refine o_end ?_
      refine zao ?_
      refine za1 ?_
      refine za0 ?_
      refine o_q rfl rfl (za2 rfl) ?_
      refine o_q rfl rfl (q_sub64 rfl rfl) ?_
      refine o_q rfl rfl (q_asg rfl) ?_
      refine o_end ?_
      refine zam k41 (l60, i55, i56, w64 (i38 - 1), A62, c63) (Nat.lt_succ_self _) h ⟨rfl, rfl, trivial⟩ (fun w h => za7 [3, 4, 5, 6, 1, 7, 8] (by decide) rfl w h) ?_
      repeat (first | exact zac _ _ | refine zak rfl ?_ | refine zad rfl ?_ | refine zal rfl ?_)
    · skip
      replace h := br_f hb49 h
      refine c_exit ?_
      refine za6 ?_
      refine za6 ?_
      have e_ := Option.some.inj h; replace h := hR44; rw [← e_] at h; clear e_
      refine x_hit ?_
      refine za1 ?_
      refine c_seq ?_
      refine za0 ?_
      refine o_q rfl rfl (q_ldB G27 Z27 rfl (fun w h => h.zai (i := 1) rfl) rfl) ?_
      refine o_q rfl rfl (za2 rfl) ?_
      refine o_e rfl (e_storeA (i := 6) rfl rfl rfl Z27 rfl rfl) (fun _ => ?_)
      refine o_q rfl rfl (q_asg rfl) ?_
      refine o_end ?_
      refine za1 ?_
      refine c_ret ?_
      have e0_ := Option.some.inj h; clear h
      have d0_ := (Prod.mk.inj e0_).1; have e1_ := (Prod.mk.inj e0_).2; clear e0_; subst d0_
      have d1_ := (Prod.mk.inj e1_).1; have e2_ := (Prod.mk.inj e1_).2; clear e1_; subst d1_
      have d2_ := (Prod.mk.inj e2_).1; have e3_ := (Prod.mk.inj e2_).2; clear e2_; subst d2_
      subst e3_
      exact x_r2 (A22, c23, A24, c25, A34, c35) Try.results49 (rv_cell rfl G27 Z27 (fun w h => h.zai (i := 6) rfl) rfl) (zab rfl) rfl (fun w h => za7 [2, 3, 0] (by decide) rfl w h)

/-! ### loop.example/g01098/spec.l1Own: function 96 -/
def spec_l1Own.f (l0 : List Int) : Option (List Int) := (ap ([] : List Int) l0).bind fun l4 => some l4
set_option maxHeartbeats 600000 in
set_option maxRecDepth 100000 in
theorem spec_l1Own.calls {w0 ws : World} {P0 : Nat → Prop} (A0 : Option Addr) (c0 : Nat) (n0 : Nat) (l0 : List Int) (Z : Below w0.heap.size w0 ws) (hF : Fr w0 ws P0 [] ws) (R0 : Stable ws P0 (fun w => Kd.C (Kd.int .i64) w A0 n0 l0)) (hc0 : n0 ≤ c0) (r_1 : List Int) (h : spec_l1Own.f l0 = some r_1) :
    Calls Try.prog 96 #[.slice A0 n0 c0] ws (Post1 w0 ws P0 (fun ((q_2, q_3) : (Option Addr) × Nat) => .slice q_2 r_1.length q_3) (fun ((q_2, q_3) : (Option Addr) × Nat) => [row (Kd.int .i64) 3 (.slice q_2 r_1.length q_3) r_1])) := by
  unfold spec_l1Own.f at h
  obtain rfl := (R0 ws (KeptB.refl _ _)).1
  refine enter Try.func96 rfl Try.ntmps96 rfl hF ?_
  refine c_seq ?_
  refine za0 ?_
  refine o_q rfl rfl (q_asg rfl) ?_
  refine o_end ?_
  refine za1 ?_
  refine c_seq ?_
  refine za0 ?_
  refine o_e rfl (e_lit0 (Kd.int .i64) Try.underlying25 I3) (cur2 (fun A1 c2 => ?_))
  refine o_q rfl rfl (za2 rfl) ?_
  refine za8 h (fun l4 ha5 h => ?_) rfl
  refine o_e rfl (e_appr (i := 0) Try.underlying25 I3 rfl (by decide) (by decide) (fun _ _ _ _ h => h) rfl (fun w h => R0.now Z h) rfl rfl ha5) (cur2 (fun A6 c7 => ?_))
  refine o_q rfl rfl (q_asg rfl) ?_
  refine o_end ?_
  refine za1 ?_
  refine c_ret ?_
  have e0_ := Option.some.inj h; clear h
  subst e0_
  exact x_r1 (A6, c7) Try.results96 (zab rfl) rfl (fun w h => za7 [0] (by decide) rfl w h)

/-! ### loop.example/g01098/spec.moPick: function 134 -/
def spec_moPick.l0 (l0 : List Int) : (List Int) → (List Int) → Int → Option (List Int)
  | [], l3, i6 => some l3
  | y7 :: ys8, l3, i6 => (gt l0 y7).bind fun y20 => (ap l3 ([y20] : List Int)).bind fun l24 => spec_moPick.l0 l0 ys8 l24 (i6 + 1)
def spec_moPick.f (l0 : List Int) (l1 : List Int) : Option (List Int) := (spec_moPick.l0 l0 l1 ([] : List Int) 0).bind fun l3 => some l3
set_option maxHeartbeats 600000 in
set_option maxRecDepth 100000 in
theorem spec_moPick.calls {w0 ws : World} {P0 : Nat → Prop} (A0 : Option Addr) (c0 : Nat) (n0 : Nat) (l0 : List Int) (A1 : Option Addr) (c1 : Nat) (n1 : Nat) (l1 : List Int) (Z : Below w0.heap.size w0 ws) (hF : Fr w0 ws P0 [] ws) (R0 : Stable ws P0 (fun w => Kd.C (Kd.int .i64) w A0 n0 l0)) (hc0 : n0 ≤ c0) (R1 : Stable ws P0 (fun w => Kd.C (Kd.int .i64) w A1 n1 l1)) (hc1 : n1 ≤ c1) (r_1 : List Int) (h : spec_moPick.f l0 l1 = some r_1) :
    Calls Try.prog 134 #[.slice A0 n0 c0, .slice A1 n1 c1] ws (Post1 w0 ws P0 (fun ((q_2, q_3) : (Option Addr) × Nat) => .slice q_2 r_1.length q_3) (fun ((q_2, q_3) : (Option Addr) × Nat) => [row (Kd.int .i64) 3 (.slice q_2 r_1.length q_3) r_1])) := by
  unfold spec_moPick.f at h
  obtain rfl := (R0 ws (KeptB.refl _ _)).1
  obtain rfl := (R1 ws (KeptB.refl _ _)).1
  refine enter Try.func134 rfl Try.ntmps134 rfl hF ?_
  refine c_seq ?_
  refine za0 ?_
  refine o_q rfl rfl (q_asg rfl) ?_
  refine o_end ?_
  refine za1 ?_
  refine c_seq ?_
  refine za0 ?_
  refine o_q rfl rfl (q_asg rfl) ?_
  refine o_end ?_
  refine za1 ?_
  refine c_seq ?_
  refine c_seq ?_
  refine za0 ?_
  refine o_q rfl rfl (za2 rfl) ?_
  refine o_q rfl rfl (q_len Try.underlying25 rfl) ?_
  refine o_q rfl rfl (za2 rfl) ?_
  refine o_end ?_
  refine za1 ?_
  refine zah ?_
  refine c_nil (Kd.int .i64) 3 ?_
  refine za8 h (fun o14 hl13 hR12 => ?_) rfl
  clear h
  refine c_fact (p := l1.length ≤ 9223372036854775807) (fun w h => (R1.now Z h).2.1) (fun hm11 => ?_)
  refine zat (σ := (List Int) × (List Int) × Int × (Option Addr) × Nat) (fun k9 ((ys8, l3, i6, A4, c5) : (List Int) × (List Int) × Int × (Option Addr) × Nat) => Rg l1 i6 ys8 ∧ ys8.length = k9 ∧ spec_moPick.l0 l0 ys8 l3 i6 = some o14) [5, 7, 10, 11, 12, 13, 14, 15, 16, 17, 18, 19, 20, 21] (fun ((ys8, l3, i6, A4, c5) : (List Int) × (List Int) × Int × (Option Addr) × Nat) => [(5, .slice A4 l3.length c5), (10, .int .i64 i6)]) (fun ((ys8, l3, i6, A4, c5) : (List Int) × (List Int) × Int × (Option Addr) × Nat) => [row (Kd.int .i64) 3 (.slice A4 l3.length c5) l3]) l1.length (l1, ([] : List Int), 0, none, 0) ⟨Rg.start _, rfl, hl13⟩ ⟨rfl, rfl, trivial⟩ (fun w h => h) ?_
  refine fun k9 => cur5 (listC (fun l3 i6 A4 c5 U15 hJ_ => ?_) (fun y7 ys8 l3 i6 A4 c5 U15 hJ_ => ?_))
  · skip
    clear hl13
    have hr10 := hJ_.1; have hk16 := hJ_.2.1; have h := hJ_.2.2; clear hJ_
    replace h : spec_moPick.l0 l0 [] l3 i6 = some o14 := h
    rw [spec_moPick.l0] at h
    refine c_seq ?_
    refine za0 ?_
    refine o_q rfl rfl (q_lss rfl rfl) ?_
    refine o_end ?_
    refine za1 ?_
    refine c_seq ?_
    refine c_false (congrArg Value.bool hr10.ge) ?_
    refine c_exit ?_
    refine za6 ?_
    refine za6 ?_
    have e_ := Option.some.inj h; replace h := hR12; rw [← e_] at h; clear e_
    refine x_hit ?_
    refine za1 ?_
    refine c_seq ?_
    refine za0 ?_
    refine o_q rfl rfl (za2 rfl) ?_
    refine o_q rfl rfl (q_asg rfl) ?_
    refine o_end ?_
    refine za1 ?_
    refine c_ret ?_
    have e0_ := Option.some.inj h; clear h
    subst e0_
    exact x_r1 (A4, c5) Try.results134 (zab rfl) rfl (fun w h => za7 [0] (by decide) rfl w h)
  · skip
    clear hl13
    have hr10 := hJ_.1; have hk16 := hJ_.2.1; have h := hJ_.2.2; clear hJ_
    replace h : spec_moPick.l0 l0 (y7 :: ys8) l3 i6 = some o14 := h
    rw [spec_moPick.l0] at h
    refine c_seq ?_
    refine za0 ?_
    refine o_q rfl rfl (q_lss rfl rfl) ?_
    refine o_end ?_
    refine za1 ?_
    refine c_seq ?_
    refine c_true (congrArg Value.bool hr10.lt) ?_
    refine zan ?_
    refine za1 ?_
    refine c_seq ?_
    refine zah ?_
    refine c_seq ?_
    refine za0 ?_
    refine o_fact (p := Sh A1 l1.length l1.length) (fun w h => f_sh (dk := (Kd.int .i64)) h (fun w h => R1.now Z h)) (fun hq17 => ?_)
    refine o_q rfl rfl (q_ix Try.underlying25 Z3 rfl rfl hq17 hr10.get) ?_
    refine o_q rfl rfl (q_lde (off := 0) Y3 rfl rfl (fun w h => R1.now Z h) hr10.get (fun _ _ h => h) rfl) ?_
    refine o_q rfl rfl (q_asg rfl) ?_
    refine o_end ?_
    refine za1 ?_
    refine za0 ?_
    refine o_q rfl rfl (za2 rfl) ?_
    refine o_q rfl rfl (za2 rfl) ?_
    refine o_q rfl rfl (za2 rfl) ?_
    refine o_fact (p := Sh A0 l0.length l0.length) (fun w h => f_sh (dk := (Kd.int .i64)) h (fun w h => R0.now Z h)) (fun hq18 => ?_)
    refine za8 h (fun y20 hg19 h => ?_) rfl
    refine o_q rfl rfl (q_ix Try.underlying25 Z3 rfl rfl hq18 hg19) ?_
    refine o_q rfl rfl (q_lde (off := 0) Y3 rfl rfl (fun w h => R0.now Z h) hg19 (fun _ _ h => h) rfl) ?_
    refine o_e rfl (e_lit (vs := [(0, .int .i64 y20)]) (cs := [.int .i64 y20]) (Kd.int .i64) ([y20] : List Int) Try.underlying25 I3 (by decide) rfl (by decide) rfl rfl (fun _ _ => Kd.zaj _)) (cur2 (fun A21 c22 => ?_))
    refine za8 h (fun l24 ha25 h => ?_) rfl
    refine o_e rfl (e_app (i := 1) (j := 0) Try.underlying25 I3 rfl (by decide) (by decide) rfl rfl rfl rfl rfl ha25) (cur2 (fun A26 c27 => ?_))
    refine o_q rfl rfl (q_asg rfl) ?_
    refine o_end ?_
    refine zao ?_
    refine za1 ?_
    refine za0 ?_
    refine o_q rfl rfl (q_up rfl rfl (hr10.up hm11)) ?_
    refine o_q rfl rfl (za2 rfl) ?_
    refine o_end ?_
    refine zam ys8.length (ys8, l24, i6 + 1, A26, c27) (by rw [← hk16]; exact Nat.lt_succ_self _) ⟨hr10.step, rfl, h⟩ ⟨rfl, rfl, trivial⟩ (fun w h => za7 [1] (by decide) rfl w h) ?_
    repeat (first | exact zac _ _ | refine zak rfl ?_ | refine zad rfl ?_ | refine zal rfl ?_)

/-! ### loop.example/g01098/spec.WordLengths: function 50 -/
def spec_WordLengths.l0 : (List SStep) → (List Int) → Int → Option (((List Int) × Bool) ⊕ ((List Int)))
  | [], l14, i17 => some (.inr l14)
  | y18 :: ys19, l14, i17 => (gt l14 y18.f0).bind fun y37 => (gt l14 y18.f1).bind fun y39 => if 2000 < w64 (y37 + y39) then (some (.inl (([] : List Int), false))) else ((ap l14 ([w64 (y37 + y39)] : List Int)).bind fun l44 => spec_WordLengths.l0 ys19 l44 (i17 + 1))
def spec_WordLengths.f (k : Nat) (a0_0 : Int) (l0_1 : List SStep) (l0_2 : List Int) (l1 : List Int) : Option ((List Int) × Bool) := (spec_plGood.f k a0_0 l0_1 l0_2).bind fun b4 => if b4 = true then (if (l1.length : Int) ≠ a0_0 then (some (([] : List Int), false)) else ((spec_l1All.f l1 0 2000).bind fun b8 => if b8 = true then ((spec_l1Own.f l1).bind fun l11 => (spec_WordLengths.l0 l0_1 l11 0).bind fun o_ => match o_ with | .inl r_ => some r_ | .inr l14 => (spec_moPick.f l14 l0_2).bind fun l29 => some (l29, true)) else (some (([] : List Int), false)))) else (some (([] : List Int), false))
set_option maxHeartbeats 600000 in
set_option maxRecDepth 100000 in
theorem spec_WordLengths.calls (k : Nat) {w0 ws : World} {P0 : Nat → Prop} (a0_0 : Int) (A0_1 : Option Addr) (c0_1 : Nat) (n0_1 : Nat) (l0_1 : List SStep) (A0_2 : Option Addr) (c0_2 : Nat) (n0_2 : Nat) (l0_2 : List Int) (A1 : Option Addr) (c1 : Nat) (n1 : Nat) (l1 : List Int) (Z : Below w0.heap.size w0 ws) (hF : Fr w0 ws P0 [] ws) (R0_1 : Stable ws P0 (fun w => Kd.C kStep w A0_1 n0_1 l0_1)) (hc0_1 : n0_1 ≤ c0_1) (R0_2 : Stable ws P0 (fun w => Kd.C (Kd.int .i64) w A0_2 n0_2 l0_2)) (hc0_2 : n0_2 ≤ c0_2) (R1 : Stable ws P0 (fun w => Kd.C (Kd.int .i64) w A1 n1 l1)) (hc1 : n1 ≤ c1) (r_1 : List Int) (r_4 : Bool) (h : spec_WordLengths.f k a0_0 l0_1 l0_2 l1 = some (r_1, r_4)) :
    Calls Try.prog 50 #[.agg #[.int .i64 a0_0, .slice A0_1 n0_1 c0_1, .slice A0_2 n0_2 c0_2], .slice A1 n1 c1] ws (Post1 w0 ws P0 (fun ((q_2, q_3) : (Option Addr) × Nat) => .tuple #[.slice q_2 r_1.length q_3, .bool r_4]) (fun ((q_2, q_3) : (Option Addr) × Nat) => [row (Kd.int .i64) 3 (.slice q_2 r_1.length q_3) r_1])) := by
  unfold spec_WordLengths.f at h
  obtain rfl := (R0_1 ws (KeptB.refl _ _)).1
  obtain rfl := (R0_2 ws (KeptB.refl _ _)).1
  obtain rfl := (R1 ws (KeptB.refl _ _)).1
  refine enter Try.func50 rfl Try.ntmps50 rfl hF ?_
  refine c_seq ?_
  refine za0 ?_
  refine o_e rfl (e_box rfl) (fun g1 => ?_)
  refine o_q rfl rfl (q_asg rfl) ?_
  refine o_q rfl rfl (q_asg rfl) ?_
  refine o_end ?_
  refine za1 ?_
  refine c_seq ?_
  refine c_seq ?_
  refine za0 ?_
  refine o_q rfl rfl (q_ldB G27 Z27 rfl (fun w h => h.zai (i := 0) rfl) rfl) ?_
  refine za8 h (fun b4 hx3 h => ?_) rfl
  refine o_e rfl (zaa 0 Z Try.func93 N93 rfl rfl rfl (fun w P1 hF hB hS hT => spec_plGood.calls k a0_0 A0_1 c0_1 l0_1.length l0_1 A0_2 c0_2 l0_2.length l0_2 hB hF (hS _ R0_1) hc0_1 (hS _ R0_2) hc0_2 _ hx3)) (fun _ => ?_)
  refine o_q rfl rfl (q_not rfl) ?_
  refine o_q rfl rfl (za2 rfl) ?_
  refine byB b4 (fun hb5 => ?_) (fun hb5 => ?_)
  · replace h := bb_t hb5 h
    refine o_w (za4 rfl rfl rfl (congrArg (fun b => Value.bool (!(b))) hb5)) rfl (za2 rfl) ?_
    refine o_w (za4 rfl rfl rfl (congrArg (fun b => Value.bool (!(b))) hb5)) rfl (q_len Try.underlying25 rfl) ?_
    refine o_w (za4 rfl rfl rfl (congrArg (fun b => Value.bool (!(b))) hb5)) rfl (q_f F27_0 rfl) ?_
    refine o_w (za4 rfl rfl rfl (congrArg (fun b => Value.bool (!(b))) hb5)) rfl (q_ldb Y3 rfl (fun w h => h.zai (i := 0) rfl) rfl) ?_
    refine o_w (za4 rfl rfl rfl (congrArg (fun b => Value.bool (!(b))) hb5)) rfl (q_neq rfl rfl) ?_
    refine o_q rfl rfl (q_pick false (congrArg (fun b => Value.bool (!(b))) hb5) rfl) ?_
    refine o_q rfl rfl (za2 rfl) ?_
    refine byB (decide ((l1.length : Int) ≠ a0_0)) (fun hb6 => ?_) (fun hb6 => ?_)
    · replace h := br_t hb6 h
      refine @o_n _ _ _ _ _ _ _ _ _ _ _ 21 (za3 rfl rfl rfl (congrArg Value.bool hb6) rfl) (Eq.refl (some 21)) ?_
      refine @o_n _ _ _ _ _ _ _ _ _ _ _ 22 (za3 rfl rfl rfl (congrArg Value.bool hb6) rfl) (Eq.refl (some 22)) ?_
      refine @o_n _ _ _ _ _ _ _ _ _ _ _ 23 (za3 rfl rfl rfl (congrArg Value.bool hb6) rfl) (Eq.refl (some 23)) ?_
      refine o_q rfl rfl (q_pick true (congrArg Value.bool hb6) rfl) ?_
      refine o_end ?_
      refine za1 ?_
      refine c_true rfl ?_
      refine c_seq ?_
      refine za0 ?_
      refine o_q rfl rfl (q_asg rfl) ?_
      refine o_q rfl rfl (q_asg rfl) ?_
      refine o_end ?_
      refine za1 ?_
      refine c_ret ?_
      refine za5 ?_
      refine x_nil (Kd.int .i64) 3 ?_
      have e0_ := Option.some.inj h; clear h
      have d0_ := (Prod.mk.inj e0_).1; have e1_ := (Prod.mk.inj e0_).2; clear e0_; subst d0_
      subst e1_
      exact x_r2 (none, 0) Try.results50 (zab rfl) (zab rfl) rfl (fun w h => za7 [0] (by decide) rfl w h)
    · replace h := br_f hb6 h
      refine o_w (za4 rfl rfl rfl (congrArg Value.bool hb6)) rfl (za2 rfl) ?_
      refine za8 h (fun b8 hx7 h => ?_) rfl
      refine o_ew (za4 rfl rfl rfl (congrArg Value.bool hb6)) (zaa 0 Z Try.func133 N133 rfl rfl rfl (fun w P1 hF hB hS hT => spec_l1All.calls A1 c1 l1.length l1 0 2000 hB hF (hS _ R1) hc1 _ hx7)) (fun _ => ?_)
      refine o_w (za4 rfl rfl rfl (congrArg Value.bool hb6)) rfl (q_not rfl) ?_
      refine o_q rfl rfl (q_pick false (congrArg Value.bool hb6) rfl) ?_
      refine o_end ?_
      refine za1 ?_
      refine zas _ rfl (fun hb9 => ?_) (fun hb9 => ?_)
      · replace hb9 := nt_t hb9
        replace h := bb_f hb9 h
        refine c_seq ?_
        refine za0 ?_
        refine o_q rfl rfl (q_asg rfl) ?_
        refine o_q rfl rfl (q_asg rfl) ?_
        refine o_end ?_
        refine za1 ?_
        refine c_ret ?_
        refine za5 ?_
        refine x_nil (Kd.int .i64) 3 ?_
        have e0_ := Option.some.inj h; clear h
        have d0_ := (Prod.mk.inj e0_).1; have e1_ := (Prod.mk.inj e0_).2; clear e0_; subst d0_
        subst e1_
        exact x_r2 (none, 0) Try.results50 (zab rfl) (zab rfl) rfl (fun w h => za7 [0] (by decide) rfl w h)
      · replace hb9 := nt_f hb9
        replace h := bb_t hb9 h
        refine zan ?_
        refine za1 ?_
        refine c_seq ?_
        refine za0 ?_
        refine o_q rfl rfl (za2 rfl) ?_
        refine za8 h (fun l11 hx10 h => ?_) rfl
        refine o_e rfl (zaa 0 Z Try.func96 N96 rfl rfl rfl (fun w P1 hF hB hS hT => spec_l1Own.calls A1 c1 l1.length l1 hB hF (hS _ R1) hc1 _ hx10)) (cur2 (fun A12 c13 => ?_))
        refine o_q rfl rfl (q_asg rfl) ?_
        refine o_end ?_
        refine za1 ?_
        refine c_seq ?_
        refine c_seq ?_
        refine za0 ?_
        refine o_q rfl rfl (q_f F27_1 rfl) ?_
        refine o_q rfl rfl (q_ldb Y24 rfl (fun w h => h.zai (i := 1) rfl) rfl) ?_
        refine o_q rfl rfl (q_len Try.underlying24 rfl) ?_
        refine o_q rfl rfl (za2 rfl) ?_
        refine o_end ?_
        refine za1 ?_
        refine zah ?_
        refine za8 h (fun o25 hl24 hR23 => ?_) rfl
        clear h
        refine c_fact (p := l0_1.length ≤ 9223372036854775807) (fun w h => (R0_1.now Z h).2.1) (fun hm22 => ?_)
        refine zat (σ := (List SStep) × (List Int) × Int × (Option Addr) × Nat) (fun k20 ((ys19, l14, i17, A15, c16) : (List SStep) × (List Int) × Int × (Option Addr) × Nat) => Rg l0_1 i17 ys19 ∧ ys19.length = k20 ∧ spec_WordLengths.l0 ys19 l14 i17 = some o25) [4, 5, 6, 8, 9, 30, 31, 32, 33, 34, 35, 36, 37, 38, 39, 40, 41, 42, 43, 44, 45, 46, 47, 48, 49, 50, 51] (fun ((ys19, l14, i17, A15, c16) : (List SStep) × (List Int) × Int × (Option Addr) × Nat) => [(6, .slice A15 l14.length c16), (30, .int .i64 i17)]) (fun ((ys19, l14, i17, A15, c16) : (List SStep) × (List Int) × Int × (Option Addr) × Nat) => [row (Kd.int .i64) 3 (.slice A15 l14.length c16) l14, box g1 27 #[.int .i64 a0_0, .slice A0_1 l0_1.length c0_1, .slice A0_2 l0_2.length c0_2]]) l0_1.length (l0_1, l11, 0, A12, c13) ⟨Rg.start _, rfl, hl24⟩ ⟨rfl, rfl, trivial⟩ (fun w h => h) ?_
        refine fun k20 => cur5 (listC (fun l14 i17 A15 c16 U26 hJ_ => ?_) (fun y18 ys19 l14 i17 A15 c16 U26 hJ_ => ?_))
        · skip
          clear hl24
          have hr21 := hJ_.1; have hk27 := hJ_.2.1; have h := hJ_.2.2; clear hJ_
          replace h : spec_WordLengths.l0 [] l14 i17 = some o25 := h
          rw [spec_WordLengths.l0] at h
          refine c_seq ?_
          refine za0 ?_
          refine o_q rfl rfl (q_lss rfl rfl) ?_
          refine o_end ?_
          refine za1 ?_
          refine c_seq ?_
          refine c_false (congrArg Value.bool hr21.ge) ?_
          refine c_exit ?_
          refine za6 ?_
          refine za6 ?_
          have e_ := Option.some.inj h; replace h := hR23; rw [← e_] at h; clear e_
          refine x_hit ?_
          refine za1 ?_
          refine c_seq ?_
          refine za0 ?_
          refine o_q rfl rfl (za2 rfl) ?_
          refine o_q rfl rfl (q_f F27_2 rfl) ?_
          refine o_q rfl rfl (q_ldb Y25 rfl (fun w h => h.zai (i := 1) rfl) rfl) ?_
          refine za8 h (fun l29 hx28 h => ?_) rfl
          refine o_e rfl (zaa 0 Z Try.func134 N134 rfl rfl rfl (fun w P1 hF hB hS hT => spec_moPick.calls A15 c16 l14.length l14 A0_2 c0_2 l0_2.length l0_2 hB hF (hT 0 _ rfl).row (hT 0 _ rfl).cap (hS _ R0_2) hc0_2 _ hx28)) (cur2 (fun A30 c31 => ?_))
          refine o_q rfl rfl (q_asg rfl) ?_
          refine o_q rfl rfl (q_asg rfl) ?_
          refine o_end ?_
          refine za1 ?_
          refine c_ret ?_
          have e0_ := Option.some.inj h; clear h
          have d0_ := (Prod.mk.inj e0_).1; have e1_ := (Prod.mk.inj e0_).2; clear e0_; subst d0_
          subst e1_
          exact x_r2 (A30, c31) Try.results50 (zab rfl) (zab rfl) rfl (fun w h => za7 [0] (by decide) rfl w h)
        · skip
          clear hl24
          have hr21 := hJ_.1; have hk27 := hJ_.2.1; have h := hJ_.2.2; clear hJ_
          replace h : spec_WordLengths.l0 (y18 :: ys19) l14 i17 = some o25 := h
          rw [spec_WordLengths.l0] at h
          refine c_seq ?_
          refine za0 ?_
          refine o_q rfl rfl (q_lss rfl rfl) ?_
          refine o_end ?_
          refine za1 ?_
          refine c_seq ?_
          refine c_true (congrArg Value.bool hr21.lt) ?_
          refine zan ?_
          refine za1 ?_
          refine c_seq ?_
          refine zah ?_
          refine c_seq ?_
          refine za0 ?_
          refine o_fact (p := Sh A0_1 l0_1.length l0_1.length) (fun w h => f_sh (dk := kStep) h (fun w h => R0_1.now Z h)) (fun hq32 => ?_)
          refine o_q rfl rfl (q_ix Try.underlying24 Z89 rfl rfl hq32 hr21.get) ?_
          refine o_q rfl rfl (q_ldE G89 Z89 rfl rfl (fun w h => R0_1.now Z h) hr21.get (fun _ _ h => h) rfl) ?_
          refine o_e rfl (e_alloc V89 rfl) (fun g33 => ?_)
          refine o_e rfl (e_storeA (i := 0) rfl rfl rfl Z89 rfl rfl) (fun _ => ?_)
          refine o_end ?_
          refine za1 ?_
          refine c_seq ?_
          refine a_start (ds := []) MO rfl ?_
          refine za9 0 rfl rfl rfl (by kernel_rfl) (fun _ _ _ h => h) (za2 rfl) ?_
          refine za9 1 rfl rfl rfl (by kernel_rfl) (fun _ _ _ h => h) (q_f F89_0 rfl) ?_
          refine a_take 2 rfl rfl rfl (by kernel_rfl) (fun _ _ _ h => h) (fun w h => h) (q_ldb Y3 rfl (fun w h => h.zai (i := 0) rfl) rfl) ?_
          refine a_fact (p := Sh A15 l14.length l14.length) (fun w h => f_sh (dk := (Kd.int .i64)) h (fun w h => h.zaq (i := 1) rfl)) (fun hq35 => ?_)
          refine za8 h (fun y37 hg36 h => ?_) rfl
          refine za9 3 rfl rfl rfl (by kernel_rfl) (fun _ _ _ h => h) (q_ix Try.underlying25 Z3 rfl rfl hq35 hg36) ?_
          refine a_take 4 rfl rfl rfl (by kernel_rfl) (fun _ _ _ h => h) (fun w h => h) (q_lde (off := 0) Y3 rfl rfl (fun w h => h.zaq (i := 1) rfl) hg36 (fun _ _ h => h) rfl) ?_
          refine za9 5 rfl rfl rfl (by kernel_rfl) (fun _ _ _ h => h) (za2 rfl) ?_
          refine za9 6 rfl rfl rfl (by kernel_rfl) (fun _ _ _ h => h) (q_f F89_1 rfl) ?_
          refine a_take 7 rfl rfl rfl (by kernel_rfl) (fun _ _ _ h => h) (fun w h => h) (q_ldb Y3 rfl (fun w h => h.zai (i := 0) rfl) rfl) ?_
          refine za8 h (fun y39 hg38 h => ?_) rfl
          refine za9 8 rfl rfl rfl (by kernel_rfl) (fun _ _ _ h => h) (q_ix Try.underlying25 Z3 rfl rfl hq35 hg38) ?_
          refine a_take 9 rfl rfl rfl (by kernel_rfl) (fun _ _ _ h => h) (fun w h => h) (q_lde (off := 0) Y3 rfl rfl (fun w h => h.zaq (i := 1) rfl) hg38 (fun _ _ h => h) rfl) ?_
          refine za9 10 rfl rfl rfl (by kernel_rfl) (fun _ _ _ h => h) (q_add64 rfl rfl) ?_
          refine za9 11 rfl rfl rfl (by kernel_rfl) (fun _ _ _ h => h) (q_asg rfl) ?_
          refine a_done (by kernel_rfl) ?_
          refine za1 ?_
          refine c_seq ?_
          refine c_seq ?_
          refine za0 ?_
          refine o_q rfl rfl (za2 rfl) ?_
          refine o_q rfl rfl (q_gtr rfl rfl) ?_
          refine o_end ?_
          refine za1 ?_
          refine zas _ rfl (fun hb40 => ?_) (fun hb40 => ?_)
          · skip
            replace h := br_t hb40 h
            refine c_seq ?_
            refine za0 ?_
            refine o_q rfl rfl (q_asg rfl) ?_
            refine o_q rfl rfl (q_asg rfl) ?_
            refine o_end ?_
            refine za1 ?_
            refine c_ret ?_
            refine za5 ?_
            refine zaf ?_
            refine za5 ?_
            refine za5 ?_
            have e_ := Option.some.inj h; replace h := hR23; rw [← e_] at h; clear e_
            refine zaf ?_
            refine za5 ?_
            refine x_nil (Kd.int .i64) 3 ?_
            have e0_ := Option.some.inj h; clear h
            have d0_ := (Prod.mk.inj e0_).1; have e1_ := (Prod.mk.inj e0_).2; clear e0_; subst d0_
            subst e1_
            exact x_r2 (none, 0) Try.results50 (zab rfl) (zab rfl) rfl (fun w h => za7 [0] (by decide) rfl w h)
          · skip
            replace h := br_f hb40 h
            refine zan ?_
            refine za1 ?_
            refine za0 ?_
            refine o_q rfl rfl (za2 rfl) ?_
            refine o_q rfl rfl (za2 rfl) ?_
            refine o_e rfl (e_lit (vs := [(0, .int .i64 (w64 (y37 + y39)))]) (cs := [.int .i64 (w64 (y37 + y39))]) (Kd.int .i64) ([w64 (y37 + y39)] : List Int) Try.underlying25 I3 (by decide) rfl (by decide) rfl rfl (fun _ _ => Kd.zaj _)) (cur2 (fun A41 c42 => ?_))
            refine za8 h (fun l44 ha45 h => ?_) rfl
            refine o_e rfl (e_app (i := 2) (j := 0) Try.underlying25 I3 rfl (by decide) (by decide) rfl rfl rfl rfl rfl ha45) (cur2 (fun A46 c47 => ?_))
            refine o_q rfl rfl (q_asg rfl) ?_
            refine o_end ?_
            refine zao ?_
            refine za1 ?_
            refine za0 ?_
            refine o_q rfl rfl (q_up rfl rfl (hr21.up hm22)) ?_
            refine o_q rfl rfl (za2 rfl) ?_
            refine o_end ?_
            refine zam ys19.length (ys19, l44, i17 + 1, A46, c47) (by rw [← hk27]; exact Nat.lt_succ_self _) ⟨hr21.step, rfl, h⟩ ⟨rfl, rfl, trivial⟩ (fun w h => za7 [2, 3] (by decide) rfl w h) ?_
            repeat (first | exact zac _ _ | refine zak rfl ?_ | refine zad rfl ?_ | refine zal rfl ?_)
  · replace h := bb_f hb5 h
    refine @o_n _ _ _ _ _ _ _ _ _ _ _ 14 (za3 rfl rfl rfl (congrArg (fun b => Value.bool (!(b))) hb5) rfl) (Eq.refl (some 14)) ?_
    refine @o_n _ _ _ _ _ _ _ _ _ _ _ 15 (za3 rfl rfl rfl (congrArg (fun b => Value.bool (!(b))) hb5) rfl) (Eq.refl (some 15)) ?_
    refine @o_n _ _ _ _ _ _ _ _ _ _ _ 16 (za3 rfl rfl rfl (congrArg (fun b => Value.bool (!(b))) hb5) rfl) (Eq.refl (some 16)) ?_
    refine @o_n _ _ _ _ _ _ _ _ _ _ _ 17 (za3 rfl rfl rfl (congrArg (fun b => Value.bool (!(b))) hb5) rfl) (Eq.refl (some 17)) ?_
    refine @o_n _ _ _ _ _ _ _ _ _ _ _ 18 (za3 rfl rfl rfl (congrArg (fun b => Value.bool (!(b))) hb5) rfl) (Eq.refl (some 18)) ?_
    refine o_q rfl rfl (q_pick true (congrArg (fun b => Value.bool (!(b))) hb5) rfl) ?_
    refine o_q rfl rfl (za2 rfl) ?_
    refine @o_n _ _ _ _ _ _ _ _ _ _ _ 21 (za3 rfl rfl rfl rfl rfl) (Eq.refl (some 21)) ?_
    refine @o_n _ _ _ _ _ _ _ _ _ _ _ 22 (za3 rfl rfl rfl rfl rfl) (Eq.refl (some 22)) ?_
    refine @o_n _ _ _ _ _ _ _ _ _ _ _ 23 (za3 rfl rfl rfl rfl rfl) (Eq.refl (some 23)) ?_
    refine o_q rfl rfl (q_pick true rfl rfl) ?_
    refine o_end ?_
    refine za1 ?_
    refine c_true rfl ?_
    refine c_seq ?_
    refine za0 ?_
    refine o_q rfl rfl (q_asg rfl) ?_
    refine o_q rfl rfl (q_asg rfl) ?_
    refine o_end ?_
    refine za1 ?_
    refine c_ret ?_
    refine za5 ?_
    refine x_nil (Kd.int .i64) 3 ?_
    have e0_ := Option.some.inj h; clear h
    have d0_ := (Prod.mk.inj e0_).1; have e1_ := (Prod.mk.inj e0_).2; clear e0_; subst d0_
    subst e1_
    exact x_r2 (none, 0) Try.results50 (zab rfl) (zab rfl) rfl (fun w h => za7 [0] (by decide) rfl w h)

/-! ### loop.example/g01098/laws.rSame: function 51 -/
def laws_rSame.l0 (l1 : List Int) : (List Int) → Int → Option ((Bool) ⊕ (Unit))
  | [], i2 => some (.inr ())
  | y3 :: ys4, i2 => (gt l1 i2).bind fun y16 => if y3 ≠ y16 then (some (.inl false)) else (laws_rSame.l0 l1 ys4 (i2 + 1))
def laws_rSame.f (l0 : List Int) (l1 : List Int) : Option Bool := if (l0.length : Int) ≠ (l1.length : Int) then (some false) else ((laws_rSame.l0 l1 l0 0).bind fun o_ => match o_ with | .inl r_ => some r_ | .inr _ => some true)
set_option maxHeartbeats 600000 in
set_option maxRecDepth 100000 in
theorem laws_rSame.calls {w0 ws : World} {P0 : Nat → Prop} (A0 : Option Addr) (c0 : Nat) (n0 : Nat) (l0 : List Int) (A1 : Option Addr) (c1 : Nat) (n1 : Nat) (l1 : List Int) (Z : Below w0.heap.size w0 ws) (hF : Fr w0 ws P0 [] ws) (R0 : Stable ws P0 (fun w => Kd.C (Kd.int .i64) w A0 n0 l0)) (hc0 : n0 ≤ c0) (R1 : Stable ws P0 (fun w => Kd.C (Kd.int .i64) w A1 n1 l1)) (hc1 : n1 ≤ c1) (r_1 : Bool) (h : laws_rSame.f l0 l1 = some r_1) :
    Calls Try.prog 51 #[.slice A0 n0 c0, .slice A1 n1 c1] ws (Post1 w0 ws P0 (fun (_ : Unit) => .bool r_1) (fun (_ : Unit) => [])) := by
  unfold laws_rSame.f at h
  obtain rfl := (R0 ws (KeptB.refl _ _)).1
  obtain rfl := (R1 ws (KeptB.refl _ _)).1
  refine enter Try.func51 rfl Try.ntmps51 rfl hF ?_
  refine c_seq ?_
  refine za0 ?_
  refine o_q rfl rfl (q_asg rfl) ?_
  refine o_end ?_
  refine za1 ?_
  refine c_seq ?_
  refine c_seq ?_
  refine za0 ?_
  refine o_q rfl rfl (za2 rfl) ?_
  refine o_q rfl rfl (q_len Try.underlying25 rfl) ?_
  refine o_q rfl rfl (za2 rfl) ?_
  refine o_q rfl rfl (q_len Try.underlying25 rfl) ?_
  refine o_q rfl rfl (q_neq rfl rfl) ?_
  refine o_end ?_
  refine za1 ?_
  refine zas _ rfl (fun hb1 => ?_) (fun hb1 => ?_)
  · skip
    replace h := br_t hb1 h
    refine c_seq ?_
    refine za0 ?_
    refine o_q rfl rfl (q_asg rfl) ?_
    refine o_end ?_
    refine za1 ?_
    refine c_ret ?_
    refine za5 ?_
    have e0_ := Option.some.inj h; clear h
    subst e0_
    exact x_r1 () Try.results51 (zab rfl) rfl (fun w h => za7 [] (by decide) rfl w h)
  · skip
    replace h := br_f hb1 h
    refine zan ?_
    refine za1 ?_
    refine c_seq ?_
    refine c_seq ?_
    refine za0 ?_
    refine o_q rfl rfl (za2 rfl) ?_
    refine o_q rfl rfl (q_len Try.underlying25 rfl) ?_
    refine o_q rfl rfl (za2 rfl) ?_
    refine o_end ?_
    refine za1 ?_
    refine zah ?_
    refine za8 h (fun o10 hl9 hR8 => ?_) rfl
    clear h
    refine c_fact (p := l0.length ≤ 9223372036854775807) (fun w h => (R0.now Z h).2.1) (fun hm7 => ?_)
    refine zat (σ := (List Int) × Int) (fun k5 ((ys4, i2) : (List Int) × Int) => Rg l0 i2 ys4 ∧ ys4.length = k5 ∧ laws_rSame.l0 l1 ys4 i2 = some o10) [4, 5, 13, 14, 15, 16, 17, 18, 19, 20, 21, 22, 23, 24, 25] (fun ((ys4, i2) : (List Int) × Int) => [(13, .int .i64 i2)]) (fun ((ys4, i2) : (List Int) × Int) => []) l0.length (l0, 0) ⟨Rg.start _, rfl, hl9⟩ ⟨rfl, trivial⟩ (fun w h => h) ?_
    refine fun k5 => cur2 (listC (fun i2 U11 hJ_ => ?_) (fun y3 ys4 i2 U11 hJ_ => ?_))
    · skip
      clear hl9
      have hr6 := hJ_.1; have hk12 := hJ_.2.1; have h := hJ_.2.2; clear hJ_
      replace h : laws_rSame.l0 l1 [] i2 = some o10 := h
      rw [laws_rSame.l0] at h
      refine c_seq ?_
      refine za0 ?_
      refine o_q rfl rfl (q_lss rfl rfl) ?_
      refine o_end ?_
      refine za1 ?_
      refine c_seq ?_
      refine c_false (congrArg Value.bool hr6.ge) ?_
      refine c_exit ?_
      refine za6 ?_
      refine za6 ?_
      have e_ := Option.some.inj h; replace h := hR8; rw [← e_] at h; clear e_
      refine x_hit ?_
      refine za1 ?_
      refine c_seq ?_
      refine za0 ?_
      refine o_q rfl rfl (q_asg rfl) ?_
      refine o_end ?_
      refine za1 ?_
      refine c_ret ?_
      have e0_ := Option.some.inj h; clear h
      subst e0_
      exact x_r1 () Try.results51 (zab rfl) rfl (fun w h => za7 [] (by decide) rfl w h)
    · skip
      clear hl9
      have hr6 := hJ_.1; have hk12 := hJ_.2.1; have h := hJ_.2.2; clear hJ_
      replace h : laws_rSame.l0 l1 (y3 :: ys4) i2 = some o10 := h
      rw [laws_rSame.l0] at h
      refine c_seq ?_
      refine za0 ?_
      refine o_q rfl rfl (q_lss rfl rfl) ?_
      refine o_end ?_
      refine za1 ?_
      refine c_seq ?_
      refine c_true (congrArg Value.bool hr6.lt) ?_
      refine zan ?_
      refine za1 ?_
      refine c_seq ?_
      refine zah ?_
      refine c_seq ?_
      refine za0 ?_
      refine o_q rfl rfl (za2 rfl) ?_
      refine o_q rfl rfl (q_asg rfl) ?_
      refine o_end ?_
      refine za1 ?_
      refine c_seq ?_
      refine a_start (ds := []) MO rfl ?_
      refine za9 0 rfl rfl rfl (by kernel_rfl) (fun _ _ _ h => h) (za2 rfl) ?_
      refine za9 1 rfl rfl rfl (by kernel_rfl) (fun _ _ _ h => h) (za2 rfl) ?_
      refine a_fact (p := Sh A0 l0.length l0.length) (fun w h => f_sh (dk := (Kd.int .i64)) h (fun w h => R0.now Z h)) (fun hq13 => ?_)
      refine za9 2 rfl rfl rfl (by kernel_rfl) (fun _ _ _ h => h) (q_ix Try.underlying25 Z3 rfl rfl hq13 hr6.get) ?_
      refine a_take 3 rfl rfl rfl (by kernel_rfl) (fun _ _ _ h => h) (fun w h => h) (q_lde (off := 0) Y3 rfl rfl (fun w h => R0.now Z h) hr6.get (fun _ _ h => h) rfl) ?_
      refine za9 4 rfl rfl rfl (by kernel_rfl) (fun _ _ _ h => h) (za2 rfl) ?_
      refine za9 5 rfl rfl rfl (by kernel_rfl) (fun _ _ _ h => h) (za2 rfl) ?_
      refine a_fact (p := Sh A1 l1.length l1.length) (fun w h => f_sh (dk := (Kd.int .i64)) h (fun w h => R1.now Z h)) (fun hq14 => ?_)
      refine za8 h (fun y16 hg15 h => ?_) rfl
      refine za9 6 rfl rfl rfl (by kernel_rfl) (fun _ _ _ h => h) (q_ix Try.underlying25 Z3 rfl rfl hq14 hg15) ?_
      refine a_take 7 rfl rfl rfl (by kernel_rfl) (fun _ _ _ h => h) (fun w h => h) (q_lde (off := 0) Y3 rfl rfl (fun w h => R1.now Z h) hg15 (fun _ _ h => h) rfl) ?_
      refine za9 8 rfl rfl rfl (by kernel_rfl) (fun _ _ _ h => h) (q_neq rfl rfl) ?_
      refine a_done (by kernel_rfl) ?_
      refine za1 ?_
      refine zas _ rfl (fun hb17 => ?_) (fun hb17 => ?_)
      · skip
        replace h := br_t hb17 h
        refine c_seq ?_
        refine za0 ?_
        refine o_q rfl rfl (q_asg rfl) ?_
        refine o_end ?_
        refine za1 ?_
        refine c_ret ?_
        refine zaf ?_
        refine za5 ?_
        refine za5 ?_
        have e_ := Option.some.inj h; replace h := hR8; rw [← e_] at h; clear e_
        refine zaf ?_
        refine za5 ?_
        have e0_ := Option.some.inj h; clear h
        subst e0_
        exact x_r1 () Try.results51 (zab rfl) rfl (fun w h => za7 [] (by decide) rfl w h)
      · skip
        replace h := br_f hb17 h
        refine zan ?_
        refine zao ?_
        refine za1 ?_
        refine za0 ?_
        refine o_q rfl rfl (q_up rfl rfl (hr6.up hm7)) ?_
        refine o_q rfl rfl (za2 rfl) ?_
        refine o_end ?_
        refine zam ys4.length (ys4, i2 + 1) (by rw [← hk12]; exact Nat.lt_succ_self _) ⟨hr6.step, rfl, h⟩ ⟨rfl, trivial⟩ (fun w h => za7 [] (by decide) rfl w h) ?_
        repeat (first | exact zac _ _ | refine zak rfl ?_ | refine zad rfl ?_ | refine zal rfl ?_)

/-! ### (*loop.example/g01098/impl.Plan).outputExponents: function 135 -/
def impl_Plan_outputExponents.l0 (l2 : List (List Int)) : (List Int) → (List (List Int)) → Int → Option (List (List Int))
  | [], l9, i13 => some l9
  | y14 :: ys15, l9, i13 => (gt l2 y14).bind fun y27 => (slices_Clone_int_int.f y27).bind fun l30 => (ap l9 ([l30] : List (List Int))).bind fun l37 => impl_Plan_outputExponents.l0 l2 ys15 l37 (i13 + 1)
def impl_Plan_outputExponents.f (a0_0 : Int) (l0_1 : List SStep) (l0_2 : List Int) : Option (List (List Int)) := (impl_Plan_exponents.f a0_0 l0_1 l0_2).bind fun l2 => (impl_Plan_outputExponents.l0 l2 l0_2 ([] : List (List Int)) 0).bind fun l9 => some l9
set_option maxHeartbeats 600000 in
set_option maxRecDepth 100000 in
theorem impl_Plan_outputExponents.calls {w0 ws : World} {P0 : Nat → Prop} (g0 : Nat) (a0_0 : Int) (A0_1 : Option Addr) (c0_1 : Nat) (n0_1 : Nat) (l0_1 : List SStep) (A0_2 : Option Addr) (c0_2 : Nat) (n0_2 : Nat) (l0_2 : List Int) (Z : Below w0.heap.size w0 ws) (hF : Fr w0 ws P0 [] ws) (R0_1 : Stable ws P0 (fun w => Kd.C kStep w A0_1 n0_1 l0_1)) (hc0_1 : n0_1 ≤ c0_1) (R0_2 : Stable ws P0 (fun w => Kd.C (Kd.int .i64) w A0_2 n0_2 l0_2)) (hc0_2 : n0_2 ≤ c0_2) (B0 : Stable ws P0 (fun w => w.heap[g0]? = some (.cells #[.int .i64 a0_0, .slice A0_1 n0_1 c0_1, .slice A0_2 n0_2 c0_2] 27 (0, 0)))) (r_1 : List (List Int)) (h : impl_Plan_outputExponents.f a0_0 l0_1 l0_2 = some r_1) :
    Calls Try.prog 135 #[.pointer (some ⟨g0, 0, none⟩)] ws (Post1 w0 ws P0 (fun ((q_2, q_3, q_4) : (Option Addr) × Nat × Hd) => .slice q_2 r_1.length q_3) (fun ((q_2, q_3, q_4) : (Option Addr) × Nat × Hd) => [row (gk 3 (Kd.int .i64)) 25 (.slice q_2 r_1.length q_3) (zp q_4 r_1)])) := by
  unfold impl_Plan_outputExponents.f at h
  obtain rfl := (R0_1 ws (KeptB.refl _ _)).1
  obtain rfl := (R0_2 ws (KeptB.refl _ _)).1
  refine enter Try.func135 rfl Try.ntmps135 rfl hF ?_
  refine c_seq ?_
  refine za0 ?_
  refine o_q rfl rfl (q_asg rfl) ?_
  refine o_end ?_
  refine za1 ?_
  refine c_seq ?_
  refine za0 ?_
  refine o_q rfl rfl (za2 rfl) ?_
  refine za8 h (fun l2 hx1 h => ?_) rfl
  refine o_e rfl (zaa 0 Z Try.func120 N120 rfl rfl rfl (fun w P1 hF hB hS hT => impl_Plan_exponents.calls g0 a0_0 A0_1 c0_1 l0_1.length l0_1 A0_2 c0_2 l0_2.length l0_2 hB hF (hS _ R0_1) hc0_1 (hS _ R0_2) hc0_2 (hS _ B0) _ hx1)) (cur3 (fun A3 c4 H5 => ?_))
  refine o_e rfl (e_lit0 (gk 3 (Kd.int .i64)) Try.underlying60 I25) (cur2 (fun A6 c7 => ?_))
  refine o_q rfl rfl (q_asg rfl) ?_
  refine o_q rfl rfl (q_asg rfl) ?_
  refine o_end ?_
  refine za1 ?_
  refine c_seq ?_
  refine c_seq ?_
  refine za0 ?_
  refine o_q rfl rfl (za2 rfl) ?_
  refine o_q rfl rfl (q_nil rfl) ?_
  refine o_q rfl rfl (q_f F27_2 rfl) ?_
  refine o_q rfl rfl (q_ldb Y25 rfl (fun w h => B0.now Z h) rfl) ?_
  refine o_q rfl rfl (q_len Try.underlying25 rfl) ?_
  refine o_q rfl rfl (za2 rfl) ?_
  refine o_end ?_
  refine za1 ?_
  refine zah ?_
  refine za8 h (fun o21 hl20 hR19 => ?_) rfl
  clear h
  refine c_fact (p := l0_2.length ≤ 9223372036854775807) (fun w h => (R0_2.now Z h).2.1) (fun hm18 => ?_)
  refine zat (σ := (List Int) × (List (List Int)) × Int × (Option Addr) × Nat × Hd) (fun k16 ((ys15, l9, i13, A10, c11, H12) : (List Int) × (List (List Int)) × Int × (Option Addr) × Nat × Hd) => Rg l0_2 i13 ys15 ∧ ys15.length = k16 ∧ impl_Plan_outputExponents.l0 l2 ys15 l9 i13 = some o21) [4, 6, 15, 16, 17, 18, 19, 20, 21, 22, 23, 24, 25, 26, 27] (fun ((ys15, l9, i13, A10, c11, H12) : (List Int) × (List (List Int)) × Int × (Option Addr) × Nat × Hd) => [(4, .slice A10 l9.length c11), (15, .int .i64 i13)]) (fun ((ys15, l9, i13, A10, c11, H12) : (List Int) × (List (List Int)) × Int × (Option Addr) × Nat × Hd) => [row (gk 3 (Kd.int .i64)) 25 (.slice A10 l9.length c11) (zp H12 l9), row (gk 3 (Kd.int .i64)) 25 (.slice A3 l2.length c4) (zp H5 l2)]) l0_2.length (l0_2, ([] : List (List Int)), 0, A6, c7, ([] : Hd)) ⟨Rg.start _, rfl, hl20⟩ ⟨rfl, rfl, trivial⟩ (fun w h => h) ?_
  refine fun k16 => cur6 (listC (fun l9 i13 A10 c11 H12 U22 hJ_ => ?_) (fun y14 ys15 l9 i13 A10 c11 H12 U22 hJ_ => ?_))
  · skip
    clear hl20
    have hr17 := hJ_.1; have hk23 := hJ_.2.1; have h := hJ_.2.2; clear hJ_
    replace h : impl_Plan_outputExponents.l0 l2 [] l9 i13 = some o21 := h
    rw [impl_Plan_outputExponents.l0] at h
    refine c_seq ?_
    refine za0 ?_
    refine o_q rfl rfl (q_lss rfl rfl) ?_
    refine o_end ?_
    refine za1 ?_
    refine c_seq ?_
    refine c_false (congrArg Value.bool hr17.ge) ?_
    refine c_exit ?_
    refine za6 ?_
    refine za6 ?_
    have e_ := Option.some.inj h; replace h := hR19; rw [← e_] at h; clear e_
    refine x_hit ?_
    refine za1 ?_
    refine c_seq ?_
    refine za0 ?_
    refine o_q rfl rfl (za2 rfl) ?_
    refine o_q rfl rfl (q_asg rfl) ?_
    refine o_end ?_
    refine za1 ?_
    refine c_ret ?_
    have e0_ := Option.some.inj h; clear h
    subst e0_
    exact x_r1 (A10, c11, H12) Try.results135 (zab rfl) rfl (fun w h => za7 [0] (by decide) rfl w h)
  · skip
    clear hl20
    have hr17 := hJ_.1; have hk23 := hJ_.2.1; have h := hJ_.2.2; clear hJ_
    replace h : impl_Plan_outputExponents.l0 l2 (y14 :: ys15) l9 i13 = some o21 := h
    rw [impl_Plan_outputExponents.l0] at h
    refine c_seq ?_
    refine za0 ?_
    refine o_q rfl rfl (q_lss rfl rfl) ?_
    refine o_end ?_
    refine za1 ?_
    refine c_seq ?_
    refine c_true (congrArg Value.bool hr17.lt) ?_
    refine zan ?_
    refine za1 ?_
    refine c_seq ?_
    refine zah ?_
    refine c_seq ?_
    refine za0 ?_
    refine o_fact (p := Sh A0_2 l0_2.length l0_2.length) (fun w h => f_sh (dk := (Kd.int .i64)) h (fun w h => R0_2.now Z h)) (fun hq24 => ?_)
    refine o_q rfl rfl (q_ix Try.underlying25 Z3 rfl rfl hq24 hr17.get) ?_
    refine o_q rfl rfl (q_lde (off := 0) Y3 rfl rfl (fun w h => R0_2.now Z h) hr17.get (fun _ _ h => h) rfl) ?_
    refine o_q rfl rfl (q_asg rfl) ?_
    refine o_end ?_
    refine za1 ?_
    refine za0 ?_
    refine o_q rfl rfl (za2 rfl) ?_
    refine o_q rfl rfl (za2 rfl) ?_
    refine o_q rfl rfl (za2 rfl) ?_
    refine o_fact (p := Sh A3 l2.length (zp H5 l2).length) (fun w h => f_sh (dk := (gk 3 (Kd.int .i64))) h (fun w h => h.zaq (i := 1) rfl)) (fun hq25 => ?_)
    refine za8 h (fun y27 hg26 h => ?_) rfl
    refine o_q rfl rfl (q_ix Try.underlying60 Z25 rfl rfl hq25 (gt_zp hg26)) ?_
    refine o_fact (p := y27.length ≤ hC H5 y14) (fun w h => (K_in (h.zaq (i := 1) rfl) hg26).1) (fun hc28 => ?_)
    refine o_q rfl rfl (q_lde (off := 0) Y25 rfl rfl (fun w h => h.zaq (i := 1) rfl) (gt_zp hg26) (fun _ _ h => h.1) rfl) ?_
    refine za8 h (fun l30 hx29 h => ?_) rfl
    refine o_e rfl (zaa 0 Z Try.func141 N141 rfl rfl rfl (fun w P1 hF hB hS hT => slices_Clone_int_int.calls (hA H5 y14) (hC H5 y14) y27.length y27 hB hF (stab_in (hT 1 _ rfl).row hg26) hc28 _ hx29)) (cur2 (fun A31 c32 => ?_))
    refine o_e rfl (e_litG (j := 0) (ue := 3) (dk := (Kd.int .i64)) (ys := l30) Try.underlying60 I25 rfl rfl rfl) (cur3 (fun A33 c34 H36 => ?_))
    refine za8 h (fun l37 ha38 h => ?_) rfl
    refine o_e rfl (e_appG (i := 2) (j := 0) Try.underlying60 I25 rfl (by decide) rfl rfl rfl rfl rfl ha38) (cur3 (fun A39 c40 H41 => ?_))
    refine o_q rfl rfl (q_asg rfl) ?_
    refine o_end ?_
    refine zao ?_
    refine za1 ?_
    refine za0 ?_
    refine o_q rfl rfl (q_up rfl rfl (hr17.up hm18)) ?_
    refine o_q rfl rfl (za2 rfl) ?_
    refine o_end ?_
    refine zam ys15.length (ys15, l37, i13 + 1, A39, c40, H41) (by rw [← hk23]; exact Nat.lt_succ_self _) ⟨hr17.step, rfl, h⟩ ⟨rfl, rfl, trivial⟩ (fun w h => za7 [2, 3] (by decide) rfl w h) ?_
    repeat (first | exact zac _ _ | refine zak rfl ?_ | refine zad rfl ?_ | refine zal rfl ?_)

/-! ### loop.example/g01098/impl.OutputExponents: function 52 -/
def impl_OutputExponents.f (k : Nat) (a0_0 : Int) (l0_1 : List SStep) (l0_2 : List Int) : Option ((List (List Int)) × Bool) := (impl_IsPlan.f k a0_0 l0_1 l0_2).bind fun b4 => if b4 = true then ((impl_Plan_outputExponents.f a0_0 l0_1 l0_2).bind fun l7 => some (l7, true)) else (some (([] : List (List Int)), false))
set_option maxHeartbeats 600000 in
set_option maxRecDepth 100000 in
theorem impl_OutputExponents.calls (k : Nat) {w0 ws : World} {P0 : Nat → Prop} (a0_0 : Int) (A0_1 : Option Addr) (c0_1 : Nat) (n0_1 : Nat) (l0_1 : List SStep) (A0_2 : Option Addr) (c0_2 : Nat) (n0_2 : Nat) (l0_2 : List Int) (Z : Below w0.heap.size w0 ws) (hF : Fr w0 ws P0 [] ws) (R0_1 : Stable ws P0 (fun w => Kd.C kStep w A0_1 n0_1 l0_1)) (hc0_1 : n0_1 ≤ c0_1) (R0_2 : Stable ws P0 (fun w => Kd.C (Kd.int .i64) w A0_2 n0_2 l0_2)) (hc0_2 : n0_2 ≤ c0_2) (r_1 : List (List Int)) (r_5 : Bool) (h : impl_OutputExponents.f k a0_0 l0_1 l0_2 = some (r_1, r_5)) :
    Calls Try.prog 52 #[.agg #[.int .i64 a0_0, .slice A0_1 n0_1 c0_1, .slice A0_2 n0_2 c0_2]] ws (Post1 w0 ws P0 (fun ((q_2, q_3, q_4) : (Option Addr) × Nat × Hd) => .tuple #[.slice q_2 r_1.length q_3, .bool r_5]) (fun ((q_2, q_3, q_4) : (Option Addr) × Nat × Hd) => [row (gk 3 (Kd.int .i64)) 25 (.slice q_2 r_1.length q_3) (zp q_4 r_1)])) := by
  unfold impl_OutputExponents.f at h
  obtain rfl := (R0_1 ws (KeptB.refl _ _)).1
  obtain rfl := (R0_2 ws (KeptB.refl _ _)).1
  refine enter Try.func52 rfl Try.ntmps52 rfl hF ?_
  refine c_seq ?_
  refine za0 ?_
  refine o_e rfl (e_box rfl) (fun g1 => ?_)
  refine o_q rfl rfl (q_asg rfl) ?_
  refine o_q rfl rfl (q_asg rfl) ?_
  refine o_end ?_
  refine za1 ?_
  refine c_seq ?_
  refine c_seq ?_
  refine za0 ?_
  refine o_q rfl rfl (q_ldB G27 Z27 rfl (fun w h => h.zai (i := 0) rfl) rfl) ?_
  refine za8 h (fun b4 hx3 h => ?_) rfl
  refine o_e rfl (zaa 0 Z Try.func86 N86 rfl rfl rfl (fun w P1 hF hB hS hT => impl_IsPlan.calls k a0_0 A0_1 c0_1 l0_1.length l0_1 A0_2 c0_2 l0_2.length l0_2 hB hF (hS _ R0_1) hc0_1 (hS _ R0_2) hc0_2 _ hx3)) (fun _ => ?_)
  refine o_q rfl rfl (q_not rfl) ?_
  refine o_end ?_
  refine za1 ?_
  refine zas _ rfl (fun hb5 => ?_) (fun hb5 => ?_)
  · replace hb5 := nt_t hb5
    replace h := bb_f hb5 h
    refine c_seq ?_
    refine za0 ?_
    refine o_q rfl rfl (q_asg rfl) ?_
    refine o_q rfl rfl (q_asg rfl) ?_
    refine o_end ?_
    refine za1 ?_
    refine c_ret ?_
    refine za5 ?_
    refine x_nil (gk 3 (Kd.int .i64)) 25 ?_
    have e0_ := Option.some.inj h; clear h
    have d0_ := (Prod.mk.inj e0_).1; have e1_ := (Prod.mk.inj e0_).2; clear e0_; subst d0_
    subst e1_
    exact x_r2 (none, 0, ([] : Hd)) Try.results52 (zab rfl) (zab rfl) rfl (fun w h => za7 [0] (by decide) rfl w h)
  · replace hb5 := nt_f hb5
    replace h := bb_t hb5 h
    refine zan ?_
    refine za1 ?_
    refine c_seq ?_
    refine za0 ?_
    refine za8 h (fun l7 hx6 h => ?_) rfl
    refine o_e rfl (zaa 0 Z Try.func135 N135 rfl rfl rfl (fun w P1 hF hB hS hT => impl_Plan_outputExponents.calls g1 a0_0 A0_1 c0_1 l0_1.length l0_1 A0_2 c0_2 l0_2.length l0_2 hB hF (hS _ R0_1) hc0_1 (hS _ R0_2) hc0_2 (hT 0 _ rfl).box _ hx6)) (cur3 (fun A8 c9 H10 => ?_))
    refine o_q rfl rfl (q_asg rfl) ?_
    refine o_q rfl rfl (q_asg rfl) ?_
    refine o_end ?_
    refine za1 ?_
    refine c_ret ?_
    have e0_ := Option.some.inj h; clear h
    have d0_ := (Prod.mk.inj e0_).1; have e1_ := (Prod.mk.inj e0_).2; clear e0_; subst d0_
    subst e1_
    exact x_r2 (A8, c9, H10) Try.results52 (zab rfl) (zab rfl) rfl (fun w h => za7 [0] (by decide) rfl w h)

/-! ### loop.example/g01098/laws.FnRunsOfWords: function 8 -/
def laws_FnRunsOfWords.l3 (i5 : Int) (l8 : List ByteArray) (y88 : ByteArray) : Nat → Int → Int → Option ((Bool) ⊕ (Int))
  | 0, _, _ => none
  | k120 + 1, i116, i117 => if i117 < (y88.size : Int) then (((gts y88 i117).bind fun y138 => if y138 = 97 then (some (w64 (i116 + 1))) else (some i116)).bind fun i132 => if i5 = 1 then ((gts y88 i117).bind fun y142 => (gt l8 0).bind fun y146 => (gt l8 0).bind fun y148 => (nz (y148.size : Int)).bind fun _ => (gts y146 (i117.tmod (y148.size : Int))).bind fun y150 => if y142 ≠ y150 then (some (.inl false)) else (laws_FnRunsOfWords.l3 i5 l8 y88 k120 i132 (w64 (i117 + 1)))) else (laws_FnRunsOfWords.l3 i5 l8 y88 k120 i132 (w64 (i117 + 1)))) else (some (.inr i116))
def laws_FnRunsOfWords.l4 (l8 : List ByteArray) (y106 : Int) (i103 : Int) : Nat → Int → Int → Option Int
  | 0, _, _ => none
  | k167 + 1, i163, i164 => (gt l8 i103).bind fun y176 => if i164 < (y176.size : Int) then ((gt l8 i103).bind fun y179 => (gts y179 i164).bind fun y180 => if y180 = 97 then (laws_FnRunsOfWords.l4 l8 y106 i103 k167 (w64 (i163 + y106)) (w64 (i164 + 1))) else (laws_FnRunsOfWords.l4 l8 y106 i103 k167 i163 (w64 (i164 + 1)))) else (some i163)
def laws_FnRunsOfWords.l2 (k : Nat) (l8 : List ByteArray) : (List Int) → Int → Int → Int → Option (Int × Int)
  | [], i103, i104, i105 => some (i104, i105)
  | y106 :: ys107, i103, i104, i105 => (gt l8 i103).bind fun y162 => (laws_FnRunsOfWords.l4 l8 y106 i103 k i105 0).bind fun i163 => laws_FnRunsOfWords.l2 k l8 ys107 (i103 + 1) (w64 (i104 + (w64 (y106 * (y162.size : Int))))) i163
def laws_FnRunsOfWords.l1 (k : Nat) (i5 : Int) (l8 : List ByteArray) (l47 : List Int) (l81 : List (List Int)) : (List ByteArray) → Int → Option ((Bool) ⊕ (Unit))
  | [], i87 => some (.inr ())
  | y88 :: ys89, i87 => (gt l81 i87).bind fun y101 => (laws_FnRunsOfWords.l2 k l8 y101 0 0 0).bind fun (i104, i105) => (laws_FnRunsOfWords.l3 i5 l8 y88 k 0 0).bind fun o_ => match o_ with | .inl r_ => some (.inl r_) | .inr i116 => if (y88.size : Int) ≠ i104 then (some (.inl false)) else ((gt l47 i87).bind fun y156 => if y156 ≠ i104 then (some (.inl false)) else (if i116 ≠ i105 then (some (.inl false)) else (laws_FnRunsOfWords.l1 k i5 l8 l47 l81 ys89 (i87 + 1))))
def laws_FnRunsOfWords.l0 : (List ByteArray) → (List Int) → Int → Option (List Int)
  | [], l32, i35 => some l32
  | y36 :: ys37, l32, i35 => (ap l32 ([(y36.size : Int)] : List Int)).bind fun l187 => laws_FnRunsOfWords.l0 ys37 l187 (i35 + 1)
def laws_FnRunsOfWords.f (k : Nat) (l0 : List Int) (l1 : List Int) : Option Bool := (laws_big.f l0 l1).bind fun b2 => if b2 = true then (some true) else ((spec_DrawRunWords.f k l0).bind fun (i5, l6, l7, l8) => (impl_RunWords.f k i5 l6 l7 l8).bind fun (l18, b19) => (spec_RunWords.f k i5 l6 l7 l8).bind fun (l23, b24) => if (b19 != b24) = true then (some false) else ((laws_rSameTexts.f l18 l23).bind fun b29 => if b29 = true then ((laws_FnRunsOfWords.l0 l8 ([] : List Int) 0).bind fun l32 => (impl_WordLengths.f k i5 l6 l7 l32).bind fun (l47, b48) => if (b48 != b19) = true then (some false) else ((spec_DrawWordLengths.f k l1).bind fun (i53, l54, l55, l56) => (impl_WordLengths.f k i53 l54 l55 l56).bind fun (l66, b67) => (spec_WordLengths.f k i53 l54 l55 l56).bind fun (l71, b72) => if (b67 != b72) = true then (some false) else ((laws_rSame.f l66 l71).bind fun b77 => if b77 = true then (if b19 = true then ((impl_OutputExponents.f k i5 l6 l7).bind fun (l81, b82) => if b82 = true then ((laws_FnRunsOfWords.l1 k i5 l8 l47 l81 l18 0).bind fun o_ => match o_ with | .inl r_ => some r_ | .inr _ => some true) else (some false)) else (some true)) else (some false)))) else (some false)))
set_option maxHeartbeats 600000 in
set_option maxRecDepth 100000 in
theorem laws_FnRunsOfWords.calls (k : Nat) {w0 ws : World} {P0 : Nat → Prop} (A0 : Option Addr) (c0 : Nat) (n0 : Nat) (l0 : List Int) (A1 : Option Addr) (c1 : Nat) (n1 : Nat) (l1 : List Int) (Z : Below w0.heap.size w0 ws) (hF : Fr w0 ws P0 [] ws) (R0 : Stable ws P0 (fun w => Kd.C (Kd.int .u8) w A0 n0 l0)) (hc0 : n0 ≤ c0) (R1 : Stable ws P0 (fun w => Kd.C (Kd.int .u8) w A1 n1 l1)) (hc1 : n1 ≤ c1) (r_1 : Bool) (h : laws_FnRunsOfWords.f k l0 l1 = some r_1) :
    Calls Try.prog 8 #[.slice A0 n0 c0, .slice A1 n1 c1] ws (Post1 w0 ws P0 (fun (_ : Unit) => .bool r_1) (fun (_ : Unit) => [])) := by
  unfold laws_FnRunsOfWords.f at h
  obtain rfl := (R0 ws (KeptB.refl _ _)).1
  obtain rfl := (R1 ws (KeptB.refl _ _)).1
  refine enter Try.func8 rfl Try.ntmps8 rfl hF ?_
  refine c_seq ?_
  refine za0 ?_
  refine o_q rfl rfl (q_asg rfl) ?_
  refine o_end ?_
  refine za1 ?_
  refine c_seq ?_
  refine c_seq ?_
  refine za0 ?_
  refine o_q rfl rfl (za2 rfl) ?_
  refine o_q rfl rfl (za2 rfl) ?_
  refine za8 h (fun b2 hx1 h => ?_) rfl
  refine o_e rfl (zaa 0 Z Try.func13 N13 rfl rfl rfl (fun w P1 hF hB hS hT => laws_big.calls A0 c0 l0.length l0 A1 c1 l1.length l1 hB hF (hS _ R0) hc0 (hS _ R1) hc1 _ hx1)) (fun _ => ?_)
  refine o_end ?_
  refine za1 ?_
  refine zas _ rfl (fun hb3 => ?_) (fun hb3 => ?_)
  · skip
    replace h := bb_t hb3 h
    refine c_seq ?_
    refine za0 ?_
    refine o_q rfl rfl (q_asg rfl) ?_
    refine o_end ?_
    refine za1 ?_
    refine c_ret ?_
    refine za5 ?_
    have e0_ := Option.some.inj h; clear h
    subst e0_
    exact x_r1 () Try.results8 (zab rfl) rfl (fun w h => za7 [] (by decide) rfl w h)
  · skip
    replace h := bb_f hb3 h
    refine zan ?_
    refine za1 ?_
    refine c_seq ?_
    refine za0 ?_
    refine o_q rfl rfl (za2 rfl) ?_
    refine bindE4 h (fun i5 l6 l7 l8 hx4 h => ?_) rfl
    refine o_e rfl (zaa 0 Z Try.func44 N44 rfl rfl rfl (fun w P1 hF hB hS hT => spec_DrawRunWords.calls k A0 c0 l0.length l0 hB hF (hS _ R0) hc0 _ _ _ _ hx4)) (cur6 (fun A9 c10 A11 c12 A13 c14 => ?_))
    refine o_q rfl rfl (za2 rfl) ?_
    refine o_q rfl rfl (q_ext rfl rfl) ?_
    refine o_q rfl rfl (q_ext rfl rfl) ?_
    refine o_e rfl (e_alloc V27 rfl) (fun g15 => ?_)
    refine o_e rfl (e_storeA (i := 0) rfl rfl rfl Z27 rfl rfl) (fun _ => ?_)
    refine o_q rfl rfl (q_asg rfl) ?_
    refine o_end ?_
    refine za1 ?_
    refine c_seq ?_
    refine za0 ?_
    refine o_q rfl rfl (q_ldB G27 Z27 rfl (fun w h => h.zai (i := 0) rfl) rfl) ?_
    refine o_q rfl rfl (za2 rfl) ?_
    refine bindE2 h (fun l18 b19 hx17 h => ?_) rfl
    refine o_e rfl (zaa 0 Z Try.func45 N45 rfl rfl rfl (fun w P1 hF hB hS hT => impl_RunWords.calls k i5 A9 c10 l6.length l6 A11 c12 l7.length l7 A13 c14 l8.length l8 hB hF (hT 1 _ rfl).row (hT 1 _ rfl).cap (hT 2 _ rfl).row (hT 2 _ rfl).cap (hT 3 _ rfl).row (hT 3 _ rfl).cap _ _ hx17)) (cur2 (fun A20 c21 => ?_))
    refine o_q rfl rfl (za2 rfl) ?_
    refine o_q rfl rfl (q_ext rfl rfl) ?_
    refine o_q rfl rfl (q_ext rfl rfl) ?_
    refine o_q rfl rfl (q_asg rfl) ?_
    refine o_q rfl rfl (q_asg rfl) ?_
    refine o_end ?_
    refine za1 ?_
    refine c_seq ?_
    refine za0 ?_
    refine o_q rfl rfl (q_ldB G27 Z27 rfl (fun w h => h.zai (i := 1) rfl) rfl) ?_
    refine o_q rfl rfl (za2 rfl) ?_
    refine bindE2 h (fun l23 b24 hx22 h => ?_) rfl
    refine o_e rfl (zaa 0 Z Try.func46 N46 rfl rfl rfl (fun w P1 hF hB hS hT => spec_RunWords.calls k i5 A9 c10 l6.length l6 A11 c12 l7.length l7 A13 c14 l8.length l8 hB hF (hT 2 _ rfl).row (hT 2 _ rfl).cap (hT 3 _ rfl).row (hT 3 _ rfl).cap (hT 4 _ rfl).row (hT 4 _ rfl).cap _ _ hx22)) (cur2 (fun A25 c26 => ?_))
    refine o_q rfl rfl (za2 rfl) ?_
    refine o_q rfl rfl (q_ext rfl rfl) ?_
    refine o_q rfl rfl (q_ext rfl rfl) ?_
    refine o_q rfl rfl (q_asg rfl) ?_
    refine o_q rfl rfl (q_asg rfl) ?_
    refine o_end ?_
    refine za1 ?_
    refine c_seq ?_
    refine c_seq ?_
    refine za0 ?_
    refine o_q rfl rfl (za2 rfl) ?_
    refine o_q rfl rfl (za2 rfl) ?_
    refine o_q rfl rfl (q_bneq Try.underlying4 rfl rfl) ?_
    refine o_q rfl rfl (za2 rfl) ?_
    refine byB (b19 != b24) (fun hb27 => ?_) (fun hb27 => ?_)
    · replace h := bb_t hb27 h
      refine @o_n _ _ _ _ _ _ _ _ _ _ _ 57 (za3 rfl rfl rfl (congrArg Value.bool hb27) rfl) (Eq.refl (some 57)) ?_
      refine @o_n _ _ _ _ _ _ _ _ _ _ _ 58 (za3 rfl rfl rfl (congrArg Value.bool hb27) rfl) (Eq.refl (some 58)) ?_
      refine @o_n _ _ _ _ _ _ _ _ _ _ _ 59 (za3 rfl rfl rfl (congrArg Value.bool hb27) rfl) (Eq.refl (some 59)) ?_
      refine @o_n _ _ _ _ _ _ _ _ _ _ _ 60 (za3 rfl rfl rfl (congrArg Value.bool hb27) rfl) (Eq.refl (some 60)) ?_
      refine o_q rfl rfl (q_pick true (congrArg Value.bool hb27) rfl) ?_
      refine o_end ?_
      refine za1 ?_
      refine c_true rfl ?_
      refine c_seq ?_
      refine za0 ?_
      refine o_q rfl rfl (q_asg rfl) ?_
      refine o_end ?_
      refine za1 ?_
      refine c_ret ?_
      refine za5 ?_
      have e0_ := Option.some.inj h; clear h
      subst e0_
      exact x_r1 () Try.results8 (zab rfl) rfl (fun w h => za7 [] (by decide) rfl w h)
    · replace h := bb_f hb27 h
      refine o_w (za4 rfl rfl rfl (congrArg Value.bool hb27)) rfl (za2 rfl) ?_
      refine o_w (za4 rfl rfl rfl (congrArg Value.bool hb27)) rfl (za2 rfl) ?_
      refine za8 h (fun b29 hx28 h => ?_) rfl
      refine o_ew (za4 rfl rfl rfl (congrArg Value.bool hb27)) (zaa 0 Z Try.func47 N47 rfl rfl rfl (fun w P1 hF hB hS hT => laws_rSameTexts.calls A20 c21 l18.length l18 A25 c26 l23.length l23 hB hF (hT 1 _ rfl).row (hT 1 _ rfl).cap (hT 0 _ rfl).row (hT 0 _ rfl).cap _ hx28)) (fun _ => ?_)
      refine o_w (za4 rfl rfl rfl (congrArg Value.bool hb27)) rfl (q_not rfl) ?_
      refine o_q rfl rfl (q_pick false (congrArg Value.bool hb27) rfl) ?_
      refine o_end ?_
      refine za1 ?_
      refine zas _ rfl (fun hb30 => ?_) (fun hb30 => ?_)
      · replace hb30 := nt_t hb30
        replace h := bb_f hb30 h
        refine c_seq ?_
        refine za0 ?_
        refine o_q rfl rfl (q_asg rfl) ?_
        refine o_end ?_
        refine za1 ?_
        refine c_ret ?_
        refine za5 ?_
        have e0_ := Option.some.inj h; clear h
        subst e0_
        exact x_r1 () Try.results8 (zab rfl) rfl (fun w h => za7 [] (by decide) rfl w h)
      · replace hb30 := nt_f hb30
        replace h := bb_t hb30 h
        refine zan ?_
        refine za1 ?_
        refine c_seq ?_
        refine za0 ?_
        refine o_q rfl rfl (q_asg rfl) ?_
        refine o_end ?_
        refine za1 ?_
        refine c_seq ?_
        refine c_seq ?_
        refine za0 ?_
        refine o_q rfl rfl (za2 rfl) ?_
        refine o_q rfl rfl (q_len Try.underlying53 rfl) ?_
        refine o_q rfl rfl (za2 rfl) ?_
        refine o_end ?_
        refine za1 ?_
        refine zah ?_
        refine c_nil (Kd.int .i64) 3 ?_
        refine za8 h (fun o43 hl42 hR41 => ?_) rfl
        clear h
        refine c_fact (p := l8.length ≤ 9223372036854775807) (fun w h => (h.zaq (i := 6) rfl).2.1) (fun hm40 => ?_)
        refine zat (σ := (List ByteArray) × (List Int) × Int × (Option Addr) × Nat) (fun k38 ((ys37, l32, i35, A33, c34) : (List ByteArray) × (List Int) × Int × (Option Addr) × Nat) => Rg l8 i35 ys37 ∧ ys37.length = k38 ∧ laws_FnRunsOfWords.l0 ys37 l32 i35 = some o43) [11, 13, 64, 65, 66, 67, 68, 69, 70, 71, 72, 73] (fun ((ys37, l32, i35, A33, c34) : (List ByteArray) × (List Int) × Int × (Option Addr) × Nat) => [(11, .slice A33 l32.length c34), (64, .int .i64 i35)]) (fun ((ys37, l32, i35, A33, c34) : (List ByteArray) × (List Int) × Int × (Option Addr) × Nat) => [row (Kd.int .i64) 3 (.slice A33 l32.length c34) l32, row Kd.string 9 (.slice A25 l23.length c26) l23, row Kd.string 9 (.slice A20 l18.length c21) l18, box g15 27 #[.int .i64 i5, .slice A9 l6.length c10, .slice A11 l7.length c12], row kStep 89 (.slice A9 l6.length c10) l6, row (Kd.int .i64) 3 (.slice A11 l7.length c12) l7, row Kd.string 9 (.slice A13 l8.length c14) l8]) l8.length (l8, ([] : List Int), 0, none, 0) ⟨Rg.start _, rfl, hl42⟩ ⟨rfl, rfl, trivial⟩ (fun w h => h) ?_
        refine fun k38 => cur5 (listC (fun l32 i35 A33 c34 U44 hJ_ => ?_) (fun y36 ys37 l32 i35 A33 c34 U44 hJ_ => ?_))
        · skip
          clear hl42
          have hr39 := hJ_.1; have hk45 := hJ_.2.1; have h := hJ_.2.2; clear hJ_
          replace h : laws_FnRunsOfWords.l0 [] l32 i35 = some o43 := h
          rw [laws_FnRunsOfWords.l0] at h
          refine c_seq ?_
          refine za0 ?_
          refine o_q rfl rfl (q_lss rfl rfl) ?_
          refine o_end ?_
          refine za1 ?_
          refine c_seq ?_
          refine c_false (congrArg Value.bool hr39.ge) ?_
          refine c_exit ?_
          refine za6 ?_
          refine za6 ?_
          have e_ := Option.some.inj h; replace h := hR41; rw [← e_] at h; clear e_
          refine x_hit ?_
          refine za1 ?_
          refine c_seq ?_
          refine za0 ?_
          refine o_q rfl rfl (q_ldB G27 Z27 rfl (fun w h => h.zai (i := 3) rfl) rfl) ?_
          refine o_q rfl rfl (za2 rfl) ?_
          refine bindE2 h (fun l47 b48 hx46 h => ?_) rfl
          refine o_e rfl (zaa 0 Z Try.func48 N48 rfl rfl rfl (fun w P1 hF hB hS hT => impl_WordLengths.calls k i5 A9 c10 l6.length l6 A11 c12 l7.length l7 A33 c34 l32.length l32 hB hF (hT 4 _ rfl).row (hT 4 _ rfl).cap (hT 5 _ rfl).row (hT 5 _ rfl).cap (hT 0 _ rfl).row (hT 0 _ rfl).cap _ _ hx46)) (cur2 (fun A49 c50 => ?_))
          refine o_q rfl rfl (za2 rfl) ?_
          refine o_q rfl rfl (q_ext rfl rfl) ?_
          refine o_q rfl rfl (q_ext rfl rfl) ?_
          refine o_q rfl rfl (q_asg rfl) ?_
          refine o_q rfl rfl (q_asg rfl) ?_
          refine o_end ?_
          refine za1 ?_
          refine c_seq ?_
          refine c_seq ?_
          refine za0 ?_
          refine o_q rfl rfl (za2 rfl) ?_
          refine o_q rfl rfl (za2 rfl) ?_
          refine o_q rfl rfl (q_bneq Try.underlying4 rfl rfl) ?_
          refine o_end ?_
          refine za1 ?_
          refine zas _ rfl (fun hb51 => ?_) (fun hb51 => ?_)
          · skip
            replace h := bb_t hb51 h
            refine c_seq ?_
            refine za0 ?_
            refine o_q rfl rfl (q_asg rfl) ?_
            refine o_end ?_
            refine za1 ?_
            refine c_ret ?_
            refine za5 ?_
            have e0_ := Option.some.inj h; clear h
            subst e0_
            exact x_r1 () Try.results8 (zab rfl) rfl (fun w h => za7 [] (by decide) rfl w h)
          · skip
            replace h := bb_f hb51 h
            refine zan ?_
            refine za1 ?_
            refine c_seq ?_
            refine za0 ?_
            refine o_q rfl rfl (za2 rfl) ?_
            refine bindE4 h (fun i53 l54 l55 l56 hx52 h => ?_) rfl
            refine o_e rfl (zaa 0 Z Try.func49 N49 rfl rfl rfl (fun w P1 hF hB hS hT => spec_DrawWordLengths.calls k A1 c1 l1.length l1 hB hF (hS _ R1) hc1 _ _ _ _ hx52)) (cur6 (fun A57 c58 A59 c60 A61 c62 => ?_))
            refine o_q rfl rfl (za2 rfl) ?_
            refine o_q rfl rfl (q_ext rfl rfl) ?_
            refine o_q rfl rfl (q_ext rfl rfl) ?_
            refine o_e rfl (e_alloc V27 rfl) (fun g63 => ?_)
            refine o_e rfl (e_storeA (i := 0) rfl rfl rfl Z27 rfl rfl) (fun _ => ?_)
            refine o_q rfl rfl (q_asg rfl) ?_
            refine o_end ?_
            refine za1 ?_
            refine c_seq ?_
            refine za0 ?_
            refine o_q rfl rfl (q_ldB G27 Z27 rfl (fun w h => h.zai (i := 0) rfl) rfl) ?_
            refine o_q rfl rfl (za2 rfl) ?_
            refine bindE2 h (fun l66 b67 hx65 h => ?_) rfl
            refine o_e rfl (zaa 0 Z Try.func48 N48 rfl rfl rfl (fun w P1 hF hB hS hT => impl_WordLengths.calls k i53 A57 c58 l54.length l54 A59 c60 l55.length l55 A61 c62 l56.length l56 hB hF (hT 1 _ rfl).row (hT 1 _ rfl).cap (hT 2 _ rfl).row (hT 2 _ rfl).cap (hT 3 _ rfl).row (hT 3 _ rfl).cap _ _ hx65)) (cur2 (fun A68 c69 => ?_))
            refine o_q rfl rfl (za2 rfl) ?_
            refine o_q rfl rfl (q_ext rfl rfl) ?_
            refine o_q rfl rfl (q_ext rfl rfl) ?_
            refine o_q rfl rfl (q_asg rfl) ?_
            refine o_q rfl rfl (q_asg rfl) ?_
            refine o_end ?_
            refine za1 ?_
            refine c_seq ?_
            refine za0 ?_
            refine o_q rfl rfl (q_ldB G27 Z27 rfl (fun w h => h.zai (i := 1) rfl) rfl) ?_
            refine o_q rfl rfl (za2 rfl) ?_
            refine bindE2 h (fun l71 b72 hx70 h => ?_) rfl
            refine o_e rfl (zaa 0 Z Try.func50 N50 rfl rfl rfl (fun w P1 hF hB hS hT => spec_WordLengths.calls k i53 A57 c58 l54.length l54 A59 c60 l55.length l55 A61 c62 l56.length l56 hB hF (hT 2 _ rfl).row (hT 2 _ rfl).cap (hT 3 _ rfl).row (hT 3 _ rfl).cap (hT 4 _ rfl).row (hT 4 _ rfl).cap _ _ hx70)) (cur2 (fun A73 c74 => ?_))
            refine o_q rfl rfl (za2 rfl) ?_
            refine o_q rfl rfl (q_ext rfl rfl) ?_
            refine o_q rfl rfl (q_ext rfl rfl) ?_
            refine o_q rfl rfl (q_asg rfl) ?_
            refine o_q rfl rfl (q_asg rfl) ?_
            refine o_end ?_
            refine za1 ?_
            refine c_seq ?_
            refine c_seq ?_
            refine za0 ?_
            refine o_q rfl rfl (za2 rfl) ?_
            refine o_q rfl rfl (za2 rfl) ?_
            refine o_q rfl rfl (q_bneq Try.underlying4 rfl rfl) ?_
            refine o_q rfl rfl (za2 rfl) ?_
            refine byB (b67 != b72) (fun hb75 => ?_) (fun hb75 => ?_)
            · replace h := bb_t hb75 h
              refine @o_n _ _ _ _ _ _ _ _ _ _ _ 104 (za3 rfl rfl rfl (congrArg Value.bool hb75) rfl) (Eq.refl (some 104)) ?_
              refine @o_n _ _ _ _ _ _ _ _ _ _ _ 105 (za3 rfl rfl rfl (congrArg Value.bool hb75) rfl) (Eq.refl (some 105)) ?_
              refine @o_n _ _ _ _ _ _ _ _ _ _ _ 106 (za3 rfl rfl rfl (congrArg Value.bool hb75) rfl) (Eq.refl (some 106)) ?_
              refine @o_n _ _ _ _ _ _ _ _ _ _ _ 107 (za3 rfl rfl rfl (congrArg Value.bool hb75) rfl) (Eq.refl (some 107)) ?_
              refine o_q rfl rfl (q_pick true (congrArg Value.bool hb75) rfl) ?_
              refine o_end ?_
              refine za1 ?_
              refine c_true rfl ?_
              refine c_seq ?_
              refine za0 ?_
              refine o_q rfl rfl (q_asg rfl) ?_
              refine o_end ?_
              refine za1 ?_
              refine c_ret ?_
              refine za5 ?_
              have e0_ := Option.some.inj h; clear h
              subst e0_
              exact x_r1 () Try.results8 (zab rfl) rfl (fun w h => za7 [] (by decide) rfl w h)
            · replace h := bb_f hb75 h
              refine o_w (za4 rfl rfl rfl (congrArg Value.bool hb75)) rfl (za2 rfl) ?_
              refine o_w (za4 rfl rfl rfl (congrArg Value.bool hb75)) rfl (za2 rfl) ?_
              refine za8 h (fun b77 hx76 h => ?_) rfl
              refine o_ew (za4 rfl rfl rfl (congrArg Value.bool hb75)) (zaa 0 Z Try.func51 N51 rfl rfl rfl (fun w P1 hF hB hS hT => laws_rSame.calls A68 c69 l66.length l66 A73 c74 l71.length l71 hB hF (hT 1 _ rfl).row (hT 1 _ rfl).cap (hT 0 _ rfl).row (hT 0 _ rfl).cap _ hx76)) (fun _ => ?_)
              refine o_w (za4 rfl rfl rfl (congrArg Value.bool hb75)) rfl (q_not rfl) ?_
              refine o_q rfl rfl (q_pick false (congrArg Value.bool hb75) rfl) ?_
              refine o_end ?_
              refine za1 ?_
              refine zas _ rfl (fun hb78 => ?_) (fun hb78 => ?_)
              · replace hb78 := nt_t hb78
                replace h := bb_f hb78 h
                refine c_seq ?_
                refine za0 ?_
                refine o_q rfl rfl (q_asg rfl) ?_
                refine o_end ?_
                refine za1 ?_
                refine c_ret ?_
                refine za5 ?_
                have e0_ := Option.some.inj h; clear h
                subst e0_
                exact x_r1 () Try.results8 (zab rfl) rfl (fun w h => za7 [] (by decide) rfl w h)
              · replace hb78 := nt_f hb78
                replace h := bb_t hb78 h
                refine zan ?_
                refine za1 ?_
                refine c_seq ?_
                refine c_seq ?_
                refine za0 ?_
                refine o_q rfl rfl (za2 rfl) ?_
                refine o_q rfl rfl (q_not rfl) ?_
                refine o_end ?_
                refine za1 ?_
                refine zas _ rfl (fun hb79 => ?_) (fun hb79 => ?_)
                · replace hb79 := nt_t hb79
                  replace h := bb_f hb79 h
                  refine c_seq ?_
                  refine za0 ?_
                  refine o_q rfl rfl (q_asg rfl) ?_
                  refine o_end ?_
                  refine za1 ?_
                  refine c_ret ?_
                  refine za5 ?_
                  have e0_ := Option.some.inj h; clear h
                  subst e0_
                  exact x_r1 () Try.results8 (zab rfl) rfl (fun w h => za7 [] (by decide) rfl w h)
                · replace hb79 := nt_f hb79
                  replace h := bb_t hb79 h
                  refine zan ?_
                  refine za1 ?_
                  refine c_seq ?_
                  refine za0 ?_
                  refine o_q rfl rfl (q_ldB G27 Z27 rfl (fun w h => h.zai (i := 10) rfl) rfl) ?_
                  refine bindE2 h (fun l81 b82 hx80 h => ?_) rfl
                  refine o_e rfl (zaa 0 Z Try.func52 N52 rfl rfl rfl (fun w P1 hF hB hS hT => impl_OutputExponents.calls k i5 A9 c10 l6.length l6 A11 c12 l7.length l7 hB hF (hT 11 _ rfl).row (hT 11 _ rfl).cap (hT 12 _ rfl).row (hT 12 _ rfl).cap _ _ hx80)) (cur3 (fun A83 c84 H85 => ?_))
                  refine o_q rfl rfl (za2 rfl) ?_
                  refine o_q rfl rfl (q_ext rfl rfl) ?_
                  refine o_q rfl rfl (q_ext rfl rfl) ?_
                  refine o_q rfl rfl (q_asg rfl) ?_
                  refine o_q rfl rfl (q_asg rfl) ?_
                  refine o_end ?_
                  refine za1 ?_
                  refine c_seq ?_
                  refine c_seq ?_
                  refine za0 ?_
                  refine o_q rfl rfl (za2 rfl) ?_
                  refine o_q rfl rfl (q_not rfl) ?_
                  refine o_end ?_
                  refine za1 ?_
                  refine zas _ rfl (fun hb86 => ?_) (fun hb86 => ?_)
                  · replace hb86 := nt_t hb86
                    replace h := bb_f hb86 h
                    refine c_seq ?_
                    refine za0 ?_
                    refine o_q rfl rfl (q_asg rfl) ?_
                    refine o_end ?_
                    refine za1 ?_
                    refine c_ret ?_
                    refine za5 ?_
                    have e0_ := Option.some.inj h; clear h
                    subst e0_
                    exact x_r1 () Try.results8 (zab rfl) rfl (fun w h => za7 [] (by decide) rfl w h)
                  · replace hb86 := nt_f hb86
                    replace h := bb_t hb86 h
                    refine zan ?_
                    refine za1 ?_
                    refine c_seq ?_
                    refine c_seq ?_
                    refine za0 ?_
                    refine o_q rfl rfl (za2 rfl) ?_
                    refine o_q rfl rfl (q_len Try.underlying53 rfl) ?_
                    refine o_q rfl rfl (za2 rfl) ?_
                    refine o_end ?_
                    refine za1 ?_
                    refine zah ?_
                    refine za8 h (fun o95 hl94 hR93 => ?_) rfl
                    clear h
                    refine c_fact (p := l18.length ≤ 9223372036854775807) (fun w h => (h.zaq (i := 10) rfl).2.1) (fun hm92 => ?_)
                    refine zat (σ := (List ByteArray) × Int) (fun k90 ((ys89, i87) : (List ByteArray) × Int) => Rg l18 i87 ys89 ∧ ys89.length = k90 ∧ laws_FnRunsOfWords.l1 k i5 l8 l47 l81 ys89 i87 = some o95) [4, 24, 25, 26, 27, 28, 29, 30, 31, 32, 120, 121, 122, 123, 124, 125, 126, 127, 128, 129, 130, 131, 132, 133, 134, 135, 136, 137, 138, 139, 140, 141, 142, 143, 144, 145, 146, 147, 148, 149, 150, 151, 152, 153, 154, 155, 156, 157, 158, 159, 160, 161, 162, 163, 164, 165, 166, 167, 168, 169, 170, 171, 172, 173, 174, 175, 176, 177, 178, 179, 180, 181, 182, 183, 184, 185, 186, 187, 188, 189, 190, 191, 192, 193, 194, 195, 196, 197, 198, 199, 200, 201, 202, 203, 204, 205, 206, 207, 208, 209, 210, 211, 212] (fun ((ys89, i87) : (List ByteArray) × Int) => [(120, .int .i64 i87)]) (fun ((ys89, i87) : (List ByteArray) × Int) => [row (gk 3 (Kd.int .i64)) 25 (.slice A83 l81.length c84) (zp H85 l81), row (Kd.int .i64) 3 (.slice A73 l71.length c74) l71, row (Kd.int .i64) 3 (.slice A68 l66.length c69) l66, box g63 27 #[.int .i64 i53, .slice A57 l54.length c58, .slice A59 l55.length c60], row kStep 89 (.slice A57 l54.length c58) l54, row (Kd.int .i64) 3 (.slice A59 l55.length c60) l55, row (Kd.int .i64) 3 (.slice A61 l56.length c62) l56, row (Kd.int .i64) 3 (.slice A49 l47.length c50) l47, row (Kd.int .i64) 3 (.slice A33 l32.length c34) l32, row Kd.string 9 (.slice A25 l23.length c26) l23, row Kd.string 9 (.slice A20 l18.length c21) l18, box g15 27 #[.int .i64 i5, .slice A9 l6.length c10, .slice A11 l7.length c12], row kStep 89 (.slice A9 l6.length c10) l6, row (Kd.int .i64) 3 (.slice A11 l7.length c12) l7, row Kd.string 9 (.slice A13 l8.length c14) l8]) l18.length (l18, 0) ⟨Rg.start _, rfl, hl94⟩ ⟨rfl, trivial⟩ (fun w h => h) ?_
                    refine fun k90 => cur2 (listC (fun i87 U96 hJ_ => ?_) (fun y88 ys89 i87 U96 hJ_ => ?_))
                    · skip
                      clear hl94
                      have hr91 := hJ_.1; have hk97 := hJ_.2.1; have h := hJ_.2.2; clear hJ_
                      replace h : laws_FnRunsOfWords.l1 k i5 l8 l47 l81 [] i87 = some o95 := h
                      rw [laws_FnRunsOfWords.l1] at h
                      refine c_seq ?_
                      refine za0 ?_
                      refine o_q rfl rfl (q_lss rfl rfl) ?_
                      refine o_end ?_
                      refine za1 ?_
                      refine c_seq ?_
                      refine c_false (congrArg Value.bool hr91.ge) ?_
                      refine c_exit ?_
                      refine za6 ?_
                      refine za6 ?_
                      have e_ := Option.some.inj h; replace h := hR93; rw [← e_] at h; clear e_
                      refine x_hit ?_
                      refine za1 ?_
                      refine c_seq ?_
                      refine za0 ?_
                      refine o_q rfl rfl (q_asg rfl) ?_
                      refine o_end ?_
                      refine za1 ?_
                      refine c_ret ?_
                      have e0_ := Option.some.inj h; clear h
                      subst e0_
                      exact x_r1 () Try.results8 (zab rfl) rfl (fun w h => za7 [] (by decide) rfl w h)
                    · skip
                      clear hl94
                      have hr91 := hJ_.1; have hk97 := hJ_.2.1; have h := hJ_.2.2; clear hJ_
                      replace h : laws_FnRunsOfWords.l1 k i5 l8 l47 l81 (y88 :: ys89) i87 = some o95 := h
                      rw [laws_FnRunsOfWords.l1] at h
                      refine c_seq ?_
                      refine za0 ?_
                      refine o_q rfl rfl (q_lss rfl rfl) ?_
                      refine o_end ?_
                      refine za1 ?_
                      refine c_seq ?_
                      refine c_true (congrArg Value.bool hr91.lt) ?_
                      refine zan ?_
                      refine za1 ?_
                      refine c_seq ?_
                      refine zah ?_
                      refine c_seq ?_
                      refine za0 ?_
                      refine o_q rfl rfl (za2 rfl) ?_
                      refine o_fact (p := Sh A20 l18.length l18.length) (fun w h => f_sh (dk := Kd.string) h (fun w h => h.zaq (i := 10) rfl)) (fun hq98 => ?_)
                      refine o_q rfl rfl (q_ix Try.underlying53 Z9 rfl rfl hq98 hr91.get) ?_
                      refine o_q rfl rfl (q_lde (off := 0) Y9 rfl rfl (fun w h => h.zaq (i := 10) rfl) hr91.get (fun _ _ h => h) rfl) ?_
                      refine o_q rfl rfl (q_asg rfl) ?_
                      refine o_q rfl rfl (q_asg rfl) ?_
                      refine o_end ?_
                      refine za1 ?_
                      refine c_seq ?_
                      refine za0 ?_
                      refine o_q rfl rfl (q_asg rfl) ?_
                      refine o_q rfl rfl (q_asg rfl) ?_
                      refine o_q rfl rfl (q_asg rfl) ?_
                      refine o_end ?_
                      refine za1 ?_
                      refine c_seq ?_
                      refine c_seq ?_
                      refine za0 ?_
                      refine o_q rfl rfl (za2 rfl) ?_
                      refine o_q rfl rfl (za2 rfl) ?_
                      refine o_fact (p := Sh A83 l81.length (zp H85 l81).length) (fun w h => f_sh (dk := (gk 3 (Kd.int .i64))) h (fun w h => h.zaq (i := 0) rfl)) (fun hq99 => ?_)
                      refine za8 h (fun y101 hg100 h => ?_) rfl
                      refine o_q rfl rfl (q_ix Try.underlying60 Z25 rfl rfl hq99 (gt_zp hg100)) ?_
                      refine o_fact (p := y101.length ≤ hC H85 i87) (fun w h => (K_in (h.zaq (i := 0) rfl) hg100).1) (fun hc102 => ?_)
                      refine o_q rfl rfl (q_lde (off := 0) Y25 rfl rfl (fun w h => h.zaq (i := 0) rfl) (gt_zp hg100) (fun _ _ h => h.1) rfl) ?_
                      refine o_q rfl rfl (q_len Try.underlying25 rfl) ?_
                      refine o_q rfl rfl (za2 rfl) ?_
                      refine o_end ?_
                      refine za1 ?_
                      refine zah ?_
                      refine za8 h (fun o113 hl112 hR111 => ?_) rfl
                      clear h
                      refine c_fact (p := y101.length ≤ 9223372036854775807) (fun w h => (C_in (h.zaq (i := 0) rfl) hg100).2.1) (fun hm110 => ?_)
                      refine zat (σ := (List Int) × Int × Int × Int) (fun k108 ((ys107, i103, i104, i105) : (List Int) × Int × Int × Int) => Rg y101 i103 ys107 ∧ ys107.length = k108 ∧ laws_FnRunsOfWords.l2 k l8 ys107 i103 i104 i105 = some o113) [26, 27, 29, 30, 31, 130, 131, 132, 133, 134, 135, 136, 137, 138, 139, 140, 141, 142, 143, 144, 145, 146, 147, 148, 149, 150, 151, 152, 153, 154, 155, 156, 157, 158, 159, 160, 161, 162, 163] (fun ((ys107, i103, i104, i105) : (List Int) × Int × Int × Int) => [(26, .int .i64 i104), (27, .int .i64 i105), (130, .int .i64 i103)]) (fun ((ys107, i103, i104, i105) : (List Int) × Int × Int × Int) => [row (gk 3 (Kd.int .i64)) 25 (.slice A83 l81.length c84) (zp H85 l81), row (Kd.int .i64) 3 (.slice A73 l71.length c74) l71, row (Kd.int .i64) 3 (.slice A68 l66.length c69) l66, box g63 27 #[.int .i64 i53, .slice A57 l54.length c58, .slice A59 l55.length c60], row kStep 89 (.slice A57 l54.length c58) l54, row (Kd.int .i64) 3 (.slice A59 l55.length c60) l55, row (Kd.int .i64) 3 (.slice A61 l56.length c62) l56, row (Kd.int .i64) 3 (.slice A49 l47.length c50) l47, row (Kd.int .i64) 3 (.slice A33 l32.length c34) l32, row Kd.string 9 (.slice A25 l23.length c26) l23, row Kd.string 9 (.slice A20 l18.length c21) l18, box g15 27 #[.int .i64 i5, .slice A9 l6.length c10, .slice A11 l7.length c12], row kStep 89 (.slice A9 l6.length c10) l6, row (Kd.int .i64) 3 (.slice A11 l7.length c12) l7, row Kd.string 9 (.slice A13 l8.length c14) l8]) y101.length (y101, 0, 0, 0) ⟨Rg.start _, rfl, hl112⟩ ⟨rfl, rfl, rfl, trivial⟩ (fun w h => h) ?_
                      refine fun k108 => cur4 (listC (fun i103 i104 i105 U114 hJ_ => ?_) (fun y106 ys107 i103 i104 i105 U114 hJ_ => ?_))
                      · skip
                        clear hl112
                        have hr109 := hJ_.1; have hk115 := hJ_.2.1; have h := hJ_.2.2; clear hJ_
                        replace h : laws_FnRunsOfWords.l2 k l8 [] i103 i104 i105 = some o113 := h
                        rw [laws_FnRunsOfWords.l2] at h
                        refine c_seq ?_
                        refine za0 ?_
                        refine o_q rfl rfl (q_lss rfl rfl) ?_
                        refine o_end ?_
                        refine za1 ?_
                        refine c_seq ?_
                        refine c_false (congrArg Value.bool hr109.ge) ?_
                        refine c_exit ?_
                        refine za6 ?_
                        refine za6 ?_
                        have e_ := Option.some.inj h; replace h := hR111; rw [← e_] at h; clear e_
                        refine x_hit ?_
                        refine za1 ?_
                        refine c_seq ?_
                        refine c_seq ?_
                        refine za0 ?_
                        refine o_q rfl rfl (q_asg rfl) ?_
                        refine o_end ?_
                        refine za1 ?_
                        refine zah ?_
                        refine za8 h (fun o125 hl124 hR123 => ?_) rfl
                        clear h
                        refine zat (σ := Int × Int) (fun k120 ((i116, i117) : Int × Int) => laws_FnRunsOfWords.l3 i5 l8 y88 k120 i116 i117 = some o125) [4, 28, 32, 164, 165, 166, 167, 168, 169, 170, 171, 172, 173, 174, 175, 176, 177, 178, 179, 180, 181, 182, 183, 184, 185, 186, 187, 188, 189, 190, 191, 192, 193, 194] (fun ((i116, i117) : Int × Int) => [(28, .int .i64 i116), (32, .int .i64 i117)]) (fun ((i116, i117) : Int × Int) => [row (gk 3 (Kd.int .i64)) 25 (.slice A83 l81.length c84) (zp H85 l81), row (Kd.int .i64) 3 (.slice A73 l71.length c74) l71, row (Kd.int .i64) 3 (.slice A68 l66.length c69) l66, box g63 27 #[.int .i64 i53, .slice A57 l54.length c58, .slice A59 l55.length c60], row kStep 89 (.slice A57 l54.length c58) l54, row (Kd.int .i64) 3 (.slice A59 l55.length c60) l55, row (Kd.int .i64) 3 (.slice A61 l56.length c62) l56, row (Kd.int .i64) 3 (.slice A49 l47.length c50) l47, row (Kd.int .i64) 3 (.slice A33 l32.length c34) l32, row Kd.string 9 (.slice A25 l23.length c26) l23, row Kd.string 9 (.slice A20 l18.length c21) l18, box g15 27 #[.int .i64 i5, .slice A9 l6.length c10, .slice A11 l7.length c12], row kStep 89 (.slice A9 l6.length c10) l6, row (Kd.int .i64) 3 (.slice A11 l7.length c12) l7, row Kd.string 9 (.slice A13 l8.length c14) l8]) k (0, 0) hl124 ⟨rfl, rfl, trivial⟩ (fun w h => h) ?_
                        refine natC (cur2 (fun i116 i117 => fun U126 hJ_ => ?_)) (fun k120 => (cur2 (fun i116 i117 => fun U126 hJ_ => ?_)))
                        · skip
                          replace hJ_ : laws_FnRunsOfWords.l3 i5 l8 y88 0 i116 i117 = some o125 := hJ_
                          rw [laws_FnRunsOfWords.l3] at hJ_
                          exact noneE hJ_
                        · skip
                          clear hl124
                          have h := hJ_; clear hJ_
                          replace h : laws_FnRunsOfWords.l3 i5 l8 y88 (k120 + 1) i116 i117 = some o125 := h
                          rw [laws_FnRunsOfWords.l3] at h
                          refine c_seq ?_
                          refine c_seq ?_
                          refine za0 ?_
                          refine o_q rfl rfl (za2 rfl) ?_
                          refine o_q rfl rfl (za2 rfl) ?_
                          refine o_q rfl rfl (q_lens Try.underlying9 rfl) ?_
                          refine o_q rfl rfl (q_lss rfl rfl) ?_
                          refine o_end ?_
                          refine za1 ?_
                          refine zas _ rfl (fun hb128 => ?_) (fun hb128 => ?_)
                          · skip
                            replace h := br_t hb128 h
                            refine zan ?_
                            refine za1 ?_
                            refine c_seq ?_
                            refine zah ?_
                            refine za8 h (fun o133 hl134 hR135 => ?_) rfl
                            clear h
                            refine c_cutJ (σ := Int) (fun i132 => some i132 = some o133) [28, 170, 171, 172, 173, 174, 175] (fun i132 => [(28, .int .i64 i132)]) (fun i132 => [box g15 27 #[.int .i64 i5, .slice A9 l6.length c10, .slice A11 l7.length c12], row kStep 89 (.slice A9 l6.length c10) l6, row (Kd.int .i64) 3 (.slice A11 l7.length c12) l7, row Kd.string 9 (.slice A13 l8.length c14) l8, row (Kd.int .i64) 3 (.slice A49 l47.length c50) l47, row (gk 3 (Kd.int .i64)) 25 (.slice A83 l81.length c84) (zp H85 l81), row Kd.string 9 (.slice A20 l18.length c21) l18, row (Kd.int .i64) 3 (.slice A73 l71.length c74) l71, row (Kd.int .i64) 3 (.slice A68 l66.length c69) l66, box g63 27 #[.int .i64 i53, .slice A57 l54.length c58, .slice A59 l55.length c60], row kStep 89 (.slice A57 l54.length c58) l54, row (Kd.int .i64) 3 (.slice A59 l55.length c60) l55, row (Kd.int .i64) 3 (.slice A61 l56.length c62) l56, row (Kd.int .i64) 3 (.slice A33 l32.length c34) l32, row Kd.string 9 (.slice A25 l23.length c26) l23]) ?_ ?_
                            · skip
                              have h := hl134; clear hl134
                              clear hR135
                              refine c_seq ?_
                              refine za0 ?_
                              refine o_q rfl rfl (za2 rfl) ?_
                              refine o_q rfl rfl (za2 rfl) ?_
                              refine za8 h (fun y138 hy139 h => ?_) rfl
                              refine o_q rfl rfl (q_idxs Try.underlying9 rfl ⟨_, rfl⟩ hy139) ?_
                              refine o_q rfl rfl (q_eql rfl rfl) ?_
                              refine o_end ?_
                              refine za1 ?_
                              refine zas _ rfl (fun hb140 => ?_) (fun hb140 => ?_)
                              · skip
                                replace h := br_t hb140 h
                                refine za0 ?_
                                refine o_q rfl rfl (za2 rfl) ?_
                                refine o_q rfl rfl (q_add64 rfl rfl) ?_
                                refine o_q rfl rfl (q_asg rfl) ?_
                                refine o_end ?_
                                refine x_meetJ (w64 (i116 + 1)) h ⟨rfl, trivial⟩ (fun w h => za7 [11, 12, 13, 14, 7, 0, 10, 1, 2, 3, 4, 5, 6, 8, 9] (by decide) rfl w h) ?_
                                repeat (first | exact zac _ _ | refine zak rfl ?_ | refine zad rfl ?_ | refine zal rfl ?_)
                              · skip
                                replace h := br_f hb140 h
                                refine zan ?_
                                refine x_meetJ i116 h ⟨rfl, trivial⟩ (fun w h => za7 [11, 12, 13, 14, 7, 0, 10, 1, 2, 3, 4, 5, 6, 8, 9] (by decide) rfl w h) ?_
                                repeat (first | exact zac _ _ | refine zak rfl ?_ | refine zad rfl ?_ | refine zal rfl ?_)
                            · skip
                              refine (fun i132 => fun U136 hJ137 => ?_)
                              have e_ := Option.some.inj hJ137; have h := hR135; rw [← e_] at h; clear e_ hJ137 hR135 hl134
                              refine c_seq ?_
                              refine a_start (ds := []) MO rfl ?_
                              refine za9 0 rfl rfl rfl (by kernel_rfl) (fun _ _ _ h => h) (q_f F27_0 rfl) ?_
                              refine a_take 1 rfl rfl rfl (by kernel_rfl) (fun _ _ _ h => h) (fun w h => h) (q_ldb Y3 rfl (fun w h => h.zai (i := 0) rfl) rfl) ?_
                              refine za9 2 rfl rfl rfl (by kernel_rfl) (fun _ _ _ h => h) (q_eql rfl rfl) ?_
                              refine za9 3 rfl rfl rfl (by kernel_rfl) (fun _ _ _ h => h) (za2 rfl) ?_
                              refine byB (decide (i5 = 1)) (fun hb141 => ?_) (fun hb141 => ?_)
                              · replace h := br_t hb141 h
                                refine a_purew 4 rfl rfl (za4 rfl rfl rfl (congrArg Value.bool hb141)) (by kernel_rfl) (fun _ _ _ h => h) (za2 rfl) ?_
                                refine a_purew 5 rfl rfl (za4 rfl rfl rfl (congrArg Value.bool hb141)) (by kernel_rfl) (fun _ _ _ h => h) (za2 rfl) ?_
                                refine za8 h (fun y142 hy143 h => ?_) rfl
                                refine a_purew 6 rfl rfl (za4 rfl rfl rfl (congrArg Value.bool hb141)) (by kernel_rfl) (fun _ _ _ h => h) (q_idxs Try.underlying9 rfl ⟨_, rfl⟩ hy143) ?_
                                refine a_purew 7 rfl rfl (za4 rfl rfl rfl (congrArg Value.bool hb141)) (by kernel_rfl) (fun _ _ _ h => h) (za2 rfl) ?_
                                refine a_fact (p := Sh A13 l8.length l8.length) (fun w h => f_sh (dk := Kd.string) h (fun w h => h.zaq (i := 3) rfl)) (fun hq144 => ?_)
                                refine za8 h (fun y146 hg145 h => ?_) rfl
                                refine a_purew 8 rfl rfl (za4 rfl rfl rfl (congrArg Value.bool hb141)) (by kernel_rfl) (fun _ _ _ h => h) (q_ix Try.underlying53 Z9 rfl rfl hq144 hg145) ?_
                                refine a_takew 9 rfl rfl (za4 rfl rfl rfl (congrArg Value.bool hb141)) (by kernel_rfl) (fun _ _ _ h => h) (fun w h => h) (q_lde (off := 0) Y9 rfl rfl (fun w h => h.zaq (i := 3) rfl) hg145 (fun _ _ h => h) rfl) ?_
                                refine a_purew 10 rfl rfl (za4 rfl rfl rfl (congrArg Value.bool hb141)) (by kernel_rfl) (fun _ _ _ h => h) (za2 rfl) ?_
                                refine a_purew 11 rfl rfl (za4 rfl rfl rfl (congrArg Value.bool hb141)) (by kernel_rfl) (fun _ _ _ h => h) (za2 rfl) ?_
                                refine za8 h (fun y148 hg147 h => ?_) rfl
                                refine a_purew 12 rfl rfl (za4 rfl rfl rfl (congrArg Value.bool hb141)) (by kernel_rfl) (fun _ _ _ h => h) (q_ix Try.underlying53 Z9 rfl rfl hq144 hg147) ?_
                                refine a_takew 13 rfl rfl (za4 rfl rfl rfl (congrArg Value.bool hb141)) (by kernel_rfl) (fun _ _ _ h => h) (fun w h => h) (q_lde (off := 0) Y9 rfl rfl (fun w h => h.zaq (i := 3) rfl) hg147 (fun _ _ h => h) rfl) ?_
                                refine a_purew 14 rfl rfl (za4 rfl rfl rfl (congrArg Value.bool hb141)) (by kernel_rfl) (fun _ _ _ h => h) (q_lens Try.underlying9 rfl) ?_
                                refine za8 h (fun _ hz149 h => ?_) rfl
                                refine a_purew 15 rfl rfl (za4 rfl rfl rfl (congrArg Value.bool hb141)) (by kernel_rfl) (fun _ _ _ h => h) (q_rem rfl rfl (nz_ne hz149)) ?_
                                refine za8 h (fun y150 hy151 h => ?_) rfl
                                refine a_purew 16 rfl rfl (za4 rfl rfl rfl (congrArg Value.bool hb141)) (by kernel_rfl) (fun _ _ _ h => h) (q_idxs Try.underlying9 rfl ⟨_, rfl⟩ hy151) ?_
                                refine a_purew 17 rfl rfl (za4 rfl rfl rfl (congrArg Value.bool hb141)) (by kernel_rfl) (fun _ _ _ h => h) (q_neq rfl rfl) ?_
                                refine za9 18 rfl rfl rfl (by kernel_rfl) (fun _ _ _ h => h) (q_pick true (congrArg Value.bool hb141) rfl) ?_
                                refine a_done (by kernel_rfl) ?_
                                refine za1 ?_
                                refine zas _ rfl (fun hb152 => ?_) (fun hb152 => ?_)
                                · skip
                                  replace h := br_t hb152 h
                                  refine c_seq ?_
                                  refine za0 ?_
                                  refine o_q rfl rfl (q_asg rfl) ?_
                                  refine o_end ?_
                                  refine za1 ?_
                                  refine c_ret ?_
                                  refine zaf ?_
                                  refine za5 ?_
                                  refine za5 ?_
                                  have e_ := Option.some.inj h; replace h := hR123; rw [← e_] at h; clear e_
                                  refine zaf ?_
                                  refine za5 ?_
                                  refine zaf ?_
                                  refine za5 ?_
                                  refine za5 ?_
                                  have e_ := Option.some.inj h; replace h := hR93; rw [← e_] at h; clear e_
                                  refine zaf ?_
                                  refine za5 ?_
                                  have e0_ := Option.some.inj h; clear h
                                  subst e0_
                                  exact x_r1 () Try.results8 (zab rfl) rfl (fun w h => za7 [] (by decide) rfl w h)
                                · skip
                                  replace h := br_f hb152 h
                                  refine zan ?_
                                  refine zao ?_
                                  refine za1 ?_
                                  refine za0 ?_
                                  refine o_q rfl rfl (za2 rfl) ?_
                                  refine o_q rfl rfl (q_add64 rfl rfl) ?_
                                  refine o_q rfl rfl (q_asg rfl) ?_
                                  refine o_end ?_
                                  refine zam k120 (i132, w64 (i117 + 1)) (Nat.lt_succ_self _) h ⟨rfl, rfl, trivial⟩ (fun w h => za7 [5, 7, 8, 9, 10, 11, 12, 4, 13, 14, 6, 0, 1, 2, 3] (by decide) rfl w h) ?_
                                  repeat (first | exact zac _ _ | refine zak rfl ?_ | refine zad rfl ?_ | refine zal rfl ?_)
                              · replace h := br_f hb141 h
                                refine a_no 4 rfl rfl (za3 rfl rfl rfl (congrArg Value.bool hb141) rfl) (by kernel_rfl) (fun _ _ _ h => h) ?_
                                refine a_no 5 rfl rfl (za3 rfl rfl rfl (congrArg Value.bool hb141) rfl) (by kernel_rfl) (fun _ _ _ h => h) ?_
                                refine a_no 6 rfl rfl (za3 rfl rfl rfl (congrArg Value.bool hb141) rfl) (by kernel_rfl) (fun _ _ _ h => h) ?_
                                refine a_no 7 rfl rfl (za3 rfl rfl rfl (congrArg Value.bool hb141) rfl) (by kernel_rfl) (fun _ _ _ h => h) ?_
                                refine a_no 8 rfl rfl (za3 rfl rfl rfl (congrArg Value.bool hb141) rfl) (by kernel_rfl) (fun _ _ _ h => h) ?_
                                refine a_no 9 rfl rfl (za3 rfl rfl rfl (congrArg Value.bool hb141) rfl) (by kernel_rfl) (fun _ _ _ h => h) ?_
                                refine a_no 10 rfl rfl (za3 rfl rfl rfl (congrArg Value.bool hb141) rfl) (by kernel_rfl) (fun _ _ _ h => h) ?_
                                refine a_no 11 rfl rfl (za3 rfl rfl rfl (congrArg Value.bool hb141) rfl) (by kernel_rfl) (fun _ _ _ h => h) ?_
                                refine a_no 12 rfl rfl (za3 rfl rfl rfl (congrArg Value.bool hb141) rfl) (by kernel_rfl) (fun _ _ _ h => h) ?_
                                refine a_no 13 rfl rfl (za3 rfl rfl rfl (congrArg Value.bool hb141) rfl) (by kernel_rfl) (fun _ _ _ h => h) ?_
                                refine a_no 14 rfl rfl (za3 rfl rfl rfl (congrArg Value.bool hb141) rfl) (by kernel_rfl) (fun _ _ _ h => h) ?_
                                refine a_no 15 rfl rfl (za3 rfl rfl rfl (congrArg Value.bool hb141) rfl) (by kernel_rfl) (fun _ _ _ h => h) ?_
                                refine a_no 16 rfl rfl (za3 rfl rfl rfl (congrArg Value.bool hb141) rfl) (by kernel_rfl) (fun _ _ _ h => h) ?_
                                refine a_no 17 rfl rfl (za3 rfl rfl rfl (congrArg Value.bool hb141) rfl) (by kernel_rfl) (fun _ _ _ h => h) ?_
                                refine za9 18 rfl rfl rfl (by kernel_rfl) (fun _ _ _ h => h) (q_pick false (congrArg Value.bool hb141) rfl) ?_
                                refine a_done (by kernel_rfl) ?_
                                refine za1 ?_
                                refine c_false rfl ?_
                                refine zan ?_
                                refine zao ?_
                                refine za1 ?_
                                refine za0 ?_
                                refine o_q rfl rfl (za2 rfl) ?_
                                refine o_q rfl rfl (q_add64 rfl rfl) ?_
                                refine o_q rfl rfl (q_asg rfl) ?_
                                refine o_end ?_
                                refine zam k120 (i132, w64 (i117 + 1)) (Nat.lt_succ_self _) h ⟨rfl, rfl, trivial⟩ (fun w h => za7 [5, 7, 8, 9, 10, 11, 12, 4, 13, 14, 6, 0, 1, 2, 3] (by decide) rfl w h) ?_
                                repeat (first | exact zac _ _ | refine zak rfl ?_ | refine zad rfl ?_ | refine zal rfl ?_)
                          · skip
                            replace h := br_f hb128 h
                            refine c_exit ?_
                            refine za6 ?_
                            refine za6 ?_
                            have e_ := Option.some.inj h; replace h := hR123; rw [← e_] at h; clear e_
                            refine x_hit ?_
                            refine za1 ?_
                            refine c_seq ?_
                            refine za0 ?_
                            refine o_q rfl rfl (za2 rfl) ?_
                            refine o_q rfl rfl (q_lens Try.underlying9 rfl) ?_
                            refine o_q rfl rfl (za2 rfl) ?_
                            refine o_q rfl rfl (q_neq rfl rfl) ?_
                            refine o_q rfl rfl (za2 rfl) ?_
                            refine byB (decide ((y88.size : Int) ≠ i104)) (fun hb153 => ?_) (fun hb153 => ?_)
                            · replace h := br_t hb153 h
                              refine @o_n _ _ _ _ _ _ _ _ _ _ _ 200 (za3 rfl rfl rfl (congrArg Value.bool hb153) rfl) (Eq.refl (some 200)) ?_
                              refine @o_n _ _ _ _ _ _ _ _ _ _ _ 201 (za3 rfl rfl rfl (congrArg Value.bool hb153) rfl) (Eq.refl (some 201)) ?_
                              refine @o_n _ _ _ _ _ _ _ _ _ _ _ 202 (za3 rfl rfl rfl (congrArg Value.bool hb153) rfl) (Eq.refl (some 202)) ?_
                              refine @o_n _ _ _ _ _ _ _ _ _ _ _ 203 (za3 rfl rfl rfl (congrArg Value.bool hb153) rfl) (Eq.refl (some 203)) ?_
                              refine @o_n _ _ _ _ _ _ _ _ _ _ _ 204 (za3 rfl rfl rfl (congrArg Value.bool hb153) rfl) (Eq.refl (some 204)) ?_
                              refine @o_n _ _ _ _ _ _ _ _ _ _ _ 205 (za3 rfl rfl rfl (congrArg Value.bool hb153) rfl) (Eq.refl (some 205)) ?_
                              refine o_q rfl rfl (q_pick true (congrArg Value.bool hb153) rfl) ?_
                              refine o_q rfl rfl (za2 rfl) ?_
                              refine @o_n _ _ _ _ _ _ _ _ _ _ _ 208 (za3 rfl rfl rfl rfl rfl) (Eq.refl (some 208)) ?_
                              refine @o_n _ _ _ _ _ _ _ _ _ _ _ 209 (za3 rfl rfl rfl rfl rfl) (Eq.refl (some 209)) ?_
                              refine @o_n _ _ _ _ _ _ _ _ _ _ _ 210 (za3 rfl rfl rfl rfl rfl) (Eq.refl (some 210)) ?_
                              refine o_q rfl rfl (q_pick true rfl rfl) ?_
                              refine o_end ?_
                              refine za1 ?_
                              refine c_true rfl ?_
                              refine c_seq ?_
                              refine za0 ?_
                              refine o_q rfl rfl (q_asg rfl) ?_
                              refine o_end ?_
                              refine za1 ?_
                              refine c_ret ?_
                              refine zaf ?_
                              refine za5 ?_
                              refine za5 ?_
                              have e_ := Option.some.inj h; replace h := hR93; rw [← e_] at h; clear e_
                              refine zaf ?_
                              refine za5 ?_
                              have e0_ := Option.some.inj h; clear h
                              subst e0_
                              exact x_r1 () Try.results8 (zab rfl) rfl (fun w h => za7 [] (by decide) rfl w h)
                            · replace h := br_f hb153 h
                              refine o_w (za4 rfl rfl rfl (congrArg Value.bool hb153)) rfl (za2 rfl) ?_
                              refine o_w (za4 rfl rfl rfl (congrArg Value.bool hb153)) rfl (za2 rfl) ?_
                              refine o_fact (p := Sh A49 l47.length l47.length) (fun w h => f_sh (dk := (Kd.int .i64)) h (fun w h => h.zaq (i := 7) rfl)) (fun hq154 => ?_)
                              refine za8 h (fun y156 hg155 h => ?_) rfl
                              refine o_w (za4 rfl rfl rfl (congrArg Value.bool hb153)) rfl (q_ix Try.underlying25 Z3 rfl rfl hq154 hg155) ?_
                              refine o_w (za4 rfl rfl rfl (congrArg Value.bool hb153)) rfl (q_lde (off := 0) Y3 rfl rfl (fun w h => h.zaq (i := 7) rfl) hg155 (fun _ _ h => h) rfl) ?_
                              refine o_w (za4 rfl rfl rfl (congrArg Value.bool hb153)) rfl (za2 rfl) ?_
                              refine o_w (za4 rfl rfl rfl (congrArg Value.bool hb153)) rfl (q_neq rfl rfl) ?_
                              refine o_q rfl rfl (q_pick false (congrArg Value.bool hb153) rfl) ?_
                              refine o_q rfl rfl (za2 rfl) ?_
                              refine byB (decide (y156 ≠ i104)) (fun hb157 => ?_) (fun hb157 => ?_)
                              · replace h := br_t hb157 h
                                refine @o_n _ _ _ _ _ _ _ _ _ _ _ 208 (za3 rfl rfl rfl (congrArg Value.bool hb157) rfl) (Eq.refl (some 208)) ?_
                                refine @o_n _ _ _ _ _ _ _ _ _ _ _ 209 (za3 rfl rfl rfl (congrArg Value.bool hb157) rfl) (Eq.refl (some 209)) ?_
                                refine @o_n _ _ _ _ _ _ _ _ _ _ _ 210 (za3 rfl rfl rfl (congrArg Value.bool hb157) rfl) (Eq.refl (some 210)) ?_
                                refine o_q rfl rfl (q_pick true (congrArg Value.bool hb157) rfl) ?_
                                refine o_end ?_
                                refine za1 ?_
                                refine c_true rfl ?_
                                refine c_seq ?_
                                refine za0 ?_
                                refine o_q rfl rfl (q_asg rfl) ?_
                                refine o_end ?_
                                refine za1 ?_
                                refine c_ret ?_
                                refine zaf ?_
                                refine za5 ?_
                                refine za5 ?_
                                have e_ := Option.some.inj h; replace h := hR93; rw [← e_] at h; clear e_
                                refine zaf ?_
                                refine za5 ?_
                                have e0_ := Option.some.inj h; clear h
                                subst e0_
                                exact x_r1 () Try.results8 (zab rfl) rfl (fun w h => za7 [] (by decide) rfl w h)
                              · replace h := br_f hb157 h
                                refine o_w (za4 rfl rfl rfl (congrArg Value.bool hb157)) rfl (za2 rfl) ?_
                                refine o_w (za4 rfl rfl rfl (congrArg Value.bool hb157)) rfl (za2 rfl) ?_
                                refine o_w (za4 rfl rfl rfl (congrArg Value.bool hb157)) rfl (q_neq rfl rfl) ?_
                                refine o_q rfl rfl (q_pick false (congrArg Value.bool hb157) rfl) ?_
                                refine o_end ?_
                                refine za1 ?_
                                refine zas _ rfl (fun hb158 => ?_) (fun hb158 => ?_)
                                · skip
                                  replace h := br_t hb158 h
                                  refine c_seq ?_
                                  refine za0 ?_
                                  refine o_q rfl rfl (q_asg rfl) ?_
                                  refine o_end ?_
                                  refine za1 ?_
                                  refine c_ret ?_
                                  refine zaf ?_
                                  refine za5 ?_
                                  refine za5 ?_
                                  have e_ := Option.some.inj h; replace h := hR93; rw [← e_] at h; clear e_
                                  refine zaf ?_
                                  refine za5 ?_
                                  have e0_ := Option.some.inj h; clear h
                                  subst e0_
                                  exact x_r1 () Try.results8 (zab rfl) rfl (fun w h => za7 [] (by decide) rfl w h)
                                · skip
                                  replace h := br_f hb158 h
                                  refine zan ?_
                                  refine zao ?_
                                  refine za1 ?_
                                  refine za0 ?_
                                  refine o_q rfl rfl (q_up rfl rfl (hr91.up hm92)) ?_
                                  refine o_q rfl rfl (za2 rfl) ?_
                                  refine o_end ?_
                                  refine zam ys89.length (ys89, i87 + 1) (by rw [← hk97]; exact Nat.lt_succ_self _) ⟨hr91.step, rfl, h⟩ ⟨rfl, trivial⟩ (fun w h => za7 [0, 1, 2, 3, 4, 5, 6, 7, 8, 9, 10, 11, 12, 13, 14] (by decide) rfl w h) ?_
                                  repeat (first | exact zac _ _ | refine zak rfl ?_ | refine zad rfl ?_ | refine zal rfl ?_)
                      · skip
                        clear hl112
                        have hr109 := hJ_.1; have hk115 := hJ_.2.1; have h := hJ_.2.2; clear hJ_
                        replace h : laws_FnRunsOfWords.l2 k l8 (y106 :: ys107) i103 i104 i105 = some o113 := h
                        rw [laws_FnRunsOfWords.l2] at h
                        refine c_seq ?_
                        refine za0 ?_
                        refine o_q rfl rfl (q_lss rfl rfl) ?_
                        refine o_end ?_
                        refine za1 ?_
                        refine c_seq ?_
                        refine c_true (congrArg Value.bool hr109.lt) ?_
                        refine zan ?_
                        refine za1 ?_
                        refine c_seq ?_
                        refine zah ?_
                        refine c_seq ?_
                        refine za0 ?_
                        refine o_q rfl rfl (za2 rfl) ?_
                        refine o_fact (p := Sh (hA H85 i87) y101.length y101.length) (fun w h => f_sh (dk := (Kd.int .i64)) h (fun w h => C_in (h.zaq (i := 0) rfl) hg100)) (fun hq159 => ?_)
                        refine o_q rfl rfl (q_ix Try.underlying25 Z3 rfl rfl hq159 hr109.get) ?_
                        refine o_q rfl rfl (q_lde (off := 0) Y3 rfl rfl (fun w h => C_in (h.zaq (i := 0) rfl) hg100) hr109.get (fun _ _ h => h) rfl) ?_
                        refine o_q rfl rfl (q_asg rfl) ?_
                        refine o_q rfl rfl (q_asg rfl) ?_
                        refine o_end ?_
                        refine za1 ?_
                        refine c_seq ?_
                        refine za0 ?_
                        refine o_q rfl rfl (za2 rfl) ?_
                        refine o_q rfl rfl (za2 rfl) ?_
                        refine o_q rfl rfl (za2 rfl) ?_
                        refine o_q rfl rfl (za2 rfl) ?_
                        refine o_fact (p := Sh A13 l8.length l8.length) (fun w h => f_sh (dk := Kd.string) h (fun w h => h.zaq (i := 14) rfl)) (fun hq160 => ?_)
                        refine za8 h (fun y162 hg161 h => ?_) rfl
                        refine o_q rfl rfl (q_ix Try.underlying53 Z9 rfl rfl hq160 hg161) ?_
                        refine o_q rfl rfl (q_lde (off := 0) Y9 rfl rfl (fun w h => h.zaq (i := 14) rfl) hg161 (fun _ _ h => h) rfl) ?_
                        refine o_q rfl rfl (q_lens Try.underlying9 rfl) ?_
                        refine o_q rfl rfl (q_mul64 rfl rfl) ?_
                        refine o_q rfl rfl (q_add64 rfl rfl) ?_
                        refine o_q rfl rfl (q_asg rfl) ?_
                        refine o_end ?_
                        refine za1 ?_
                        refine c_seq ?_
                        refine za0 ?_
                        refine o_q rfl rfl (q_asg rfl) ?_
                        refine o_end ?_
                        refine za1 ?_
                        refine zah ?_
                        refine za8 h (fun o172 hl171 hR170 => ?_) rfl
                        clear h
                        refine zat (σ := Int × Int) (fun k167 ((i163, i164) : Int × Int) => laws_FnRunsOfWords.l4 l8 y106 i103 k167 i163 i164 = some o172) [27, 31, 144, 145, 146, 147, 148, 149, 150, 151, 152, 153, 154, 155, 156, 157, 158, 159, 160, 161, 162] (fun ((i163, i164) : Int × Int) => [(27, .int .i64 i163), (31, .int .i64 i164)]) (fun ((i163, i164) : Int × Int) => [row (gk 3 (Kd.int .i64)) 25 (.slice A83 l81.length c84) (zp H85 l81), row (Kd.int .i64) 3 (.slice A73 l71.length c74) l71, row (Kd.int .i64) 3 (.slice A68 l66.length c69) l66, box g63 27 #[.int .i64 i53, .slice A57 l54.length c58, .slice A59 l55.length c60], row kStep 89 (.slice A57 l54.length c58) l54, row (Kd.int .i64) 3 (.slice A59 l55.length c60) l55, row (Kd.int .i64) 3 (.slice A61 l56.length c62) l56, row (Kd.int .i64) 3 (.slice A49 l47.length c50) l47, row (Kd.int .i64) 3 (.slice A33 l32.length c34) l32, row Kd.string 9 (.slice A25 l23.length c26) l23, row Kd.string 9 (.slice A20 l18.length c21) l18, box g15 27 #[.int .i64 i5, .slice A9 l6.length c10, .slice A11 l7.length c12], row kStep 89 (.slice A9 l6.length c10) l6, row (Kd.int .i64) 3 (.slice A11 l7.length c12) l7, row Kd.string 9 (.slice A13 l8.length c14) l8]) k (i105, 0) hl171 ⟨rfl, rfl, trivial⟩ (fun w h => h) ?_
                        refine natC (cur2 (fun i163 i164 => fun U173 hJ_ => ?_)) (fun k167 => (cur2 (fun i163 i164 => fun U173 hJ_ => ?_)))
                        · skip
                          replace hJ_ : laws_FnRunsOfWords.l4 l8 y106 i103 0 i163 i164 = some o172 := hJ_
                          rw [laws_FnRunsOfWords.l4] at hJ_
                          exact noneE hJ_
                        · skip
                          clear hl171
                          have h := hJ_; clear hJ_
                          replace h : laws_FnRunsOfWords.l4 l8 y106 i103 (k167 + 1) i163 i164 = some o172 := h
                          rw [laws_FnRunsOfWords.l4] at h
                          refine c_seq ?_
                          refine c_seq ?_
                          refine za0 ?_
                          refine o_q rfl rfl (za2 rfl) ?_
                          refine o_q rfl rfl (za2 rfl) ?_
                          refine o_q rfl rfl (za2 rfl) ?_
                          refine za8 h (fun y176 hg175 h => ?_) rfl
                          refine o_q rfl rfl (q_ix Try.underlying53 Z9 rfl rfl hq160 hg175) ?_
                          refine o_q rfl rfl (q_lde (off := 0) Y9 rfl rfl (fun w h => h.zaq (i := 14) rfl) hg175 (fun _ _ h => h) rfl) ?_
                          refine o_q rfl rfl (q_lens Try.underlying9 rfl) ?_
                          refine o_q rfl rfl (q_lss rfl rfl) ?_
                          refine o_end ?_
                          refine za1 ?_
                          refine zas _ rfl (fun hb177 => ?_) (fun hb177 => ?_)
                          · skip
                            replace h := br_t hb177 h
                            refine zan ?_
                            refine za1 ?_
                            refine c_seq ?_
                            refine zah ?_
                            refine c_seq ?_
                            refine za0 ?_
                            refine o_q rfl rfl (za2 rfl) ?_
                            refine o_q rfl rfl (za2 rfl) ?_
                            refine za8 h (fun y179 hg178 h => ?_) rfl
                            refine o_q rfl rfl (q_ix Try.underlying53 Z9 rfl rfl hq160 hg178) ?_
                            refine o_q rfl rfl (q_lde (off := 0) Y9 rfl rfl (fun w h => h.zaq (i := 14) rfl) hg178 (fun _ _ h => h) rfl) ?_
                            refine o_q rfl rfl (za2 rfl) ?_
                            refine za8 h (fun y180 hy181 h => ?_) rfl
                            refine o_q rfl rfl (q_idxs Try.underlying9 rfl ⟨_, rfl⟩ hy181) ?_
                            refine o_q rfl rfl (q_eql rfl rfl) ?_
                            refine o_end ?_
                            refine za1 ?_
                            refine zas _ rfl (fun hb182 => ?_) (fun hb182 => ?_)
                            · skip
                              replace h := br_t hb182 h
                              refine za0 ?_
                              refine o_q rfl rfl (za2 rfl) ?_
                              refine o_q rfl rfl (za2 rfl) ?_
                              refine o_q rfl rfl (q_add64 rfl rfl) ?_
                              refine o_q rfl rfl (q_asg rfl) ?_
                              refine o_end ?_
                              refine zao ?_
                              refine za1 ?_
                              refine za0 ?_
                              refine o_q rfl rfl (za2 rfl) ?_
                              refine o_q rfl rfl (q_add64 rfl rfl) ?_
                              refine o_q rfl rfl (q_asg rfl) ?_
                              refine o_end ?_
                              refine zam k167 (w64 (i163 + y106), w64 (i164 + 1)) (Nat.lt_succ_self _) h ⟨rfl, rfl, trivial⟩ (fun w h => za7 [0, 1, 2, 3, 4, 5, 6, 7, 8, 9, 10, 11, 12, 13, 14] (by decide) rfl w h) ?_
                              repeat (first | exact zac _ _ | refine zak rfl ?_ | refine zad rfl ?_ | refine zal rfl ?_)
                            · skip
                              replace h := br_f hb182 h
                              refine zan ?_
                              refine zao ?_
                              refine za1 ?_
                              refine za0 ?_
                              refine o_q rfl rfl (za2 rfl) ?_
                              refine o_q rfl rfl (q_add64 rfl rfl) ?_
                              refine o_q rfl rfl (q_asg rfl) ?_
                              refine o_end ?_
                              refine zam k167 (i163, w64 (i164 + 1)) (Nat.lt_succ_self _) h ⟨rfl, rfl, trivial⟩ (fun w h => za7 [0, 1, 2, 3, 4, 5, 6, 7, 8, 9, 10, 11, 12, 13, 14] (by decide) rfl w h) ?_
                              repeat (first | exact zac _ _ | refine zak rfl ?_ | refine zad rfl ?_ | refine zal rfl ?_)
                          · skip
                            replace h := br_f hb177 h
                            refine c_exit ?_
                            refine za6 ?_
                            refine za6 ?_
                            have e_ := Option.some.inj h; replace h := hR170; rw [← e_] at h; clear e_
                            refine x_hit ?_
                            refine zao ?_
                            refine za1 ?_
                            refine za0 ?_
                            refine o_q rfl rfl (q_up rfl rfl (hr109.up hm110)) ?_
                            refine o_q rfl rfl (za2 rfl) ?_
                            refine o_end ?_
                            refine zam ys107.length (ys107, i103 + 1, w64 (i104 + (w64 (y106 * (y162.size : Int)))), i163) (by rw [← hk115]; exact Nat.lt_succ_self _) ⟨hr109.step, rfl, h⟩ ⟨rfl, rfl, rfl, trivial⟩ (fun w h => za7 [0, 1, 2, 3, 4, 5, 6, 7, 8, 9, 10, 11, 12, 13, 14] (by decide) rfl w h) ?_
                            repeat (first | exact zac _ _ | refine zak rfl ?_ | refine zad rfl ?_ | refine zal rfl ?_)
        · skip
          clear hl42
          have hr39 := hJ_.1; have hk45 := hJ_.2.1; have h := hJ_.2.2; clear hJ_
          replace h : laws_FnRunsOfWords.l0 (y36 :: ys37) l32 i35 = some o43 := h
          rw [laws_FnRunsOfWords.l0] at h
          refine c_seq ?_
          refine za0 ?_
          refine o_q rfl rfl (q_lss rfl rfl) ?_
          refine o_end ?_
          refine za1 ?_
          refine c_seq ?_
          refine c_true (congrArg Value.bool hr39.lt) ?_
          refine zan ?_
          refine za1 ?_
          refine c_seq ?_
          refine zah ?_
          refine c_seq ?_
          refine za0 ?_
          refine o_fact (p := Sh A13 l8.length l8.length) (fun w h => f_sh (dk := Kd.string) h (fun w h => h.zaq (i := 6) rfl)) (fun hq183 => ?_)
          refine o_q rfl rfl (q_ix Try.underlying53 Z9 rfl rfl hq183 hr39.get) ?_
          refine o_q rfl rfl (q_lde (off := 0) Y9 rfl rfl (fun w h => h.zaq (i := 6) rfl) hr39.get (fun _ _ h => h) rfl) ?_
          refine o_q rfl rfl (q_asg rfl) ?_
          refine o_end ?_
          refine za1 ?_
          refine za0 ?_
          refine o_q rfl rfl (za2 rfl) ?_
          refine o_q rfl rfl (za2 rfl) ?_
          refine o_q rfl rfl (q_lens Try.underlying9 rfl) ?_
          refine o_e rfl (e_lit (vs := [(0, .int .i64 (y36.size : Int))]) (cs := [.int .i64 (y36.size : Int)]) (Kd.int .i64) ([(y36.size : Int)] : List Int) Try.underlying25 I3 (by decide) rfl (by decide) rfl rfl (fun _ _ => Kd.zaj _)) (cur2 (fun A184 c185 => ?_))
          refine za8 h (fun l187 ha188 h => ?_) rfl
          refine o_e rfl (e_app (i := 1) (j := 0) Try.underlying25 I3 rfl (by decide) (by decide) rfl rfl rfl rfl rfl ha188) (cur2 (fun A189 c190 => ?_))
          refine o_q rfl rfl (q_asg rfl) ?_
          refine o_end ?_
          refine zao ?_
          refine za1 ?_
          refine za0 ?_
          refine o_q rfl rfl (q_up rfl rfl (hr39.up hm40)) ?_
          refine o_q rfl rfl (za2 rfl) ?_
          refine o_end ?_
          refine zam ys37.length (ys37, l187, i35 + 1, A189, c190) (by rw [← hk45]; exact Nat.lt_succ_self _) ⟨hr39.step, rfl, h⟩ ⟨rfl, rfl, trivial⟩ (fun w h => za7 [1, 2, 3, 4, 5, 6, 7] (by decide) rfl w h) ?_
          repeat (first | exact zac _ _ | refine zak rfl ?_ | refine zad rfl ?_ | refine zal rfl ?_)

end Go.Proofs.Ytoegbcbdiggbjaa.RW
