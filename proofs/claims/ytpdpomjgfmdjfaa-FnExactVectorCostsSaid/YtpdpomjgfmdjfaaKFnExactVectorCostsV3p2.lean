import Derived.Test.YtpdpomjgfmdjfaaKFnExactVectorCostsV3p1
namespace Go.Proofs.Ytpdpomjgfmdjfaa.V3
open Go.RowKit Go.Proofs.Ytpdpomjgfmdjfaa.Frame Go.Proofs.YtpdpomjgfmdjfaaW.PrintLast Go.Proofs.Ytpdpomjgfmdjfaa.Hand
open Go.Proofs.YtpdpomjgfmdjfaaW.PrintWords hiding mn mx
set_option linter.unusedVariables false
/-! ### loop.example/g01098/spec.l1In: function 77 -/
def spec_l1In.f (a0 : Int) (a1 : Int) (a2 : Int) : Option Bool := if a1 ≤ a0 then (some (decide (a0 ≤ a2))) else (some false)
set_option maxHeartbeats 600000 in
set_option maxRecDepth 100000 in
theorem spec_l1In.calls {w0 ws : World} {P0 : Nat → Prop} (a0 : Int) (a1 : Int) (a2 : Int) (Z : Below w0.heap.size w0 ws) (hF : Fr w0 ws P0 [] ws)  (r_1 : Bool) (h : spec_l1In.f a0 a1 a2 = some r_1) :
    Calls Try.prog 77 #[.int .i64 a0, .int .i64 a1, .int .i64 a2] ws (Post1 w0 ws P0 (fun (_ : Unit) => .bool r_1) (fun (_ : Unit) => [])) := by
  unfold spec_l1In.f at h
  refine enter Try.func77 rfl Try.ntmps77 rfl hF ?_
  refine c_seq ?_
  refine za0 ?_
  refine o_q rfl rfl (q_asg rfl) ?_
  refine o_end ?_
  refine za1 ?_
  refine c_seq ?_
  refine za0 ?_
  refine o_q rfl rfl (za2 rfl) ?_
  refine o_q rfl rfl (za2 rfl) ?_
  refine o_q rfl rfl (q_geq rfl rfl) ?_
  refine o_q rfl rfl (za2 rfl) ?_
  refine byB (decide (a1 ≤ a0)) (fun hb1 => ?_) (fun hb1 => ?_)
  · replace h := br_t hb1 h
    refine o_w (za6 rfl rfl rfl (congrArg Value.bool hb1)) rfl (za2 rfl) ?_
    refine o_w (za6 rfl rfl rfl (congrArg Value.bool hb1)) rfl (za2 rfl) ?_
    refine o_w (za6 rfl rfl rfl (congrArg Value.bool hb1)) rfl (q_leq rfl rfl) ?_
    refine o_q rfl rfl (zav true (congrArg Value.bool hb1) rfl) ?_
    refine o_q rfl rfl (q_asg rfl) ?_
    refine o_end ?_
    refine za1 ?_
    refine c_ret ?_
    have e0_ := Option.some.inj h; clear h
    subst e0_
    exact x_r1 () Try.results77 (zah rfl) rfl (fun w h => za7 [] (by decide) rfl w h)
  · replace h := br_f hb1 h
    refine @o_n _ _ _ _ _ _ _ _ _ _ _ 11 (za3 rfl rfl rfl (congrArg Value.bool hb1) rfl) (Eq.refl (some 11)) ?_
    refine @o_n _ _ _ _ _ _ _ _ _ _ _ 12 (za3 rfl rfl rfl (congrArg Value.bool hb1) rfl) (Eq.refl (some 12)) ?_
    refine @o_n _ _ _ _ _ _ _ _ _ _ _ 13 (za3 rfl rfl rfl (congrArg Value.bool hb1) rfl) (Eq.refl (some 13)) ?_
    refine o_q rfl rfl (zav false (congrArg Value.bool hb1) rfl) ?_
    refine o_q rfl rfl (q_asg rfl) ?_
    refine o_end ?_
    refine za1 ?_
    refine c_ret ?_
    have e0_ := Option.some.inj h; clear h
    subst e0_
    exact x_r1 () Try.results77 (zah rfl) rfl (fun w h => za7 [] (by decide) rfl w h)

/-! ### loop.example/g01098/spec.l1All: function 68 -/
def spec_l1All.l0 (a1 : Int) (a2 : Int) : (List Int) → Int → Option ((Bool) ⊕ (Unit))
  | [], i1 => some (.inr ())
  | y2 :: ys3, i1 => (spec_l1In.f y2 a1 a2).bind fun b14 => if b14 = true then (spec_l1All.l0 a1 a2 ys3 (i1 + 1)) else (some (.inl false))
def spec_l1All.f (l0 : List Int) (a1 : Int) (a2 : Int) : Option Bool := (spec_l1All.l0 a1 a2 l0 0).bind fun o_ => match o_ with | .inl r_ => some r_ | .inr _ => some true
set_option maxHeartbeats 600000 in
set_option maxRecDepth 100000 in
theorem spec_l1All.calls {w0 ws : World} {P0 : Nat → Prop} (A0 : Option Addr) (c0 : Nat) (n0 : Nat) (l0 : List Int) (a1 : Int) (a2 : Int) (Z : Below w0.heap.size w0 ws) (hF : Fr w0 ws P0 [] ws) (R0 : Stable ws P0 (fun w => Kd.C (Kd.int .i64) w A0 n0 l0)) (hc0 : n0 ≤ c0) (r_1 : Bool) (h : spec_l1All.f l0 a1 a2 = some r_1) :
    Calls Try.prog 68 #[.slice A0 n0 c0, .int .i64 a1, .int .i64 a2] ws (Post1 w0 ws P0 (fun (_ : Unit) => .bool r_1) (fun (_ : Unit) => [])) := by
  unfold spec_l1All.f at h
  obtain rfl := (R0 ws (KeptB.refl _ _)).1
  refine enter Try.func68 rfl Try.ntmps68 rfl hF ?_
  refine c_seq ?_
  refine za0 ?_
  refine o_q rfl rfl (q_asg rfl) ?_
  refine o_end ?_
  refine za1 ?_
  refine c_seq ?_
  refine c_seq ?_
  refine za0 ?_
  refine o_q rfl rfl (za2 rfl) ?_
  refine o_q rfl rfl (q_len Try.underlying22 rfl) ?_
  refine o_q rfl rfl (za2 rfl) ?_
  refine o_end ?_
  refine za1 ?_
  refine zaf ?_
  refine za5 h (fun o9 hl8 hR7 => ?_) rfl
  clear h
  refine c_fact (p := l0.length ≤ 9223372036854775807) (fun w h => (R0.now Z h).2.1) (fun hm6 => ?_)
  refine zas (σ := (List Int) × Int) (fun k4 ((ys3, i1) : (List Int) × Int) => Rg l0 i1 ys3 ∧ ys3.length = k4 ∧ spec_l1All.l0 a1 a2 ys3 i1 = some o9) [6, 8, 11, 12, 13, 14, 15, 16, 17, 18, 19, 20] (fun ((ys3, i1) : (List Int) × Int) => [(11, .int .i64 i1)]) (fun ((ys3, i1) : (List Int) × Int) => []) l0.length (l0, 0) ⟨Rg.start _, rfl, hl8⟩ ⟨rfl, trivial⟩ (fun w h => h) ?_
  refine fun k4 => cur2 (listC (fun i1 U10 hJ_ => ?_) (fun y2 ys3 i1 U10 hJ_ => ?_))
  · skip
    clear hl8
    have hr5 := hJ_.1; have hk11 := hJ_.2.1; have h := hJ_.2.2; clear hJ_
    replace h : spec_l1All.l0 a1 a2 [] i1 = some o9 := h
    rw [spec_l1All.l0] at h
    refine c_seq ?_
    refine za0 ?_
    refine o_q rfl rfl (q_lss rfl rfl) ?_
    refine o_end ?_
    refine za1 ?_
    refine c_seq ?_
    refine c_false (congrArg Value.bool hr5.ge) ?_
    refine c_exit ?_
    refine za4 ?_
    refine za4 ?_
    have e_ := Option.some.inj h; replace h := hR7; rw [← e_] at h; clear e_
    refine x_hit ?_
    refine za1 ?_
    refine c_seq ?_
    refine za0 ?_
    refine o_q rfl rfl (q_asg rfl) ?_
    refine o_end ?_
    refine za1 ?_
    refine c_ret ?_
    have e0_ := Option.some.inj h; clear h
    subst e0_
    exact x_r1 () Try.results68 (zah rfl) rfl (fun w h => za7 [] (by decide) rfl w h)
  · skip
    clear hl8
    have hr5 := hJ_.1; have hk11 := hJ_.2.1; have h := hJ_.2.2; clear hJ_
    replace h : spec_l1All.l0 a1 a2 (y2 :: ys3) i1 = some o9 := h
    rw [spec_l1All.l0] at h
    refine c_seq ?_
    refine za0 ?_
    refine o_q rfl rfl (q_lss rfl rfl) ?_
    refine o_end ?_
    refine za1 ?_
    refine c_seq ?_
    refine c_true (congrArg Value.bool hr5.lt) ?_
    refine zal ?_
    refine za1 ?_
    refine c_seq ?_
    refine zaf ?_
    refine c_seq ?_
    refine za0 ?_
    refine zaw (p := Sh A0 l0.length l0.length) (fun w h => f_sh (dk := (Kd.int .i64)) h (fun w h => R0.now Z h)) (fun hq12 => ?_)
    refine o_q rfl rfl (q_ix Try.underlying22 Z3 rfl rfl hq12 hr5.get) ?_
    refine o_q rfl rfl (q_lde (off := 0) Y3 rfl rfl (fun w h => R0.now Z h) hr5.get (fun _ _ h => h) rfl) ?_
    refine o_q rfl rfl (q_asg rfl) ?_
    refine o_end ?_
    refine za1 ?_
    refine c_seq ?_
    refine za0 ?_
    refine o_q rfl rfl (za2 rfl) ?_
    refine o_q rfl rfl (za2 rfl) ?_
    refine o_q rfl rfl (za2 rfl) ?_
    refine za5 h (fun b14 hx13 h => ?_) rfl
    refine o_e rfl (za9 0 Z Try.func77 N77 rfl rfl rfl (fun w P1 hF hB hS hT => spec_l1In.calls y2 a1 a2 hB hF _ hx13)) (fun _ => ?_)
    refine o_q rfl rfl (q_not rfl) ?_
    refine o_end ?_
    refine za1 ?_
    refine zar _ rfl (fun hb15 => ?_) (fun hb15 => ?_)
    · replace hb15 := nt_t hb15
      replace h := bb_f hb15 h
      refine c_seq ?_
      refine za0 ?_
      refine o_q rfl rfl (q_asg rfl) ?_
      refine o_end ?_
      refine za1 ?_
      refine c_ret ?_
      refine zam ?_
      refine za8 ?_
      refine za8 ?_
      have e_ := Option.some.inj h; replace h := hR7; rw [← e_] at h; clear e_
      refine zam ?_
      refine za8 ?_
      have e0_ := Option.some.inj h; clear h
      subst e0_
      exact x_r1 () Try.results68 (zah rfl) rfl (fun w h => za7 [] (by decide) rfl w h)
    · replace hb15 := nt_f hb15
      replace h := bb_t hb15 h
      refine zal ?_
      refine zaq ?_
      refine za1 ?_
      refine za0 ?_
      refine o_q rfl rfl (q_up rfl rfl (hr5.up hm6)) ?_
      refine o_q rfl rfl (za2 rfl) ?_
      refine o_end ?_
      refine zak ys3.length (ys3, i1 + 1) (by rw [← hk11]; exact Nat.lt_succ_self _) ⟨hr5.step, rfl, h⟩ ⟨rfl, trivial⟩ (fun w h => za7 [] (by decide) rfl w h) ?_
      repeat (first | exact zaa _ _ | refine zac rfl ?_ | refine zab rfl ?_ | refine zad rfl ?_)

/-! ### loop.example/g01098/spec.l1Most: function 146 -/
def spec_l1Most.f (a0 : Int) (a1 : Int) : Option Int := if a1 < a0 then (some a0) else (some a1)
set_option maxHeartbeats 600000 in
set_option maxRecDepth 100000 in
theorem spec_l1Most.calls {w0 ws : World} {P0 : Nat → Prop} (a0 : Int) (a1 : Int) (Z : Below w0.heap.size w0 ws) (hF : Fr w0 ws P0 [] ws)  (r_1 : Int) (h : spec_l1Most.f a0 a1 = some r_1) :
    Calls Try.prog 146 #[.int .i64 a0, .int .i64 a1] ws (Post1 w0 ws P0 (fun (_ : Unit) => .int .i64 r_1) (fun (_ : Unit) => [])) := by
  unfold spec_l1Most.f at h
  refine enter Try.func146 rfl Try.ntmps146 rfl hF ?_
  refine c_seq ?_
  refine za0 ?_
  refine o_q rfl rfl (q_asg rfl) ?_
  refine o_end ?_
  refine za1 ?_
  refine c_seq ?_
  refine c_seq ?_
  refine za0 ?_
  refine o_q rfl rfl (za2 rfl) ?_
  refine o_q rfl rfl (za2 rfl) ?_
  refine o_q rfl rfl (q_gtr rfl rfl) ?_
  refine o_end ?_
  refine za1 ?_
  refine zar _ rfl (fun hb1 => ?_) (fun hb1 => ?_)
  · skip
    replace h := br_t hb1 h
    refine c_seq ?_
    refine za0 ?_
    refine o_q rfl rfl (za2 rfl) ?_
    refine o_q rfl rfl (q_asg rfl) ?_
    refine o_end ?_
    refine za1 ?_
    refine c_ret ?_
    refine za8 ?_
    have e0_ := Option.some.inj h; clear h
    subst e0_
    exact x_r1 () Try.results146 (zah rfl) rfl (fun w h => za7 [] (by decide) rfl w h)
  · skip
    replace h := br_f hb1 h
    refine zal ?_
    refine za1 ?_
    refine c_seq ?_
    refine za0 ?_
    refine o_q rfl rfl (za2 rfl) ?_
    refine o_q rfl rfl (q_asg rfl) ?_
    refine o_end ?_
    refine za1 ?_
    refine c_ret ?_
    have e0_ := Option.some.inj h; clear h
    subst e0_
    exact x_r1 () Try.results146 (zah rfl) rfl (fun w h => za7 [] (by decide) rfl w h)

/-! ### loop.example/g01098/spec.meGreatest: function 79 -/
def spec_meGreatest.l0 : (List Int) → Int → Int → Option Int
  | [], i1, i2 => some i1
  | y3 :: ys4, i1, i2 => (spec_l1Most.f i1 y3).bind fun i15 => spec_meGreatest.l0 ys4 i15 (i2 + 1)
def spec_meGreatest.f (l0 : List Int) : Option Int := (spec_meGreatest.l0 l0 0 0).bind fun i1 => some i1
set_option maxHeartbeats 600000 in
set_option maxRecDepth 100000 in
theorem spec_meGreatest.calls {w0 ws : World} {P0 : Nat → Prop} (A0 : Option Addr) (c0 : Nat) (n0 : Nat) (l0 : List Int) (Z : Below w0.heap.size w0 ws) (hF : Fr w0 ws P0 [] ws) (R0 : Stable ws P0 (fun w => Kd.C (Kd.int .i64) w A0 n0 l0)) (hc0 : n0 ≤ c0) (r_1 : Int) (h : spec_meGreatest.f l0 = some r_1) :
    Calls Try.prog 79 #[.slice A0 n0 c0] ws (Post1 w0 ws P0 (fun (_ : Unit) => .int .i64 r_1) (fun (_ : Unit) => [])) := by
  unfold spec_meGreatest.f at h
  obtain rfl := (R0 ws (KeptB.refl _ _)).1
  refine enter Try.func79 rfl Try.ntmps79 rfl hF ?_
  refine c_seq ?_
  refine za0 ?_
  refine o_q rfl rfl (q_asg rfl) ?_
  refine o_end ?_
  refine za1 ?_
  refine c_seq ?_
  refine za0 ?_
  refine o_q rfl rfl (q_asg rfl) ?_
  refine o_end ?_
  refine za1 ?_
  refine c_seq ?_
  refine c_seq ?_
  refine za0 ?_
  refine o_q rfl rfl (za2 rfl) ?_
  refine o_q rfl rfl (q_len Try.underlying22 rfl) ?_
  refine o_q rfl rfl (za2 rfl) ?_
  refine o_end ?_
  refine za1 ?_
  refine zaf ?_
  refine za5 h (fun o10 hl9 hR8 => ?_) rfl
  clear h
  refine c_fact (p := l0.length ≤ 9223372036854775807) (fun w h => (R0.now Z h).2.1) (fun hm7 => ?_)
  refine zas (σ := (List Int) × Int × Int) (fun k5 ((ys4, i1, i2) : (List Int) × Int × Int) => Rg l0 i2 ys4 ∧ ys4.length = k5 ∧ spec_meGreatest.l0 ys4 i1 i2 = some o10) [3, 5, 8, 9, 10, 11, 12, 13, 14, 15] (fun ((ys4, i1, i2) : (List Int) × Int × Int) => [(3, .int .i64 i1), (8, .int .i64 i2)]) (fun ((ys4, i1, i2) : (List Int) × Int × Int) => []) l0.length (l0, 0, 0) ⟨Rg.start _, rfl, hl9⟩ ⟨rfl, rfl, trivial⟩ (fun w h => h) ?_
  refine fun k5 => cur3 (listC (fun i1 i2 U11 hJ_ => ?_) (fun y3 ys4 i1 i2 U11 hJ_ => ?_))
  · skip
    clear hl9
    have hr6 := hJ_.1; have hk12 := hJ_.2.1; have h := hJ_.2.2; clear hJ_
    replace h : spec_meGreatest.l0 [] i1 i2 = some o10 := h
    rw [spec_meGreatest.l0] at h
    refine c_seq ?_
    refine za0 ?_
    refine o_q rfl rfl (q_lss rfl rfl) ?_
    refine o_end ?_
    refine za1 ?_
    refine c_seq ?_
    refine c_false (congrArg Value.bool hr6.ge) ?_
    refine c_exit ?_
    refine za4 ?_
    refine za4 ?_
    have e_ := Option.some.inj h; replace h := hR8; rw [← e_] at h; clear e_
    refine x_hit ?_
    refine za1 ?_
    refine c_seq ?_
    refine za0 ?_
    refine o_q rfl rfl (za2 rfl) ?_
    refine o_q rfl rfl (q_asg rfl) ?_
    refine o_end ?_
    refine za1 ?_
    refine c_ret ?_
    have e0_ := Option.some.inj h; clear h
    subst e0_
    exact x_r1 () Try.results79 (zah rfl) rfl (fun w h => za7 [] (by decide) rfl w h)
  · skip
    clear hl9
    have hr6 := hJ_.1; have hk12 := hJ_.2.1; have h := hJ_.2.2; clear hJ_
    replace h : spec_meGreatest.l0 (y3 :: ys4) i1 i2 = some o10 := h
    rw [spec_meGreatest.l0] at h
    refine c_seq ?_
    refine za0 ?_
    refine o_q rfl rfl (q_lss rfl rfl) ?_
    refine o_end ?_
    refine za1 ?_
    refine c_seq ?_
    refine c_true (congrArg Value.bool hr6.lt) ?_
    refine zal ?_
    refine za1 ?_
    refine c_seq ?_
    refine zaf ?_
    refine c_seq ?_
    refine za0 ?_
    refine zaw (p := Sh A0 l0.length l0.length) (fun w h => f_sh (dk := (Kd.int .i64)) h (fun w h => R0.now Z h)) (fun hq13 => ?_)
    refine o_q rfl rfl (q_ix Try.underlying22 Z3 rfl rfl hq13 hr6.get) ?_
    refine o_q rfl rfl (q_lde (off := 0) Y3 rfl rfl (fun w h => R0.now Z h) hr6.get (fun _ _ h => h) rfl) ?_
    refine o_q rfl rfl (q_asg rfl) ?_
    refine o_end ?_
    refine za1 ?_
    refine za0 ?_
    refine o_q rfl rfl (za2 rfl) ?_
    refine o_q rfl rfl (za2 rfl) ?_
    refine za5 h (fun i15 hx14 h => ?_) rfl
    refine o_e rfl (za9 0 Z Try.func146 N146 rfl rfl rfl (fun w P1 hF hB hS hT => spec_l1Most.calls i1 y3 hB hF _ hx14)) (fun _ => ?_)
    refine o_q rfl rfl (q_asg rfl) ?_
    refine o_end ?_
    refine zaq ?_
    refine za1 ?_
    refine za0 ?_
    refine o_q rfl rfl (q_up rfl rfl (hr6.up hm7)) ?_
    refine o_q rfl rfl (za2 rfl) ?_
    refine o_end ?_
    refine zak ys4.length (ys4, i15, i2 + 1) (by rw [← hk12]; exact Nat.lt_succ_self _) ⟨hr6.step, rfl, h⟩ ⟨rfl, rfl, trivial⟩ (fun w h => za7 [] (by decide) rfl w h) ?_
    repeat (first | exact zaa _ _ | refine zac rfl ?_ | refine zab rfl ?_ | refine zad rfl ?_)

/-! ### loop.example/g01098/spec.chLength: function 78 -/
def spec_chLength.l0 (a0 : Int) : Nat → Int → Option Int
  | 0, _ => none
  | k4 + 1, i1 => (nn i1).bind fun _ => if 0 < a0 / 2 ^ min (i1 : Int).toNat IntKind.i64.bits then (spec_chLength.l0 a0 k4 (w64 (i1 + 1))) else (some i1)
def spec_chLength.f (k : Nat) (a0 : Int) : Option Int := (spec_chLength.l0 a0 k 0).bind fun i1 => some i1
set_option maxHeartbeats 600000 in
set_option maxRecDepth 100000 in
theorem spec_chLength.calls (k : Nat) {w0 ws : World} {P0 : Nat → Prop} (a0 : Int) (Z : Below w0.heap.size w0 ws) (hF : Fr w0 ws P0 [] ws)  (r_1 : Int) (h : spec_chLength.f k a0 = some r_1) :
    Calls Try.prog 78 #[.int .i64 a0] ws (Post1 w0 ws P0 (fun (_ : Unit) => .int .i64 r_1) (fun (_ : Unit) => [])) := by
  unfold spec_chLength.f at h
  refine enter Try.func78 rfl Try.ntmps78 rfl hF ?_
  refine c_seq ?_
  refine za0 ?_
  refine o_q rfl rfl (q_asg rfl) ?_
  refine o_end ?_
  refine za1 ?_
  refine c_seq ?_
  refine za0 ?_
  refine o_q rfl rfl (q_asg rfl) ?_
  refine o_end ?_
  refine za1 ?_
  refine c_seq ?_
  refine zaf ?_
  refine za5 h (fun o9 hl8 hR7 => ?_) rfl
  clear h
  refine zas (σ := Int) (fun k4 (i1 : Int) => spec_chLength.l0 a0 k4 i1 = some o9) [3, 4, 5, 6, 7, 8, 9] (fun (i1 : Int) => [(3, .int .i64 i1)]) (fun (i1 : Int) => []) k 0 hl8 ⟨rfl, trivial⟩ (fun w h => h) ?_
  refine natC (fun i1 => fun U10 hJ_ => ?_) (fun k4 => (fun i1 => fun U10 hJ_ => ?_))
  · skip
    replace hJ_ : spec_chLength.l0 a0 0 i1 = some o9 := hJ_
    rw [spec_chLength.l0] at hJ_
    exact noneE hJ_
  · skip
    clear hl8
    have h := hJ_; clear hJ_
    replace h : spec_chLength.l0 a0 (k4 + 1) i1 = some o9 := h
    rw [spec_chLength.l0] at h
    refine c_seq ?_
    refine c_seq ?_
    refine za0 ?_
    refine o_q rfl rfl (za2 rfl) ?_
    refine o_q rfl rfl (za2 rfl) ?_
    refine za5 h (fun _ hz12 h => ?_) rfl
    refine o_q rfl rfl (q_shr rfl rfl (nn_le hz12)) ?_
    refine o_q rfl rfl (q_gtr rfl rfl) ?_
    refine o_end ?_
    refine za1 ?_
    refine zar _ rfl (fun hb13 => ?_) (fun hb13 => ?_)
    · skip
      replace h := br_t hb13 h
      refine zal ?_
      refine za1 ?_
      refine zaf ?_
      refine za0 ?_
      refine o_q rfl rfl (za2 rfl) ?_
      refine o_q rfl rfl (q_add64 rfl rfl) ?_
      refine o_q rfl rfl (q_asg rfl) ?_
      refine o_end ?_
      refine zaq ?_
      refine zak k4 (w64 (i1 + 1)) (Nat.lt_succ_self _) h ⟨rfl, trivial⟩ (fun w h => za7 [] (by decide) rfl w h) ?_
      repeat (first | exact zaa _ _ | refine zac rfl ?_ | refine zab rfl ?_ | refine zad rfl ?_)
    · skip
      replace h := br_f hb13 h
      refine c_exit ?_
      refine za4 ?_
      refine za4 ?_
      have e_ := Option.some.inj h; replace h := hR7; rw [← e_] at h; clear e_
      refine x_hit ?_
      refine za1 ?_
      refine c_seq ?_
      refine za0 ?_
      refine o_q rfl rfl (za2 rfl) ?_
      refine o_q rfl rfl (q_asg rfl) ?_
      refine o_end ?_
      refine za1 ?_
      refine c_ret ?_
      have e0_ := Option.some.inj h; clear h
      subst e0_
      exact x_r1 () Try.results78 (zah rfl) rfl (fun w h => za7 [] (by decide) rfl w h)

/-! ### loop.example/g01098/spec.l1Least: function 177 -/
def spec_l1Least.f (a0 : Int) (a1 : Int) : Option Int := if a0 < a1 then (some a0) else (some a1)
set_option maxHeartbeats 600000 in
set_option maxRecDepth 100000 in
theorem spec_l1Least.calls {w0 ws : World} {P0 : Nat → Prop} (a0 : Int) (a1 : Int) (Z : Below w0.heap.size w0 ws) (hF : Fr w0 ws P0 [] ws)  (r_1 : Int) (h : spec_l1Least.f a0 a1 = some r_1) :
    Calls Try.prog 177 #[.int .i64 a0, .int .i64 a1] ws (Post1 w0 ws P0 (fun (_ : Unit) => .int .i64 r_1) (fun (_ : Unit) => [])) := by
  unfold spec_l1Least.f at h
  refine enter Try.func177 rfl Try.ntmps177 rfl hF ?_
  refine c_seq ?_
  refine za0 ?_
  refine o_q rfl rfl (q_asg rfl) ?_
  refine o_end ?_
  refine za1 ?_
  refine c_seq ?_
  refine c_seq ?_
  refine za0 ?_
  refine o_q rfl rfl (za2 rfl) ?_
  refine o_q rfl rfl (za2 rfl) ?_
  refine o_q rfl rfl (q_lss rfl rfl) ?_
  refine o_end ?_
  refine za1 ?_
  refine zar _ rfl (fun hb1 => ?_) (fun hb1 => ?_)
  · skip
    replace h := br_t hb1 h
    refine c_seq ?_
    refine za0 ?_
    refine o_q rfl rfl (za2 rfl) ?_
    refine o_q rfl rfl (q_asg rfl) ?_
    refine o_end ?_
    refine za1 ?_
    refine c_ret ?_
    refine za8 ?_
    have e0_ := Option.some.inj h; clear h
    subst e0_
    exact x_r1 () Try.results177 (zah rfl) rfl (fun w h => za7 [] (by decide) rfl w h)
  · skip
    replace h := br_f hb1 h
    refine zal ?_
    refine za1 ?_
    refine c_seq ?_
    refine za0 ?_
    refine o_q rfl rfl (za2 rfl) ?_
    refine o_q rfl rfl (q_asg rfl) ?_
    refine o_end ?_
    refine za1 ?_
    refine c_ret ?_
    have e0_ := Option.some.inj h; clear h
    subst e0_
    exact x_r1 () Try.results177 (zah rfl) rfl (fun w h => za7 [] (by decide) rfl w h)

/-! ### loop.example/g01098/spec.plStep: function 147 -/
def spec_plStep.f (a0 : Int) (a1 : Int) : Option SStep := (spec_l1Least.f a0 a1).bind fun i4 => (spec_l1Most.f a0 a1).bind fun i6 => some (⟨i4, i6⟩ : SStep)
set_option maxHeartbeats 600000 in
set_option maxRecDepth 100000 in
theorem spec_plStep.calls {w0 ws : World} {P0 : Nat → Prop} (a0 : Int) (a1 : Int) (Z : Below w0.heap.size w0 ws) (hF : Fr w0 ws P0 [] ws)  (r_1 : SStep) (h : spec_plStep.f a0 a1 = some r_1) :
    Calls Try.prog 147 #[.int .i64 a0, .int .i64 a1] ws (Post1 w0 ws P0 (fun (_ : Unit) => .agg #[.int .i64 r_1.f0, .int .i64 r_1.f1]) (fun (_ : Unit) => [])) := by
  unfold spec_plStep.f at h
  refine enter Try.func147 rfl Try.ntmps147 rfl hF ?_
  refine c_seq ?_
  refine za0 ?_
  refine o_e rfl (zau V117 rfl) (fun g1 => ?_)
  refine o_end ?_
  refine za1 ?_
  refine c_seq ?_
  refine za0 ?_
  refine o_q rfl rfl (za2 rfl) ?_
  refine o_q rfl rfl (za2 rfl) ?_
  refine za5 h (fun i4 hx3 h => ?_) rfl
  refine o_e rfl (za9 0 Z Try.func177 N177 rfl rfl rfl (fun w P1 hF hB hS hT => spec_l1Least.calls a0 a1 hB hF _ hx3)) (fun _ => ?_)
  refine o_q rfl rfl (za2 rfl) ?_
  refine o_q rfl rfl (za2 rfl) ?_
  refine za5 h (fun i6 hx5 h => ?_) rfl
  refine o_e rfl (za9 0 Z Try.func146 N146 rfl rfl rfl (fun w P1 hF hB hS hT => spec_l1Most.calls a0 a1 hB hF _ hx5)) (fun _ => ?_)
  refine o_q rfl rfl (q_build (vs := [(0, .int .i64 i4), (1, .int .i64 i6)]) (cs := [.int .i64 i4, .int .i64 i6]) rfl rfl) ?_
  refine o_e rfl (zaj (i := 0) rfl rfl rfl Z117 rfl rfl) (fun _ => ?_)
  refine o_end ?_
  refine za1 ?_
  refine c_ret ?_
  have e0_ := Option.some.inj h; clear h
  subst e0_
  exact x_r1 () Try.results147 (rv_cell rfl G117 Z117 (fun w h => h.zae (i := 0) rfl) rfl) rfl (fun w h => za7 [] (by decide) rfl w h)

/-! ### loop.example/g01098/spec.meTimes: function 80 -/
def spec_meTimes.f (a0_0 : Int) (l0_1 : List SStep) (l0_2 : List Int) (a1 : Int) (a2 : Int) : Option (List SStep) := ((ap ([] : List SStep) l0_1).bind fun l1216 => (spec_plStep.f a1 a2).bind fun z1397 => (ap l1216 ([z1397] : List SStep)).bind fun l1516 => some l1516).bind fun l907 => some l907
set_option maxHeartbeats 600000 in
set_option maxRecDepth 100000 in
theorem spec_meTimes.calls {w0 ws : World} {P0 : Nat → Prop} (a0_0 : Int) (A0_1 : Option Addr) (c0_1 : Nat) (n0_1 : Nat) (l0_1 : List SStep) (A0_2 : Option Addr) (c0_2 : Nat) (n0_2 : Nat) (l0_2 : List Int) (a1 : Int) (a2 : Int) (Z : Below w0.heap.size w0 ws) (hF : Fr w0 ws P0 [] ws) (R0_1 : Stable ws P0 (fun w => Kd.C kStep w A0_1 n0_1 l0_1)) (hc0_1 : n0_1 ≤ c0_1) (R0_2 : Stable ws P0 (fun w => Kd.C (Kd.int .i64) w A0_2 n0_2 l0_2)) (hc0_2 : n0_2 ≤ c0_2) (r_1 : List SStep) (h : spec_meTimes.f a0_0 l0_1 l0_2 a1 a2 = some r_1) :
    Calls Try.prog 80 #[.agg #[.int .i64 a0_0, .slice A0_1 n0_1 c0_1, .slice A0_2 n0_2 c0_2], .int .i64 a1, .int .i64 a2] ws (Post1 w0 ws P0 (fun ((q_2, q_3) : (Option Addr) × Nat) => .tuple #[.agg #[.int .i64 a0_0, .slice q_2 r_1.length q_3, .slice none 0 0], .int .i64 (w64 (a0_0 + (l0_1.length : Int)))]) (fun ((q_2, q_3) : (Option Addr) × Nat) => [row kStep 117 (.slice q_2 r_1.length q_3) r_1, row (Kd.int .i64) 3 (.slice none 0 0) []])) := by
  unfold spec_meTimes.f at h
  obtain rfl := (R0_1 ws (KeptB.refl _ _)).1
  obtain rfl := (R0_2 ws (KeptB.refl _ _)).1
  refine enter Try.func80 rfl Try.ntmps80 rfl hF ?_
  refine c_seq ?_
  refine za0 ?_
  refine o_e rfl (e_box rfl) (fun g1 => ?_)
  refine o_e rfl (zau V36 rfl) (fun g3 => ?_)
  refine o_q rfl rfl (q_asg rfl) ?_
  refine o_end ?_
  refine za1 ?_
  refine za5 h (fun o910 hl911 hR912 => ?_) rfl
  clear h
  refine c_cutJ (σ := (List SStep) × Nat × (Option Addr) × Nat) (fun (l907, g906, A908, c909) => some l907 = some o910) [8, 9, 10, 11, 12, 13, 14, 15, 16, 17, 18, 19, 20] (fun (l907, g906, A908, c909) => [(8, .pointer (some ⟨g906, 0, none⟩))]) (fun (l907, g906, A908, c909) => [box g1 36 #[.int .i64 a0_0, .slice A0_1 l0_1.length c0_1, .slice A0_2 l0_2.length c0_2], box g3 36 #[.int .i64 0, .slice none 0 0, .slice none 0 0], box g906 36 #[.int .i64 a0_0, .slice A908 l907.length c909, .slice none 0 0], row kStep 117 (.slice A908 l907.length c909) l907]) ?_ ?_
  · skip
    have h := hl911; clear hl911
    clear hR912
    refine za5 h (fun l1216 ha1217 h => ?_) rfl
    refine za5 h (fun z1397 hx1396 h => ?_) rfl
    refine za5 h (fun l1516 ha1517 h => ?_) rfl
    refine a_start (ds := []) MO rfl ?_
    refine zai 0 rfl rfl rfl (by kernel_rfl) (fun _ _ _ h => h) (q_f F36_0 rfl) ?_
    refine a_take 1 rfl rfl rfl (by kernel_rfl) (fun _ _ _ h => h) (fun w h => h) (q_ldb Y3 rfl (fun w h => h.zae (i := 1) rfl) rfl) ?_
    refine zai 3 rfl rfl rfl (by kernel_rfl) (fun _ _ _ h => h) (q_f F36_1 rfl) ?_
    refine a_take 4 rfl rfl rfl (by kernel_rfl) (fun _ _ _ h => h) (fun w h => h) (q_ldb Y34 rfl (fun w h => h.zae (i := 1) rfl) rfl) ?_
    refine zai 6 rfl rfl rfl (by kernel_rfl) (fun _ _ _ h => h) (za2 rfl) ?_
    refine zai 7 rfl rfl rfl (by kernel_rfl) (fun _ _ _ h => h) (za2 rfl) ?_
    refine a_two 2 12 rfl rfl rfl rfl (by kernel_rfl) rfl rfl (e_lit0 kStep Try.underlying34 I117) (fun s w h => zao [some 1, some 2] (by decide) w h rfl) (zau V36 rfl) (fun s w h => zao [some 1, some 2] (by decide) w h rfl) (cur2 (fun A1036 c1037 => ?_)) (fun g1636 => ?_)
    · skip
      refine a_two 5 12 rfl rfl rfl rfl (by kernel_rfl) rfl rfl (e_appr (i := 0) Try.underlying34 I117 rfl (by decide) (by decide) (fun _ _ _ _ h => h) rfl (fun w h => R0_1.now Z h) rfl rfl ha1217) (fun s w h => zao [some 1, some 2] (by decide) w h rfl) (zau V36 rfl) (fun s w h => zao [some 2, some 3] (by decide) w h rfl) (cur2 (fun A1218 c1219 => ?_)) (fun g1636 => ?_)
      · skip
        refine a_two 8 12 rfl rfl rfl rfl (by kernel_rfl) rfl rfl (za9 0 Z Try.func147 N147 rfl rfl rfl (fun w P1 hF hB hS hT => spec_plStep.calls a1 a2 hB hF _ hx1396)) (fun s w h => zao [some 1, some 2] (by decide) w h rfl) (zau V36 rfl) (fun s w h => zao [some 2, some 3] (by decide) w h rfl) (fun _ => ?_) (fun g1636 => ?_)
        · skip
          refine a_two 9 12 rfl rfl rfl rfl (by kernel_rfl) rfl rfl (e_lit (vs := [(0, .agg #[.int .i64 z1397.f0, .int .i64 z1397.f1])]) (cs := [.int .i64 z1397.f0, .int .i64 z1397.f1]) kStep ([z1397] : List SStep) Try.underlying34 I117 (by decide) rfl (by decide) rfl rfl (fun _ _ => reps_flat _)) (fun s w h => zao [some 2, some 3] (by decide) w h rfl) (zau V36 rfl) (fun s w h => zao [some 2, some 3] (by decide) w h rfl) (cur2 (fun A1456 c1457 => ?_)) (fun g1636 => ?_)
          · skip
            refine a_two 10 12 rfl rfl rfl rfl (by kernel_rfl) rfl rfl (e_app (i := 1) (j := 0) Try.underlying34 I117 rfl (by decide) (by decide) rfl rfl rfl rfl rfl ha1517) (fun s w h => zao [some 2, some 3] (by decide) w h rfl) (zau V36 rfl) (fun s w h => zao [some 3, some 4] (by decide) w h rfl) (cur2 (fun A1518 c1519 => ?_)) (fun g1636 => ?_)
            · skip
              refine zai 11 rfl rfl rfl (by kernel_rfl) (fun _ _ _ h => h) (q_build (vs := [(0, .int .i64 a0_0), (1, .slice A1518 l1516.length c1519)]) (cs := [.int .i64 a0_0, .slice A1518 l1516.length c1519, .slice none 0 0]) rfl rfl) ?_
              refine a_one 12 rfl rfl (by kernel_rfl) rfl (zau V36 rfl) (fun s w h => zao [some 3, some 4] (by decide) w h rfl) (fun g1636 => ?_)
              refine a_one 13 rfl rfl (by kernel_rfl) rfl (zaj (i := 0) rfl rfl rfl Z36 rfl rfl) (fun s w h => zao [some 3, some 4] (by decide) w h rfl) (fun _ => ?_)
              refine a_done (by kernel_rfl) ?_
              refine x_meetJ (l1516, g1636, A1518, c1519) h ⟨rfl, trivial⟩ (fun w h => za7 [4, 3, 0, 2] (by decide) rfl w h) ?_
              repeat (first | exact zaa _ _ | refine zac rfl ?_ | refine zab rfl ?_ | refine zad rfl ?_)
            · skip
              refine a_one 10 rfl rfl (by kernel_rfl) rfl (e_app (i := 2) (j := 1) Try.underlying34 I117 rfl (by decide) (by decide) rfl rfl rfl rfl rfl ha1517) (fun s w h => zao [some 3, some 4] (by decide) w h rfl) (cur2 (fun A1518 c1519 => ?_))
              refine zai 11 rfl rfl rfl (by kernel_rfl) (fun _ _ _ h => h) (q_build (vs := [(0, .int .i64 a0_0), (1, .slice A1518 l1516.length c1519)]) (cs := [.int .i64 a0_0, .slice A1518 l1516.length c1519, .slice none 0 0]) rfl rfl) ?_
              refine a_one 13 rfl rfl (by kernel_rfl) rfl (zaj (i := 0) rfl rfl rfl Z36 rfl rfl) (fun s w h => zao [some 3, some 4] (by decide) w h rfl) (fun _ => ?_)
              refine a_done (by kernel_rfl) ?_
              refine x_meetJ (l1516, g1636, A1518, c1519) h ⟨rfl, trivial⟩ (fun w h => za7 [4, 3, 0, 2] (by decide) rfl w h) ?_
              repeat (first | exact zaa _ _ | refine zac rfl ?_ | refine zab rfl ?_ | refine zad rfl ?_)
          · skip
            refine a_one 9 rfl rfl (by kernel_rfl) rfl (e_lit (vs := [(0, .agg #[.int .i64 z1397.f0, .int .i64 z1397.f1])]) (cs := [.int .i64 z1397.f0, .int .i64 z1397.f1]) kStep ([z1397] : List SStep) Try.underlying34 I117 (by decide) rfl (by decide) rfl rfl (fun _ _ => reps_flat _)) (fun s w h => zao [some 3, some 4] (by decide) w h rfl) (cur2 (fun A1456 c1457 => ?_))
            refine a_one 10 rfl rfl (by kernel_rfl) rfl (e_app (i := 2) (j := 0) Try.underlying34 I117 rfl (by decide) (by decide) rfl rfl rfl rfl rfl ha1517) (fun s w h => zao [some 3, some 4] (by decide) w h rfl) (cur2 (fun A1518 c1519 => ?_))
            refine zai 11 rfl rfl rfl (by kernel_rfl) (fun _ _ _ h => h) (q_build (vs := [(0, .int .i64 a0_0), (1, .slice A1518 l1516.length c1519)]) (cs := [.int .i64 a0_0, .slice A1518 l1516.length c1519, .slice none 0 0]) rfl rfl) ?_
            refine a_one 13 rfl rfl (by kernel_rfl) rfl (zaj (i := 1) rfl rfl rfl Z36 rfl rfl) (fun s w h => zao [some 3, some 4] (by decide) w h rfl) (fun _ => ?_)
            refine a_done (by kernel_rfl) ?_
            refine x_meetJ (l1516, g1636, A1518, c1519) h ⟨rfl, trivial⟩ (fun w h => za7 [4, 3, 1, 2] (by decide) rfl w h) ?_
            repeat (first | exact zaa _ _ | refine zac rfl ?_ | refine zab rfl ?_ | refine zad rfl ?_)
        · skip
          refine a_one 8 rfl rfl (by kernel_rfl) rfl (za9 0 Z Try.func147 N147 rfl rfl rfl (fun w P1 hF hB hS hT => spec_plStep.calls a1 a2 hB hF _ hx1396)) (fun s w h => zao [some 2, some 3] (by decide) w h rfl) (fun _ => ?_)
          refine a_one 9 rfl rfl (by kernel_rfl) rfl (e_lit (vs := [(0, .agg #[.int .i64 z1397.f0, .int .i64 z1397.f1])]) (cs := [.int .i64 z1397.f0, .int .i64 z1397.f1]) kStep ([z1397] : List SStep) Try.underlying34 I117 (by decide) rfl (by decide) rfl rfl (fun _ _ => reps_flat _)) (fun s w h => zao [some 3, some 4] (by decide) w h rfl) (cur2 (fun A1456 c1457 => ?_))
          refine a_one 10 rfl rfl (by kernel_rfl) rfl (e_app (i := 2) (j := 0) Try.underlying34 I117 rfl (by decide) (by decide) rfl rfl rfl rfl rfl ha1517) (fun s w h => zao [some 3, some 4] (by decide) w h rfl) (cur2 (fun A1518 c1519 => ?_))
          refine zai 11 rfl rfl rfl (by kernel_rfl) (fun _ _ _ h => h) (q_build (vs := [(0, .int .i64 a0_0), (1, .slice A1518 l1516.length c1519)]) (cs := [.int .i64 a0_0, .slice A1518 l1516.length c1519, .slice none 0 0]) rfl rfl) ?_
          refine a_one 13 rfl rfl (by kernel_rfl) rfl (zaj (i := 1) rfl rfl rfl Z36 rfl rfl) (fun s w h => zao [some 3, some 4] (by decide) w h rfl) (fun _ => ?_)
          refine a_done (by kernel_rfl) ?_
          refine x_meetJ (l1516, g1636, A1518, c1519) h ⟨rfl, trivial⟩ (fun w h => za7 [4, 3, 1, 2] (by decide) rfl w h) ?_
          repeat (first | exact zaa _ _ | refine zac rfl ?_ | refine zab rfl ?_ | refine zad rfl ?_)
      · skip
        refine a_one 5 rfl rfl (by kernel_rfl) rfl (e_appr (i := 1) Try.underlying34 I117 rfl (by decide) (by decide) (fun _ _ _ _ h => h) rfl (fun w h => R0_1.now Z h) rfl rfl ha1217) (fun s w h => zao [some 2, some 3] (by decide) w h rfl) (cur2 (fun A1218 c1219 => ?_))
        refine a_one 8 rfl rfl (by kernel_rfl) rfl (za9 0 Z Try.func147 N147 rfl rfl rfl (fun w P1 hF hB hS hT => spec_plStep.calls a1 a2 hB hF _ hx1396)) (fun s w h => zao [some 2, some 3] (by decide) w h rfl) (fun _ => ?_)
        refine a_one 9 rfl rfl (by kernel_rfl) rfl (e_lit (vs := [(0, .agg #[.int .i64 z1397.f0, .int .i64 z1397.f1])]) (cs := [.int .i64 z1397.f0, .int .i64 z1397.f1]) kStep ([z1397] : List SStep) Try.underlying34 I117 (by decide) rfl (by decide) rfl rfl (fun _ _ => reps_flat _)) (fun s w h => zao [some 3, some 4] (by decide) w h rfl) (cur2 (fun A1456 c1457 => ?_))
        refine a_one 10 rfl rfl (by kernel_rfl) rfl (e_app (i := 2) (j := 0) Try.underlying34 I117 rfl (by decide) (by decide) rfl rfl rfl rfl rfl ha1517) (fun s w h => zao [some 3, some 4] (by decide) w h rfl) (cur2 (fun A1518 c1519 => ?_))
        refine zai 11 rfl rfl rfl (by kernel_rfl) (fun _ _ _ h => h) (q_build (vs := [(0, .int .i64 a0_0), (1, .slice A1518 l1516.length c1519)]) (cs := [.int .i64 a0_0, .slice A1518 l1516.length c1519, .slice none 0 0]) rfl rfl) ?_
        refine a_one 13 rfl rfl (by kernel_rfl) rfl (zaj (i := 1) rfl rfl rfl Z36 rfl rfl) (fun s w h => zao [some 3, some 4] (by decide) w h rfl) (fun _ => ?_)
        refine a_done (by kernel_rfl) ?_
        refine x_meetJ (l1516, g1636, A1518, c1519) h ⟨rfl, trivial⟩ (fun w h => za7 [4, 3, 1, 2] (by decide) rfl w h) ?_
        repeat (first | exact zaa _ _ | refine zac rfl ?_ | refine zab rfl ?_ | refine zad rfl ?_)
    · skip
      refine a_one 2 rfl rfl (by kernel_rfl) rfl (e_lit0 kStep Try.underlying34 I117) (fun s w h => zao [some 2, some 3] (by decide) w h rfl) (cur2 (fun A1036 c1037 => ?_))
      refine a_one 5 rfl rfl (by kernel_rfl) rfl (e_appr (i := 0) Try.underlying34 I117 rfl (by decide) (by decide) (fun _ _ _ _ h => h) rfl (fun w h => R0_1.now Z h) rfl rfl ha1217) (fun s w h => zao [some 2, some 3] (by decide) w h rfl) (cur2 (fun A1218 c1219 => ?_))
      refine a_one 8 rfl rfl (by kernel_rfl) rfl (za9 0 Z Try.func147 N147 rfl rfl rfl (fun w P1 hF hB hS hT => spec_plStep.calls a1 a2 hB hF _ hx1396)) (fun s w h => zao [some 2, some 3] (by decide) w h rfl) (fun _ => ?_)
      refine a_one 9 rfl rfl (by kernel_rfl) rfl (e_lit (vs := [(0, .agg #[.int .i64 z1397.f0, .int .i64 z1397.f1])]) (cs := [.int .i64 z1397.f0, .int .i64 z1397.f1]) kStep ([z1397] : List SStep) Try.underlying34 I117 (by decide) rfl (by decide) rfl rfl (fun _ _ => reps_flat _)) (fun s w h => zao [some 3, some 4] (by decide) w h rfl) (cur2 (fun A1456 c1457 => ?_))
      refine a_one 10 rfl rfl (by kernel_rfl) rfl (e_app (i := 1) (j := 0) Try.underlying34 I117 rfl (by decide) (by decide) rfl rfl rfl rfl rfl ha1517) (fun s w h => zao [some 3, some 4] (by decide) w h rfl) (cur2 (fun A1518 c1519 => ?_))
      refine zai 11 rfl rfl rfl (by kernel_rfl) (fun _ _ _ h => h) (q_build (vs := [(0, .int .i64 a0_0), (1, .slice A1518 l1516.length c1519)]) (cs := [.int .i64 a0_0, .slice A1518 l1516.length c1519, .slice none 0 0]) rfl rfl) ?_
      refine a_one 13 rfl rfl (by kernel_rfl) rfl (zaj (i := 2) rfl rfl rfl Z36 rfl rfl) (fun s w h => zao [some 3, some 4] (by decide) w h rfl) (fun _ => ?_)
      refine a_done (by kernel_rfl) ?_
      refine x_meetJ (l1516, g1636, A1518, c1519) h ⟨rfl, trivial⟩ (fun w h => za7 [4, 3, 2, 1] (by decide) rfl w h) ?_
      repeat (first | exact zaa _ _ | refine zac rfl ?_ | refine zab rfl ?_ | refine zad rfl ?_)
  · skip
    refine (cur4 (fun l907 g906 A908 c909 => fun U913 hJ914 => ?_))
    have e_ := Option.some.inj hJ914; have h := hR912; rw [← e_] at h; clear e_ hJ914 hR912 hl911
    refine c_seq ?_
    refine a_startS (ds := []) [some 0, none, some 2, some 3] MO rfl ?_
    refine a_take 0 rfl rfl rfl (by kernel_rfl) (fun _ _ _ h => h) (fun w h => zao [some 0, none, some 2, some 3] (by decide) w h rfl) (q_ldB G36 Z36 rfl (fun w h => h.zae (i := 2) rfl) rfl) ?_
    refine zai 1 rfl rfl rfl (by kernel_rfl) (fun _ _ _ h => h) (q_f F36_0 rfl) ?_
    refine a_take 2 rfl rfl rfl (by kernel_rfl) (fun _ _ _ h => h) (fun w h => zao [some 0, none, some 2, some 3] (by decide) w h rfl) (q_ldb Y3 rfl (fun w h => h.zae (i := 0) rfl) rfl) ?_
    refine zai 3 rfl rfl rfl (by kernel_rfl) (fun _ _ _ h => h) (q_f F36_1 rfl) ?_
    refine a_take 4 rfl rfl rfl (by kernel_rfl) (fun _ _ _ h => h) (fun w h => zao [some 0, none, some 2, some 3] (by decide) w h rfl) (q_ldb Y34 rfl (fun w h => h.zae (i := 0) rfl) rfl) ?_
    refine zai 5 rfl rfl rfl (by kernel_rfl) (fun _ _ _ h => h) (q_len Try.underlying34 rfl) ?_
    refine zai 6 rfl rfl rfl (by kernel_rfl) (fun _ _ _ h => h) (q_add64 rfl rfl) ?_
    refine a_one 7 rfl rfl (by kernel_rfl) rfl (zaj (i := 1) rfl rfl rfl Z36 rfl rfl) (fun s w h => zao [some 0, none, some 2, some 3] (by decide) w h rfl) (fun _ => ?_)
    refine zai 8 rfl rfl rfl (by kernel_rfl) (fun _ _ _ h => h) (q_asg rfl) ?_
    refine a_done (by kernel_rfl) ?_
    refine za1 ?_
    refine c_ret ?_
    refine x_nil (Kd.int .i64) 3 ?_
    have e0_ := Option.some.inj h; clear h
    subst e0_
    exact x_r2 (A908, c909) Try.results80 (rv_cell rfl G36 Z36 (fun w h => h.zae (i := 2) rfl) rfl) (zah rfl) rfl (fun w h => za7 [4, 0] (by decide) rfl w h)

/-! ### loop.example/g01098/spec.meEnd: function 157 -/
def spec_meEnd.f (a0_0 : Int) (l0_1 : List SStep) (l0_2 : List Int) (a1 : Int) : Option Unit := some ()
set_option maxHeartbeats 600000 in
set_option maxRecDepth 100000 in
theorem spec_meEnd.calls {w0 ws : World} {P0 : Nat → Prop} (a0_0 : Int) (A0_1 : Option Addr) (c0_1 : Nat) (n0_1 : Nat) (l0_1 : List SStep) (A0_2 : Option Addr) (c0_2 : Nat) (n0_2 : Nat) (l0_2 : List Int) (a1 : Int) (Z : Below w0.heap.size w0 ws) (hF : Fr w0 ws P0 [row kStep 117 (.slice A0_1 n0_1 c0_1) l0_1] ws) (R0_2 : Stable ws P0 (fun w => Kd.C (Kd.int .i64) w A0_2 n0_2 l0_2)) (hc0_2 : n0_2 ≤ c0_2)  (h : spec_meEnd.f a0_0 l0_1 l0_2 a1 = some ()) :
    Calls Try.prog 157 #[.agg #[.int .i64 a0_0, .slice A0_1 n0_1 c0_1, .slice A0_2 n0_2 c0_2], .int .i64 a1] ws (Post1 w0 ws P0 (fun ((q_1, q_2) : (Option Addr) × Nat) => .agg #[.int .i64 a0_0, .slice A0_1 n0_1 c0_1, .slice q_1 (([a1] : List Int).length) q_2]) (fun ((q_1, q_2) : (Option Addr) × Nat) => [row kStep 117 (.slice A0_1 n0_1 c0_1) l0_1, row (Kd.int .i64) 3 (.slice q_1 (([a1] : List Int).length) q_2) ([a1] : List Int)])) := by
  unfold spec_meEnd.f at h
  obtain rfl := (hF.row_C (i := 0) rfl).2.1
  obtain rfl := (R0_2 ws (KeptB.refl _ _)).1
  refine enter Try.func157 rfl Try.ntmps157 rfl hF ?_
  refine c_seq ?_
  refine za0 ?_
  refine o_e rfl (e_box rfl) (fun g1 => ?_)
  refine o_e rfl (zau V36 rfl) (fun g3 => ?_)
  refine o_end ?_
  refine za1 ?_
  refine c_seq ?_
  refine za0 ?_
  refine o_q rfl rfl (q_f F36_0 rfl) ?_
  refine o_q rfl rfl (q_ldb Y3 rfl (fun w h => h.zae (i := 1) rfl) rfl) ?_
  refine o_q rfl rfl (q_f F36_1 rfl) ?_
  refine o_q rfl rfl (q_ldb Y34 rfl (fun w h => h.zae (i := 1) rfl) rfl) ?_
  refine o_q rfl rfl (za2 rfl) ?_
  refine o_e rfl (e_lit (vs := [(0, .int .i64 a1)]) (cs := [.int .i64 a1]) (Kd.int .i64) ([a1] : List Int) Try.underlying22 I3 (by decide) rfl (by decide) rfl rfl (fun _ _ => Kd.reps_scalar _)) (cur2 (fun A5 c6 => ?_))
  refine o_q rfl rfl (q_build (vs := [(0, .int .i64 a0_0), (1, .slice A0_1 l0_1.length c0_1), (2, .slice A5 (([a1] : List Int).length) c6)]) (cs := [.int .i64 a0_0, .slice A0_1 l0_1.length c0_1, .slice A5 (([a1] : List Int).length) c6]) rfl rfl) ?_
  refine o_e rfl (zaj (i := 1) rfl rfl rfl Z36 rfl rfl) (fun _ => ?_)
  refine o_end ?_
  refine za1 ?_
  refine c_ret ?_
  exact x_r1 (A5, c6) Try.results157 (rv_cell rfl G36 Z36 (fun w h => h.zae (i := 1) rfl) rfl) rfl (fun w h => za7 [3, 0] (by decide) rfl w h)

/-! ### loop.example/g01098/spec.plSum: function 173 -/
def spec_plSum.l0 (l1 : List Int) : (List Int) → (List Int) → Int → Option (List Int)
  | [], l3, i6 => some l3
  | y7 :: ys8, l3, i6 => (gt l1 i6).bind fun y20 => (spec_l1Least.f (w64 (y7 + y20)) 1000001).bind fun i22 => (ap l3 ([i22] : List Int)).bind fun l26 => spec_plSum.l0 l1 ys8 l26 (i6 + 1)
def spec_plSum.f (l0 : List Int) (l1 : List Int) : Option (List Int) := (spec_plSum.l0 l1 l0 ([] : List Int) 0).bind fun l3 => some l3
set_option maxHeartbeats 600000 in
set_option maxRecDepth 100000 in
theorem spec_plSum.calls {w0 ws : World} {P0 : Nat → Prop} (A0 : Option Addr) (c0 : Nat) (n0 : Nat) (l0 : List Int) (A1 : Option Addr) (c1 : Nat) (n1 : Nat) (l1 : List Int) (Z : Below w0.heap.size w0 ws) (hF : Fr w0 ws P0 [] ws) (R0 : Stable ws P0 (fun w => Kd.C (Kd.int .i64) w A0 n0 l0)) (hc0 : n0 ≤ c0) (R1 : Stable ws P0 (fun w => Kd.C (Kd.int .i64) w A1 n1 l1)) (hc1 : n1 ≤ c1) (r_1 : List Int) (h : spec_plSum.f l0 l1 = some r_1) :
    Calls Try.prog 173 #[.slice A0 n0 c0, .slice A1 n1 c1] ws (Post1 w0 ws P0 (fun ((q_2, q_3) : (Option Addr) × Nat) => .slice q_2 r_1.length q_3) (fun ((q_2, q_3) : (Option Addr) × Nat) => [row (Kd.int .i64) 3 (.slice q_2 r_1.length q_3) r_1])) := by
  unfold spec_plSum.f at h
  obtain rfl := (R0 ws (KeptB.refl _ _)).1
  obtain rfl := (R1 ws (KeptB.refl _ _)).1
  refine enter Try.func173 rfl Try.ntmps173 rfl hF ?_
  refine c_seq ?_
  refine za0 ?_
  refine o_q rfl rfl (q_asg rfl) ?_
  refine o_end ?_
  refine za1 ?_
  refine c_seq ?_
  refine za0 ?_
  refine o_q rfl rfl (q_asg rfl) ?_
  refine o_end ?_
  refine za1 ?_
  refine c_seq ?_
  refine c_seq ?_
  refine za0 ?_
  refine o_q rfl rfl (za2 rfl) ?_
  refine o_q rfl rfl (q_len Try.underlying22 rfl) ?_
  refine o_q rfl rfl (za2 rfl) ?_
  refine o_end ?_
  refine za1 ?_
  refine zaf ?_
  refine c_nil (Kd.int .i64) 3 ?_
  refine za5 h (fun o14 hl13 hR12 => ?_) rfl
  clear h
  refine c_fact (p := l0.length ≤ 9223372036854775807) (fun w h => (R0.now Z h).2.1) (fun hm11 => ?_)
  refine zas (σ := (List Int) × (List Int) × Int × (Option Addr) × Nat) (fun k9 ((ys8, l3, i6, A4, c5) : (List Int) × (List Int) × Int × (Option Addr) × Nat) => Rg l0 i6 ys8 ∧ ys8.length = k9 ∧ spec_plSum.l0 l1 ys8 l3 i6 = some o14) [5, 6, 9, 10, 11, 12, 13, 14, 15, 16, 17, 18, 19, 20, 21, 22, 23, 24, 25] (fun ((ys8, l3, i6, A4, c5) : (List Int) × (List Int) × Int × (Option Addr) × Nat) => [(5, .slice A4 l3.length c5), (9, .int .i64 i6)]) (fun ((ys8, l3, i6, A4, c5) : (List Int) × (List Int) × Int × (Option Addr) × Nat) => [row (Kd.int .i64) 3 (.slice A4 l3.length c5) l3]) l0.length (l0, ([] : List Int), 0, none, 0) ⟨Rg.start _, rfl, hl13⟩ ⟨rfl, rfl, trivial⟩ (fun w h => h) ?_
  refine fun k9 => cur5 (listC (fun l3 i6 A4 c5 U15 hJ_ => ?_) (fun y7 ys8 l3 i6 A4 c5 U15 hJ_ => ?_))
  · skip
    clear hl13
    have hr10 := hJ_.1; have hk16 := hJ_.2.1; have h := hJ_.2.2; clear hJ_
    replace h : spec_plSum.l0 l1 [] l3 i6 = some o14 := h
    rw [spec_plSum.l0] at h
    refine c_seq ?_
    refine za0 ?_
    refine o_q rfl rfl (q_lss rfl rfl) ?_
    refine o_end ?_
    refine za1 ?_
    refine c_seq ?_
    refine c_false (congrArg Value.bool hr10.ge) ?_
    refine c_exit ?_
    refine za4 ?_
    refine za4 ?_
    have e_ := Option.some.inj h; replace h := hR12; rw [← e_] at h; clear e_
    refine x_hit ?_
    refine za1 ?_
    refine c_seq ?_
    refine za0 ?_
    refine o_q rfl rfl (za2 rfl) ?_
    refine o_q rfl rfl (q_asg rfl) ?_
    refine o_end ?_
    refine za1 ?_
    refine c_ret ?_
    have e0_ := Option.some.inj h; clear h
    subst e0_
    exact x_r1 (A4, c5) Try.results173 (zah rfl) rfl (fun w h => za7 [0] (by decide) rfl w h)
  · skip
    clear hl13
    have hr10 := hJ_.1; have hk16 := hJ_.2.1; have h := hJ_.2.2; clear hJ_
    replace h : spec_plSum.l0 l1 (y7 :: ys8) l3 i6 = some o14 := h
    rw [spec_plSum.l0] at h
    refine c_seq ?_
    refine za0 ?_
    refine o_q rfl rfl (q_lss rfl rfl) ?_
    refine o_end ?_
    refine za1 ?_
    refine c_seq ?_
    refine c_true (congrArg Value.bool hr10.lt) ?_
    refine zal ?_
    refine za1 ?_
    refine c_seq ?_
    refine zaf ?_
    refine c_seq ?_
    refine za0 ?_
    refine o_q rfl rfl (za2 rfl) ?_
    refine o_q rfl rfl (q_asg rfl) ?_
    refine o_end ?_
    refine za1 ?_
    refine a_startS (ds := []) [none] MO rfl ?_
    refine zai 0 rfl rfl rfl (by kernel_rfl) (fun _ _ _ h => h) (za2 rfl) ?_
    refine zai 1 rfl rfl rfl (by kernel_rfl) (fun _ _ _ h => h) (za2 rfl) ?_
    refine zai 2 rfl rfl rfl (by kernel_rfl) (fun _ _ _ h => h) (za2 rfl) ?_
    refine a_fact (p := Sh A0 l0.length l0.length) (fun w h => f_sh (dk := (Kd.int .i64)) h (fun w h => R0.now Z h)) (fun hq17 => ?_)
    refine zai 3 rfl rfl rfl (by kernel_rfl) (fun _ _ _ h => h) (q_ix Try.underlying22 Z3 rfl rfl hq17 hr10.get) ?_
    refine a_take 4 rfl rfl rfl (by kernel_rfl) (fun _ _ _ h => h) (fun w h => zao [none] (by decide) w h rfl) (q_lde (off := 0) Y3 rfl rfl (fun w h => R0.now Z h) hr10.get (fun _ _ h => h) rfl) ?_
    refine zai 5 rfl rfl rfl (by kernel_rfl) (fun _ _ _ h => h) (za2 rfl) ?_
    refine zai 6 rfl rfl rfl (by kernel_rfl) (fun _ _ _ h => h) (za2 rfl) ?_
    refine a_fact (p := Sh A1 l1.length l1.length) (fun w h => f_sh (dk := (Kd.int .i64)) h (fun w h => R1.now Z h)) (fun hq18 => ?_)
    refine za5 h (fun y20 hg19 h => ?_) rfl
    refine zai 7 rfl rfl rfl (by kernel_rfl) (fun _ _ _ h => h) (q_ix Try.underlying22 Z3 rfl rfl hq18 hg19) ?_
    refine a_take 8 rfl rfl rfl (by kernel_rfl) (fun _ _ _ h => h) (fun w h => zao [none] (by decide) w h rfl) (q_lde (off := 0) Y3 rfl rfl (fun w h => R1.now Z h) hg19 (fun _ _ h => h) rfl) ?_
    refine zai 9 rfl rfl rfl (by kernel_rfl) (fun _ _ _ h => h) (q_add64 rfl rfl) ?_
    refine za5 h (fun i22 hx21 h => ?_) rfl
    refine a_one 10 rfl rfl (by kernel_rfl) rfl (za9 0 Z Try.func177 N177 rfl rfl rfl (fun w P1 hF hB hS hT => spec_l1Least.calls (w64 (y7 + y20)) 1000001 hB hF _ hx21)) (fun s w h => zao [none] (by decide) w h rfl) (fun _ => ?_)
    refine a_one 11 rfl rfl (by kernel_rfl) rfl (e_lit (vs := [(0, .int .i64 i22)]) (cs := [.int .i64 i22]) (Kd.int .i64) ([i22] : List Int) Try.underlying22 I3 (by decide) rfl (by decide) rfl rfl (fun _ _ => Kd.reps_scalar _)) (fun s w h => zao [none] (by decide) w h rfl) (cur2 (fun A23 c24 => ?_))
    refine za5 h (fun l26 ha27 h => ?_) rfl
    refine a_one 12 rfl rfl (by kernel_rfl) rfl (e_app (i := 1) (j := 0) Try.underlying22 I3 rfl (by decide) (by decide) rfl rfl rfl rfl rfl ha27) (fun s w h => zao [none] (by decide) w h rfl) (cur2 (fun A28 c29 => ?_))
    refine zai 13 rfl rfl rfl (by kernel_rfl) (fun _ _ _ h => h) (q_asg rfl) ?_
    refine a_done (by kernel_rfl) ?_
    refine zaq ?_
    refine za1 ?_
    refine za0 ?_
    refine o_q rfl rfl (q_up rfl rfl (hr10.up hm11)) ?_
    refine o_q rfl rfl (za2 rfl) ?_
    refine o_end ?_
    refine zak ys8.length (ys8, l26, i6 + 1, A28, c29) (by rw [← hk16]; exact Nat.lt_succ_self _) ⟨hr10.step, rfl, h⟩ ⟨rfl, rfl, trivial⟩ (fun w h => za7 [1] (by decide) rfl w h) ?_
    repeat (first | exact zaa _ _ | refine zac rfl ?_ | refine zab rfl ?_ | refine zad rfl ?_)

/-! ### loop.example/g01098/spec.plExponents: function 135 -/
def spec_plExponents.l1 : (List SStep) → (List (List Int)) → Int → Option (List (List Int))
  | [], l39, i43 => some l39
  | y44 :: ys45, l39, i43 => (gt l39 y44.f0).bind fun y300 => (gt l39 y44.f1).bind fun y599 => (spec_plSum.f y300 y599).bind fun l719 => (ap l39 ([l719] : List (List Int))).bind fun l838 => spec_plExponents.l1 ys45 l838 (i43 + 1)
def spec_plExponents.l0 (a0_0 : Int) : Nat → (List (List Int)) → Int → Option (List (List Int))
  | 0, _, _ => none
  | k11 + 1, l4, i8 => if i8 < a0_0 then ((mk0 a0_0 (0 : Int)).bind fun l20 => (gt l20 i8).bind fun y27 => (st l20 i8 1).bind fun l28 => (ap l4 ([l28] : List (List Int))).bind fun l34 => spec_plExponents.l0 a0_0 k11 l34 (w64 (i8 + 1))) else (some l4)
def spec_plExponents.f (k : Nat) (a0_0 : Int) (l0_1 : List SStep) (l0_2 : List Int) : Option (List (List Int)) := (spec_plExponents.l0 a0_0 k ([] : List (List Int)) 0).bind fun l4 => (spec_plExponents.l1 l0_1 l4 0).bind fun l39 => some l39
set_option maxHeartbeats 600000 in
set_option maxRecDepth 100000 in
theorem spec_plExponents.calls (k : Nat) {w0 ws : World} {P0 : Nat → Prop} (a0_0 : Int) (A0_1 : Option Addr) (c0_1 : Nat) (n0_1 : Nat) (l0_1 : List SStep) (A0_2 : Option Addr) (c0_2 : Nat) (n0_2 : Nat) (l0_2 : List Int) (Z : Below w0.heap.size w0 ws) (hF : Fr w0 ws P0 [] ws) (R0_1 : Stable ws P0 (fun w => Kd.C kStep w A0_1 n0_1 l0_1)) (hc0_1 : n0_1 ≤ c0_1) (R0_2 : Stable ws P0 (fun w => Kd.C (Kd.int .i64) w A0_2 n0_2 l0_2)) (hc0_2 : n0_2 ≤ c0_2) (r_1 : List (List Int)) (h : spec_plExponents.f k a0_0 l0_1 l0_2 = some r_1) :
    Calls Try.prog 135 #[.agg #[.int .i64 a0_0, .slice A0_1 n0_1 c0_1, .slice A0_2 n0_2 c0_2]] ws (Post1 w0 ws P0 (fun ((q_2, q_3, q_4) : (Option Addr) × Nat × Hd) => .slice q_2 r_1.length q_3) (fun ((q_2, q_3, q_4) : (Option Addr) × Nat × Hd) => [row (gk 3 (Kd.int .i64)) 22 (.slice q_2 r_1.length q_3) (zp q_4 r_1)])) := by
  unfold spec_plExponents.f at h
  obtain rfl := (R0_1 ws (KeptB.refl _ _)).1
  obtain rfl := (R0_2 ws (KeptB.refl _ _)).1
  refine enter Try.func135 rfl Try.ntmps135 rfl hF ?_
  refine c_seq ?_
  refine za0 ?_
  refine o_e rfl (e_box rfl) (fun g1 => ?_)
  refine o_q rfl rfl (q_asg rfl) ?_
  refine o_end ?_
  refine za1 ?_
  refine c_seq ?_
  refine za0 ?_
  refine o_q rfl rfl (q_asg rfl) ?_
  refine o_end ?_
  refine za1 ?_
  refine c_seq ?_
  refine c_seq ?_
  refine za0 ?_
  refine o_q rfl rfl (q_asg rfl) ?_
  refine o_end ?_
  refine za1 ?_
  refine zaf ?_
  refine c_nil (gk 3 (Kd.int .i64)) 22 ?_
  refine za5 h (fun o16 hl15 hR14 => ?_) rfl
  clear h
  refine zas (σ := (List (List Int)) × Int × (Option Addr) × Nat × Hd) (fun k11 ((l4, i8, A5, c6, H7) : (List (List Int)) × Int × (Option Addr) × Nat × Hd) => spec_plExponents.l0 a0_0 k11 l4 i8 = some o16) [3, 4, 5, 8, 9, 10, 11, 12, 13, 14, 15, 16, 17, 18, 19, 20, 21, 22, 23] (fun ((l4, i8, A5, c6, H7) : (List (List Int)) × Int × (Option Addr) × Nat × Hd) => [(3, .slice A5 l4.length c6), (4, .int .i64 i8)]) (fun ((l4, i8, A5, c6, H7) : (List (List Int)) × Int × (Option Addr) × Nat × Hd) => [row (gk 3 (Kd.int .i64)) 22 (.slice A5 l4.length c6) (zp H7 l4), box g1 36 #[.int .i64 a0_0, .slice A0_1 l0_1.length c0_1, .slice A0_2 l0_2.length c0_2]]) k (([] : List (List Int)), 0, none, 0, ([] : Hd)) hl15 ⟨rfl, rfl, trivial⟩ (fun w h => h) ?_
  refine natC (cur5 (fun l4 i8 A5 c6 H7 => fun U17 hJ_ => ?_)) (fun k11 => (cur5 (fun l4 i8 A5 c6 H7 => fun U17 hJ_ => ?_)))
  · skip
    replace hJ_ : spec_plExponents.l0 a0_0 0 l4 i8 = some o16 := hJ_
    rw [spec_plExponents.l0] at hJ_
    exact noneE hJ_
  · skip
    clear hl15
    have h := hJ_; clear hJ_
    replace h : spec_plExponents.l0 a0_0 (k11 + 1) l4 i8 = some o16 := h
    rw [spec_plExponents.l0] at h
    refine c_seq ?_
    refine c_seq ?_
    refine za0 ?_
    refine o_q rfl rfl (za2 rfl) ?_
    refine o_q rfl rfl (q_f F36_0 rfl) ?_
    refine o_q rfl rfl (q_ldb Y3 rfl (fun w h => h.zae (i := 1) rfl) rfl) ?_
    refine o_q rfl rfl (q_lss rfl rfl) ?_
    refine o_end ?_
    refine za1 ?_
    refine zar _ rfl (fun hb19 => ?_) (fun hb19 => ?_)
    · skip
      replace h := br_t hb19 h
      refine zal ?_
      refine za1 ?_
      refine c_seq ?_
      refine zaf ?_
      refine c_seq ?_
      refine za0 ?_
      refine o_q rfl rfl (q_f F36_0 rfl) ?_
      refine o_q rfl rfl (q_ldb Y3 rfl (fun w h => h.zae (i := 1) rfl) rfl) ?_
      refine za5 h (fun l20 hm21 h => ?_) rfl
      refine o_e rfl (e_make (Kd.int .i64) (0 : Int) Try.underlying22 I3 rfl (by decide) (by decide) (fun _ _ => rfl) rfl rfl hm21) (cur2 (fun A22 c23 => ?_))
      refine o_q rfl rfl (q_asg rfl) ?_
      refine o_end ?_
      refine za1 ?_
      refine c_seq ?_
      refine za0 ?_
      refine o_q rfl rfl (za2 rfl) ?_
      refine o_q rfl rfl (za2 rfl) ?_
      refine zaw (p := Sh A22 l20.length l20.length) (fun w h => f_sh (dk := (Kd.int .i64)) h (fun w h => h.zat (i := 0) rfl)) (fun hq25 => ?_)
      refine za5 h (fun y27 hg26 h => ?_) rfl
      refine o_q rfl rfl (q_ix Try.underlying22 Z3 rfl rfl hq25 hg26) ?_
      refine za5 h (fun l28 hs29 h => ?_) rfl
      refine o_e rfl (e_set (i := 0) rfl rfl rfl Z3 hs29) (fun _ => ?_)
      refine o_end ?_
      refine za1 ?_
      refine za0 ?_
      refine o_q rfl rfl (za2 rfl) ?_
      refine o_q rfl rfl (za2 rfl) ?_
      refine o_e rfl (e_litG (j := 0) (ue := 3) (dk := (Kd.int .i64)) (ys := l28) Try.underlying109 I22 rfl rfl rfl) (cur3 (fun A30 c31 H33 => ?_))
      refine za5 h (fun l34 ha35 h => ?_) rfl
      refine o_e rfl (e_appG (i := 2) (j := 0) Try.underlying109 I22 rfl (by decide) rfl rfl rfl rfl rfl ha35) (cur3 (fun A36 c37 H38 => ?_))
      refine o_q rfl rfl (q_asg rfl) ?_
      refine o_end ?_
      refine zaq ?_
      refine za1 ?_
      refine za0 ?_
      refine o_q rfl rfl (za2 rfl) ?_
      refine o_q rfl rfl (q_add64 rfl rfl) ?_
      refine o_q rfl rfl (q_asg rfl) ?_
      refine o_end ?_
      refine zak k11 (l34, w64 (i8 + 1), A36, c37, H38) (Nat.lt_succ_self _) h ⟨rfl, rfl, trivial⟩ (fun w h => za7 [2, 3] (by decide) rfl w h) ?_
      repeat (first | exact zaa _ _ | refine zac rfl ?_ | refine zab rfl ?_ | refine zad rfl ?_)
    · skip
      replace h := br_f hb19 h
      refine c_exit ?_
      refine za4 ?_
      refine za4 ?_
      have e_ := Option.some.inj h; replace h := hR14; rw [← e_] at h; clear e_
      refine x_hit ?_
      refine za1 ?_
      refine c_seq ?_
      refine c_seq ?_
      refine za0 ?_
      refine o_q rfl rfl (q_f F36_1 rfl) ?_
      refine o_q rfl rfl (q_ldb Y34 rfl (fun w h => h.zae (i := 1) rfl) rfl) ?_
      refine o_q rfl rfl (q_len Try.underlying34 rfl) ?_
      refine o_q rfl rfl (za2 rfl) ?_
      refine o_end ?_
      refine za1 ?_
      refine zaf ?_
      refine za5 h (fun o51 hl50 hR49 => ?_) rfl
      clear h
      refine c_fact (p := l0_1.length ≤ 9223372036854775807) (fun w h => (R0_1.now Z h).2.1) (fun hm48 => ?_)
      refine zas (σ := (List SStep) × (List (List Int)) × Int × (Option Addr) × Nat × Hd) (fun k46 ((ys45, l39, i43, A40, c41, H42) : (List SStep) × (List (List Int)) × Int × (Option Addr) × Nat × Hd) => Rg l0_1 i43 ys45 ∧ ys45.length = k46 ∧ spec_plExponents.l1 ys45 l39 i43 = some o51) [3, 7, 27, 28, 29, 30, 31, 32, 33, 34, 35, 36, 37, 38, 39, 40, 41, 42, 43, 44, 45] (fun ((ys45, l39, i43, A40, c41, H42) : (List SStep) × (List (List Int)) × Int × (Option Addr) × Nat × Hd) => [(3, .slice A40 l39.length c41), (27, .int .i64 i43)]) (fun ((ys45, l39, i43, A40, c41, H42) : (List SStep) × (List (List Int)) × Int × (Option Addr) × Nat × Hd) => [row (gk 3 (Kd.int .i64)) 22 (.slice A40 l39.length c41) (zp H42 l39), box g1 36 #[.int .i64 a0_0, .slice A0_1 l0_1.length c0_1, .slice A0_2 l0_2.length c0_2]]) l0_1.length (l0_1, l4, 0, A5, c6, H7) ⟨Rg.start _, rfl, hl50⟩ ⟨rfl, rfl, trivial⟩ (fun w h => h) ?_
      refine fun k46 => cur6 (listC (fun l39 i43 A40 c41 H42 U52 hJ_ => ?_) (fun y44 ys45 l39 i43 A40 c41 H42 U52 hJ_ => ?_))
      · skip
        clear hl50
        have hr47 := hJ_.1; have hk53 := hJ_.2.1; have h := hJ_.2.2; clear hJ_
        replace h : spec_plExponents.l1 [] l39 i43 = some o51 := h
        rw [spec_plExponents.l1] at h
        refine c_seq ?_
        refine za0 ?_
        refine o_q rfl rfl (q_lss rfl rfl) ?_
        refine o_end ?_
        refine za1 ?_
        refine c_seq ?_
        refine c_false (congrArg Value.bool hr47.ge) ?_
        refine c_exit ?_
        refine za4 ?_
        refine za4 ?_
        have e_ := Option.some.inj h; replace h := hR49; rw [← e_] at h; clear e_
        refine x_hit ?_
        refine za1 ?_
        refine c_seq ?_
        refine za0 ?_
        refine o_q rfl rfl (za2 rfl) ?_
        refine o_q rfl rfl (q_asg rfl) ?_
        refine o_end ?_
        refine za1 ?_
        refine c_ret ?_
        have e0_ := Option.some.inj h; clear h
        subst e0_
        exact x_r1 (A40, c41, H42) Try.results135 (zah rfl) rfl (fun w h => za7 [0] (by decide) rfl w h)
      · skip
        clear hl50
        have hr47 := hJ_.1; have hk53 := hJ_.2.1; have h := hJ_.2.2; clear hJ_
        replace h : spec_plExponents.l1 (y44 :: ys45) l39 i43 = some o51 := h
        rw [spec_plExponents.l1] at h
        refine c_seq ?_
        refine za0 ?_
        refine o_q rfl rfl (q_lss rfl rfl) ?_
        refine o_end ?_
        refine za1 ?_
        refine c_seq ?_
        refine c_true (congrArg Value.bool hr47.lt) ?_
        refine zal ?_
        refine za1 ?_
        refine c_seq ?_
        refine zaf ?_
        refine c_seq ?_
        refine za0 ?_
        refine zaw (p := Sh A0_1 l0_1.length l0_1.length) (fun w h => f_sh (dk := kStep) h (fun w h => R0_1.now Z h)) (fun hq54 => ?_)
        refine o_q rfl rfl (q_ix Try.underlying34 Z117 rfl rfl hq54 hr47.get) ?_
        refine o_q rfl rfl (q_ldE G117 Z117 rfl rfl (fun w h => R0_1.now Z h) hr47.get (fun _ _ h => h) rfl) ?_
        refine o_e rfl (zau V117 rfl) (fun g55 => ?_)
        refine o_e rfl (zaj (i := 0) rfl rfl rfl Z117 rfl rfl) (fun _ => ?_)
        refine o_end ?_
        refine za1 ?_
        refine za5 h (fun y300 hg299 h => ?_) rfl
        refine za5 h (fun y599 hg598 h => ?_) rfl
        refine za5 h (fun l719 hx718 h => ?_) rfl
        refine za5 h (fun l838 ha839 h => ?_) rfl
        refine a_startS (ds := []) [some 0, none, some 2] MO rfl ?_
        refine zai 0 rfl rfl rfl (by kernel_rfl) (fun _ _ _ h => h) (za2 rfl) ?_
        refine zai 1 rfl rfl rfl (by kernel_rfl) (fun _ _ _ h => h) (za2 rfl) ?_
        refine zai 2 rfl rfl rfl (by kernel_rfl) (fun _ _ _ h => h) (q_f F117_0 rfl) ?_
        refine a_take 3 rfl rfl rfl (by kernel_rfl) (fun _ _ _ h => h) (fun w h => zao [some 0, none, some 2] (by decide) w h rfl) (q_ldb Y3 rfl (fun w h => h.zae (i := 0) rfl) rfl) ?_
        refine a_fact (p := Sh A40 l39.length (zp H42 l39).length) (fun w h => f_sh (dk := (gk 3 (Kd.int .i64))) h (fun w h => h.zat (i := 1) rfl)) (fun hq298 => ?_)
        refine zai 4 rfl rfl rfl (by kernel_rfl) (fun _ _ _ h => h) (q_ix Try.underlying109 Z22 rfl rfl hq298 (gt_zp hg299)) ?_
        refine zai 6 rfl rfl rfl (by kernel_rfl) (fun _ _ _ h => h) (za2 rfl) ?_
        refine zai 7 rfl rfl rfl (by kernel_rfl) (fun _ _ _ h => h) (q_f F117_1 rfl) ?_
        refine a_take 8 rfl rfl rfl (by kernel_rfl) (fun _ _ _ h => h) (fun w h => zao [some 0, none, some 2] (by decide) w h rfl) (q_ldb Y3 rfl (fun w h => h.zae (i := 0) rfl) rfl) ?_
        refine zai 9 rfl rfl rfl (by kernel_rfl) (fun _ _ _ h => h) (q_ix Try.underlying109 Z22 rfl rfl hq298 (gt_zp hg598)) ?_
        refine a_fact (p := y300.length ≤ hC H42 y44.f0) (fun w h => (K_in (h.zat (i := 1) rfl) hg299).1) (fun hc358 => ?_)
        refine a_fact (p := y599.length ≤ hC H42 y44.f1) (fun w h => (K_in (h.zat (i := 1) rfl) hg598).1) (fun hc658 => ?_)
        refine a_two 5 10 rfl rfl rfl rfl (by kernel_rfl) rfl rfl (ev_q rfl (q_lde (off := 0) Y22 rfl rfl (fun w h => h.zat (i := 1) rfl) (gt_zp hg299) (fun _ _ h => h.1) rfl)) (fun s w h => zao [some 0, none, some 2] (by decide) w h rfl) (ev_q rfl (q_lde (off := 0) Y22 rfl rfl (fun w h => h.zat (i := 1) rfl) (gt_zp hg598) (fun _ _ h => h.1) rfl)) (fun s w h => zao [some 0, none, some 2] (by decide) w h rfl) (fun _ => ?_) (fun _ => ?_)
        · skip
          refine a_fact (p := y599.length ≤ hC H42 y44.f1) (fun w h => (K_in (h.zat (i := 1) rfl) hg598).1) (fun hc658 => ?_)
          refine a_one 10 rfl rfl (by kernel_rfl) rfl (ev_q rfl (q_lde (off := 0) Y22 rfl rfl (fun w h => h.zat (i := 1) rfl) (gt_zp hg598) (fun _ _ h => h.1) rfl)) (fun s w h => zao [some 0, none, some 2] (by decide) w h rfl) (fun _ => ?_)
          refine a_one 11 rfl rfl (by kernel_rfl) rfl (za9 0 Z Try.func173 N173 rfl rfl rfl (fun w P1 hF hB hS hT => spec_plSum.calls (hA H42 y44.f0) (hC H42 y44.f0) y300.length y300 (hA H42 y44.f1) (hC H42 y44.f1) y599.length y599 hB hF (stab_in (hT 1 _ rfl).row hg299) hc358 (stab_in (hT 1 _ rfl).row hg598) hc658 _ hx718)) (fun s w h => zao [some 1, none, some 3] (by decide) w h rfl) (cur2 (fun A720 c721 => ?_))
          refine a_one 12 rfl rfl (by kernel_rfl) rfl (e_litG (j := 0) (ue := 3) (dk := (Kd.int .i64)) (ys := l719) Try.underlying109 I22 rfl rfl rfl) (fun s w h => zao [some 2, none, some 4] (by decide) w h rfl) (cur3 (fun A778 c779 H781 => ?_))
          refine a_one 13 rfl rfl (by kernel_rfl) rfl (e_appG (i := 3) (j := 0) Try.underlying109 I22 rfl (by decide) rfl rfl rfl rfl rfl ha839) (fun s w h => zao [some 2, none, some 4] (by decide) w h rfl) (cur3 (fun A840 c841 H842 => ?_))
          refine zai 14 rfl rfl rfl (by kernel_rfl) (fun _ _ _ h => h) (q_asg rfl) ?_
          refine a_done (by kernel_rfl) ?_
          refine zaq ?_
          refine za1 ?_
          refine za0 ?_
          refine o_q rfl rfl (q_up rfl rfl (hr47.up hm48)) ?_
          refine o_q rfl rfl (za2 rfl) ?_
          refine o_end ?_
          refine zak ys45.length (ys45, l838, i43 + 1, A840, c841, H842) (by rw [← hk53]; exact Nat.lt_succ_self _) ⟨hr47.step, rfl, h⟩ ⟨rfl, rfl, trivial⟩ (fun w h => za7 [3, 4] (by decide) rfl w h) ?_
          repeat (first | exact zaa _ _ | refine zac rfl ?_ | refine zab rfl ?_ | refine zad rfl ?_)
        · skip
          refine a_fact (p := y300.length ≤ hC H42 y44.f0) (fun w h => (K_in (h.zat (i := 1) rfl) hg299).1) (fun hc358 => ?_)
          refine a_one 5 rfl rfl (by kernel_rfl) rfl (ev_q rfl (q_lde (off := 0) Y22 rfl rfl (fun w h => h.zat (i := 1) rfl) (gt_zp hg299) (fun _ _ h => h.1) rfl)) (fun s w h => zao [some 0, none, some 2] (by decide) w h rfl) (fun _ => ?_)
          refine a_one 11 rfl rfl (by kernel_rfl) rfl (za9 0 Z Try.func173 N173 rfl rfl rfl (fun w P1 hF hB hS hT => spec_plSum.calls (hA H42 y44.f0) (hC H42 y44.f0) y300.length y300 (hA H42 y44.f1) (hC H42 y44.f1) y599.length y599 hB hF (stab_in (hT 1 _ rfl).row hg299) hc358 (stab_in (hT 1 _ rfl).row hg598) hc658 _ hx718)) (fun s w h => zao [some 1, none, some 3] (by decide) w h rfl) (cur2 (fun A720 c721 => ?_))
          refine a_one 12 rfl rfl (by kernel_rfl) rfl (e_litG (j := 0) (ue := 3) (dk := (Kd.int .i64)) (ys := l719) Try.underlying109 I22 rfl rfl rfl) (fun s w h => zao [some 2, none, some 4] (by decide) w h rfl) (cur3 (fun A778 c779 H781 => ?_))
          refine a_one 13 rfl rfl (by kernel_rfl) rfl (e_appG (i := 3) (j := 0) Try.underlying109 I22 rfl (by decide) rfl rfl rfl rfl rfl ha839) (fun s w h => zao [some 2, none, some 4] (by decide) w h rfl) (cur3 (fun A840 c841 H842 => ?_))
          refine zai 14 rfl rfl rfl (by kernel_rfl) (fun _ _ _ h => h) (q_asg rfl) ?_
          refine a_done (by kernel_rfl) ?_
          refine zaq ?_
          refine za1 ?_
          refine za0 ?_
          refine o_q rfl rfl (q_up rfl rfl (hr47.up hm48)) ?_
          refine o_q rfl rfl (za2 rfl) ?_
          refine o_end ?_
          refine zak ys45.length (ys45, l838, i43 + 1, A840, c841, H842) (by rw [← hk53]; exact Nat.lt_succ_self _) ⟨hr47.step, rfl, h⟩ ⟨rfl, rfl, trivial⟩ (fun w h => za7 [3, 4] (by decide) rfl w h) ?_
          repeat (first | exact zaa _ _ | refine zac rfl ?_ | refine zab rfl ?_ | refine zad rfl ?_)

/-! ### loop.example/g01098/spec.plGood: function 72 -/
def spec_plGood.l1 : (List (List Int)) → Int → Option ((Bool) ⊕ (Unit))
  | [], i24 => some (.inr ())
  | y25 :: ys26, i24 => (spec_l1All.f y25 0 1000000).bind fun b40 => if b40 = true then (spec_plGood.l1 ys26 (i24 + 1)) else (some (.inl false))
def spec_plGood.l0 (a0_0 : Int) : (List SStep) → Int → Option ((Bool) ⊕ (Unit))
  | [], i8 => some (.inr ())
  | y9 :: ys10, i8 => (spec_l1In.f y9.f0 0 y9.f1).bind fun b46 => if b46 = true then (if w64 (a0_0 + i8) ≤ y9.f1 then (some (.inl false)) else (spec_plGood.l0 a0_0 ys10 (i8 + 1))) else (some (.inl false))
def spec_plGood.f (k : Nat) (a0_0 : Int) (l0_1 : List SStep) (l0_2 : List Int) : Option Bool := (spec_l1In.f a0_0 1 6).bind fun b4 => if b4 = true then (if 40 < (l0_1.length : Int) then (some false) else (if 6 < (l0_2.length : Int) then (some false) else ((spec_plGood.l0 a0_0 l0_1 0).bind fun o_ => match o_ with | .inl r_ => some r_ | .inr _ => (spec_plExponents.f k a0_0 l0_1 l0_2).bind fun l20 => (spec_plGood.l1 l20 0).bind fun o_ => match o_ with | .inl r_ => some r_ | .inr _ => (spec_l1All.f l0_2 0 (w64 (w64 (a0_0 + (l0_1.length : Int)) - 1))).bind fun b36 => some b36))) else (some false)
set_option maxHeartbeats 600000 in
set_option maxRecDepth 100000 in
theorem spec_plGood.calls (k : Nat) {w0 ws : World} {P0 : Nat → Prop} (a0_0 : Int) (A0_1 : Option Addr) (c0_1 : Nat) (n0_1 : Nat) (l0_1 : List SStep) (A0_2 : Option Addr) (c0_2 : Nat) (n0_2 : Nat) (l0_2 : List Int) (Z : Below w0.heap.size w0 ws) (hF : Fr w0 ws P0 [] ws) (R0_1 : Stable ws P0 (fun w => Kd.C kStep w A0_1 n0_1 l0_1)) (hc0_1 : n0_1 ≤ c0_1) (R0_2 : Stable ws P0 (fun w => Kd.C (Kd.int .i64) w A0_2 n0_2 l0_2)) (hc0_2 : n0_2 ≤ c0_2) (r_1 : Bool) (h : spec_plGood.f k a0_0 l0_1 l0_2 = some r_1) :
    Calls Try.prog 72 #[.agg #[.int .i64 a0_0, .slice A0_1 n0_1 c0_1, .slice A0_2 n0_2 c0_2]] ws (Post1 w0 ws P0 (fun (_ : Unit) => .bool r_1) (fun (_ : Unit) => [])) := by
  unfold spec_plGood.f at h
  obtain rfl := (R0_1 ws (KeptB.refl _ _)).1
  obtain rfl := (R0_2 ws (KeptB.refl _ _)).1
  refine enter Try.func72 rfl Try.ntmps72 rfl hF ?_
  refine c_seq ?_
  refine za0 ?_
  refine o_e rfl (e_box rfl) (fun g1 => ?_)
  refine o_q rfl rfl (q_asg rfl) ?_
  refine o_end ?_
  refine za1 ?_
  refine c_seq ?_
  refine c_seq ?_
  refine za0 ?_
  refine o_q rfl rfl (q_f F36_0 rfl) ?_
  refine o_q rfl rfl (q_ldb Y3 rfl (fun w h => h.zae (i := 0) rfl) rfl) ?_
  refine za5 h (fun b4 hx3 h => ?_) rfl
  refine o_e rfl (za9 0 Z Try.func77 N77 rfl rfl rfl (fun w P1 hF hB hS hT => spec_l1In.calls a0_0 1 6 hB hF _ hx3)) (fun _ => ?_)
  refine o_q rfl rfl (q_not rfl) ?_
  refine o_q rfl rfl (za2 rfl) ?_
  refine byB b4 (fun hb5 => ?_) (fun hb5 => ?_)
  · replace h := bb_t hb5 h
    refine o_w (za6 rfl rfl rfl (congrArg (fun b => Value.bool (!(b))) hb5)) rfl (q_f F36_1 rfl) ?_
    refine o_w (za6 rfl rfl rfl (congrArg (fun b => Value.bool (!(b))) hb5)) rfl (q_ldb Y34 rfl (fun w h => h.zae (i := 0) rfl) rfl) ?_
    refine o_w (za6 rfl rfl rfl (congrArg (fun b => Value.bool (!(b))) hb5)) rfl (q_len Try.underlying34 rfl) ?_
    refine o_w (za6 rfl rfl rfl (congrArg (fun b => Value.bool (!(b))) hb5)) rfl (q_gtr rfl rfl) ?_
    refine o_q rfl rfl (zav false (congrArg (fun b => Value.bool (!(b))) hb5) rfl) ?_
    refine o_q rfl rfl (za2 rfl) ?_
    refine byB (decide (40 < (l0_1.length : Int))) (fun hb6 => ?_) (fun hb6 => ?_)
    · replace h := br_t hb6 h
      refine @o_n _ _ _ _ _ _ _ _ _ _ _ 18 (za3 rfl rfl rfl (congrArg Value.bool hb6) rfl) (Eq.refl (some 18)) ?_
      refine @o_n _ _ _ _ _ _ _ _ _ _ _ 19 (za3 rfl rfl rfl (congrArg Value.bool hb6) rfl) (Eq.refl (some 19)) ?_
      refine @o_n _ _ _ _ _ _ _ _ _ _ _ 20 (za3 rfl rfl rfl (congrArg Value.bool hb6) rfl) (Eq.refl (some 20)) ?_
      refine @o_n _ _ _ _ _ _ _ _ _ _ _ 21 (za3 rfl rfl rfl (congrArg Value.bool hb6) rfl) (Eq.refl (some 21)) ?_
      refine o_q rfl rfl (zav true (congrArg Value.bool hb6) rfl) ?_
      refine o_end ?_
      refine za1 ?_
      refine c_true rfl ?_
      refine c_seq ?_
      refine za0 ?_
      refine o_q rfl rfl (q_asg rfl) ?_
      refine o_end ?_
      refine za1 ?_
      refine c_ret ?_
      refine za8 ?_
      have e0_ := Option.some.inj h; clear h
      subst e0_
      exact x_r1 () Try.results72 (zah rfl) rfl (fun w h => za7 [] (by decide) rfl w h)
    · replace h := br_f hb6 h
      refine o_w (za6 rfl rfl rfl (congrArg Value.bool hb6)) rfl (q_f F36_2 rfl) ?_
      refine o_w (za6 rfl rfl rfl (congrArg Value.bool hb6)) rfl (q_ldb Y22 rfl (fun w h => h.zae (i := 0) rfl) rfl) ?_
      refine o_w (za6 rfl rfl rfl (congrArg Value.bool hb6)) rfl (q_len Try.underlying22 rfl) ?_
      refine o_w (za6 rfl rfl rfl (congrArg Value.bool hb6)) rfl (q_gtr rfl rfl) ?_
      refine o_q rfl rfl (zav false (congrArg Value.bool hb6) rfl) ?_
      refine o_end ?_
      refine za1 ?_
      refine zar _ rfl (fun hb7 => ?_) (fun hb7 => ?_)
      · skip
        replace h := br_t hb7 h
        refine c_seq ?_
        refine za0 ?_
        refine o_q rfl rfl (q_asg rfl) ?_
        refine o_end ?_
        refine za1 ?_
        refine c_ret ?_
        refine za8 ?_
        have e0_ := Option.some.inj h; clear h
        subst e0_
        exact x_r1 () Try.results72 (zah rfl) rfl (fun w h => za7 [] (by decide) rfl w h)
      · skip
        replace h := br_f hb7 h
        refine zal ?_
        refine za1 ?_
        refine c_seq ?_
        refine c_seq ?_
        refine za0 ?_
        refine o_q rfl rfl (q_f F36_1 rfl) ?_
        refine o_q rfl rfl (q_ldb Y34 rfl (fun w h => h.zae (i := 0) rfl) rfl) ?_
        refine o_q rfl rfl (q_len Try.underlying34 rfl) ?_
        refine o_q rfl rfl (za2 rfl) ?_
        refine o_end ?_
        refine za1 ?_
        refine zaf ?_
        refine za5 h (fun o16 hl15 hR14 => ?_) rfl
        clear h
        refine c_fact (p := l0_1.length ≤ 9223372036854775807) (fun w h => (R0_1.now Z h).2.1) (fun hm13 => ?_)
        refine zas (σ := (List SStep) × Int) (fun k11 ((ys10, i8) : (List SStep) × Int) => Rg l0_1 i8 ys10 ∧ ys10.length = k11 ∧ spec_plGood.l0 a0_0 ys10 i8 = some o16) [2, 3, 4, 26, 27, 28, 29, 30, 31, 32, 33, 34, 35, 36, 37, 38, 39, 40, 41, 42, 43, 44, 45, 46] (fun ((ys10, i8) : (List SStep) × Int) => [(26, .int .i64 i8)]) (fun ((ys10, i8) : (List SStep) × Int) => [box g1 36 #[.int .i64 a0_0, .slice A0_1 l0_1.length c0_1, .slice A0_2 l0_2.length c0_2]]) l0_1.length (l0_1, 0) ⟨Rg.start _, rfl, hl15⟩ ⟨rfl, trivial⟩ (fun w h => h) ?_
        refine fun k11 => cur2 (listC (fun i8 U17 hJ_ => ?_) (fun y9 ys10 i8 U17 hJ_ => ?_))
        · skip
          clear hl15
          have hr12 := hJ_.1; have hk18 := hJ_.2.1; have h := hJ_.2.2; clear hJ_
          replace h : spec_plGood.l0 a0_0 [] i8 = some o16 := h
          rw [spec_plGood.l0] at h
          refine c_seq ?_
          refine za0 ?_
          refine o_q rfl rfl (q_lss rfl rfl) ?_
          refine o_end ?_
          refine za1 ?_
          refine c_seq ?_
          refine c_false (congrArg Value.bool hr12.ge) ?_
          refine c_exit ?_
          refine za4 ?_
          refine za4 ?_
          have e_ := Option.some.inj h; replace h := hR14; rw [← e_] at h; clear e_
          refine x_hit ?_
          refine za1 ?_
          refine c_seq ?_
          refine c_seq ?_
          refine za0 ?_
          refine o_q rfl rfl (q_ldB G36 Z36 rfl (fun w h => h.zae (i := 0) rfl) rfl) ?_
          refine za5 h (fun l20 hx19 h => ?_) rfl
          refine o_e rfl (za9 0 Z Try.func135 N135 rfl rfl rfl (fun w P1 hF hB hS hT => spec_plExponents.calls k a0_0 A0_1 c0_1 l0_1.length l0_1 A0_2 c0_2 l0_2.length l0_2 hB hF (hS _ R0_1) hc0_1 (hS _ R0_2) hc0_2 _ hx19)) (cur3 (fun A21 c22 H23 => ?_))
          refine o_q rfl rfl (q_len Try.underlying109 rfl) ?_
          refine o_q rfl rfl (za2 rfl) ?_
          refine o_end ?_
          refine za1 ?_
          refine zaf ?_
          refine za5 h (fun o32 hl31 hR30 => ?_) rfl
          clear h
          refine c_fact (p := l20.length ≤ 9223372036854775807) (fun w h => (h.zat (i := 0) rfl).2.1) (fun hm29 => ?_)
          refine zas (σ := (List (List Int)) × Int) (fun k27 ((ys26, i24) : (List (List Int)) × Int) => Rg l20 i24 ys26 ∧ ys26.length = k27 ∧ spec_plGood.l1 ys26 i24 = some o32) [2, 6, 50, 51, 52, 53, 54, 55, 56, 57] (fun ((ys26, i24) : (List (List Int)) × Int) => [(50, .int .i64 i24)]) (fun ((ys26, i24) : (List (List Int)) × Int) => [row (gk 3 (Kd.int .i64)) 22 (.slice A21 l20.length c22) (zp H23 l20), box g1 36 #[.int .i64 a0_0, .slice A0_1 l0_1.length c0_1, .slice A0_2 l0_2.length c0_2]]) l20.length (l20, 0) ⟨Rg.start _, rfl, hl31⟩ ⟨rfl, trivial⟩ (fun w h => h) ?_
          refine fun k27 => cur2 (listC (fun i24 U33 hJ_ => ?_) (fun y25 ys26 i24 U33 hJ_ => ?_))
          · skip
            clear hl31
            have hr28 := hJ_.1; have hk34 := hJ_.2.1; have h := hJ_.2.2; clear hJ_
            replace h : spec_plGood.l1 [] i24 = some o32 := h
            rw [spec_plGood.l1] at h
            refine c_seq ?_
            refine za0 ?_
            refine o_q rfl rfl (q_lss rfl rfl) ?_
            refine o_end ?_
            refine za1 ?_
            refine c_seq ?_
            refine c_false (congrArg Value.bool hr28.ge) ?_
            refine c_exit ?_
            refine za4 ?_
            refine za4 ?_
            have e_ := Option.some.inj h; replace h := hR30; rw [← e_] at h; clear e_
            refine x_hit ?_
            refine za1 ?_
            refine c_seq ?_
            refine za0 ?_
            refine o_q rfl rfl (q_f F36_2 rfl) ?_
            refine o_q rfl rfl (q_ldb Y22 rfl (fun w h => h.zae (i := 1) rfl) rfl) ?_
            refine o_q rfl rfl (q_f F36_0 rfl) ?_
            refine o_q rfl rfl (q_ldb Y3 rfl (fun w h => h.zae (i := 1) rfl) rfl) ?_
            refine o_q rfl rfl (q_f F36_1 rfl) ?_
            refine o_q rfl rfl (q_ldb Y34 rfl (fun w h => h.zae (i := 1) rfl) rfl) ?_
            refine o_q rfl rfl (q_len Try.underlying34 rfl) ?_
            refine o_q rfl rfl (q_add64 rfl rfl) ?_
            refine o_q rfl rfl (q_sub64 rfl rfl) ?_
            refine za5 h (fun b36 hx35 h => ?_) rfl
            refine o_e rfl (za9 0 Z Try.func68 N68 rfl rfl rfl (fun w P1 hF hB hS hT => spec_l1All.calls A0_2 c0_2 l0_2.length l0_2 0 (w64 (w64 (a0_0 + (l0_1.length : Int)) - 1)) hB hF (hS _ R0_2) hc0_2 _ hx35)) (fun _ => ?_)
            refine o_q rfl rfl (q_asg rfl) ?_
            refine o_end ?_
            refine za1 ?_
            refine c_ret ?_
            have e0_ := Option.some.inj h; clear h
            subst e0_
            exact x_r1 () Try.results72 (zah rfl) rfl (fun w h => za7 [] (by decide) rfl w h)
          · skip
            clear hl31
            have hr28 := hJ_.1; have hk34 := hJ_.2.1; have h := hJ_.2.2; clear hJ_
            replace h : spec_plGood.l1 (y25 :: ys26) i24 = some o32 := h
            rw [spec_plGood.l1] at h
            refine c_seq ?_
            refine za0 ?_
            refine o_q rfl rfl (q_lss rfl rfl) ?_
            refine o_end ?_
            refine za1 ?_
            refine c_seq ?_
            refine c_true (congrArg Value.bool hr28.lt) ?_
            refine zal ?_
            refine za1 ?_
            refine c_seq ?_
            refine zaf ?_
            refine c_seq ?_
            refine za0 ?_
            refine zaw (p := Sh A21 l20.length (zp H23 l20).length) (fun w h => f_sh (dk := (gk 3 (Kd.int .i64))) h (fun w h => h.zat (i := 0) rfl)) (fun hq37 => ?_)
            refine o_q rfl rfl (q_ix Try.underlying109 Z22 rfl rfl hq37 (gt_zp hr28.get)) ?_
            refine zaw (p := y25.length ≤ hC H23 i24) (fun w h => (K_in (h.zat (i := 0) rfl) hr28.get).1) (fun hc38 => ?_)
            refine o_q rfl rfl (q_lde (off := 0) Y22 rfl rfl (fun w h => h.zat (i := 0) rfl) (gt_zp hr28.get) (fun _ _ h => h.1) rfl) ?_
            refine o_q rfl rfl (q_asg rfl) ?_
            refine o_end ?_
            refine za1 ?_
            refine c_seq ?_
            refine za0 ?_
            refine o_q rfl rfl (za2 rfl) ?_
            refine za5 h (fun b40 hx39 h => ?_) rfl
            refine o_e rfl (za9 0 Z Try.func68 N68 rfl rfl rfl (fun w P1 hF hB hS hT => spec_l1All.calls (hA H23 i24) (hC H23 i24) y25.length y25 0 1000000 hB hF (stab_in (hT 0 _ rfl).row hr28.get) hc38 _ hx39)) (fun _ => ?_)
            refine o_q rfl rfl (q_not rfl) ?_
            refine o_end ?_
            refine za1 ?_
            refine zar _ rfl (fun hb41 => ?_) (fun hb41 => ?_)
            · replace hb41 := nt_t hb41
              replace h := bb_f hb41 h
              refine c_seq ?_
              refine za0 ?_
              refine o_q rfl rfl (q_asg rfl) ?_
              refine o_end ?_
              refine za1 ?_
              refine c_ret ?_
              refine zam ?_
              refine za8 ?_
              refine za8 ?_
              have e_ := Option.some.inj h; replace h := hR30; rw [← e_] at h; clear e_
              refine zam ?_
              refine za8 ?_
              have e0_ := Option.some.inj h; clear h
              subst e0_
              exact x_r1 () Try.results72 (zah rfl) rfl (fun w h => za7 [] (by decide) rfl w h)
            · replace hb41 := nt_f hb41
              replace h := bb_t hb41 h
              refine zal ?_
              refine zaq ?_
              refine za1 ?_
              refine za0 ?_
              refine o_q rfl rfl (q_up rfl rfl (hr28.up hm29)) ?_
              refine o_q rfl rfl (za2 rfl) ?_
              refine o_end ?_
              refine zak ys26.length (ys26, i24 + 1) (by rw [← hk34]; exact Nat.lt_succ_self _) ⟨hr28.step, rfl, h⟩ ⟨rfl, trivial⟩ (fun w h => za7 [0, 1] (by decide) rfl w h) ?_
              repeat (first | exact zaa _ _ | refine zac rfl ?_ | refine zab rfl ?_ | refine zad rfl ?_)
        · skip
          clear hl15
          have hr12 := hJ_.1; have hk18 := hJ_.2.1; have h := hJ_.2.2; clear hJ_
          replace h : spec_plGood.l0 a0_0 (y9 :: ys10) i8 = some o16 := h
          rw [spec_plGood.l0] at h
          refine c_seq ?_
          refine za0 ?_
          refine o_q rfl rfl (q_lss rfl rfl) ?_
          refine o_end ?_
          refine za1 ?_
          refine c_seq ?_
          refine c_true (congrArg Value.bool hr12.lt) ?_
          refine zal ?_
          refine za1 ?_
          refine c_seq ?_
          refine zaf ?_
          refine c_seq ?_
          refine za0 ?_
          refine o_q rfl rfl (za2 rfl) ?_
          refine zaw (p := Sh A0_1 l0_1.length l0_1.length) (fun w h => f_sh (dk := kStep) h (fun w h => R0_1.now Z h)) (fun hq42 => ?_)
          refine o_q rfl rfl (q_ix Try.underlying34 Z117 rfl rfl hq42 hr12.get) ?_
          refine o_q rfl rfl (q_ldE G117 Z117 rfl rfl (fun w h => R0_1.now Z h) hr12.get (fun _ _ h => h) rfl) ?_
          refine o_e rfl (zau V117 rfl) (fun g43 => ?_)
          refine o_q rfl rfl (q_asg rfl) ?_
          refine o_e rfl (zaj (i := 0) rfl rfl rfl Z117 rfl rfl) (fun _ => ?_)
          refine o_end ?_
          refine za1 ?_
          refine c_seq ?_
          refine za0 ?_
          refine o_q rfl rfl (q_f F117_0 rfl) ?_
          refine o_q rfl rfl (q_ldb Y3 rfl (fun w h => h.zae (i := 0) rfl) rfl) ?_
          refine o_q rfl rfl (q_f F117_1 rfl) ?_
          refine o_q rfl rfl (q_ldb Y3 rfl (fun w h => h.zae (i := 0) rfl) rfl) ?_
          refine za5 h (fun b46 hx45 h => ?_) rfl
          refine o_e rfl (za9 0 Z Try.func77 N77 rfl rfl rfl (fun w P1 hF hB hS hT => spec_l1In.calls y9.f0 0 y9.f1 hB hF _ hx45)) (fun _ => ?_)
          refine o_q rfl rfl (q_not rfl) ?_
          refine o_q rfl rfl (za2 rfl) ?_
          refine byB b46 (fun hb47 => ?_) (fun hb47 => ?_)
          · replace h := bb_t hb47 h
            refine o_w (za6 rfl rfl rfl (congrArg (fun b => Value.bool (!(b))) hb47)) rfl (q_f F117_1 rfl) ?_
            refine o_w (za6 rfl rfl rfl (congrArg (fun b => Value.bool (!(b))) hb47)) rfl (q_ldb Y3 rfl (fun w h => h.zae (i := 0) rfl) rfl) ?_
            refine o_w (za6 rfl rfl rfl (congrArg (fun b => Value.bool (!(b))) hb47)) rfl (q_f F36_0 rfl) ?_
            refine o_w (za6 rfl rfl rfl (congrArg (fun b => Value.bool (!(b))) hb47)) rfl (q_ldb Y3 rfl (fun w h => h.zae (i := 1) rfl) rfl) ?_
            refine o_w (za6 rfl rfl rfl (congrArg (fun b => Value.bool (!(b))) hb47)) rfl (za2 rfl) ?_
            refine o_w (za6 rfl rfl rfl (congrArg (fun b => Value.bool (!(b))) hb47)) rfl (q_add64 rfl rfl) ?_
            refine o_w (za6 rfl rfl rfl (congrArg (fun b => Value.bool (!(b))) hb47)) rfl (q_geq rfl rfl) ?_
            refine o_q rfl rfl (zav false (congrArg (fun b => Value.bool (!(b))) hb47) rfl) ?_
            refine o_end ?_
            refine za1 ?_
            refine zar _ rfl (fun hb48 => ?_) (fun hb48 => ?_)
            · skip
              replace h := br_t hb48 h
              refine c_seq ?_
              refine za0 ?_
              refine o_q rfl rfl (q_asg rfl) ?_
              refine o_end ?_
              refine za1 ?_
              refine c_ret ?_
              refine zam ?_
              refine za8 ?_
              refine za8 ?_
              have e_ := Option.some.inj h; replace h := hR14; rw [← e_] at h; clear e_
              refine zam ?_
              refine za8 ?_
              have e0_ := Option.some.inj h; clear h
              subst e0_
              exact x_r1 () Try.results72 (zah rfl) rfl (fun w h => za7 [] (by decide) rfl w h)
            · skip
              replace h := br_f hb48 h
              refine zal ?_
              refine zaq ?_
              refine za1 ?_
              refine za0 ?_
              refine o_q rfl rfl (q_up rfl rfl (hr12.up hm13)) ?_
              refine o_q rfl rfl (za2 rfl) ?_
              refine o_end ?_
              refine zak ys10.length (ys10, i8 + 1) (by rw [← hk18]; exact Nat.lt_succ_self _) ⟨hr12.step, rfl, h⟩ ⟨rfl, trivial⟩ (fun w h => za7 [1] (by decide) rfl w h) ?_
              repeat (first | exact zaa _ _ | refine zac rfl ?_ | refine zab rfl ?_ | refine zad rfl ?_)
          · replace h := bb_f hb47 h
            refine @o_n _ _ _ _ _ _ _ _ _ _ _ 38 (za3 rfl rfl rfl (congrArg (fun b => Value.bool (!(b))) hb47) rfl) (Eq.refl (some 38)) ?_
            refine @o_n _ _ _ _ _ _ _ _ _ _ _ 39 (za3 rfl rfl rfl (congrArg (fun b => Value.bool (!(b))) hb47) rfl) (Eq.refl (some 39)) ?_
            refine @o_n _ _ _ _ _ _ _ _ _ _ _ 40 (za3 rfl rfl rfl (congrArg (fun b => Value.bool (!(b))) hb47) rfl) (Eq.refl (some 40)) ?_
            refine @o_n _ _ _ _ _ _ _ _ _ _ _ 41 (za3 rfl rfl rfl (congrArg (fun b => Value.bool (!(b))) hb47) rfl) (Eq.refl (some 41)) ?_
            refine @o_n _ _ _ _ _ _ _ _ _ _ _ 42 (za3 rfl rfl rfl (congrArg (fun b => Value.bool (!(b))) hb47) rfl) (Eq.refl (some 42)) ?_
            refine @o_n _ _ _ _ _ _ _ _ _ _ _ 43 (za3 rfl rfl rfl (congrArg (fun b => Value.bool (!(b))) hb47) rfl) (Eq.refl (some 43)) ?_
            refine @o_n _ _ _ _ _ _ _ _ _ _ _ 44 (za3 rfl rfl rfl (congrArg (fun b => Value.bool (!(b))) hb47) rfl) (Eq.refl (some 44)) ?_
            refine o_q rfl rfl (zav true (congrArg (fun b => Value.bool (!(b))) hb47) rfl) ?_
            refine o_end ?_
            refine za1 ?_
            refine c_true rfl ?_
            refine c_seq ?_
            refine za0 ?_
            refine o_q rfl rfl (q_asg rfl) ?_
            refine o_end ?_
            refine za1 ?_
            refine c_ret ?_
            refine zam ?_
            refine za8 ?_
            refine za8 ?_
            have e_ := Option.some.inj h; replace h := hR14; rw [← e_] at h; clear e_
            refine zam ?_
            refine za8 ?_
            have e0_ := Option.some.inj h; clear h
            subst e0_
            exact x_r1 () Try.results72 (zah rfl) rfl (fun w h => za7 [] (by decide) rfl w h)
  · replace h := bb_f hb5 h
    refine @o_n _ _ _ _ _ _ _ _ _ _ _ 12 (za3 rfl rfl rfl (congrArg (fun b => Value.bool (!(b))) hb5) rfl) (Eq.refl (some 12)) ?_
    refine @o_n _ _ _ _ _ _ _ _ _ _ _ 13 (za3 rfl rfl rfl (congrArg (fun b => Value.bool (!(b))) hb5) rfl) (Eq.refl (some 13)) ?_
    refine @o_n _ _ _ _ _ _ _ _ _ _ _ 14 (za3 rfl rfl rfl (congrArg (fun b => Value.bool (!(b))) hb5) rfl) (Eq.refl (some 14)) ?_
    refine @o_n _ _ _ _ _ _ _ _ _ _ _ 15 (za3 rfl rfl rfl (congrArg (fun b => Value.bool (!(b))) hb5) rfl) (Eq.refl (some 15)) ?_
    refine o_q rfl rfl (zav true (congrArg (fun b => Value.bool (!(b))) hb5) rfl) ?_
    refine o_q rfl rfl (za2 rfl) ?_
    refine @o_n _ _ _ _ _ _ _ _ _ _ _ 18 (za3 rfl rfl rfl rfl rfl) (Eq.refl (some 18)) ?_
    refine @o_n _ _ _ _ _ _ _ _ _ _ _ 19 (za3 rfl rfl rfl rfl rfl) (Eq.refl (some 19)) ?_
    refine @o_n _ _ _ _ _ _ _ _ _ _ _ 20 (za3 rfl rfl rfl rfl rfl) (Eq.refl (some 20)) ?_
    refine @o_n _ _ _ _ _ _ _ _ _ _ _ 21 (za3 rfl rfl rfl rfl rfl) (Eq.refl (some 21)) ?_
    refine o_q rfl rfl (zav true rfl rfl) ?_
    refine o_end ?_
    refine za1 ?_
    refine c_true rfl ?_
    refine c_seq ?_
    refine za0 ?_
    refine o_q rfl rfl (q_asg rfl) ?_
    refine o_end ?_
    refine za1 ?_
    refine c_ret ?_
    refine za8 ?_
    have e0_ := Option.some.inj h; clear h
    subst e0_
    exact x_r1 () Try.results72 (zah rfl) rfl (fun w h => za7 [] (by decide) rfl w h)

/-! ### loop.example/g01098/spec.plIf: function 82 -/
def spec_plIf.f (k : Nat) (a0_0 : Int) (l0_1 : List SStep) (l0_2 : List Int) : Option (Int × (List SStep) × (List Int) × Bool) := (spec_plGood.f k a0_0 l0_1 l0_2).bind fun b6 => if b6 = true then (some (a0_0, l0_1, l0_2, true)) else (some (0, ([] : List SStep), ([] : List Int), false))
set_option maxHeartbeats 600000 in
set_option maxRecDepth 100000 in
theorem spec_plIf.calls (k : Nat) {w0 ws : World} {P0 : Nat → Prop} (a0_0 : Int) (A0_1 : Option Addr) (c0_1 : Nat) (n0_1 : Nat) (l0_1 : List SStep) (A0_2 : Option Addr) (c0_2 : Nat) (n0_2 : Nat) (l0_2 : List Int) (Z : Below w0.heap.size w0 ws) (hF : Fr w0 ws P0 [row kStep 117 (.slice A0_1 n0_1 c0_1) l0_1, row (Kd.int .i64) 3 (.slice A0_2 n0_2 c0_2) l0_2] ws)  (r_1 : Int) (r_2 : List SStep) (r_5 : List Int) (r_8 : Bool) (h : spec_plIf.f k a0_0 l0_1 l0_2 = some (r_1, r_2, r_5, r_8)) :
    Calls Try.prog 82 #[.agg #[.int .i64 a0_0, .slice A0_1 n0_1 c0_1, .slice A0_2 n0_2 c0_2]] ws (Post1 w0 ws P0 (fun ((q_3, q_4, q_6, q_7) : (Option Addr) × Nat × (Option Addr) × Nat) => .tuple #[.agg #[.int .i64 r_1, .slice q_3 r_2.length q_4, .slice q_6 r_5.length q_7], .bool r_8]) (fun ((q_3, q_4, q_6, q_7) : (Option Addr) × Nat × (Option Addr) × Nat) => [row kStep 117 (.slice q_3 r_2.length q_4) r_2, row (Kd.int .i64) 3 (.slice q_6 r_5.length q_7) r_5])) := by
  unfold spec_plIf.f at h
  obtain rfl := (hF.row_C (i := 0) rfl).2.1
  obtain rfl := (hF.row_C (i := 1) rfl).2.1
  refine enter Try.func82 rfl Try.ntmps82 rfl hF ?_
  refine c_seq ?_
  refine za0 ?_
  refine o_e rfl (e_box rfl) (fun g1 => ?_)
  refine o_e rfl (zau V36 rfl) (fun g3 => ?_)
  refine o_q rfl rfl (q_asg rfl) ?_
  refine o_end ?_
  refine za1 ?_
  refine c_seq ?_
  refine c_seq ?_
  refine za0 ?_
  refine o_q rfl rfl (q_ldB G36 Z36 rfl (fun w h => h.zae (i := 1) rfl) rfl) ?_
  refine za5 h (fun b6 hx5 h => ?_) rfl
  refine o_e rfl (za9 0 Z Try.func72 N72 rfl rfl rfl (fun w P1 hF hB hS hT => spec_plGood.calls k a0_0 A0_1 c0_1 l0_1.length l0_1 A0_2 c0_2 l0_2.length l0_2 hB hF (hT 2 _ rfl).row (hT 2 _ rfl).cap (hT 3 _ rfl).row (hT 3 _ rfl).cap _ hx5)) (fun _ => ?_)
  refine o_q rfl rfl (q_not rfl) ?_
  refine o_end ?_
  refine za1 ?_
  refine zar _ rfl (fun hb7 => ?_) (fun hb7 => ?_)
  · replace hb7 := nt_t hb7
    replace h := bb_f hb7 h
    refine c_seq ?_
    refine za0 ?_
    refine o_q rfl rfl (q_build (vs := []) (cs := [.int .i64 0, .slice none 0 0, .slice none 0 0]) rfl rfl) ?_
    refine o_e rfl (zaj (i := 0) rfl rfl rfl Z36 rfl rfl) (fun _ => ?_)
    refine o_q rfl rfl (q_asg rfl) ?_
    refine o_end ?_
    refine za1 ?_
    refine c_ret ?_
    refine za8 ?_
    refine x_nil kStep 117 ?_
    refine x_nil (Kd.int .i64) 3 ?_
    have e0_ := Option.some.inj h; clear h
    have d0_ := (Prod.mk.inj e0_).1; have e1_ := (Prod.mk.inj e0_).2; clear e0_; subst d0_
    have d1_ := (Prod.mk.inj e1_).1; have e2_ := (Prod.mk.inj e1_).2; clear e1_; subst d1_
    have d2_ := (Prod.mk.inj e2_).1; have e3_ := (Prod.mk.inj e2_).2; clear e2_; subst d2_
    subst e3_
    exact x_r2 (none, 0, none, 0) Try.results82 (rv_cell rfl G36 Z36 (fun w h => h.zae (i := 2) rfl) rfl) (zah rfl) rfl (fun w h => za7 [1, 0] (by decide) rfl w h)
  · replace hb7 := nt_f hb7
    replace h := bb_t hb7 h
    refine zal ?_
    refine za1 ?_
    refine c_seq ?_
    refine za0 ?_
    refine o_q rfl rfl (q_ldB G36 Z36 rfl (fun w h => h.zae (i := 1) rfl) rfl) ?_
    refine o_e rfl (zaj (i := 0) rfl rfl rfl Z36 rfl rfl) (fun _ => ?_)
    refine o_q rfl rfl (q_asg rfl) ?_
    refine o_end ?_
    refine za1 ?_
    refine c_ret ?_
    have e0_ := Option.some.inj h; clear h
    have d0_ := (Prod.mk.inj e0_).1; have e1_ := (Prod.mk.inj e0_).2; clear e0_; subst d0_
    have d1_ := (Prod.mk.inj e1_).1; have e2_ := (Prod.mk.inj e1_).2; clear e1_; subst d1_
    have d2_ := (Prod.mk.inj e2_).1; have e3_ := (Prod.mk.inj e2_).2; clear e2_; subst d2_
    subst e3_
    exact x_r2 (A0_1, c0_1, A0_2, c0_2) Try.results82 (rv_cell rfl G36 Z36 (fun w h => h.zae (i := 0) rfl) rfl) (zah rfl) rfl (fun w h => za7 [2, 3] (by decide) rfl w h)

/-! ### loop.example/g01098/spec.TogetherPlan: function 98 -/
def spec_TogetherPlan.l1 (l0 : List Int) (i41 : Int) : (List Int) → (List SStep) → (List Int) → Int → Int → Option ((List SStep) × (List Int) × Int)
  | [], l76, l79, i82, i83 => some (l76, l79, i83)
  | y84 :: ys85, l76, l79, i82, i83 => (nn i41).bind fun _ => if (y84 / 2 ^ min (i41 : Int).toNat IntKind.i64.bits).tmod 2 = 0 then (spec_TogetherPlan.l1 l0 i41 ys85 l76 l79 (i82 + 1) i83) else (if i83 < 0 then (spec_TogetherPlan.l1 l0 i41 ys85 l76 l79 (i82 + 1) i82) else ((spec_meTimes.f (l0.length : Int) l76 l79 i83 i82).bind fun l99 => spec_TogetherPlan.l1 l0 i41 ys85 l99 [] (i82 + 1) (w64 ((l0.length : Int) + (l76.length : Int)))))
def spec_TogetherPlan.l0 (l0 : List Int) : Nat → (List SStep) → (List Int) → Int → Int → Option ((List SStep) × (List Int) × Int)
  | 0, _, _, _, _ => none
  | k44 + 1, l34, l37, i40, i41 => if 0 ≤ i41 then ((if 0 ≤ i40 then ((spec_meTimes.f (l0.length : Int) l34 l37 i40 i40).bind fun l72 => some (l72, [], w64 ((l0.length : Int) + (l34.length : Int)))) else (some (l34, l37, i40))).bind fun (l58, l61, i64) => (spec_TogetherPlan.l1 l0 i41 l0 l58 l61 0 i64).bind fun (l76, l79, i83) => spec_TogetherPlan.l0 l0 k44 l76 l79 i83 (w64 (i41 - 1))) else (some (l34, l37, i40))
def spec_TogetherPlan.f (k : Nat) (l0 : List Int) : Option (Int × (List SStep) × (List Int) × Bool) := ((spec_l1In.f (l0.length : Int) 1 6).bind fun b18 => if b18 = true then ((spec_l1All.f l0 0 1000000).bind fun b21 => if b21 = true then ((spec_meGreatest.f l0).bind fun i24 => some (decide (i24 = 0))) else (some true)) else (some true)).bind fun b11 => if b11 = true then (some (0, ([] : List SStep), ([] : List Int), false)) else ((spec_meGreatest.f l0).bind fun i29 => (spec_chLength.f k i29).bind fun i31 => (spec_TogetherPlan.l0 l0 k ([] : List SStep) ([] : List Int) (-1) (w64 (i31 - 1))).bind fun (l34, l37, i40) => (spec_meEnd.f (l0.length : Int) l34 l37 i40).bind fun _ => (spec_plIf.f k (l0.length : Int) l34 ([i40] : List Int)).bind fun (i107, l108, l109, b110) => some (i107, l108, l109, b110))
set_option maxHeartbeats 600000 in
set_option maxRecDepth 100000 in
theorem spec_TogetherPlan.calls (k : Nat) {w0 ws : World} {P0 : Nat → Prop} (A0 : Option Addr) (c0 : Nat) (n0 : Nat) (l0 : List Int) (Z : Below w0.heap.size w0 ws) (hF : Fr w0 ws P0 [] ws) (R0 : Stable ws P0 (fun w => Kd.C (Kd.int .i64) w A0 n0 l0)) (hc0 : n0 ≤ c0) (r_1 : Int) (r_2 : List SStep) (r_5 : List Int) (r_8 : Bool) (h : spec_TogetherPlan.f k l0 = some (r_1, r_2, r_5, r_8)) :
    Calls Try.prog 98 #[.slice A0 n0 c0] ws (Post1 w0 ws P0 (fun ((q_3, q_4, q_6, q_7) : (Option Addr) × Nat × (Option Addr) × Nat) => .tuple #[.agg #[.int .i64 r_1, .slice q_3 r_2.length q_4, .slice q_6 r_5.length q_7], .bool r_8]) (fun ((q_3, q_4, q_6, q_7) : (Option Addr) × Nat × (Option Addr) × Nat) => [row kStep 117 (.slice q_3 r_2.length q_4) r_2, row (Kd.int .i64) 3 (.slice q_6 r_5.length q_7) r_5])) := by
  unfold spec_TogetherPlan.f at h
  obtain rfl := (R0 ws (KeptB.refl _ _)).1
  refine enter Try.func98 rfl Try.ntmps98 rfl hF ?_
  refine c_seq ?_
  refine za0 ?_
  refine o_e rfl (zau V36 rfl) (fun g1 => ?_)
  refine o_q rfl rfl (q_asg rfl) ?_
  refine o_end ?_
  refine za1 ?_
  refine c_seq ?_
  refine za5 h (fun o12 hl13 hR14 => ?_) rfl
  clear h
  refine c_cutJ (σ := Bool) (fun b11 => some b11 = some o12) [9, 10, 11, 12, 13, 14, 15, 16, 17, 18, 19, 20, 21, 22] (fun b11 => [(22, .bool b11)]) (fun b11 => [box g1 36 #[.int .i64 0, .slice none 0 0, .slice none 0 0]]) ?_ ?_
  · skip
    have h := hl13; clear hl13
    clear hR14
    refine za0 ?_
    refine o_q rfl rfl (za2 rfl) ?_
    refine o_q rfl rfl (q_len Try.underlying22 rfl) ?_
    refine za5 h (fun b18 hx17 h => ?_) rfl
    refine o_e rfl (za9 0 Z Try.func77 N77 rfl rfl rfl (fun w P1 hF hB hS hT => spec_l1In.calls (l0.length : Int) 1 6 hB hF _ hx17)) (fun _ => ?_)
    refine o_q rfl rfl (q_not rfl) ?_
    refine o_q rfl rfl (za2 rfl) ?_
    refine byB b18 (fun hb19 => ?_) (fun hb19 => ?_)
    · replace h := bb_t hb19 h
      refine o_w (za6 rfl rfl rfl (congrArg (fun b => Value.bool (!(b))) hb19)) rfl (za2 rfl) ?_
      refine za5 h (fun b21 hx20 h => ?_) rfl
      refine o_ew (za6 rfl rfl rfl (congrArg (fun b => Value.bool (!(b))) hb19)) (za9 0 Z Try.func68 N68 rfl rfl rfl (fun w P1 hF hB hS hT => spec_l1All.calls A0 c0 l0.length l0 0 1000000 hB hF (hS _ R0) hc0 _ hx20)) (fun _ => ?_)
      refine o_w (za6 rfl rfl rfl (congrArg (fun b => Value.bool (!(b))) hb19)) rfl (q_not rfl) ?_
      refine o_q rfl rfl (zav false (congrArg (fun b => Value.bool (!(b))) hb19) rfl) ?_
      refine o_q rfl rfl (za2 rfl) ?_
      refine byB b21 (fun hb22 => ?_) (fun hb22 => ?_)
      · replace h := bb_t hb22 h
        refine o_w (za6 rfl rfl rfl (congrArg (fun b => Value.bool (!(b))) hb22)) rfl (za2 rfl) ?_
        refine za5 h (fun i24 hx23 h => ?_) rfl
        refine o_ew (za6 rfl rfl rfl (congrArg (fun b => Value.bool (!(b))) hb22)) (za9 0 Z Try.func79 N79 rfl rfl rfl (fun w P1 hF hB hS hT => spec_meGreatest.calls A0 c0 l0.length l0 hB hF (hS _ R0) hc0 _ hx23)) (fun _ => ?_)
        refine o_w (za6 rfl rfl rfl (congrArg (fun b => Value.bool (!(b))) hb22)) rfl (q_eql rfl rfl) ?_
        refine o_q rfl rfl (zav false (congrArg (fun b => Value.bool (!(b))) hb22) rfl) ?_
        refine o_end ?_
        refine x_meetJ (decide (i24 = 0)) h ⟨rfl, trivial⟩ (fun w h => za7 [0] (by decide) rfl w h) ?_
        repeat (first | exact zaa _ _ | refine zac rfl ?_ | refine zab rfl ?_ | refine zad rfl ?_)
      · replace h := bb_f hb22 h
        refine @o_n _ _ _ _ _ _ _ _ _ _ _ 19 (za3 rfl rfl rfl (congrArg (fun b => Value.bool (!(b))) hb22) rfl) (Eq.refl (some 19)) ?_
        refine @o_n _ _ _ _ _ _ _ _ _ _ _ 20 (za3 rfl rfl rfl (congrArg (fun b => Value.bool (!(b))) hb22) rfl) (Eq.refl (some 20)) ?_
        refine @o_n _ _ _ _ _ _ _ _ _ _ _ 21 (za3 rfl rfl rfl (congrArg (fun b => Value.bool (!(b))) hb22) rfl) (Eq.refl (some 21)) ?_
        refine o_q rfl rfl (zav true (congrArg (fun b => Value.bool (!(b))) hb22) rfl) ?_
        refine o_end ?_
        refine x_meetJ true h ⟨rfl, trivial⟩ (fun w h => za7 [0] (by decide) rfl w h) ?_
        repeat (first | exact zaa _ _ | refine zac rfl ?_ | refine zab rfl ?_ | refine zad rfl ?_)
    · replace h := bb_f hb19 h
      refine @o_n _ _ _ _ _ _ _ _ _ _ _ 14 (za3 rfl rfl rfl (congrArg (fun b => Value.bool (!(b))) hb19) rfl) (Eq.refl (some 14)) ?_
      refine @o_n _ _ _ _ _ _ _ _ _ _ _ 15 (za3 rfl rfl rfl (congrArg (fun b => Value.bool (!(b))) hb19) rfl) (Eq.refl (some 15)) ?_
      refine @o_n _ _ _ _ _ _ _ _ _ _ _ 16 (za3 rfl rfl rfl (congrArg (fun b => Value.bool (!(b))) hb19) rfl) (Eq.refl (some 16)) ?_
      refine o_q rfl rfl (zav true (congrArg (fun b => Value.bool (!(b))) hb19) rfl) ?_
      refine o_q rfl rfl (za2 rfl) ?_
      refine @o_n _ _ _ _ _ _ _ _ _ _ _ 19 (za3 rfl rfl rfl rfl rfl) (Eq.refl (some 19)) ?_
      refine @o_n _ _ _ _ _ _ _ _ _ _ _ 20 (za3 rfl rfl rfl rfl rfl) (Eq.refl (some 20)) ?_
      refine @o_n _ _ _ _ _ _ _ _ _ _ _ 21 (za3 rfl rfl rfl rfl rfl) (Eq.refl (some 21)) ?_
      refine o_q rfl rfl (zav true rfl rfl) ?_
      refine o_end ?_
      refine x_meetJ true h ⟨rfl, trivial⟩ (fun w h => za7 [0] (by decide) rfl w h) ?_
      repeat (first | exact zaa _ _ | refine zac rfl ?_ | refine zab rfl ?_ | refine zad rfl ?_)
  · skip
    refine (fun b11 => fun U15 hJ16 => ?_)
    have e_ := Option.some.inj hJ16; have h := hR14; rw [← e_] at h; clear e_ hJ16 hR14 hl13
    refine zar _ rfl (fun hb25 => ?_) (fun hb25 => ?_)
    · skip
      replace h := bb_t hb25 h
      refine c_seq ?_
      refine za0 ?_
      refine o_q rfl rfl (q_build (vs := []) (cs := [.int .i64 0, .slice none 0 0, .slice none 0 0]) rfl rfl) ?_
      refine o_e rfl (zaj (i := 0) rfl rfl rfl Z36 rfl rfl) (fun _ => ?_)
      refine o_q rfl rfl (q_asg rfl) ?_
      refine o_end ?_
      refine za1 ?_
      refine c_ret ?_
      refine za8 ?_
      refine x_nil kStep 117 ?_
      refine x_nil (Kd.int .i64) 3 ?_
      have e0_ := Option.some.inj h; clear h
      have d0_ := (Prod.mk.inj e0_).1; have e1_ := (Prod.mk.inj e0_).2; clear e0_; subst d0_
      have d1_ := (Prod.mk.inj e1_).1; have e2_ := (Prod.mk.inj e1_).2; clear e1_; subst d1_
      have d2_ := (Prod.mk.inj e2_).1; have e3_ := (Prod.mk.inj e2_).2; clear e2_; subst d2_
      subst e3_
      exact x_r2 (none, 0, none, 0) Try.results98 (rv_cell rfl G36 Z36 (fun w h => h.zae (i := 2) rfl) rfl) (zah rfl) rfl (fun w h => za7 [1, 0] (by decide) rfl w h)
    · skip
      replace h := bb_f hb25 h
      refine zal ?_
      refine za1 ?_
      refine c_seq ?_
      refine za0 ?_
      refine o_q rfl rfl (za2 rfl) ?_
      refine o_q rfl rfl (q_len Try.underlying22 rfl) ?_
      refine o_q rfl rfl (q_build (vs := [(0, .int .i64 (l0.length : Int))]) (cs := [.int .i64 (l0.length : Int), .slice none 0 0, .slice none 0 0]) rfl rfl) ?_
      refine o_e rfl (zau V36 rfl) (fun g26 => ?_)
      refine o_e rfl (zaj (i := 0) rfl rfl rfl Z36 rfl rfl) (fun _ => ?_)
      refine o_end ?_
      refine za1 ?_
      refine c_seq ?_
      refine za0 ?_
      refine o_q rfl rfl (q_asg rfl) ?_
      refine o_end ?_
      refine za1 ?_
      refine c_seq ?_
      refine c_seq ?_
      refine za0 ?_
      refine o_q rfl rfl (za2 rfl) ?_
      refine za5 h (fun i29 hx28 h => ?_) rfl
      refine o_e rfl (za9 0 Z Try.func79 N79 rfl rfl rfl (fun w P1 hF hB hS hT => spec_meGreatest.calls A0 c0 l0.length l0 hB hF (hS _ R0) hc0 _ hx28)) (fun _ => ?_)
      refine za5 h (fun i31 hx30 h => ?_) rfl
      refine o_e rfl (za9 0 Z Try.func78 N78 rfl rfl rfl (fun w P1 hF hB hS hT => spec_chLength.calls k i29 hB hF _ hx30)) (fun _ => ?_)
      refine o_q rfl rfl (q_sub64 rfl rfl) ?_
      refine o_q rfl rfl (q_asg rfl) ?_
      refine o_end ?_
      refine za1 ?_
      refine zaf ?_
      refine c_nil kStep 117 ?_
      refine c_nil (Kd.int .i64) 3 ?_
      refine za5 h (fun o49 hl48 hR47 => ?_) rfl
      clear h
      refine zas (σ := (List SStep) × (List Int) × Int × Int × (Option Addr) × Nat × (Option Addr) × Nat) (fun k44 ((l34, l37, i40, i41, A35, c36, A38, c39) : (List SStep) × (List Int) × Int × Int × (Option Addr) × Nat × (Option Addr) × Nat) => spec_TogetherPlan.l0 l0 k44 l34 l37 i40 i41 = some o49) [5, 6, 7, 8, 31, 32, 33, 34, 35, 36, 37, 38, 39, 40, 41, 42, 43, 44, 45, 46, 47, 48, 49, 50, 51, 52, 53, 54, 55, 56, 57, 58, 59, 60, 61, 62, 63, 64, 65, 66] (fun ((l34, l37, i40, i41, A35, c36, A38, c39) : (List SStep) × (List Int) × Int × Int × (Option Addr) × Nat × (Option Addr) × Nat) => [(5, .int .i64 i40), (6, .int .i64 i41)]) (fun ((l34, l37, i40, i41, A35, c36, A38, c39) : (List SStep) × (List Int) × Int × Int × (Option Addr) × Nat × (Option Addr) × Nat) => [row (Kd.int .i64) 3 (.slice A38 l37.length c39) l37, row kStep 117 (.slice A35 l34.length c36) l34, box g26 36 #[.int .i64 (l0.length : Int), .slice A35 l34.length c36, .slice A38 l37.length c39], box g1 36 #[.int .i64 0, .slice none 0 0, .slice none 0 0]]) k (([] : List SStep), ([] : List Int), (-1), w64 (i31 - 1), none, 0, none, 0) hl48 ⟨rfl, rfl, trivial⟩ (fun w h => h) ?_
      refine natC (cur8 (fun l34 l37 i40 i41 A35 c36 A38 c39 => fun U50 hJ_ => ?_)) (fun k44 => (cur8 (fun l34 l37 i40 i41 A35 c36 A38 c39 => fun U50 hJ_ => ?_)))
      · skip
        replace hJ_ : spec_TogetherPlan.l0 l0 0 l34 l37 i40 i41 = some o49 := hJ_
        rw [spec_TogetherPlan.l0] at hJ_
        exact noneE hJ_
      · skip
        clear hl48
        have h := hJ_; clear hJ_
        replace h : spec_TogetherPlan.l0 l0 (k44 + 1) l34 l37 i40 i41 = some o49 := h
        rw [spec_TogetherPlan.l0] at h
        refine c_seq ?_
        refine c_seq ?_
        refine za0 ?_
        refine o_q rfl rfl (za2 rfl) ?_
        refine o_q rfl rfl (q_geq rfl rfl) ?_
        refine o_end ?_
        refine za1 ?_
        refine zar _ rfl (fun hb52 => ?_) (fun hb52 => ?_)
        · skip
          replace h := br_t hb52 h
          refine zal ?_
          refine za1 ?_
          refine c_seq ?_
          refine zaf ?_
          refine za5 h (fun o65 hl66 hR67 => ?_) rfl
          clear h
          refine c_cutJ (σ := (List SStep) × (List Int) × Int × (Option Addr) × Nat × (Option Addr) × Nat) (fun (l58, l61, i64, A59, c60, A62, c63) => some (l58, l61, i64) = some o65) [5, 35, 36, 37, 38, 39, 40, 41, 42, 43] (fun (l58, l61, i64, A59, c60, A62, c63) => [(5, .int .i64 i64)]) (fun (l58, l61, i64, A59, c60, A62, c63) => [box g1 36 #[.int .i64 0, .slice none 0 0, .slice none 0 0], box g26 36 #[.int .i64 (l0.length : Int), .slice A59 l58.length c60, .slice A62 l61.length c63], row kStep 117 (.slice A59 l58.length c60) l58, row (Kd.int .i64) 3 (.slice A62 l61.length c63) l61]) ?_ ?_
          · skip
            have h := hl66; clear hl66
            clear hR67
            refine c_seq ?_
            refine za0 ?_
            refine o_q rfl rfl (za2 rfl) ?_
            refine o_q rfl rfl (q_geq rfl rfl) ?_
            refine o_end ?_
            refine za1 ?_
            refine zar _ rfl (fun hb70 => ?_) (fun hb70 => ?_)
            · skip
              replace h := br_t hb70 h
              refine za0 ?_
              refine o_q rfl rfl (q_ldB G36 Z36 rfl (fun w h => h.zae (i := 2) rfl) rfl) ?_
              refine o_q rfl rfl (za2 rfl) ?_
              refine o_q rfl rfl (za2 rfl) ?_
              refine za5 h (fun l72 hx71 h => ?_) rfl
              refine o_e rfl (za9 0 Z Try.func80 N80 rfl rfl rfl (fun w P1 hF hB hS hT => spec_meTimes.calls (l0.length : Int) A35 c36 l34.length l34 A38 c39 l37.length l37 i40 i40 hB hF (hT 1 _ rfl).row (hT 1 _ rfl).cap (hT 0 _ rfl).row (hT 0 _ rfl).cap _ hx71)) (cur2 (fun A73 c74 => ?_))
              refine o_q rfl rfl (za2 rfl) ?_
              refine o_q rfl rfl (q_ext rfl rfl) ?_
              refine o_q rfl rfl (q_ext rfl rfl) ?_
              refine o_e rfl (zaj (i := 4) rfl rfl rfl Z36 rfl rfl) (fun _ => ?_)
              refine o_q rfl rfl (q_asg rfl) ?_
              refine o_end ?_
              refine x_fact (p := 0 = [].length) (fun w h => (h.row_C (i := 1) rfl).2.1) (fun hn75 => ?_)
              refine x_meetJ (l72, [], w64 ((l0.length : Int) + (l34.length : Int)), A73, c74, none, 0) h ⟨rfl, trivial⟩ (f_pickE (L1 := [row kStep 117 (.slice A73 l72.length c74) l72, row (Kd.int .i64) 3 (.slice none 0 0) [], row (Kd.int .i64) 3 (.slice A38 l37.length c39) l37, row kStep 117 (.slice A35 l34.length c36) l34, box g26 36 #[.int .i64 (l0.length : Int), .slice A73 l72.length c74, .slice none 0 0], box g1 36 #[.int .i64 0, .slice none 0 0, .slice none 0 0]]) rfl [5, 4, 0, 1] (by decide) rfl (by (try rw [hn75]); first | done | rfl)) ?_
              repeat (first | exact zaa _ _ | refine zac rfl ?_ | refine zab rfl ?_ | refine zad rfl ?_)
            · skip
              replace h := br_f hb70 h
              refine zal ?_
              refine x_meetJ (l34, l37, i40, A35, c36, A38, c39) h ⟨rfl, trivial⟩ (fun w h => za7 [3, 2, 1, 0] (by decide) rfl w h) ?_
              repeat (first | exact zaa _ _ | refine zac rfl ?_ | refine zab rfl ?_ | refine zad rfl ?_)
          · skip
            refine (cur7 (fun l58 l61 i64 A59 c60 A62 c63 => fun U68 hJ69 => ?_))
            have e_ := Option.some.inj hJ69; have h := hR67; rw [← e_] at h; clear e_ hJ69 hR67 hl66
            refine c_seq ?_
            refine za0 ?_
            refine o_q rfl rfl (za2 rfl) ?_
            refine o_q rfl rfl (q_len Try.underlying22 rfl) ?_
            refine o_q rfl rfl (za2 rfl) ?_
            refine o_end ?_
            refine za1 ?_
            refine zaf ?_
            refine za5 h (fun o91 hl90 hR89 => ?_) rfl
            clear h
            refine c_fact (p := l0.length ≤ 9223372036854775807) (fun w h => (R0.now Z h).2.1) (fun hm88 => ?_)
            refine zas (σ := (List Int) × (List SStep) × (List Int) × Int × Int × (Option Addr) × Nat × (Option Addr) × Nat) (fun k86 ((ys85, l76, l79, i82, i83, A77, c78, A80, c81) : (List Int) × (List SStep) × (List Int) × Int × Int × (Option Addr) × Nat × (Option Addr) × Nat) => Rg l0 i82 ys85 ∧ ys85.length = k86 ∧ spec_TogetherPlan.l1 l0 i41 ys85 l76 l79 i82 i83 = some o91) [5, 7, 8, 46, 47, 48, 49, 50, 51, 52, 53, 54, 55, 56, 57, 58, 59, 60, 61, 62, 63, 64, 65, 66] (fun ((ys85, l76, l79, i82, i83, A77, c78, A80, c81) : (List Int) × (List SStep) × (List Int) × Int × Int × (Option Addr) × Nat × (Option Addr) × Nat) => [(5, .int .i64 i83), (46, .int .i64 i82)]) (fun ((ys85, l76, l79, i82, i83, A77, c78, A80, c81) : (List Int) × (List SStep) × (List Int) × Int × Int × (Option Addr) × Nat × (Option Addr) × Nat) => [box g1 36 #[.int .i64 0, .slice none 0 0, .slice none 0 0], box g26 36 #[.int .i64 (l0.length : Int), .slice A77 l76.length c78, .slice A80 l79.length c81], row kStep 117 (.slice A77 l76.length c78) l76, row (Kd.int .i64) 3 (.slice A80 l79.length c81) l79]) l0.length (l0, l58, l61, 0, i64, A59, c60, A62, c63) ⟨Rg.start _, rfl, hl90⟩ ⟨rfl, rfl, trivial⟩ (fun w h => h) ?_
            refine fun k86 => cur9 (listC (fun l76 l79 i82 i83 A77 c78 A80 c81 U92 hJ_ => ?_) (fun y84 ys85 l76 l79 i82 i83 A77 c78 A80 c81 U92 hJ_ => ?_))
            · skip
              clear hl90
              have hr87 := hJ_.1; have hk93 := hJ_.2.1; have h := hJ_.2.2; clear hJ_
              replace h : spec_TogetherPlan.l1 l0 i41 [] l76 l79 i82 i83 = some o91 := h
              rw [spec_TogetherPlan.l1] at h
              refine c_seq ?_
              refine za0 ?_
              refine o_q rfl rfl (q_lss rfl rfl) ?_
              refine o_end ?_
              refine za1 ?_
              refine c_seq ?_
              refine c_false (congrArg Value.bool hr87.ge) ?_
              refine c_exit ?_
              refine za4 ?_
              refine za4 ?_
              have e_ := Option.some.inj h; replace h := hR89; rw [← e_] at h; clear e_
              refine x_hit ?_
              refine zaq ?_
              refine za1 ?_
              refine za0 ?_
              refine o_q rfl rfl (za2 rfl) ?_
              refine o_q rfl rfl (q_sub64 rfl rfl) ?_
              refine o_q rfl rfl (q_asg rfl) ?_
              refine o_end ?_
              refine zak k44 (l76, l79, i83, w64 (i41 - 1), A77, c78, A80, c81) (Nat.lt_succ_self _) h ⟨rfl, rfl, trivial⟩ (fun w h => za7 [3, 2, 1, 0] (by decide) rfl w h) ?_
              repeat (first | exact zaa _ _ | refine zac rfl ?_ | refine zab rfl ?_ | refine zad rfl ?_)
            · skip
              clear hl90
              have hr87 := hJ_.1; have hk93 := hJ_.2.1; have h := hJ_.2.2; clear hJ_
              replace h : spec_TogetherPlan.l1 l0 i41 (y84 :: ys85) l76 l79 i82 i83 = some o91 := h
              rw [spec_TogetherPlan.l1] at h
              refine c_seq ?_
              refine za0 ?_
              refine o_q rfl rfl (q_lss rfl rfl) ?_
              refine o_end ?_
              refine za1 ?_
              refine c_seq ?_
              refine c_true (congrArg Value.bool hr87.lt) ?_
              refine zal ?_
              refine za1 ?_
              refine c_seq ?_
              refine zaf ?_
              refine c_seq ?_
              refine za0 ?_
              refine o_q rfl rfl (za2 rfl) ?_
              refine zaw (p := Sh A0 l0.length l0.length) (fun w h => f_sh (dk := (Kd.int .i64)) h (fun w h => R0.now Z h)) (fun hq94 => ?_)
              refine o_q rfl rfl (q_ix Try.underlying22 Z3 rfl rfl hq94 hr87.get) ?_
              refine o_q rfl rfl (q_lde (off := 0) Y3 rfl rfl (fun w h => R0.now Z h) hr87.get (fun _ _ h => h) rfl) ?_
              refine o_q rfl rfl (q_asg rfl) ?_
              refine o_q rfl rfl (q_asg rfl) ?_
              refine o_end ?_
              refine za1 ?_
              refine c_seq ?_
              refine c_seq ?_
              refine za0 ?_
              refine o_q rfl rfl (za2 rfl) ?_
              refine o_q rfl rfl (za2 rfl) ?_
              refine za5 h (fun _ hz95 h => ?_) rfl
              refine o_q rfl rfl (q_shr rfl rfl (nn_le hz95)) ?_
              refine o_q rfl rfl (q_rem rfl rfl (by decide)) ?_
              refine o_q rfl rfl (q_eql rfl rfl) ?_
              refine o_end ?_
              refine za1 ?_
              refine zar _ rfl (fun hb96 => ?_) (fun hb96 => ?_)
              · skip
                replace h := br_t hb96 h
                refine c_exit ?_
                refine za4 ?_
                refine x_hit ?_
                refine za1 ?_
                refine za0 ?_
                refine o_q rfl rfl (q_up rfl rfl (hr87.up hm88)) ?_
                refine o_q rfl rfl (za2 rfl) ?_
                refine o_end ?_
                refine zak ys85.length (ys85, l76, l79, i82 + 1, i83, A77, c78, A80, c81) (by rw [← hk93]; exact Nat.lt_succ_self _) ⟨hr87.step, rfl, h⟩ ⟨rfl, rfl, trivial⟩ (fun w h => za7 [0, 1, 2, 3] (by decide) rfl w h) ?_
                repeat (first | exact zaa _ _ | refine zac rfl ?_ | refine zab rfl ?_ | refine zad rfl ?_)
              · skip
                replace h := br_f hb96 h
                refine zal ?_
                refine za1 ?_
                refine c_seq ?_
                refine za0 ?_
                refine o_q rfl rfl (za2 rfl) ?_
                refine o_q rfl rfl (q_lss rfl rfl) ?_
                refine o_end ?_
                refine za1 ?_
                refine zar _ rfl (fun hb97 => ?_) (fun hb97 => ?_)
                · skip
                  replace h := br_t hb97 h
                  refine za0 ?_
                  refine o_q rfl rfl (za2 rfl) ?_
                  refine o_q rfl rfl (q_asg rfl) ?_
                  refine o_end ?_
                  refine zaq ?_
                  refine za1 ?_
                  refine za0 ?_
                  refine o_q rfl rfl (q_up rfl rfl (hr87.up hm88)) ?_
                  refine o_q rfl rfl (za2 rfl) ?_
                  refine o_end ?_
                  refine zak ys85.length (ys85, l76, l79, i82 + 1, i82, A77, c78, A80, c81) (by rw [← hk93]; exact Nat.lt_succ_self _) ⟨hr87.step, rfl, h⟩ ⟨rfl, rfl, trivial⟩ (fun w h => za7 [0, 1, 2, 3] (by decide) rfl w h) ?_
                  repeat (first | exact zaa _ _ | refine zac rfl ?_ | refine zab rfl ?_ | refine zad rfl ?_)
                · skip
                  replace h := br_f hb97 h
                  refine za0 ?_
                  refine o_q rfl rfl (q_ldB G36 Z36 rfl (fun w h => h.zae (i := 1) rfl) rfl) ?_
                  refine o_q rfl rfl (za2 rfl) ?_
                  refine o_q rfl rfl (za2 rfl) ?_
                  refine za5 h (fun l99 hx98 h => ?_) rfl
                  refine o_e rfl (za9 0 Z Try.func80 N80 rfl rfl rfl (fun w P1 hF hB hS hT => spec_meTimes.calls (l0.length : Int) A77 c78 l76.length l76 A80 c81 l79.length l79 i83 i82 hB hF (hT 2 _ rfl).row (hT 2 _ rfl).cap (hT 3 _ rfl).row (hT 3 _ rfl).cap _ hx98)) (cur2 (fun A100 c101 => ?_))
                  refine o_q rfl rfl (za2 rfl) ?_
                  refine o_q rfl rfl (q_ext rfl rfl) ?_
                  refine o_q rfl rfl (q_ext rfl rfl) ?_
                  refine o_e rfl (zaj (i := 3) rfl rfl rfl Z36 rfl rfl) (fun _ => ?_)
                  refine o_q rfl rfl (q_asg rfl) ?_
                  refine o_end ?_
                  refine zaq ?_
                  refine za1 ?_
                  refine za0 ?_
                  refine o_q rfl rfl (q_up rfl rfl (hr87.up hm88)) ?_
                  refine o_q rfl rfl (za2 rfl) ?_
                  refine o_end ?_
                  refine x_fact (p := 0 = [].length) (fun w h => (h.row_C (i := 1) rfl).2.1) (fun hn102 => ?_)
                  refine zak ys85.length (ys85, l99, [], i82 + 1, w64 ((l0.length : Int) + (l76.length : Int)), A100, c101, none, 0) (by rw [← hk93]; exact Nat.lt_succ_self _) ⟨hr87.step, rfl, h⟩ ⟨rfl, rfl, trivial⟩ (f_pickE (L1 := [row kStep 117 (.slice A100 l99.length c101) l99, row (Kd.int .i64) 3 (.slice none 0 0) [], box g1 36 #[.int .i64 0, .slice none 0 0, .slice none 0 0], box g26 36 #[.int .i64 (l0.length : Int), .slice A100 l99.length c101, .slice none 0 0], row kStep 117 (.slice A77 l76.length c78) l76, row (Kd.int .i64) 3 (.slice A80 l79.length c81) l79]) rfl [2, 3, 0, 1] (by decide) rfl (by (try rw [hn102]); first | done | rfl)) ?_
                  repeat (first | exact zaa _ _ | refine zac rfl ?_ | refine zab rfl ?_ | refine zad rfl ?_)
        · skip
          replace h := br_f hb52 h
          refine c_exit ?_
          refine za4 ?_
          refine za4 ?_
          have e_ := Option.some.inj h; replace h := hR47; rw [← e_] at h; clear e_
          refine x_hit ?_
          refine za1 ?_
          refine c_seq ?_
          refine za0 ?_
          refine o_q rfl rfl (q_ldB G36 Z36 rfl (fun w h => h.zae (i := 2) rfl) rfl) ?_
          refine o_q rfl rfl (za2 rfl) ?_
          refine o_pick [1, 0, 2, 3] (by decide) rfl ?_
          refine za5 h (fun _ hx103 h => ?_) rfl
          refine o_e rfl (za9 1 Z Try.func157 N157 rfl rfl rfl (fun w P1 hF hB hS hT => spec_meEnd.calls (l0.length : Int) A35 c36 l34.length l34 A38 c39 l37.length l37 i40 hB hF (hT 0 _ rfl).row (hT 0 _ rfl).cap hx103)) (cur2 (fun A104 c105 => ?_))
          refine bindE4 h (fun i107 l108 l109 b110 hx106 h => ?_) rfl
          refine o_e rfl (za9 2 Z Try.func82 N82 rfl rfl rfl (fun w P1 hF hB hS hT => spec_plIf.calls k (l0.length : Int) A35 c36 l34.length l34 A104 c105 (([i40] : List Int).length) ([i40] : List Int) hB hF _ _ _ _ hx106)) (cur4 (fun A111 c112 A113 c114 => ?_))
          refine o_q rfl rfl (q_ext rfl rfl) ?_
          refine o_q rfl rfl (q_ext rfl rfl) ?_
          refine o_e rfl (zaj (i := 4) rfl rfl rfl Z36 rfl rfl) (fun _ => ?_)
          refine o_q rfl rfl (q_asg rfl) ?_
          refine o_end ?_
          refine za1 ?_
          refine c_ret ?_
          have e0_ := Option.some.inj h; clear h
          have d0_ := (Prod.mk.inj e0_).1; have e1_ := (Prod.mk.inj e0_).2; clear e0_; subst d0_
          have d1_ := (Prod.mk.inj e1_).1; have e2_ := (Prod.mk.inj e1_).2; clear e1_; subst d1_
          have d2_ := (Prod.mk.inj e2_).1; have e3_ := (Prod.mk.inj e2_).2; clear e2_; subst d2_
          subst e3_
          exact x_r2 (A111, c112, A113, c114) Try.results98 (rv_cell rfl G36 Z36 (fun w h => h.zae (i := 4) rfl) rfl) (zah rfl) rfl (fun w h => za7 [0, 1] (by decide) rfl w h)

/-! ### loop.example/g01098/spec.meDigits: function 81 -/
def spec_meDigits.l0 (a1 : Int) : Nat → (List Int) → Int → Option (List Int)
  | 0, _, _ => none
  | k8 + 1, l2, i5 => if 0 < i5 then ((nz a1).bind fun _ => (ap l2 ([i5.tmod a1] : List Int)).bind fun l21 => (nz a1).bind fun _ => spec_meDigits.l0 a1 k8 l21 (w64 (i5.tdiv a1))) else (some l2)
def spec_meDigits.f (k : Nat) (a0 : Int) (a1 : Int) : Option (List Int) := (spec_meDigits.l0 a1 k ([] : List Int) a0).bind fun l2 => some l2
set_option maxHeartbeats 600000 in
set_option maxRecDepth 100000 in
theorem spec_meDigits.calls (k : Nat) {w0 ws : World} {P0 : Nat → Prop} (a0 : Int) (a1 : Int) (Z : Below w0.heap.size w0 ws) (hF : Fr w0 ws P0 [] ws)  (r_1 : List Int) (h : spec_meDigits.f k a0 a1 = some r_1) :
    Calls Try.prog 81 #[.int .i64 a0, .int .i64 a1] ws (Post1 w0 ws P0 (fun ((q_2, q_3) : (Option Addr) × Nat) => .slice q_2 r_1.length q_3) (fun ((q_2, q_3) : (Option Addr) × Nat) => [row (Kd.int .i64) 3 (.slice q_2 r_1.length q_3) r_1])) := by
  unfold spec_meDigits.f at h
  refine enter Try.func81 rfl Try.ntmps81 rfl hF ?_
  refine c_seq ?_
  refine za0 ?_
  refine o_q rfl rfl (q_asg rfl) ?_
  refine o_end ?_
  refine za1 ?_
  refine c_seq ?_
  refine za0 ?_
  refine o_q rfl rfl (q_asg rfl) ?_
  refine o_end ?_
  refine za1 ?_
  refine c_seq ?_
  refine zaf ?_
  refine c_nil (Kd.int .i64) 3 ?_
  refine za5 h (fun o13 hl12 hR11 => ?_) rfl
  clear h
  refine zas (σ := (List Int) × Int × (Option Addr) × Nat) (fun k8 ((l2, i5, A3, c4) : (List Int) × Int × (Option Addr) × Nat) => spec_meDigits.l0 a1 k8 l2 i5 = some o13) [0, 5, 6, 7, 8, 9, 10, 11, 12, 13, 14, 15, 16] (fun ((l2, i5, A3, c4) : (List Int) × Int × (Option Addr) × Nat) => [(0, .int .i64 i5), (5, .slice A3 l2.length c4)]) (fun ((l2, i5, A3, c4) : (List Int) × Int × (Option Addr) × Nat) => [row (Kd.int .i64) 3 (.slice A3 l2.length c4) l2]) k (([] : List Int), a0, none, 0) hl12 ⟨rfl, rfl, trivial⟩ (fun w h => h) ?_
  refine natC (cur4 (fun l2 i5 A3 c4 => fun U14 hJ_ => ?_)) (fun k8 => (cur4 (fun l2 i5 A3 c4 => fun U14 hJ_ => ?_)))
  · skip
    replace hJ_ : spec_meDigits.l0 a1 0 l2 i5 = some o13 := hJ_
    rw [spec_meDigits.l0] at hJ_
    exact noneE hJ_
  · skip
    clear hl12
    have h := hJ_; clear hJ_
    replace h : spec_meDigits.l0 a1 (k8 + 1) l2 i5 = some o13 := h
    rw [spec_meDigits.l0] at h
    refine c_seq ?_
    refine c_seq ?_
    refine za0 ?_
    refine o_q rfl rfl (za2 rfl) ?_
    refine o_q rfl rfl (q_gtr rfl rfl) ?_
    refine o_end ?_
    refine za1 ?_
    refine zar _ rfl (fun hb16 => ?_) (fun hb16 => ?_)
    · skip
      replace h := br_t hb16 h
      refine zal ?_
      refine za1 ?_
      refine c_seq ?_
      refine zaf ?_
      refine za0 ?_
      refine o_q rfl rfl (za2 rfl) ?_
      refine o_q rfl rfl (za2 rfl) ?_
      refine o_q rfl rfl (za2 rfl) ?_
      refine za5 h (fun _ hz17 h => ?_) rfl
      refine o_q rfl rfl (q_rem rfl rfl (nz_ne hz17)) ?_
      refine o_e rfl (e_lit (vs := [(0, .int .i64 (i5.tmod a1))]) (cs := [.int .i64 (i5.tmod a1)]) (Kd.int .i64) ([i5.tmod a1] : List Int) Try.underlying22 I3 (by decide) rfl (by decide) rfl rfl (fun _ _ => Kd.reps_scalar _)) (cur2 (fun A18 c19 => ?_))
      refine za5 h (fun l21 ha22 h => ?_) rfl
      refine o_e rfl (e_app (i := 1) (j := 0) Try.underlying22 I3 rfl (by decide) (by decide) rfl rfl rfl rfl rfl ha22) (cur2 (fun A23 c24 => ?_))
      refine o_q rfl rfl (q_asg rfl) ?_
      refine o_end ?_
      refine zaq ?_
      refine za1 ?_
      refine za0 ?_
      refine o_q rfl rfl (za2 rfl) ?_
      refine o_q rfl rfl (za2 rfl) ?_
      refine za5 h (fun _ hz25 h => ?_) rfl
      refine o_q rfl rfl (q_quo64 rfl rfl (nz_ne hz25)) ?_
      refine o_q rfl rfl (q_asg rfl) ?_
      refine o_end ?_
      refine zak k8 (l21, w64 (i5.tdiv a1), A23, c24) (Nat.lt_succ_self _) h ⟨rfl, rfl, trivial⟩ (fun w h => za7 [1] (by decide) rfl w h) ?_
      repeat (first | exact zaa _ _ | refine zac rfl ?_ | refine zab rfl ?_ | refine zad rfl ?_)
    · skip
      replace h := br_f hb16 h
      refine c_exit ?_
      refine za4 ?_
      refine za4 ?_
      have e_ := Option.some.inj h; replace h := hR11; rw [← e_] at h; clear e_
      refine x_hit ?_
      refine za1 ?_
      refine c_seq ?_
      refine za0 ?_
      refine o_q rfl rfl (za2 rfl) ?_
      refine o_q rfl rfl (q_asg rfl) ?_
      refine o_end ?_
      refine za1 ?_
      refine c_ret ?_
      have e0_ := Option.some.inj h; clear h
      subst e0_
      exact x_r1 (A3, c4) Try.results81 (zah rfl) rfl (fun w h => za7 [0] (by decide) rfl w h)

/-! ### loop.example/g01098/spec.SquaresPlan: function 37 -/
def spec_SquaresPlan.l2 : (List Int) → (List SStep) → (List Int) → Int → Int → Option ((List SStep) × (List Int) × Int)
  | [], l86, l89, i92, i93 => some (l86, l89, i93)
  | y94 :: ys95, l86, l89, i92, i93 => (if y94 = 1 then (some (decide (0 ≤ i93))) else (some false)).bind fun b113 => if b113 = true then ((spec_meTimes.f 1 l86 l89 i93 i92).bind fun l122 => spec_SquaresPlan.l2 ys95 l122 [] (i92 + 1) (w64 (1 + (l86.length : Int)))) else (if y94 = 1 then (spec_SquaresPlan.l2 ys95 l86 l89 (i92 + 1) i92) else (spec_SquaresPlan.l2 ys95 l86 l89 (i92 + 1) i93))
def spec_SquaresPlan.l1 (k : Nat) : (List Int) → (List SStep) → (List Int) → (List Int) → Int → Option ((List SStep) × (List Int) × (List Int))
  | [], l52, l55, l58, i61 => some (l52, l55, l58)
  | y62 :: ys63, l52, l55, l58, i61 => (spec_meDigits.f k y62 2).bind fun l83 => (spec_SquaresPlan.l2 l83 l52 l55 0 (-1)).bind fun (l86, l89, i93) => (ap l58 ([i93] : List Int)).bind fun l107 => spec_SquaresPlan.l1 k ys63 l86 l89 l107 (i61 + 1)
def spec_SquaresPlan.l0 (k : Nat) (l0 : List Int) : Nat → (List SStep) → (List Int) → Int → Option ((List SStep) × (List Int))
  | 0, _, _, _ => none
  | k33 + 1, l24, l27, i30 => (spec_meGreatest.f l0).bind fun i42 => (spec_chLength.f k i42).bind fun i44 => if i30 < i44 then ((spec_meTimes.f 1 l24 l27 (w64 (i30 - 1)) (w64 (i30 - 1))).bind fun l47 => spec_SquaresPlan.l0 k l0 k33 l47 [] (w64 (i30 + 1))) else (some (l24, l27))
def spec_SquaresPlan.f (k : Nat) (l0 : List Int) : Option (Int × (List SStep) × (List Int) × Bool) := ((spec_l1In.f (l0.length : Int) 1 6).bind fun b15 => if b15 = true then ((spec_l1All.f l0 1 1000000).bind fun b18 => some (!b18)) else (some true)).bind fun b8 => if b8 = true then (some (0, ([] : List SStep), ([] : List Int), false)) else ((spec_SquaresPlan.l0 k l0 k ([] : List SStep) ([] : List Int) 1).bind fun (l24, l27) => (spec_SquaresPlan.l1 k l0 l24 l27 ([] : List Int) 0).bind fun (l52, l55, l58) => (spec_plIf.f k 1 l52 l58).bind fun (i73, l74, l75, b76) => some (i73, l74, l75, b76))
set_option maxHeartbeats 600000 in
set_option maxRecDepth 100000 in
theorem spec_SquaresPlan.calls (k : Nat) {w0 ws : World} {P0 : Nat → Prop} (A0 : Option Addr) (c0 : Nat) (n0 : Nat) (l0 : List Int) (Z : Below w0.heap.size w0 ws) (hF : Fr w0 ws P0 [] ws) (R0 : Stable ws P0 (fun w => Kd.C (Kd.int .i64) w A0 n0 l0)) (hc0 : n0 ≤ c0) (r_1 : Int) (r_2 : List SStep) (r_5 : List Int) (r_8 : Bool) (h : spec_SquaresPlan.f k l0 = some (r_1, r_2, r_5, r_8)) :
    Calls Try.prog 37 #[.slice A0 n0 c0] ws (Post1 w0 ws P0 (fun ((q_3, q_4, q_6, q_7) : (Option Addr) × Nat × (Option Addr) × Nat) => .tuple #[.agg #[.int .i64 r_1, .slice q_3 r_2.length q_4, .slice q_6 r_5.length q_7], .bool r_8]) (fun ((q_3, q_4, q_6, q_7) : (Option Addr) × Nat × (Option Addr) × Nat) => [row kStep 117 (.slice q_3 r_2.length q_4) r_2, row (Kd.int .i64) 3 (.slice q_6 r_5.length q_7) r_5])) := by
  unfold spec_SquaresPlan.f at h
  obtain rfl := (R0 ws (KeptB.refl _ _)).1
  refine enter Try.func37 rfl Try.ntmps37 rfl hF ?_
  refine c_seq ?_
  refine za0 ?_
  refine o_e rfl (zau V36 rfl) (fun g1 => ?_)
  refine o_q rfl rfl (q_asg rfl) ?_
  refine o_end ?_
  refine za1 ?_
  refine c_seq ?_
  refine za5 h (fun o9 hl10 hR11 => ?_) rfl
  clear h
  refine c_cutJ (σ := Bool) (fun b8 => some b8 = some o9) [12, 13, 14, 15, 16, 17, 18, 19, 20] (fun b8 => [(20, .bool b8)]) (fun b8 => [box g1 36 #[.int .i64 0, .slice none 0 0, .slice none 0 0]]) ?_ ?_
  · skip
    have h := hl10; clear hl10
    clear hR11
    refine za0 ?_
    refine o_q rfl rfl (za2 rfl) ?_
    refine o_q rfl rfl (q_len Try.underlying22 rfl) ?_
    refine za5 h (fun b15 hx14 h => ?_) rfl
    refine o_e rfl (za9 0 Z Try.func77 N77 rfl rfl rfl (fun w P1 hF hB hS hT => spec_l1In.calls (l0.length : Int) 1 6 hB hF _ hx14)) (fun _ => ?_)
    refine o_q rfl rfl (q_not rfl) ?_
    refine o_q rfl rfl (za2 rfl) ?_
    refine byB b15 (fun hb16 => ?_) (fun hb16 => ?_)
    · replace h := bb_t hb16 h
      refine o_w (za6 rfl rfl rfl (congrArg (fun b => Value.bool (!(b))) hb16)) rfl (za2 rfl) ?_
      refine za5 h (fun b18 hx17 h => ?_) rfl
      refine o_ew (za6 rfl rfl rfl (congrArg (fun b => Value.bool (!(b))) hb16)) (za9 0 Z Try.func68 N68 rfl rfl rfl (fun w P1 hF hB hS hT => spec_l1All.calls A0 c0 l0.length l0 1 1000000 hB hF (hS _ R0) hc0 _ hx17)) (fun _ => ?_)
      refine o_w (za6 rfl rfl rfl (congrArg (fun b => Value.bool (!(b))) hb16)) rfl (q_not rfl) ?_
      refine o_q rfl rfl (zav false (congrArg (fun b => Value.bool (!(b))) hb16) rfl) ?_
      refine o_end ?_
      refine x_meetJ (!b18) h ⟨rfl, trivial⟩ (fun w h => za7 [0] (by decide) rfl w h) ?_
      repeat (first | exact zaa _ _ | refine zac rfl ?_ | refine zab rfl ?_ | refine zad rfl ?_)
    · replace h := bb_f hb16 h
      refine @o_n _ _ _ _ _ _ _ _ _ _ _ 17 (za3 rfl rfl rfl (congrArg (fun b => Value.bool (!(b))) hb16) rfl) (Eq.refl (some 17)) ?_
      refine @o_n _ _ _ _ _ _ _ _ _ _ _ 18 (za3 rfl rfl rfl (congrArg (fun b => Value.bool (!(b))) hb16) rfl) (Eq.refl (some 18)) ?_
      refine @o_n _ _ _ _ _ _ _ _ _ _ _ 19 (za3 rfl rfl rfl (congrArg (fun b => Value.bool (!(b))) hb16) rfl) (Eq.refl (some 19)) ?_
      refine o_q rfl rfl (zav true (congrArg (fun b => Value.bool (!(b))) hb16) rfl) ?_
      refine o_end ?_
      refine x_meetJ true h ⟨rfl, trivial⟩ (fun w h => za7 [0] (by decide) rfl w h) ?_
      repeat (first | exact zaa _ _ | refine zac rfl ?_ | refine zab rfl ?_ | refine zad rfl ?_)
  · skip
    refine (fun b8 => fun U12 hJ13 => ?_)
    have e_ := Option.some.inj hJ13; have h := hR11; rw [← e_] at h; clear e_ hJ13 hR11 hl10
    refine zar _ rfl (fun hb19 => ?_) (fun hb19 => ?_)
    · skip
      replace h := bb_t hb19 h
      refine c_seq ?_
      refine za0 ?_
      refine o_q rfl rfl (q_build (vs := []) (cs := [.int .i64 0, .slice none 0 0, .slice none 0 0]) rfl rfl) ?_
      refine o_e rfl (zaj (i := 0) rfl rfl rfl Z36 rfl rfl) (fun _ => ?_)
      refine o_q rfl rfl (q_asg rfl) ?_
      refine o_end ?_
      refine za1 ?_
      refine c_ret ?_
      refine za8 ?_
      refine x_nil kStep 117 ?_
      refine x_nil (Kd.int .i64) 3 ?_
      have e0_ := Option.some.inj h; clear h
      have d0_ := (Prod.mk.inj e0_).1; have e1_ := (Prod.mk.inj e0_).2; clear e0_; subst d0_
      have d1_ := (Prod.mk.inj e1_).1; have e2_ := (Prod.mk.inj e1_).2; clear e1_; subst d1_
      have d2_ := (Prod.mk.inj e2_).1; have e3_ := (Prod.mk.inj e2_).2; clear e2_; subst d2_
      subst e3_
      exact x_r2 (none, 0, none, 0) Try.results37 (rv_cell rfl G36 Z36 (fun w h => h.zae (i := 2) rfl) rfl) (zah rfl) rfl (fun w h => za7 [1, 0] (by decide) rfl w h)
    · skip
      replace h := bb_f hb19 h
      refine zal ?_
      refine za1 ?_
      refine c_seq ?_
      refine za0 ?_
      refine o_q rfl rfl (q_build (vs := [(0, .int .i64 1)]) (cs := [.int .i64 1, .slice none 0 0, .slice none 0 0]) rfl rfl) ?_
      refine o_e rfl (zau V36 rfl) (fun g20 => ?_)
      refine o_e rfl (zaj (i := 0) rfl rfl rfl Z36 rfl rfl) (fun _ => ?_)
      refine o_end ?_
      refine za1 ?_
      refine c_seq ?_
      refine c_seq ?_
      refine za0 ?_
      refine o_q rfl rfl (q_asg rfl) ?_
      refine o_end ?_
      refine za1 ?_
      refine zaf ?_
      refine c_nil kStep 117 ?_
      refine c_nil (Kd.int .i64) 3 ?_
      refine za5 h (fun o38 hl37 hR36 => ?_) rfl
      clear h
      refine zas (σ := (List SStep) × (List Int) × Int × (Option Addr) × Nat × (Option Addr) × Nat) (fun k33 ((l24, l27, i30, A25, c26, A28, c29) : (List SStep) × (List Int) × Int × (Option Addr) × Nat × (Option Addr) × Nat) => spec_SquaresPlan.l0 k l0 k33 l24 l27 i30 = some o38) [5, 23, 24, 25, 26, 27, 28, 29, 30, 31, 32, 33, 34, 35, 36, 37, 38] (fun ((l24, l27, i30, A25, c26, A28, c29) : (List SStep) × (List Int) × Int × (Option Addr) × Nat × (Option Addr) × Nat) => [(5, .int .i64 i30)]) (fun ((l24, l27, i30, A25, c26, A28, c29) : (List SStep) × (List Int) × Int × (Option Addr) × Nat × (Option Addr) × Nat) => [row (Kd.int .i64) 3 (.slice A28 l27.length c29) l27, row kStep 117 (.slice A25 l24.length c26) l24, box g20 36 #[.int .i64 1, .slice A25 l24.length c26, .slice A28 l27.length c29], box g1 36 #[.int .i64 0, .slice none 0 0, .slice none 0 0]]) k (([] : List SStep), ([] : List Int), 1, none, 0, none, 0) hl37 ⟨rfl, trivial⟩ (fun w h => h) ?_
      refine natC (cur7 (fun l24 l27 i30 A25 c26 A28 c29 => fun U39 hJ_ => ?_)) (fun k33 => (cur7 (fun l24 l27 i30 A25 c26 A28 c29 => fun U39 hJ_ => ?_)))
      · skip
        replace hJ_ : spec_SquaresPlan.l0 k l0 0 l24 l27 i30 = some o38 := hJ_
        rw [spec_SquaresPlan.l0] at hJ_
        exact noneE hJ_
      · skip
        clear hl37
        have h := hJ_; clear hJ_
        replace h : spec_SquaresPlan.l0 k l0 (k33 + 1) l24 l27 i30 = some o38 := h
        rw [spec_SquaresPlan.l0] at h
        refine c_seq ?_
        refine c_seq ?_
        refine za0 ?_
        refine o_q rfl rfl (za2 rfl) ?_
        refine o_q rfl rfl (za2 rfl) ?_
        refine za5 h (fun i42 hx41 h => ?_) rfl
        refine o_e rfl (za9 0 Z Try.func79 N79 rfl rfl rfl (fun w P1 hF hB hS hT => spec_meGreatest.calls A0 c0 l0.length l0 hB hF (hS _ R0) hc0 _ hx41)) (fun _ => ?_)
        refine za5 h (fun i44 hx43 h => ?_) rfl
        refine o_e rfl (za9 0 Z Try.func78 N78 rfl rfl rfl (fun w P1 hF hB hS hT => spec_chLength.calls k i42 hB hF _ hx43)) (fun _ => ?_)
        refine o_q rfl rfl (q_lss rfl rfl) ?_
        refine o_end ?_
        refine za1 ?_
        refine zar _ rfl (fun hb45 => ?_) (fun hb45 => ?_)
        · skip
          replace h := br_t hb45 h
          refine zal ?_
          refine za1 ?_
          refine c_seq ?_
          refine zaf ?_
          refine za0 ?_
          refine o_q rfl rfl (q_ldB G36 Z36 rfl (fun w h => h.zae (i := 2) rfl) rfl) ?_
          refine o_q rfl rfl (za2 rfl) ?_
          refine o_q rfl rfl (q_sub64 rfl rfl) ?_
          refine o_q rfl rfl (za2 rfl) ?_
          refine o_q rfl rfl (q_sub64 rfl rfl) ?_
          refine za5 h (fun l47 hx46 h => ?_) rfl
          refine o_e rfl (za9 0 Z Try.func80 N80 rfl rfl rfl (fun w P1 hF hB hS hT => spec_meTimes.calls 1 A25 c26 l24.length l24 A28 c29 l27.length l27 (w64 (i30 - 1)) (w64 (i30 - 1)) hB hF (hT 1 _ rfl).row (hT 1 _ rfl).cap (hT 0 _ rfl).row (hT 0 _ rfl).cap _ hx46)) (cur2 (fun A48 c49 => ?_))
          refine o_q rfl rfl (za2 rfl) ?_
          refine o_q rfl rfl (q_ext rfl rfl) ?_
          refine o_q rfl rfl (q_ext rfl rfl) ?_
          refine o_e rfl (zaj (i := 4) rfl rfl rfl Z36 rfl rfl) (fun _ => ?_)
          refine o_end ?_
          refine zaq ?_
          refine za1 ?_
          refine za0 ?_
          refine o_q rfl rfl (za2 rfl) ?_
          refine o_q rfl rfl (q_add64 rfl rfl) ?_
          refine o_q rfl rfl (q_asg rfl) ?_
          refine o_end ?_
          refine x_fact (p := 0 = [].length) (fun w h => (h.row_C (i := 1) rfl).2.1) (fun hn50 => ?_)
          refine zak k33 (l47, [], w64 (i30 + 1), A48, c49, none, 0) (Nat.lt_succ_self _) h ⟨rfl, trivial⟩ (f_pickE (L1 := [row kStep 117 (.slice A48 l47.length c49) l47, row (Kd.int .i64) 3 (.slice none 0 0) [], row (Kd.int .i64) 3 (.slice A28 l27.length c29) l27, row kStep 117 (.slice A25 l24.length c26) l24, box g20 36 #[.int .i64 1, .slice A48 l47.length c49, .slice none 0 0], box g1 36 #[.int .i64 0, .slice none 0 0, .slice none 0 0]]) rfl [1, 0, 4, 5] (by decide) rfl (by (try rw [hn50]); first | done | rfl)) ?_
          repeat (first | exact zaa _ _ | refine zac rfl ?_ | refine zab rfl ?_ | refine zad rfl ?_)
        · skip
          replace h := br_f hb45 h
          refine c_exit ?_
          refine za4 ?_
          refine za4 ?_
          have e_ := Option.some.inj h; replace h := hR36; rw [← e_] at h; clear e_
          refine x_hit ?_
          refine za1 ?_
          refine c_seq ?_
          refine za0 ?_
          refine o_q rfl rfl (q_asg rfl) ?_
          refine o_end ?_
          refine za1 ?_
          refine c_seq ?_
          refine c_seq ?_
          refine za0 ?_
          refine o_q rfl rfl (za2 rfl) ?_
          refine o_q rfl rfl (q_len Try.underlying22 rfl) ?_
          refine o_q rfl rfl (za2 rfl) ?_
          refine o_end ?_
          refine za1 ?_
          refine zaf ?_
          refine c_nil (Kd.int .i64) 3 ?_
          refine za5 h (fun o69 hl68 hR67 => ?_) rfl
          clear h
          refine c_fact (p := l0.length ≤ 9223372036854775807) (fun w h => (R0.now Z h).2.1) (fun hm66 => ?_)
          refine zas (σ := (List Int) × (List SStep) × (List Int) × (List Int) × Int × (Option Addr) × Nat × (Option Addr) × Nat × (Option Addr) × Nat) (fun k64 ((ys63, l52, l55, l58, i61, A53, c54, A56, c57, A59, c60) : (List Int) × (List SStep) × (List Int) × (List Int) × Int × (Option Addr) × Nat × (Option Addr) × Nat × (Option Addr) × Nat) => Rg l0 i61 ys63 ∧ ys63.length = k64 ∧ spec_SquaresPlan.l1 k ys63 l52 l55 l58 i61 = some o69) [6, 8, 9, 10, 11, 41, 42, 43, 44, 45, 46, 47, 48, 49, 50, 51, 52, 53, 54, 55, 56, 57, 58, 59, 60, 61, 62, 63, 64, 65, 66, 67, 68, 69, 70, 71, 72, 73, 74] (fun ((ys63, l52, l55, l58, i61, A53, c54, A56, c57, A59, c60) : (List Int) × (List SStep) × (List Int) × (List Int) × Int × (Option Addr) × Nat × (Option Addr) × Nat × (Option Addr) × Nat) => [(6, .slice A59 l58.length c60), (41, .int .i64 i61)]) (fun ((ys63, l52, l55, l58, i61, A53, c54, A56, c57, A59, c60) : (List Int) × (List SStep) × (List Int) × (List Int) × Int × (Option Addr) × Nat × (Option Addr) × Nat × (Option Addr) × Nat) => [row (Kd.int .i64) 3 (.slice A59 l58.length c60) l58, row (Kd.int .i64) 3 (.slice A56 l55.length c57) l55, row kStep 117 (.slice A53 l52.length c54) l52, box g20 36 #[.int .i64 1, .slice A53 l52.length c54, .slice A56 l55.length c57], box g1 36 #[.int .i64 0, .slice none 0 0, .slice none 0 0]]) l0.length (l0, l24, l27, ([] : List Int), 0, A25, c26, A28, c29, none, 0) ⟨Rg.start _, rfl, hl68⟩ ⟨rfl, rfl, trivial⟩ (fun w h => h) ?_
          refine fun k64 => cur11 (listC (fun l52 l55 l58 i61 A53 c54 A56 c57 A59 c60 U70 hJ_ => ?_) (fun y62 ys63 l52 l55 l58 i61 A53 c54 A56 c57 A59 c60 U70 hJ_ => ?_))
          · skip
            clear hl68
            have hr65 := hJ_.1; have hk71 := hJ_.2.1; have h := hJ_.2.2; clear hJ_
            replace h : spec_SquaresPlan.l1 k [] l52 l55 l58 i61 = some o69 := h
            rw [spec_SquaresPlan.l1] at h
            refine c_seq ?_
            refine za0 ?_
            refine o_q rfl rfl (q_lss rfl rfl) ?_
            refine o_end ?_
            refine za1 ?_
            refine c_seq ?_
            refine c_false (congrArg Value.bool hr65.ge) ?_
            refine c_exit ?_
            refine za4 ?_
            refine za4 ?_
            have e_ := Option.some.inj h; replace h := hR67; rw [← e_] at h; clear e_
            refine x_hit ?_
            refine za1 ?_
            refine c_seq ?_
            refine za0 ?_
            refine o_q rfl rfl (za2 rfl) ?_
            refine o_q rfl rfl (q_f F36_2 rfl) ?_
            refine o_e rfl (e_store (i := 3) rfl rfl rfl rfl Z22 rfl rfl) (fun _ => ?_)
            refine o_end ?_
            refine za1 ?_
            refine c_seq ?_
            refine za0 ?_
            refine o_q rfl rfl (q_ldB G36 Z36 rfl (fun w h => h.zae (i := 3) rfl) rfl) ?_
            refine o_pick [2, 0, 1, 3, 4] (by decide) rfl ?_
            refine bindE4 h (fun i73 l74 l75 b76 hx72 h => ?_) rfl
            refine o_e rfl (za9 2 Z Try.func82 N82 rfl rfl rfl (fun w P1 hF hB hS hT => spec_plIf.calls k 1 A53 c54 l52.length l52 A59 c60 l58.length l58 hB hF _ _ _ _ hx72)) (cur4 (fun A77 c78 A79 c80 => ?_))
            refine o_q rfl rfl (q_ext rfl rfl) ?_
            refine o_q rfl rfl (q_ext rfl rfl) ?_
            refine o_e rfl (zaj (i := 4) rfl rfl rfl Z36 rfl rfl) (fun _ => ?_)
            refine o_q rfl rfl (q_asg rfl) ?_
            refine o_end ?_
            refine za1 ?_
            refine c_ret ?_
            have e0_ := Option.some.inj h; clear h
            have d0_ := (Prod.mk.inj e0_).1; have e1_ := (Prod.mk.inj e0_).2; clear e0_; subst d0_
            have d1_ := (Prod.mk.inj e1_).1; have e2_ := (Prod.mk.inj e1_).2; clear e1_; subst d1_
            have d2_ := (Prod.mk.inj e2_).1; have e3_ := (Prod.mk.inj e2_).2; clear e2_; subst d2_
            subst e3_
            exact x_r2 (A77, c78, A79, c80) Try.results37 (rv_cell rfl G36 Z36 (fun w h => h.zae (i := 4) rfl) rfl) (zah rfl) rfl (fun w h => za7 [0, 1] (by decide) rfl w h)
          · skip
            clear hl68
            have hr65 := hJ_.1; have hk71 := hJ_.2.1; have h := hJ_.2.2; clear hJ_
            replace h : spec_SquaresPlan.l1 k (y62 :: ys63) l52 l55 l58 i61 = some o69 := h
            rw [spec_SquaresPlan.l1] at h
            refine c_seq ?_
            refine za0 ?_
            refine o_q rfl rfl (q_lss rfl rfl) ?_
            refine o_end ?_
            refine za1 ?_
            refine c_seq ?_
            refine c_true (congrArg Value.bool hr65.lt) ?_
            refine zal ?_
            refine za1 ?_
            refine c_seq ?_
            refine zaf ?_
            refine c_seq ?_
            refine za0 ?_
            refine zaw (p := Sh A0 l0.length l0.length) (fun w h => f_sh (dk := (Kd.int .i64)) h (fun w h => R0.now Z h)) (fun hq81 => ?_)
            refine o_q rfl rfl (q_ix Try.underlying22 Z3 rfl rfl hq81 hr65.get) ?_
            refine o_q rfl rfl (q_lde (off := 0) Y3 rfl rfl (fun w h => R0.now Z h) hr65.get (fun _ _ h => h) rfl) ?_
            refine o_q rfl rfl (q_asg rfl) ?_
            refine o_end ?_
            refine za1 ?_
            refine c_seq ?_
            refine za0 ?_
            refine o_q rfl rfl (q_asg rfl) ?_
            refine o_end ?_
            refine za1 ?_
            refine c_seq ?_
            refine c_seq ?_
            refine za0 ?_
            refine o_q rfl rfl (za2 rfl) ?_
            refine za5 h (fun l83 hx82 h => ?_) rfl
            refine o_e rfl (za9 0 Z Try.func81 N81 rfl rfl rfl (fun w P1 hF hB hS hT => spec_meDigits.calls k y62 2 hB hF _ hx82)) (cur2 (fun A84 c85 => ?_))
            refine o_q rfl rfl (q_len Try.underlying22 rfl) ?_
            refine o_q rfl rfl (za2 rfl) ?_
            refine o_end ?_
            refine za1 ?_
            refine zaf ?_
            refine za5 h (fun o101 hl100 hR99 => ?_) rfl
            clear h
            refine c_fact (p := l83.length ≤ 9223372036854775807) (fun w h => (h.zat (i := 0) rfl).2.1) (fun hm98 => ?_)
            refine zas (σ := (List Int) × (List SStep) × (List Int) × Int × Int × (Option Addr) × Nat × (Option Addr) × Nat) (fun k96 ((ys95, l86, l89, i92, i93, A87, c88, A90, c91) : (List Int) × (List SStep) × (List Int) × Int × Int × (Option Addr) × Nat × (Option Addr) × Nat) => Rg l83 i92 ys95 ∧ ys95.length = k96 ∧ spec_SquaresPlan.l2 ys95 l86 l89 i92 i93 = some o101) [9, 10, 11, 48, 49, 50, 51, 52, 53, 54, 55, 56, 57, 58, 59, 60, 61, 62, 63, 64, 65, 66, 67, 68, 69] (fun ((ys95, l86, l89, i92, i93, A87, c88, A90, c91) : (List Int) × (List SStep) × (List Int) × Int × Int × (Option Addr) × Nat × (Option Addr) × Nat) => [(9, .int .i64 i93), (48, .int .i64 i92)]) (fun ((ys95, l86, l89, i92, i93, A87, c88, A90, c91) : (List Int) × (List SStep) × (List Int) × Int × Int × (Option Addr) × Nat × (Option Addr) × Nat) => [row (Kd.int .i64) 3 (.slice A84 l83.length c85) l83, row (Kd.int .i64) 3 (.slice A59 l58.length c60) l58, row (Kd.int .i64) 3 (.slice A90 l89.length c91) l89, row kStep 117 (.slice A87 l86.length c88) l86, box g20 36 #[.int .i64 1, .slice A87 l86.length c88, .slice A90 l89.length c91], box g1 36 #[.int .i64 0, .slice none 0 0, .slice none 0 0]]) l83.length (l83, l52, l55, 0, (-1), A53, c54, A56, c57) ⟨Rg.start _, rfl, hl100⟩ ⟨rfl, rfl, trivial⟩ (fun w h => h) ?_
            refine fun k96 => cur9 (listC (fun l86 l89 i92 i93 A87 c88 A90 c91 U102 hJ_ => ?_) (fun y94 ys95 l86 l89 i92 i93 A87 c88 A90 c91 U102 hJ_ => ?_))
            · skip
              clear hl100
              have hr97 := hJ_.1; have hk103 := hJ_.2.1; have h := hJ_.2.2; clear hJ_
              replace h : spec_SquaresPlan.l2 [] l86 l89 i92 i93 = some o101 := h
              rw [spec_SquaresPlan.l2] at h
              refine c_seq ?_
              refine za0 ?_
              refine o_q rfl rfl (q_lss rfl rfl) ?_
              refine o_end ?_
              refine za1 ?_
              refine c_seq ?_
              refine c_false (congrArg Value.bool hr97.ge) ?_
              refine c_exit ?_
              refine za4 ?_
              refine za4 ?_
              have e_ := Option.some.inj h; replace h := hR99; rw [← e_] at h; clear e_
              refine x_hit ?_
              refine za1 ?_
              refine za0 ?_
              refine o_q rfl rfl (za2 rfl) ?_
              refine o_q rfl rfl (za2 rfl) ?_
              refine o_e rfl (e_lit (vs := [(0, .int .i64 i93)]) (cs := [.int .i64 i93]) (Kd.int .i64) ([i93] : List Int) Try.underlying22 I3 (by decide) rfl (by decide) rfl rfl (fun _ _ => Kd.reps_scalar _)) (cur2 (fun A104 c105 => ?_))
              refine za5 h (fun l107 ha108 h => ?_) rfl
              refine o_e rfl (e_app (i := 2) (j := 0) Try.underlying22 I3 rfl (by decide) (by decide) rfl rfl rfl rfl rfl ha108) (cur2 (fun A109 c110 => ?_))
              refine o_q rfl rfl (q_asg rfl) ?_
              refine o_end ?_
              refine zaq ?_
              refine za1 ?_
              refine za0 ?_
              refine o_q rfl rfl (q_up rfl rfl (hr65.up hm66)) ?_
              refine o_q rfl rfl (za2 rfl) ?_
              refine o_end ?_
              refine zak ys63.length (ys63, l86, l89, l107, i61 + 1, A87, c88, A90, c91, A109, c110) (by rw [← hk71]; exact Nat.lt_succ_self _) ⟨hr65.step, rfl, h⟩ ⟨rfl, rfl, trivial⟩ (fun w h => za7 [2, 3, 4, 5, 6] (by decide) rfl w h) ?_
              repeat (first | exact zaa _ _ | refine zac rfl ?_ | refine zab rfl ?_ | refine zad rfl ?_)
            · skip
              clear hl100
              have hr97 := hJ_.1; have hk103 := hJ_.2.1; have h := hJ_.2.2; clear hJ_
              replace h : spec_SquaresPlan.l2 (y94 :: ys95) l86 l89 i92 i93 = some o101 := h
              rw [spec_SquaresPlan.l2] at h
              refine c_seq ?_
              refine za0 ?_
              refine o_q rfl rfl (q_lss rfl rfl) ?_
              refine o_end ?_
              refine za1 ?_
              refine c_seq ?_
              refine c_true (congrArg Value.bool hr97.lt) ?_
              refine zal ?_
              refine za1 ?_
              refine c_seq ?_
              refine zaf ?_
              refine c_seq ?_
              refine za0 ?_
              refine o_q rfl rfl (za2 rfl) ?_
              refine zaw (p := Sh A84 l83.length l83.length) (fun w h => f_sh (dk := (Kd.int .i64)) h (fun w h => h.zat (i := 0) rfl)) (fun hq111 => ?_)
              refine o_q rfl rfl (q_ix Try.underlying22 Z3 rfl rfl hq111 hr97.get) ?_
              refine o_q rfl rfl (q_lde (off := 0) Y3 rfl rfl (fun w h => h.zat (i := 0) rfl) hr97.get (fun _ _ h => h) rfl) ?_
              refine o_q rfl rfl (q_asg rfl) ?_
              refine o_q rfl rfl (q_asg rfl) ?_
              refine o_end ?_
              refine za1 ?_
              refine za5 h (fun o114 hl115 hR116 => ?_) rfl
              clear h
              refine c_cutJ (σ := Bool) (fun b113 => some b113 = some o114) [53, 54, 55, 56, 57, 58] (fun b113 => [(58, .bool b113)]) (fun b113 => [box g1 36 #[.int .i64 0, .slice none 0 0, .slice none 0 0], box g20 36 #[.int .i64 1, .slice A87 l86.length c88, .slice A90 l89.length c91], row kStep 117 (.slice A87 l86.length c88) l86, row (Kd.int .i64) 3 (.slice A90 l89.length c91) l89, row (Kd.int .i64) 3 (.slice A59 l58.length c60) l58, row (Kd.int .i64) 3 (.slice A84 l83.length c85) l83]) ?_ ?_
              · skip
                have h := hl115; clear hl115
                clear hR116
                refine za0 ?_
                refine o_q rfl rfl (za2 rfl) ?_
                refine o_q rfl rfl (q_eql rfl rfl) ?_
                refine o_q rfl rfl (za2 rfl) ?_
                refine byB (decide (y94 = 1)) (fun hb119 => ?_) (fun hb119 => ?_)
                · replace h := br_t hb119 h
                  refine o_w (za6 rfl rfl rfl (congrArg Value.bool hb119)) rfl (za2 rfl) ?_
                  refine o_w (za6 rfl rfl rfl (congrArg Value.bool hb119)) rfl (q_geq rfl rfl) ?_
                  refine o_q rfl rfl (zav true (congrArg Value.bool hb119) rfl) ?_
                  refine o_end ?_
                  refine x_meetJ (decide (0 ≤ i93)) h ⟨rfl, trivial⟩ (fun w h => za7 [5, 4, 3, 2, 1, 0] (by decide) rfl w h) ?_
                  repeat (first | exact zaa _ _ | refine zac rfl ?_ | refine zab rfl ?_ | refine zad rfl ?_)
                · replace h := br_f hb119 h
                  refine @o_n _ _ _ _ _ _ _ _ _ _ _ 56 (za3 rfl rfl rfl (congrArg Value.bool hb119) rfl) (Eq.refl (some 56)) ?_
                  refine @o_n _ _ _ _ _ _ _ _ _ _ _ 57 (za3 rfl rfl rfl (congrArg Value.bool hb119) rfl) (Eq.refl (some 57)) ?_
                  refine o_q rfl rfl (zav false (congrArg Value.bool hb119) rfl) ?_
                  refine o_end ?_
                  refine x_meetJ false h ⟨rfl, trivial⟩ (fun w h => za7 [5, 4, 3, 2, 1, 0] (by decide) rfl w h) ?_
                  repeat (first | exact zaa _ _ | refine zac rfl ?_ | refine zab rfl ?_ | refine zad rfl ?_)
              · skip
                refine (fun b113 => fun U117 hJ118 => ?_)
                have e_ := Option.some.inj hJ118; have h := hR116; rw [← e_] at h; clear e_ hJ118 hR116 hl115
                refine zar _ rfl (fun hb120 => ?_) (fun hb120 => ?_)
                · skip
                  replace h := bb_t hb120 h
                  refine za0 ?_
                  refine o_q rfl rfl (q_ldB G36 Z36 rfl (fun w h => h.zae (i := 1) rfl) rfl) ?_
                  refine o_q rfl rfl (za2 rfl) ?_
                  refine o_q rfl rfl (za2 rfl) ?_
                  refine za5 h (fun l122 hx121 h => ?_) rfl
                  refine o_e rfl (za9 0 Z Try.func80 N80 rfl rfl rfl (fun w P1 hF hB hS hT => spec_meTimes.calls 1 A87 c88 l86.length l86 A90 c91 l89.length l89 i93 i92 hB hF (hT 2 _ rfl).row (hT 2 _ rfl).cap (hT 3 _ rfl).row (hT 3 _ rfl).cap _ hx121)) (cur2 (fun A123 c124 => ?_))
                  refine o_q rfl rfl (za2 rfl) ?_
                  refine o_q rfl rfl (q_ext rfl rfl) ?_
                  refine o_q rfl rfl (q_ext rfl rfl) ?_
                  refine o_e rfl (zaj (i := 3) rfl rfl rfl Z36 rfl rfl) (fun _ => ?_)
                  refine o_q rfl rfl (q_asg rfl) ?_
                  refine o_end ?_
                  refine zaq ?_
                  refine za1 ?_
                  refine za0 ?_
                  refine o_q rfl rfl (q_up rfl rfl (hr97.up hm98)) ?_
                  refine o_q rfl rfl (za2 rfl) ?_
                  refine o_end ?_
                  refine x_fact (p := 0 = [].length) (fun w h => (h.row_C (i := 1) rfl).2.1) (fun hn125 => ?_)
                  refine zak ys95.length (ys95, l122, [], i92 + 1, w64 (1 + (l86.length : Int)), A123, c124, none, 0) (by rw [← hk103]; exact Nat.lt_succ_self _) ⟨hr97.step, rfl, h⟩ ⟨rfl, rfl, trivial⟩ (f_pickE (L1 := [row kStep 117 (.slice A123 l122.length c124) l122, row (Kd.int .i64) 3 (.slice none 0 0) [], box g1 36 #[.int .i64 0, .slice none 0 0, .slice none 0 0], box g20 36 #[.int .i64 1, .slice A123 l122.length c124, .slice none 0 0], row kStep 117 (.slice A87 l86.length c88) l86, row (Kd.int .i64) 3 (.slice A90 l89.length c91) l89, row (Kd.int .i64) 3 (.slice A59 l58.length c60) l58, row (Kd.int .i64) 3 (.slice A84 l83.length c85) l83]) rfl [7, 6, 1, 0, 3, 2] (by decide) rfl (by (try rw [hn125]); first | done | rfl)) ?_
                  repeat (first | exact zaa _ _ | refine zac rfl ?_ | refine zab rfl ?_ | refine zad rfl ?_)
                · skip
                  replace h := bb_f hb120 h
                  refine c_seq ?_
                  refine za0 ?_
                  refine o_q rfl rfl (za2 rfl) ?_
                  refine o_q rfl rfl (q_eql rfl rfl) ?_
                  refine o_end ?_
                  refine za1 ?_
                  refine zar _ rfl (fun hb126 => ?_) (fun hb126 => ?_)
                  · skip
                    replace h := br_t hb126 h
                    refine za0 ?_
                    refine o_q rfl rfl (za2 rfl) ?_
                    refine o_q rfl rfl (q_asg rfl) ?_
                    refine o_end ?_
                    refine zaq ?_
                    refine za1 ?_
                    refine za0 ?_
                    refine o_q rfl rfl (q_up rfl rfl (hr97.up hm98)) ?_
                    refine o_q rfl rfl (za2 rfl) ?_
                    refine o_end ?_
                    refine zak ys95.length (ys95, l86, l89, i92 + 1, i92, A87, c88, A90, c91) (by rw [← hk103]; exact Nat.lt_succ_self _) ⟨hr97.step, rfl, h⟩ ⟨rfl, rfl, trivial⟩ (fun w h => za7 [5, 4, 3, 2, 1, 0] (by decide) rfl w h) ?_
                    repeat (first | exact zaa _ _ | refine zac rfl ?_ | refine zab rfl ?_ | refine zad rfl ?_)
                  · skip
                    replace h := br_f hb126 h
                    refine zal ?_
                    refine zaq ?_
                    refine za1 ?_
                    refine za0 ?_
                    refine o_q rfl rfl (q_up rfl rfl (hr97.up hm98)) ?_
                    refine o_q rfl rfl (za2 rfl) ?_
                    refine o_end ?_
                    refine zak ys95.length (ys95, l86, l89, i92 + 1, i93, A87, c88, A90, c91) (by rw [← hk103]; exact Nat.lt_succ_self _) ⟨hr97.step, rfl, h⟩ ⟨rfl, rfl, trivial⟩ (fun w h => za7 [5, 4, 3, 2, 1, 0] (by decide) rfl w h) ?_
                    repeat (first | exact zaa _ _ | refine zac rfl ?_ | refine zab rfl ?_ | refine zad rfl ?_)

end Go.Proofs.Ytpdpomjgfmdjfaa.V3
