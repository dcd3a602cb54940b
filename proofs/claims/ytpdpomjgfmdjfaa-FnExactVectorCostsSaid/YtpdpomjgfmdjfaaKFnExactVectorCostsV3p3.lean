import Derived.Test.YtpdpomjgfmdjfaaKFnExactVectorCostsV3p2
namespace Go.Proofs.Ytpdpomjgfmdjfaa.V3
open Go.RowKit Go.Proofs.Ytpdpomjgfmdjfaa.Frame Go.Proofs.YtpdpomjgfmdjfaaW.PrintLast Go.Proofs.Ytpdpomjgfmdjfaa.Hand
open Go.Proofs.YtpdpomjgfmdjfaaW.PrintWords hiding mn mx
set_option linter.unusedVariables false
/-! ### loop.example/g01098/spec.duUses: function 152 -/
def spec_duUses.l1 : (List Int) → (List Int) → Int → Option (List Int)
  | [], l20, i21 => some l20
  | y22 :: ys23, l20, i21 => (gt l20 y22).bind fun y36 => (gt l20 y22).bind fun y38 => (st l20 y22 (w64 (y36 + 1))).bind fun l39 => spec_duUses.l1 ys23 l39 (i21 + 1)
def spec_duUses.l0 : (List SStep) → (List Int) → Int → Option (List Int)
  | [], l8, i9 => some l8
  | y10 :: ys11, l8, i9 => (gt l8 y10.f0).bind fun y46 => (gt l8 y10.f0).bind fun y48 => (st l8 y10.f0 (w64 (y46 + 1))).bind fun l49 => (gt l49 y10.f1).bind fun y53 => (gt l49 y10.f1).bind fun y55 => (st l49 y10.f1 (w64 (y53 + 1))).bind fun l56 => spec_duUses.l0 ys11 l56 (i9 + 1)
def spec_duUses.f (a0_0 : Int) (l0_1 : List SStep) (l0_2 : List Int) : Option (List Int) := (mk0 (w64 (a0_0 + (l0_1.length : Int))) (0 : Int)).bind fun l3 => (spec_duUses.l0 l0_1 l3 0).bind fun l8 => (spec_duUses.l1 l0_2 l8 0).bind fun l20 => some l20
set_option maxHeartbeats 600000 in
set_option maxRecDepth 100000 in
theorem spec_duUses.calls {w0 ws : World} {P0 : Nat → Prop} (a0_0 : Int) (A0_1 : Option Addr) (c0_1 : Nat) (n0_1 : Nat) (l0_1 : List SStep) (A0_2 : Option Addr) (c0_2 : Nat) (n0_2 : Nat) (l0_2 : List Int) (Z : Below w0.heap.size w0 ws) (hF : Fr w0 ws P0 [] ws) (R0_1 : Stable ws P0 (fun w => Kd.C kStep w A0_1 n0_1 l0_1)) (hc0_1 : n0_1 ≤ c0_1) (R0_2 : Stable ws P0 (fun w => Kd.C (Kd.int .i64) w A0_2 n0_2 l0_2)) (hc0_2 : n0_2 ≤ c0_2) (r_1 : List Int) (h : spec_duUses.f a0_0 l0_1 l0_2 = some r_1) :
    Calls Try.prog 152 #[.agg #[.int .i64 a0_0, .slice A0_1 n0_1 c0_1, .slice A0_2 n0_2 c0_2]] ws (Post1 w0 ws P0 (fun ((q_2, q_3) : (Option Addr) × Nat) => .slice q_2 r_1.length q_3) (fun ((q_2, q_3) : (Option Addr) × Nat) => [row (Kd.int .i64) 3 (.slice q_2 r_1.length q_3) r_1])) := by
  unfold spec_duUses.f at h
  obtain rfl := (R0_1 ws (KeptB.refl _ _)).1
  obtain rfl := (R0_2 ws (KeptB.refl _ _)).1
  refine enter Try.func152 rfl Try.ntmps152 rfl hF ?_
  refine c_seq ?_
  refine za0 ?_
  refine o_e rfl (e_box rfl) (fun g1 => ?_)
  refine o_q rfl rfl (q_asg rfl) ?_
  refine o_end ?_
  refine za1 ?_
  refine c_seq ?_
  refine za0 ?_
  refine o_q rfl rfl (q_f F36_0 rfl) ?_
  refine o_q rfl rfl (q_ldb Y3 rfl (fun w h => h.zae (i := 0) rfl) rfl) ?_
  refine o_q rfl rfl (q_f F36_1 rfl) ?_
  refine o_q rfl rfl (q_ldb Y34 rfl (fun w h => h.zae (i := 0) rfl) rfl) ?_
  refine o_q rfl rfl (q_len Try.underlying34 rfl) ?_
  refine o_q rfl rfl (q_add64 rfl rfl) ?_
  refine za5 h (fun l3 hm4 h => ?_) rfl
  refine o_e rfl (e_make (Kd.int .i64) (0 : Int) Try.underlying22 I3 rfl (by decide) (by decide) (fun _ _ => rfl) rfl rfl hm4) (cur2 (fun A5 c6 => ?_))
  refine o_q rfl rfl (q_asg rfl) ?_
  refine o_end ?_
  refine za1 ?_
  refine c_seq ?_
  refine c_seq ?_
  refine za0 ?_
  refine o_q rfl rfl (q_f F36_1 rfl) ?_
  refine o_q rfl rfl (q_ldb Y34 rfl (fun w h => h.zae (i := 1) rfl) rfl) ?_
  refine o_q rfl rfl (q_len Try.underlying34 rfl) ?_
  refine o_q rfl rfl (za2 rfl) ?_
  refine o_end ?_
  refine za1 ?_
  refine zaf ?_
  refine za5 h (fun o17 hl16 hR15 => ?_) rfl
  clear h
  refine c_fact (p := l0_1.length ≤ 9223372036854775807) (fun w h => (R0_1.now Z h).2.1) (fun hm14 => ?_)
  refine zas (σ := (List SStep) × (List Int) × Int) (fun k12 ((ys11, l8, i9) : (List SStep) × (List Int) × Int) => Rg l0_1 i9 ys11 ∧ ys11.length = k12 ∧ spec_duUses.l0 ys11 l8 i9 = some o17) [5, 18, 19, 20, 21, 22, 23, 24, 25, 26, 27, 28, 29, 30, 31, 32, 33, 34, 35, 36] (fun ((ys11, l8, i9) : (List SStep) × (List Int) × Int) => [(18, .int .i64 i9)]) (fun ((ys11, l8, i9) : (List SStep) × (List Int) × Int) => [row (Kd.int .i64) 3 (.slice A5 l3.length c6) l8, box g1 36 #[.int .i64 a0_0, .slice A0_1 l0_1.length c0_1, .slice A0_2 l0_2.length c0_2]]) l0_1.length (l0_1, l3, 0) ⟨Rg.start _, rfl, hl16⟩ ⟨rfl, trivial⟩ (fun w h => h) ?_
  refine fun k12 => cur3 (listC (fun l8 i9 U18 hJ_ => ?_) (fun y10 ys11 l8 i9 U18 hJ_ => ?_))
  · skip
    clear hl16
    have hr13 := hJ_.1; have hk19 := hJ_.2.1; have h := hJ_.2.2; clear hJ_
    replace h : spec_duUses.l0 [] l8 i9 = some o17 := h
    rw [spec_duUses.l0] at h
    refine c_seq ?_
    refine za0 ?_
    refine o_q rfl rfl (q_lss rfl rfl) ?_
    refine o_end ?_
    refine za1 ?_
    refine c_seq ?_
    refine c_false (congrArg Value.bool hr13.ge) ?_
    refine c_exit ?_
    refine za4 ?_
    refine za4 ?_
    have e_ := Option.some.inj h; replace h := hR15; rw [← e_] at h; clear e_
    refine x_hit ?_
    refine za1 ?_
    refine c_seq ?_
    refine c_seq ?_
    refine za0 ?_
    refine o_q rfl rfl (q_f F36_2 rfl) ?_
    refine o_q rfl rfl (q_ldb Y22 rfl (fun w h => h.zae (i := 1) rfl) rfl) ?_
    refine o_q rfl rfl (q_len Try.underlying22 rfl) ?_
    refine o_q rfl rfl (za2 rfl) ?_
    refine o_end ?_
    refine za1 ?_
    refine zaf ?_
    refine za5 h (fun o29 hl28 hR27 => ?_) rfl
    clear h
    refine c_fact (p := l0_2.length ≤ 9223372036854775807) (fun w h => (R0_2.now Z h).2.1) (fun hm26 => ?_)
    refine zas (σ := (List Int) × (List Int) × Int) (fun k24 ((ys23, l20, i21) : (List Int) × (List Int) × Int) => Rg l0_2 i21 ys23 ∧ ys23.length = k24 ∧ spec_duUses.l1 ys23 l20 i21 = some o29) [7, 40, 41, 42, 43, 44, 45, 46, 47, 48, 49, 50] (fun ((ys23, l20, i21) : (List Int) × (List Int) × Int) => [(40, .int .i64 i21)]) (fun ((ys23, l20, i21) : (List Int) × (List Int) × Int) => [row (Kd.int .i64) 3 (.slice A5 l3.length c6) l20, box g1 36 #[.int .i64 a0_0, .slice A0_1 l0_1.length c0_1, .slice A0_2 l0_2.length c0_2]]) l0_2.length (l0_2, l8, 0) ⟨Rg.start _, rfl, hl28⟩ ⟨rfl, trivial⟩ (fun w h => h) ?_
    refine fun k24 => cur3 (listC (fun l20 i21 U30 hJ_ => ?_) (fun y22 ys23 l20 i21 U30 hJ_ => ?_))
    · skip
      clear hl28
      have hr25 := hJ_.1; have hk31 := hJ_.2.1; have h := hJ_.2.2; clear hJ_
      replace h : spec_duUses.l1 [] l20 i21 = some o29 := h
      rw [spec_duUses.l1] at h
      refine c_seq ?_
      refine za0 ?_
      refine o_q rfl rfl (q_lss rfl rfl) ?_
      refine o_end ?_
      refine za1 ?_
      refine c_seq ?_
      refine c_false (congrArg Value.bool hr25.ge) ?_
      refine c_exit ?_
      refine za4 ?_
      refine za4 ?_
      have e_ := Option.some.inj h; replace h := hR27; rw [← e_] at h; clear e_
      refine x_hit ?_
      refine za1 ?_
      refine c_seq ?_
      refine za0 ?_
      refine o_q rfl rfl (za2 rfl) ?_
      refine o_q rfl rfl (q_asg rfl) ?_
      refine o_end ?_
      refine za1 ?_
      refine c_ret ?_
      refine x_fact (p := l3.length = l20.length) (fun w h => (h.row_C (i := 0) rfl).2.1) (fun hn32 => ?_)
      have e0_ := Option.some.inj h; clear h
      subst e0_
      exact x_r1 (A5, c6) Try.results152 (zah (v := .slice A5 l3.length c6) rfl) (by (try rw [hn32]); first | done | rfl) (f_pickE (L1 := [row (Kd.int .i64) 3 (.slice A5 l3.length c6) l20, box g1 36 #[.int .i64 a0_0, .slice A0_1 l0_1.length c0_1, .slice A0_2 l0_2.length c0_2]]) rfl [0] (by decide) rfl (by (try rw [hn32]); first | done | rfl))
    · skip
      clear hl28
      have hr25 := hJ_.1; have hk31 := hJ_.2.1; have h := hJ_.2.2; clear hJ_
      replace h : spec_duUses.l1 (y22 :: ys23) l20 i21 = some o29 := h
      rw [spec_duUses.l1] at h
      refine c_seq ?_
      refine za0 ?_
      refine o_q rfl rfl (q_lss rfl rfl) ?_
      refine o_end ?_
      refine za1 ?_
      refine c_seq ?_
      refine c_true (congrArg Value.bool hr25.lt) ?_
      refine zal ?_
      refine za1 ?_
      refine c_seq ?_
      refine zaf ?_
      refine c_seq ?_
      refine za0 ?_
      refine zaw (p := Sh A0_2 l0_2.length l0_2.length) (fun w h => f_sh (dk := (Kd.int .i64)) h (fun w h => R0_2.now Z h)) (fun hq33 => ?_)
      refine o_q rfl rfl (q_ix Try.underlying22 Z3 rfl rfl hq33 hr25.get) ?_
      refine o_q rfl rfl (q_lde (off := 0) Y3 rfl rfl (fun w h => R0_2.now Z h) hr25.get (fun _ _ h => h) rfl) ?_
      refine o_q rfl rfl (q_asg rfl) ?_
      refine o_end ?_
      refine za1 ?_
      refine za0 ?_
      refine o_q rfl rfl (za2 rfl) ?_
      refine o_q rfl rfl (za2 rfl) ?_
      refine zaw (p := Sh A5 l3.length l20.length) (fun w h => f_sh (dk := (Kd.int .i64)) h (fun w h => h.zat (i := 0) rfl)) (fun hq34 => ?_)
      refine za5 h (fun y36 hg35 h => ?_) rfl
      refine o_q rfl rfl (q_ix Try.underlying22 Z3 rfl rfl hq34 hg35) ?_
      refine o_q rfl rfl (q_lde (off := 0) Y3 rfl rfl (fun w h => h.zat (i := 0) rfl) hg35 (fun _ _ h => h) rfl) ?_
      refine o_q rfl rfl (q_add64 rfl rfl) ?_
      refine za5 h (fun y38 hg37 h => ?_) rfl
      refine o_q rfl rfl (q_ix Try.underlying22 Z3 rfl rfl hq34 hg37) ?_
      refine za5 h (fun l39 hs40 h => ?_) rfl
      refine o_e rfl (e_set (i := 0) rfl rfl rfl Z3 hs40) (fun _ => ?_)
      refine o_end ?_
      refine zaq ?_
      refine za1 ?_
      refine za0 ?_
      refine o_q rfl rfl (q_up rfl rfl (hr25.up hm26)) ?_
      refine o_q rfl rfl (za2 rfl) ?_
      refine o_end ?_
      refine zak ys23.length (ys23, l39, i21 + 1) (by rw [← hk31]; exact Nat.lt_succ_self _) ⟨hr25.step, rfl, h⟩ ⟨rfl, trivial⟩ (fun w h => za7 [0, 1] (by decide) rfl w h) ?_
      repeat (first | exact zaa _ _ | refine zac rfl ?_ | refine zab rfl ?_ | refine zad rfl ?_)
  · skip
    clear hl16
    have hr13 := hJ_.1; have hk19 := hJ_.2.1; have h := hJ_.2.2; clear hJ_
    replace h : spec_duUses.l0 (y10 :: ys11) l8 i9 = some o17 := h
    rw [spec_duUses.l0] at h
    refine c_seq ?_
    refine za0 ?_
    refine o_q rfl rfl (q_lss rfl rfl) ?_
    refine o_end ?_
    refine za1 ?_
    refine c_seq ?_
    refine c_true (congrArg Value.bool hr13.lt) ?_
    refine zal ?_
    refine za1 ?_
    refine c_seq ?_
    refine zaf ?_
    refine c_seq ?_
    refine za0 ?_
    refine zaw (p := Sh A0_1 l0_1.length l0_1.length) (fun w h => f_sh (dk := kStep) h (fun w h => R0_1.now Z h)) (fun hq41 => ?_)
    refine o_q rfl rfl (q_ix Try.underlying34 Z117 rfl rfl hq41 hr13.get) ?_
    refine o_q rfl rfl (q_ldE G117 Z117 rfl rfl (fun w h => R0_1.now Z h) hr13.get (fun _ _ h => h) rfl) ?_
    refine o_e rfl (zau V117 rfl) (fun g42 => ?_)
    refine o_e rfl (zaj (i := 0) rfl rfl rfl Z117 rfl rfl) (fun _ => ?_)
    refine o_end ?_
    refine za1 ?_
    refine c_seq ?_
    refine za0 ?_
    refine o_q rfl rfl (za2 rfl) ?_
    refine o_q rfl rfl (q_f F117_0 rfl) ?_
    refine o_q rfl rfl (q_ldb Y3 rfl (fun w h => h.zae (i := 0) rfl) rfl) ?_
    refine zaw (p := Sh A5 l3.length l8.length) (fun w h => f_sh (dk := (Kd.int .i64)) h (fun w h => h.zat (i := 1) rfl)) (fun hq44 => ?_)
    refine za5 h (fun y46 hg45 h => ?_) rfl
    refine o_q rfl rfl (q_ix Try.underlying22 Z3 rfl rfl hq44 hg45) ?_
    refine o_q rfl rfl (q_lde (off := 0) Y3 rfl rfl (fun w h => h.zat (i := 1) rfl) hg45 (fun _ _ h => h) rfl) ?_
    refine o_q rfl rfl (q_add64 rfl rfl) ?_
    refine za5 h (fun y48 hg47 h => ?_) rfl
    refine o_q rfl rfl (q_ix Try.underlying22 Z3 rfl rfl hq44 hg47) ?_
    refine za5 h (fun l49 hs50 h => ?_) rfl
    refine o_e rfl (e_set (i := 1) rfl rfl rfl Z3 hs50) (fun _ => ?_)
    refine o_end ?_
    refine za1 ?_
    refine za0 ?_
    refine o_q rfl rfl (za2 rfl) ?_
    refine o_q rfl rfl (q_f F117_1 rfl) ?_
    refine o_q rfl rfl (q_ldb Y3 rfl (fun w h => h.zae (i := 0) rfl) rfl) ?_
    refine zaw (p := Sh A5 l3.length l49.length) (fun w h => f_sh (dk := (Kd.int .i64)) h (fun w h => h.zat (i := 1) rfl)) (fun hq51 => ?_)
    refine za5 h (fun y53 hg52 h => ?_) rfl
    refine o_q rfl rfl (q_ix Try.underlying22 Z3 rfl rfl hq51 hg52) ?_
    refine o_q rfl rfl (q_lde (off := 0) Y3 rfl rfl (fun w h => h.zat (i := 1) rfl) hg52 (fun _ _ h => h) rfl) ?_
    refine o_q rfl rfl (q_add64 rfl rfl) ?_
    refine za5 h (fun y55 hg54 h => ?_) rfl
    refine o_q rfl rfl (q_ix Try.underlying22 Z3 rfl rfl hq51 hg54) ?_
    refine za5 h (fun l56 hs57 h => ?_) rfl
    refine o_e rfl (e_set (i := 1) rfl rfl rfl Z3 hs57) (fun _ => ?_)
    refine o_end ?_
    refine zaq ?_
    refine za1 ?_
    refine za0 ?_
    refine o_q rfl rfl (q_up rfl rfl (hr13.up hm14)) ?_
    refine o_q rfl rfl (za2 rfl) ?_
    refine o_end ?_
    refine zak ys11.length (ys11, l56, i9 + 1) (by rw [← hk19]; exact Nat.lt_succ_self _) ⟨hr13.step, rfl, h⟩ ⟨rfl, trivial⟩ (fun w h => za7 [1, 2] (by decide) rfl w h) ?_
    repeat (first | exact zaa _ _ | refine zac rfl ?_ | refine zab rfl ?_ | refine zad rfl ?_)

/-! ### loop.example/g01098/spec.l1Has: function 115 -/
def spec_l1Has.l0 (a1 : Int) : (List Int) → Int → Option ((Bool) ⊕ (Unit))
  | [], i1 => some (.inr ())
  | y2 :: ys3, i1 => if y2 = a1 then (some (.inl true)) else (spec_l1Has.l0 a1 ys3 (i1 + 1))
def spec_l1Has.f (l0 : List Int) (a1 : Int) : Option Bool := (spec_l1Has.l0 a1 l0 0).bind fun o_ => match o_ with | .inl r_ => some r_ | .inr _ => some false
set_option maxHeartbeats 600000 in
set_option maxRecDepth 100000 in
theorem spec_l1Has.calls {w0 ws : World} {P0 : Nat → Prop} (A0 : Option Addr) (c0 : Nat) (n0 : Nat) (l0 : List Int) (a1 : Int) (Z : Below w0.heap.size w0 ws) (hF : Fr w0 ws P0 [] ws) (R0 : Stable ws P0 (fun w => Kd.C (Kd.int .i64) w A0 n0 l0)) (hc0 : n0 ≤ c0) (r_1 : Bool) (h : spec_l1Has.f l0 a1 = some r_1) :
    Calls Try.prog 115 #[.slice A0 n0 c0, .int .i64 a1] ws (Post1 w0 ws P0 (fun (_ : Unit) => .bool r_1) (fun (_ : Unit) => [])) := by
  unfold spec_l1Has.f at h
  obtain rfl := (R0 ws (KeptB.refl _ _)).1
  refine enter Try.func115 rfl Try.ntmps115 rfl hF ?_
  refine c_seq ?_
  refine za0 ?_
  refine o_q rfl rfl (q_asg rfl) ?_
  refine o_end ?_
  refine za1 ?_
  refine c_seq ?_
  refine c_seq ?_
  refine za0 ?_
  refine o_q rfl rfl (za2 rfl) ?_
  refine o_q rfl rfl (q_len Try.underlying22 rfl) ?_
  refine o_q rfl rfl (za2 rfl) ?_
  refine o_end ?_
  refine za1 ?_
  refine zaf ?_
  refine za5 h (fun o9 hl8 hR7 => ?_) rfl
  clear h
  refine c_fact (p := l0.length ≤ 9223372036854775807) (fun w h => (R0.now Z h).2.1) (fun hm6 => ?_)
  refine zas (σ := (List Int) × Int) (fun k4 ((ys3, i1) : (List Int) × Int) => Rg l0 i1 ys3 ∧ ys3.length = k4 ∧ spec_l1Has.l0 a1 ys3 i1 = some o9) [4, 6, 9, 10, 11, 12, 13, 14, 15, 16] (fun ((ys3, i1) : (List Int) × Int) => [(9, .int .i64 i1)]) (fun ((ys3, i1) : (List Int) × Int) => []) l0.length (l0, 0) ⟨Rg.start _, rfl, hl8⟩ ⟨rfl, trivial⟩ (fun w h => h) ?_
  refine fun k4 => cur2 (listC (fun i1 U10 hJ_ => ?_) (fun y2 ys3 i1 U10 hJ_ => ?_))
  · skip
    clear hl8
    have hr5 := hJ_.1; have hk11 := hJ_.2.1; have h := hJ_.2.2; clear hJ_
    replace h : spec_l1Has.l0 a1 [] i1 = some o9 := h
    rw [spec_l1Has.l0] at h
    refine c_seq ?_
    refine za0 ?_
    refine o_q rfl rfl (q_lss rfl rfl) ?_
    refine o_end ?_
    refine za1 ?_
    refine c_seq ?_
    refine c_false (congrArg Value.bool hr5.ge) ?_
    refine c_exit ?_
    refine za4 ?_
    refine za4 ?_
    have e_ := Option.some.inj h; replace h := hR7; rw [← e_] at h; clear e_
    refine x_hit ?_
    refine za1 ?_
    refine c_seq ?_
    refine za0 ?_
    refine o_q rfl rfl (q_asg rfl) ?_
    refine o_end ?_
    refine za1 ?_
    refine c_ret ?_
    have e0_ := Option.some.inj h; clear h
    subst e0_
    exact x_r1 () Try.results115 (zah rfl) rfl (fun w h => za7 [] (by decide) rfl w h)
  · skip
    clear hl8
    have hr5 := hJ_.1; have hk11 := hJ_.2.1; have h := hJ_.2.2; clear hJ_
    replace h : spec_l1Has.l0 a1 (y2 :: ys3) i1 = some o9 := h
    rw [spec_l1Has.l0] at h
    refine c_seq ?_
    refine za0 ?_
    refine o_q rfl rfl (q_lss rfl rfl) ?_
    refine o_end ?_
    refine za1 ?_
    refine c_seq ?_
    refine c_true (congrArg Value.bool hr5.lt) ?_
    refine zal ?_
    refine za1 ?_
    refine c_seq ?_
    refine zaf ?_
    refine c_seq ?_
    refine za0 ?_
    refine zaw (p := Sh A0 l0.length l0.length) (fun w h => f_sh (dk := (Kd.int .i64)) h (fun w h => R0.now Z h)) (fun hq12 => ?_)
    refine o_q rfl rfl (q_ix Try.underlying22 Z3 rfl rfl hq12 hr5.get) ?_
    refine o_q rfl rfl (q_lde (off := 0) Y3 rfl rfl (fun w h => R0.now Z h) hr5.get (fun _ _ h => h) rfl) ?_
    refine o_q rfl rfl (q_asg rfl) ?_
    refine o_end ?_
    refine za1 ?_
    refine c_seq ?_
    refine za0 ?_
    refine o_q rfl rfl (za2 rfl) ?_
    refine o_q rfl rfl (za2 rfl) ?_
    refine o_q rfl rfl (q_eql rfl rfl) ?_
    refine o_end ?_
    refine za1 ?_
    refine zar _ rfl (fun hb13 => ?_) (fun hb13 => ?_)
    · skip
      replace h := br_t hb13 h
      refine c_seq ?_
      refine za0 ?_
      refine o_q rfl rfl (q_asg rfl) ?_
      refine o_end ?_
      refine za1 ?_
      refine c_ret ?_
      refine zam ?_
      refine za8 ?_
      refine za8 ?_
      have e_ := Option.some.inj h; replace h := hR7; rw [← e_] at h; clear e_
      refine zam ?_
      refine za8 ?_
      have e0_ := Option.some.inj h; clear h
      subst e0_
      exact x_r1 () Try.results115 (zah rfl) rfl (fun w h => za7 [] (by decide) rfl w h)
    · skip
      replace h := br_f hb13 h
      refine zal ?_
      refine zaq ?_
      refine za1 ?_
      refine za0 ?_
      refine o_q rfl rfl (q_up rfl rfl (hr5.up hm6)) ?_
      refine o_q rfl rfl (za2 rfl) ?_
      refine o_end ?_
      refine zak ys3.length (ys3, i1 + 1) (by rw [← hk11]; exact Nat.lt_succ_self _) ⟨hr5.step, rfl, h⟩ ⟨rfl, trivial⟩ (fun w h => za7 [] (by decide) rfl w h) ?_
      repeat (first | exact zaa _ _ | refine zac rfl ?_ | refine zab rfl ?_ | refine zad rfl ?_)

/-! ### loop.example/g01098/spec.duCan: function 94 -/
def spec_duCan.f (a0_0 : Int) (l0_1 : List SStep) (l0_2 : List Int) : Option Bool := if 0 < (l0_2.length : Int) then ((spec_duUses.f a0_0 l0_1 l0_2).bind fun l5 => (spec_l1Has.f l5 0).bind fun b9 => some (!b9)) else (some false)
set_option maxHeartbeats 600000 in
set_option maxRecDepth 100000 in
theorem spec_duCan.calls {w0 ws : World} {P0 : Nat → Prop} (a0_0 : Int) (A0_1 : Option Addr) (c0_1 : Nat) (n0_1 : Nat) (l0_1 : List SStep) (A0_2 : Option Addr) (c0_2 : Nat) (n0_2 : Nat) (l0_2 : List Int) (Z : Below w0.heap.size w0 ws) (hF : Fr w0 ws P0 [] ws) (R0_1 : Stable ws P0 (fun w => Kd.C kStep w A0_1 n0_1 l0_1)) (hc0_1 : n0_1 ≤ c0_1) (R0_2 : Stable ws P0 (fun w => Kd.C (Kd.int .i64) w A0_2 n0_2 l0_2)) (hc0_2 : n0_2 ≤ c0_2) (r_1 : Bool) (h : spec_duCan.f a0_0 l0_1 l0_2 = some r_1) :
    Calls Try.prog 94 #[.agg #[.int .i64 a0_0, .slice A0_1 n0_1 c0_1, .slice A0_2 n0_2 c0_2]] ws (Post1 w0 ws P0 (fun (_ : Unit) => .bool r_1) (fun (_ : Unit) => [])) := by
  unfold spec_duCan.f at h
  obtain rfl := (R0_1 ws (KeptB.refl _ _)).1
  obtain rfl := (R0_2 ws (KeptB.refl _ _)).1
  refine enter Try.func94 rfl Try.ntmps94 rfl hF ?_
  refine c_seq ?_
  refine za0 ?_
  refine o_e rfl (e_box rfl) (fun g1 => ?_)
  refine o_q rfl rfl (q_asg rfl) ?_
  refine o_end ?_
  refine za1 ?_
  refine c_seq ?_
  refine za0 ?_
  refine o_q rfl rfl (q_f F36_2 rfl) ?_
  refine o_q rfl rfl (q_ldb Y22 rfl (fun w h => h.zae (i := 0) rfl) rfl) ?_
  refine o_q rfl rfl (q_len Try.underlying22 rfl) ?_
  refine o_q rfl rfl (q_gtr rfl rfl) ?_
  refine o_q rfl rfl (za2 rfl) ?_
  refine byB (decide (0 < (l0_2.length : Int))) (fun hb3 => ?_) (fun hb3 => ?_)
  · replace h := br_t hb3 h
    refine o_w (za6 rfl rfl rfl (congrArg Value.bool hb3)) rfl (q_ldB G36 Z36 rfl (fun w h => h.zae (i := 0) rfl) rfl) ?_
    refine za5 h (fun l5 hx4 h => ?_) rfl
    refine o_ew (za6 rfl rfl rfl (congrArg Value.bool hb3)) (za9 0 Z Try.func152 N152 rfl rfl rfl (fun w P1 hF hB hS hT => spec_duUses.calls a0_0 A0_1 c0_1 l0_1.length l0_1 A0_2 c0_2 l0_2.length l0_2 hB hF (hS _ R0_1) hc0_1 (hS _ R0_2) hc0_2 _ hx4)) (cur2 (fun A6 c7 => ?_))
    refine za5 h (fun b9 hx8 h => ?_) rfl
    refine o_ew (za6 rfl rfl rfl (congrArg Value.bool hb3)) (za9 0 Z Try.func115 N115 rfl rfl rfl (fun w P1 hF hB hS hT => spec_l1Has.calls A6 c7 l5.length l5 0 hB hF (hT 0 _ rfl).row (hT 0 _ rfl).cap _ hx8)) (fun _ => ?_)
    refine o_w (za6 rfl rfl rfl (congrArg Value.bool hb3)) rfl (q_not rfl) ?_
    refine o_q rfl rfl (zav true (congrArg Value.bool hb3) rfl) ?_
    refine o_q rfl rfl (q_asg rfl) ?_
    refine o_end ?_
    refine za1 ?_
    refine c_ret ?_
    have e0_ := Option.some.inj h; clear h
    subst e0_
    exact x_r1 () Try.results94 (zah rfl) rfl (fun w h => za7 [] (by decide) rfl w h)
  · replace h := br_f hb3 h
    refine @o_n _ _ _ _ _ _ _ _ _ _ _ 8 (za3 rfl rfl rfl (congrArg Value.bool hb3) rfl) (Eq.refl (some 8)) ?_
    refine @o_n _ _ _ _ _ _ _ _ _ _ _ 9 (za3 rfl rfl rfl (congrArg Value.bool hb3) rfl) (Eq.refl (some 9)) ?_
    refine @o_n _ _ _ _ _ _ _ _ _ _ _ 10 (za3 rfl rfl rfl (congrArg Value.bool hb3) rfl) (Eq.refl (some 10)) ?_
    refine @o_n _ _ _ _ _ _ _ _ _ _ _ 11 (za3 rfl rfl rfl (congrArg Value.bool hb3) rfl) (Eq.refl (some 11)) ?_
    refine o_q rfl rfl (zav false (congrArg Value.bool hb3) rfl) ?_
    refine o_q rfl rfl (q_asg rfl) ?_
    refine o_end ?_
    refine za1 ?_
    refine c_ret ?_
    have e0_ := Option.some.inj h; clear h
    subst e0_
    exact x_r1 () Try.results94 (zah rfl) rfl (fun w h => za7 [] (by decide) rfl w h)

/-! ### loop.example/g01098/spec.duFactors: function 153 -/
def spec_duFactors.l1 (a0_0 : Int) (a1 : Int) (l2 : List Int) : (List SStep) → (List Int) → Int → Option (List Int)
  | [], l18, i21 => some l18
  | y22 :: ys23, l18, i21 => (if y22.f0 = a1 then ((gt l2 (w64 (a0_0 + i21))).bind fun y57 => (ap l18 ([y57] : List Int)).bind fun l61 => some l61) else (some l18)).bind fun l46 => if y22.f1 = a1 then ((gt l2 (w64 (a0_0 + i21))).bind fun y68 => (ap l46 ([y68] : List Int)).bind fun l72 => spec_duFactors.l1 a0_0 a1 l2 ys23 l72 (i21 + 1)) else (spec_duFactors.l1 a0_0 a1 l2 ys23 l46 (i21 + 1))
def spec_duFactors.l0 (a1 : Int) : (List Int) → (List Int) → Int → Option (List Int)
  | [], l4, i7 => some l4
  | y8 :: ys9, l4, i7 => if y8 = a1 then ((ap l4 ([i7] : List Int)).bind fun l81 => spec_duFactors.l0 a1 ys9 l81 (i7 + 1)) else (spec_duFactors.l0 a1 ys9 l4 (i7 + 1))
def spec_duFactors.f (a0_0 : Int) (l0_1 : List SStep) (l0_2 : List Int) (a1 : Int) (l2 : List Int) : Option (List Int) := (spec_duFactors.l0 a1 l0_2 ([] : List Int) 0).bind fun l4 => (spec_duFactors.l1 a0_0 a1 l2 l0_1 l4 0).bind fun l18 => some l18
set_option maxHeartbeats 600000 in
set_option maxRecDepth 100000 in
theorem spec_duFactors.calls {w0 ws : World} {P0 : Nat → Prop} (a0_0 : Int) (A0_1 : Option Addr) (c0_1 : Nat) (n0_1 : Nat) (l0_1 : List SStep) (A0_2 : Option Addr) (c0_2 : Nat) (n0_2 : Nat) (l0_2 : List Int) (a1 : Int) (A2 : Option Addr) (c2 : Nat) (n2 : Nat) (l2 : List Int) (Z : Below w0.heap.size w0 ws) (hF : Fr w0 ws P0 [] ws) (R0_1 : Stable ws P0 (fun w => Kd.C kStep w A0_1 n0_1 l0_1)) (hc0_1 : n0_1 ≤ c0_1) (R0_2 : Stable ws P0 (fun w => Kd.C (Kd.int .i64) w A0_2 n0_2 l0_2)) (hc0_2 : n0_2 ≤ c0_2) (R2 : Stable ws P0 (fun w => Kd.C (Kd.int .i64) w A2 n2 l2)) (hc2 : n2 ≤ c2) (r_1 : List Int) (h : spec_duFactors.f a0_0 l0_1 l0_2 a1 l2 = some r_1) :
    Calls Try.prog 153 #[.agg #[.int .i64 a0_0, .slice A0_1 n0_1 c0_1, .slice A0_2 n0_2 c0_2], .int .i64 a1, .slice A2 n2 c2] ws (Post1 w0 ws P0 (fun ((q_2, q_3) : (Option Addr) × Nat) => .slice q_2 r_1.length q_3) (fun ((q_2, q_3) : (Option Addr) × Nat) => [row (Kd.int .i64) 3 (.slice q_2 r_1.length q_3) r_1])) := by
  unfold spec_duFactors.f at h
  obtain rfl := (R0_1 ws (KeptB.refl _ _)).1
  obtain rfl := (R0_2 ws (KeptB.refl _ _)).1
  obtain rfl := (R2 ws (KeptB.refl _ _)).1
  refine enter Try.func153 rfl Try.ntmps153 rfl hF ?_
  refine c_seq ?_
  refine za0 ?_
  refine o_e rfl (e_box rfl) (fun g1 => ?_)
  refine o_q rfl rfl (q_asg rfl) ?_
  refine o_end ?_
  refine za1 ?_
  refine c_seq ?_
  refine za0 ?_
  refine o_q rfl rfl (q_asg rfl) ?_
  refine o_end ?_
  refine za1 ?_
  refine c_seq ?_
  refine c_seq ?_
  refine za0 ?_
  refine o_q rfl rfl (q_f F36_2 rfl) ?_
  refine o_q rfl rfl (q_ldb Y22 rfl (fun w h => h.zae (i := 0) rfl) rfl) ?_
  refine o_q rfl rfl (q_len Try.underlying22 rfl) ?_
  refine o_q rfl rfl (za2 rfl) ?_
  refine o_end ?_
  refine za1 ?_
  refine zaf ?_
  refine c_nil (Kd.int .i64) 3 ?_
  refine za5 h (fun o15 hl14 hR13 => ?_) rfl
  clear h
  refine c_fact (p := l0_2.length ≤ 9223372036854775807) (fun w h => (R0_2.now Z h).2.1) (fun hm12 => ?_)
  refine zas (σ := (List Int) × (List Int) × Int × (Option Addr) × Nat) (fun k10 ((ys9, l4, i7, A5, c6) : (List Int) × (List Int) × Int × (Option Addr) × Nat) => Rg l0_2 i7 ys9 ∧ ys9.length = k10 ∧ spec_duFactors.l0 a1 ys9 l4 i7 = some o15) [7, 8, 9, 15, 16, 17, 18, 19, 20, 21, 22, 23, 24, 25, 26, 27] (fun ((ys9, l4, i7, A5, c6) : (List Int) × (List Int) × Int × (Option Addr) × Nat) => [(7, .slice A5 l4.length c6), (15, .int .i64 i7)]) (fun ((ys9, l4, i7, A5, c6) : (List Int) × (List Int) × Int × (Option Addr) × Nat) => [row (Kd.int .i64) 3 (.slice A5 l4.length c6) l4, box g1 36 #[.int .i64 a0_0, .slice A0_1 l0_1.length c0_1, .slice A0_2 l0_2.length c0_2]]) l0_2.length (l0_2, ([] : List Int), 0, none, 0) ⟨Rg.start _, rfl, hl14⟩ ⟨rfl, rfl, trivial⟩ (fun w h => h) ?_
  refine fun k10 => cur5 (listC (fun l4 i7 A5 c6 U16 hJ_ => ?_) (fun y8 ys9 l4 i7 A5 c6 U16 hJ_ => ?_))
  · skip
    clear hl14
    have hr11 := hJ_.1; have hk17 := hJ_.2.1; have h := hJ_.2.2; clear hJ_
    replace h : spec_duFactors.l0 a1 [] l4 i7 = some o15 := h
    rw [spec_duFactors.l0] at h
    refine c_seq ?_
    refine za0 ?_
    refine o_q rfl rfl (q_lss rfl rfl) ?_
    refine o_end ?_
    refine za1 ?_
    refine c_seq ?_
    refine c_false (congrArg Value.bool hr11.ge) ?_
    refine c_exit ?_
    refine za4 ?_
    refine za4 ?_
    have e_ := Option.some.inj h; replace h := hR13; rw [← e_] at h; clear e_
    refine x_hit ?_
    refine za1 ?_
    refine c_seq ?_
    refine c_seq ?_
    refine za0 ?_
    refine o_q rfl rfl (q_f F36_1 rfl) ?_
    refine o_q rfl rfl (q_ldb Y34 rfl (fun w h => h.zae (i := 1) rfl) rfl) ?_
    refine o_q rfl rfl (q_len Try.underlying34 rfl) ?_
    refine o_q rfl rfl (za2 rfl) ?_
    refine o_end ?_
    refine za1 ?_
    refine zaf ?_
    refine za5 h (fun o29 hl28 hR27 => ?_) rfl
    clear h
    refine c_fact (p := l0_1.length ≤ 9223372036854775807) (fun w h => (R0_1.now Z h).2.1) (fun hm26 => ?_)
    refine zas (σ := (List SStep) × (List Int) × Int × (Option Addr) × Nat) (fun k24 ((ys23, l18, i21, A19, c20) : (List SStep) × (List Int) × Int × (Option Addr) × Nat) => Rg l0_1 i21 ys23 ∧ ys23.length = k24 ∧ spec_duFactors.l1 a0_0 a1 l2 ys23 l18 i21 = some o29) [7, 10, 11, 31, 32, 33, 34, 35, 36, 37, 38, 39, 40, 41, 42, 43, 44, 45, 46, 47, 48, 49, 50, 51, 52, 53, 54, 55, 56, 57, 58, 59, 60, 61, 62, 63, 64] (fun ((ys23, l18, i21, A19, c20) : (List SStep) × (List Int) × Int × (Option Addr) × Nat) => [(7, .slice A19 l18.length c20), (31, .int .i64 i21)]) (fun ((ys23, l18, i21, A19, c20) : (List SStep) × (List Int) × Int × (Option Addr) × Nat) => [row (Kd.int .i64) 3 (.slice A19 l18.length c20) l18, box g1 36 #[.int .i64 a0_0, .slice A0_1 l0_1.length c0_1, .slice A0_2 l0_2.length c0_2]]) l0_1.length (l0_1, l4, 0, A5, c6) ⟨Rg.start _, rfl, hl28⟩ ⟨rfl, rfl, trivial⟩ (fun w h => h) ?_
    refine fun k24 => cur5 (listC (fun l18 i21 A19 c20 U30 hJ_ => ?_) (fun y22 ys23 l18 i21 A19 c20 U30 hJ_ => ?_))
    · skip
      clear hl28
      have hr25 := hJ_.1; have hk31 := hJ_.2.1; have h := hJ_.2.2; clear hJ_
      replace h : spec_duFactors.l1 a0_0 a1 l2 [] l18 i21 = some o29 := h
      rw [spec_duFactors.l1] at h
      refine c_seq ?_
      refine za0 ?_
      refine o_q rfl rfl (q_lss rfl rfl) ?_
      refine o_end ?_
      refine za1 ?_
      refine c_seq ?_
      refine c_false (congrArg Value.bool hr25.ge) ?_
      refine c_exit ?_
      refine za4 ?_
      refine za4 ?_
      have e_ := Option.some.inj h; replace h := hR27; rw [← e_] at h; clear e_
      refine x_hit ?_
      refine za1 ?_
      refine c_seq ?_
      refine za0 ?_
      refine o_q rfl rfl (za2 rfl) ?_
      refine o_q rfl rfl (q_asg rfl) ?_
      refine o_end ?_
      refine za1 ?_
      refine c_ret ?_
      have e0_ := Option.some.inj h; clear h
      subst e0_
      exact x_r1 (A19, c20) Try.results153 (zah rfl) rfl (fun w h => za7 [0] (by decide) rfl w h)
    · skip
      clear hl28
      have hr25 := hJ_.1; have hk31 := hJ_.2.1; have h := hJ_.2.2; clear hJ_
      replace h : spec_duFactors.l1 a0_0 a1 l2 (y22 :: ys23) l18 i21 = some o29 := h
      rw [spec_duFactors.l1] at h
      refine c_seq ?_
      refine za0 ?_
      refine o_q rfl rfl (q_lss rfl rfl) ?_
      refine o_end ?_
      refine za1 ?_
      refine c_seq ?_
      refine c_true (congrArg Value.bool hr25.lt) ?_
      refine zal ?_
      refine za1 ?_
      refine c_seq ?_
      refine zaf ?_
      refine c_seq ?_
      refine za0 ?_
      refine o_q rfl rfl (za2 rfl) ?_
      refine zaw (p := Sh A0_1 l0_1.length l0_1.length) (fun w h => f_sh (dk := kStep) h (fun w h => R0_1.now Z h)) (fun hq32 => ?_)
      refine o_q rfl rfl (q_ix Try.underlying34 Z117 rfl rfl hq32 hr25.get) ?_
      refine o_q rfl rfl (q_ldE G117 Z117 rfl rfl (fun w h => R0_1.now Z h) hr25.get (fun _ _ h => h) rfl) ?_
      refine o_e rfl (zau V117 rfl) (fun g33 => ?_)
      refine o_q rfl rfl (q_asg rfl) ?_
      refine o_e rfl (zaj (i := 0) rfl rfl rfl Z117 rfl rfl) (fun _ => ?_)
      refine o_end ?_
      refine za1 ?_
      refine za5 h (fun o49 hl50 hR51 => ?_) rfl
      clear h
      refine c_cutJ (σ := (List Int) × (Option Addr) × Nat) (fun (l46, A47, c48) => some l46 = some o49) [7, 36, 37, 38, 39, 40, 41, 42, 43, 44, 45, 46, 47, 48, 49] (fun (l46, A47, c48) => [(7, .slice A47 l46.length c48)]) (fun (l46, A47, c48) => [box g1 36 #[.int .i64 a0_0, .slice A0_1 l0_1.length c0_1, .slice A0_2 l0_2.length c0_2], row (Kd.int .i64) 3 (.slice A47 l46.length c48) l46, box g33 117 #[.int .i64 y22.f0, .int .i64 y22.f1]]) ?_ ?_
      · skip
        have h := hl50; clear hl50
        clear hR51
        refine c_seq ?_
        refine za0 ?_
        refine o_q rfl rfl (q_f F117_0 rfl) ?_
        refine o_q rfl rfl (q_ldb Y3 rfl (fun w h => h.zae (i := 0) rfl) rfl) ?_
        refine o_q rfl rfl (za2 rfl) ?_
        refine o_q rfl rfl (q_eql rfl rfl) ?_
        refine o_end ?_
        refine za1 ?_
        refine zar _ rfl (fun hb54 => ?_) (fun hb54 => ?_)
        · skip
          replace h := br_t hb54 h
          refine za0 ?_
          refine o_q rfl rfl (za2 rfl) ?_
          refine o_q rfl rfl (za2 rfl) ?_
          refine o_q rfl rfl (q_f F36_0 rfl) ?_
          refine o_q rfl rfl (q_ldb Y3 rfl (fun w h => h.zae (i := 2) rfl) rfl) ?_
          refine o_q rfl rfl (za2 rfl) ?_
          refine o_q rfl rfl (q_add64 rfl rfl) ?_
          refine zaw (p := Sh A2 l2.length l2.length) (fun w h => f_sh (dk := (Kd.int .i64)) h (fun w h => R2.now Z h)) (fun hq55 => ?_)
          refine za5 h (fun y57 hg56 h => ?_) rfl
          refine o_q rfl rfl (q_ix Try.underlying22 Z3 rfl rfl hq55 hg56) ?_
          refine o_q rfl rfl (q_lde (off := 0) Y3 rfl rfl (fun w h => R2.now Z h) hg56 (fun _ _ h => h) rfl) ?_
          refine o_e rfl (e_lit (vs := [(0, .int .i64 y57)]) (cs := [.int .i64 y57]) (Kd.int .i64) ([y57] : List Int) Try.underlying22 I3 (by decide) rfl (by decide) rfl rfl (fun _ _ => Kd.reps_scalar _)) (cur2 (fun A58 c59 => ?_))
          refine za5 h (fun l61 ha62 h => ?_) rfl
          refine o_e rfl (e_app (i := 2) (j := 0) Try.underlying22 I3 rfl (by decide) (by decide) rfl rfl rfl rfl rfl ha62) (cur2 (fun A63 c64 => ?_))
          refine o_q rfl rfl (q_asg rfl) ?_
          refine o_end ?_
          refine x_meetJ (l61, A63, c64) h ⟨rfl, trivial⟩ (fun w h => za7 [3, 2, 1] (by decide) rfl w h) ?_
          repeat (first | exact zaa _ _ | refine zac rfl ?_ | refine zab rfl ?_ | refine zad rfl ?_)
        · skip
          replace h := br_f hb54 h
          refine zal ?_
          refine x_meetJ (l18, A19, c20) h ⟨rfl, trivial⟩ (fun w h => za7 [2, 1, 0] (by decide) rfl w h) ?_
          repeat (first | exact zaa _ _ | refine zac rfl ?_ | refine zab rfl ?_ | refine zad rfl ?_)
      · skip
        refine (cur3 (fun l46 A47 c48 => fun U52 hJ53 => ?_))
        have e_ := Option.some.inj hJ53; have h := hR51; rw [← e_] at h; clear e_ hJ53 hR51 hl50
        refine c_seq ?_
        refine za0 ?_
        refine o_q rfl rfl (q_f F117_1 rfl) ?_
        refine o_q rfl rfl (q_ldb Y3 rfl (fun w h => h.zae (i := 2) rfl) rfl) ?_
        refine o_q rfl rfl (za2 rfl) ?_
        refine o_q rfl rfl (q_eql rfl rfl) ?_
        refine o_end ?_
        refine za1 ?_
        refine zar _ rfl (fun hb65 => ?_) (fun hb65 => ?_)
        · skip
          replace h := br_t hb65 h
          refine za0 ?_
          refine o_q rfl rfl (za2 rfl) ?_
          refine o_q rfl rfl (za2 rfl) ?_
          refine o_q rfl rfl (q_f F36_0 rfl) ?_
          refine o_q rfl rfl (q_ldb Y3 rfl (fun w h => h.zae (i := 0) rfl) rfl) ?_
          refine o_q rfl rfl (za2 rfl) ?_
          refine o_q rfl rfl (q_add64 rfl rfl) ?_
          refine zaw (p := Sh A2 l2.length l2.length) (fun w h => f_sh (dk := (Kd.int .i64)) h (fun w h => R2.now Z h)) (fun hq66 => ?_)
          refine za5 h (fun y68 hg67 h => ?_) rfl
          refine o_q rfl rfl (q_ix Try.underlying22 Z3 rfl rfl hq66 hg67) ?_
          refine o_q rfl rfl (q_lde (off := 0) Y3 rfl rfl (fun w h => R2.now Z h) hg67 (fun _ _ h => h) rfl) ?_
          refine o_e rfl (e_lit (vs := [(0, .int .i64 y68)]) (cs := [.int .i64 y68]) (Kd.int .i64) ([y68] : List Int) Try.underlying22 I3 (by decide) rfl (by decide) rfl rfl (fun _ _ => Kd.reps_scalar _)) (cur2 (fun A69 c70 => ?_))
          refine za5 h (fun l72 ha73 h => ?_) rfl
          refine o_e rfl (e_app (i := 2) (j := 0) Try.underlying22 I3 rfl (by decide) (by decide) rfl rfl rfl rfl rfl ha73) (cur2 (fun A74 c75 => ?_))
          refine o_q rfl rfl (q_asg rfl) ?_
          refine o_end ?_
          refine zaq ?_
          refine za1 ?_
          refine za0 ?_
          refine o_q rfl rfl (q_up rfl rfl (hr25.up hm26)) ?_
          refine o_q rfl rfl (za2 rfl) ?_
          refine o_end ?_
          refine zak ys23.length (ys23, l72, i21 + 1, A74, c75) (by rw [← hk31]; exact Nat.lt_succ_self _) ⟨hr25.step, rfl, h⟩ ⟨rfl, rfl, trivial⟩ (fun w h => za7 [2, 1] (by decide) rfl w h) ?_
          repeat (first | exact zaa _ _ | refine zac rfl ?_ | refine zab rfl ?_ | refine zad rfl ?_)
        · skip
          replace h := br_f hb65 h
          refine zal ?_
          refine zaq ?_
          refine za1 ?_
          refine za0 ?_
          refine o_q rfl rfl (q_up rfl rfl (hr25.up hm26)) ?_
          refine o_q rfl rfl (za2 rfl) ?_
          refine o_end ?_
          refine zak ys23.length (ys23, l46, i21 + 1, A47, c48) (by rw [← hk31]; exact Nat.lt_succ_self _) ⟨hr25.step, rfl, h⟩ ⟨rfl, rfl, trivial⟩ (fun w h => za7 [1, 0] (by decide) rfl w h) ?_
          repeat (first | exact zaa _ _ | refine zac rfl ?_ | refine zab rfl ?_ | refine zad rfl ?_)
  · skip
    clear hl14
    have hr11 := hJ_.1; have hk17 := hJ_.2.1; have h := hJ_.2.2; clear hJ_
    replace h : spec_duFactors.l0 a1 (y8 :: ys9) l4 i7 = some o15 := h
    rw [spec_duFactors.l0] at h
    refine c_seq ?_
    refine za0 ?_
    refine o_q rfl rfl (q_lss rfl rfl) ?_
    refine o_end ?_
    refine za1 ?_
    refine c_seq ?_
    refine c_true (congrArg Value.bool hr11.lt) ?_
    refine zal ?_
    refine za1 ?_
    refine c_seq ?_
    refine zaf ?_
    refine c_seq ?_
    refine za0 ?_
    refine o_q rfl rfl (za2 rfl) ?_
    refine zaw (p := Sh A0_2 l0_2.length l0_2.length) (fun w h => f_sh (dk := (Kd.int .i64)) h (fun w h => R0_2.now Z h)) (fun hq76 => ?_)
    refine o_q rfl rfl (q_ix Try.underlying22 Z3 rfl rfl hq76 hr11.get) ?_
    refine o_q rfl rfl (q_lde (off := 0) Y3 rfl rfl (fun w h => R0_2.now Z h) hr11.get (fun _ _ h => h) rfl) ?_
    refine o_q rfl rfl (q_asg rfl) ?_
    refine o_q rfl rfl (q_asg rfl) ?_
    refine o_end ?_
    refine za1 ?_
    refine c_seq ?_
    refine za0 ?_
    refine o_q rfl rfl (za2 rfl) ?_
    refine o_q rfl rfl (za2 rfl) ?_
    refine o_q rfl rfl (q_eql rfl rfl) ?_
    refine o_end ?_
    refine za1 ?_
    refine zar _ rfl (fun hb77 => ?_) (fun hb77 => ?_)
    · skip
      replace h := br_t hb77 h
      refine za0 ?_
      refine o_q rfl rfl (za2 rfl) ?_
      refine o_q rfl rfl (za2 rfl) ?_
      refine o_e rfl (e_lit (vs := [(0, .int .i64 i7)]) (cs := [.int .i64 i7]) (Kd.int .i64) ([i7] : List Int) Try.underlying22 I3 (by decide) rfl (by decide) rfl rfl (fun _ _ => Kd.reps_scalar _)) (cur2 (fun A78 c79 => ?_))
      refine za5 h (fun l81 ha82 h => ?_) rfl
      refine o_e rfl (e_app (i := 1) (j := 0) Try.underlying22 I3 rfl (by decide) (by decide) rfl rfl rfl rfl rfl ha82) (cur2 (fun A83 c84 => ?_))
      refine o_q rfl rfl (q_asg rfl) ?_
      refine o_end ?_
      refine zaq ?_
      refine za1 ?_
      refine za0 ?_
      refine o_q rfl rfl (q_up rfl rfl (hr11.up hm12)) ?_
      refine o_q rfl rfl (za2 rfl) ?_
      refine o_end ?_
      refine zak ys9.length (ys9, l81, i7 + 1, A83, c84) (by rw [← hk17]; exact Nat.lt_succ_self _) ⟨hr11.step, rfl, h⟩ ⟨rfl, rfl, trivial⟩ (fun w h => za7 [1, 2] (by decide) rfl w h) ?_
      repeat (first | exact zaa _ _ | refine zac rfl ?_ | refine zab rfl ?_ | refine zad rfl ?_)
    · skip
      replace h := br_f hb77 h
      refine zal ?_
      refine zaq ?_
      refine za1 ?_
      refine za0 ?_
      refine o_q rfl rfl (q_up rfl rfl (hr11.up hm12)) ?_
      refine o_q rfl rfl (za2 rfl) ?_
      refine o_end ?_
      refine zak ys9.length (ys9, l4, i7 + 1, A5, c6) (by rw [← hk17]; exact Nat.lt_succ_self _) ⟨hr11.step, rfl, h⟩ ⟨rfl, rfl, trivial⟩ (fun w h => za7 [0, 1] (by decide) rfl w h) ?_
      repeat (first | exact zaa _ _ | refine zac rfl ?_ | refine zab rfl ?_ | refine zad rfl ?_)

/-! ### loop.example/g01098/spec.l1Own: function 154 -/
def spec_l1Own.f (l0 : List Int) : Option (List Int) := (ap ([] : List Int) l0).bind fun l4 => some l4
set_option maxHeartbeats 600000 in
set_option maxRecDepth 100000 in
theorem spec_l1Own.calls {w0 ws : World} {P0 : Nat → Prop} (A0 : Option Addr) (c0 : Nat) (n0 : Nat) (l0 : List Int) (Z : Below w0.heap.size w0 ws) (hF : Fr w0 ws P0 [] ws) (R0 : Stable ws P0 (fun w => Kd.C (Kd.int .i64) w A0 n0 l0)) (hc0 : n0 ≤ c0) (r_1 : List Int) (h : spec_l1Own.f l0 = some r_1) :
    Calls Try.prog 154 #[.slice A0 n0 c0] ws (Post1 w0 ws P0 (fun ((q_2, q_3) : (Option Addr) × Nat) => .slice q_2 r_1.length q_3) (fun ((q_2, q_3) : (Option Addr) × Nat) => [row (Kd.int .i64) 3 (.slice q_2 r_1.length q_3) r_1])) := by
  unfold spec_l1Own.f at h
  obtain rfl := (R0 ws (KeptB.refl _ _)).1
  refine enter Try.func154 rfl Try.ntmps154 rfl hF ?_
  refine c_seq ?_
  refine za0 ?_
  refine o_q rfl rfl (q_asg rfl) ?_
  refine o_end ?_
  refine za1 ?_
  refine c_seq ?_
  refine za0 ?_
  refine o_e rfl (e_lit0 (Kd.int .i64) Try.underlying22 I3) (cur2 (fun A1 c2 => ?_))
  refine o_q rfl rfl (za2 rfl) ?_
  refine za5 h (fun l4 ha5 h => ?_) rfl
  refine o_e rfl (e_appr (i := 0) Try.underlying22 I3 rfl (by decide) (by decide) (fun _ _ _ _ h => h) rfl (fun w h => R0.now Z h) rfl rfl ha5) (cur2 (fun A6 c7 => ?_))
  refine o_q rfl rfl (q_asg rfl) ?_
  refine o_end ?_
  refine za1 ?_
  refine c_ret ?_
  have e0_ := Option.some.inj h; clear h
  subst e0_
  exact x_r1 (A6, c7) Try.results154 (zah rfl) rfl (fun w h => za7 [0] (by decide) rfl w h)

/-! ### loop.example/g01098/spec.duTurn: function 95 -/
def spec_duTurn.l1 (l0_2 : List Int) : (List Int) → (List SStep) → (List Int) → Int → Int → Option ((List SStep) × (List Int) × Int)
  | [], l43, l46, i49, i50 => some (l43, l46, i50)
  | y51 :: ys52, l43, l46, i49, i50 => (spec_meTimes.f (l0_2.length : Int) l43 l46 i50 y51).bind fun l68 => spec_duTurn.l1 l0_2 ys52 l68 [] (i49 + 1) (w64 ((l0_2.length : Int) + (l43.length : Int)))
def spec_duTurn.l0 (a0_0 : Int) (l0_1 : List SStep) (l0_2 : List Int) : Nat → (List Int) → (List SStep) → (List Int) → Int → Option ((List Int) × (List SStep) × (List Int))
  | 0, _, _, _, _ => none
  | k24 + 1, l14, l15, l18, i21 => if 0 ≤ i21 then ((spec_duFactors.f a0_0 l0_1 l0_2 i21 l14).bind fun l34 => (gt l34 0).bind fun y39 => (ct l34 (1 : Int) (l34.length : Int)).bind fun l40 => (spec_duTurn.l1 l0_2 l40 l15 l18 0 y39).bind fun (l43, l46, i50) => (gt l14 i21).bind fun y63 => (st l14 i21 i50).bind fun l64 => spec_duTurn.l0 a0_0 l0_1 l0_2 k24 l64 l43 l46 (w64 (i21 - 1))) else (some (l14, l15, l18))
def spec_duTurn.f (k : Nat) (a0_0 : Int) (l0_1 : List SStep) (l0_2 : List Int) : Option ((List SStep) × (List Int)) := (mk0 (w64 (a0_0 + (l0_1.length : Int))) (0 : Int)).bind fun l7 => (spec_duTurn.l0 a0_0 l0_1 l0_2 k l7 ([] : List SStep) ([] : List Int) (w64 ((l7.length : Int) - 1))).bind fun (l14, l15, l18) => (ct l14 (0 : Int) a0_0).bind fun l72 => (spec_l1Own.f l72).bind fun l76 => some (l15, l76)
set_option maxHeartbeats 600000 in
set_option maxRecDepth 100000 in
theorem spec_duTurn.calls (k : Nat) {w0 ws : World} {P0 : Nat → Prop} (a0_0 : Int) (A0_1 : Option Addr) (c0_1 : Nat) (n0_1 : Nat) (l0_1 : List SStep) (A0_2 : Option Addr) (c0_2 : Nat) (n0_2 : Nat) (l0_2 : List Int) (Z : Below w0.heap.size w0 ws) (hF : Fr w0 ws P0 [] ws) (R0_1 : Stable ws P0 (fun w => Kd.C kStep w A0_1 n0_1 l0_1)) (hc0_1 : n0_1 ≤ c0_1) (R0_2 : Stable ws P0 (fun w => Kd.C (Kd.int .i64) w A0_2 n0_2 l0_2)) (hc0_2 : n0_2 ≤ c0_2) (r_1 : List SStep) (r_4 : List Int) (h : spec_duTurn.f k a0_0 l0_1 l0_2 = some (r_1, r_4)) :
    Calls Try.prog 95 #[.agg #[.int .i64 a0_0, .slice A0_1 n0_1 c0_1, .slice A0_2 n0_2 c0_2]] ws (Post1 w0 ws P0 (fun ((q_2, q_3, q_5, q_6) : (Option Addr) × Nat × (Option Addr) × Nat) => .agg #[.int .i64 (l0_2.length : Int), .slice q_2 r_1.length q_3, .slice q_5 r_4.length q_6]) (fun ((q_2, q_3, q_5, q_6) : (Option Addr) × Nat × (Option Addr) × Nat) => [row kStep 117 (.slice q_2 r_1.length q_3) r_1, row (Kd.int .i64) 3 (.slice q_5 r_4.length q_6) r_4])) := by
  unfold spec_duTurn.f at h
  obtain rfl := (R0_1 ws (KeptB.refl _ _)).1
  obtain rfl := (R0_2 ws (KeptB.refl _ _)).1
  refine enter Try.func95 rfl Try.ntmps95 rfl hF ?_
  refine c_seq ?_
  refine za0 ?_
  refine o_e rfl (e_box rfl) (fun g1 => ?_)
  refine o_e rfl (zau V36 rfl) (fun g3 => ?_)
  refine o_end ?_
  refine za1 ?_
  refine c_seq ?_
  refine za0 ?_
  refine o_q rfl rfl (q_f F36_2 rfl) ?_
  refine o_q rfl rfl (q_ldb Y22 rfl (fun w h => h.zae (i := 1) rfl) rfl) ?_
  refine o_q rfl rfl (q_len Try.underlying22 rfl) ?_
  refine o_q rfl rfl (q_build (vs := [(0, .int .i64 (l0_2.length : Int))]) (cs := [.int .i64 (l0_2.length : Int), .slice none 0 0, .slice none 0 0]) rfl rfl) ?_
  refine o_e rfl (zau V36 rfl) (fun g5 => ?_)
  refine o_e rfl (zaj (i := 0) rfl rfl rfl Z36 rfl rfl) (fun _ => ?_)
  refine o_end ?_
  refine za1 ?_
  refine c_seq ?_
  refine za0 ?_
  refine o_q rfl rfl (q_f F36_0 rfl) ?_
  refine o_q rfl rfl (q_ldb Y3 rfl (fun w h => h.zae (i := 2) rfl) rfl) ?_
  refine o_q rfl rfl (q_f F36_1 rfl) ?_
  refine o_q rfl rfl (q_ldb Y34 rfl (fun w h => h.zae (i := 2) rfl) rfl) ?_
  refine o_q rfl rfl (q_len Try.underlying34 rfl) ?_
  refine o_q rfl rfl (q_add64 rfl rfl) ?_
  refine za5 h (fun l7 hm8 h => ?_) rfl
  refine o_e rfl (e_make (Kd.int .i64) (0 : Int) Try.underlying22 I3 rfl (by decide) (by decide) (fun _ _ => rfl) rfl rfl hm8) (cur2 (fun A9 c10 => ?_))
  refine o_q rfl rfl (q_asg rfl) ?_
  refine o_end ?_
  refine za1 ?_
  refine c_seq ?_
  refine c_seq ?_
  refine za0 ?_
  refine o_q rfl rfl (za2 rfl) ?_
  refine o_q rfl rfl (q_len Try.underlying22 rfl) ?_
  refine o_q rfl rfl (q_sub64 rfl rfl) ?_
  refine o_q rfl rfl (q_asg rfl) ?_
  refine o_end ?_
  refine za1 ?_
  refine zaf ?_
  refine c_nil kStep 117 ?_
  refine c_nil (Kd.int .i64) 3 ?_
  refine za5 h (fun o29 hl28 hR27 => ?_) rfl
  clear h
  refine zas (σ := (List Int) × (List SStep) × (List Int) × Int × (Option Addr) × Nat × (Option Addr) × Nat) (fun k24 ((l14, l15, l18, i21, A16, c17, A19, c20) : (List Int) × (List SStep) × (List Int) × Int × (Option Addr) × Nat × (Option Addr) × Nat) => spec_duTurn.l0 a0_0 l0_1 l0_2 k24 l14 l15 l18 i21 = some o29) [5, 6, 7, 9, 24, 25, 26, 27, 28, 29, 30, 31, 32, 33, 34, 35, 36, 37, 38, 39, 40, 41, 42, 43, 44, 45, 46, 47, 48, 49, 50, 51, 52, 53] (fun ((l14, l15, l18, i21, A16, c17, A19, c20) : (List Int) × (List SStep) × (List Int) × Int × (Option Addr) × Nat × (Option Addr) × Nat) => [(5, .int .i64 i21)]) (fun ((l14, l15, l18, i21, A16, c17, A19, c20) : (List Int) × (List SStep) × (List Int) × Int × (Option Addr) × Nat × (Option Addr) × Nat) => [row (Kd.int .i64) 3 (.slice A19 l18.length c20) l18, row kStep 117 (.slice A16 l15.length c17) l15, row (Kd.int .i64) 3 (.slice A9 l7.length c10) l14, box g5 36 #[.int .i64 (l0_2.length : Int), .slice A16 l15.length c17, .slice A19 l18.length c20], box g3 36 #[.int .i64 0, .slice none 0 0, .slice none 0 0], box g1 36 #[.int .i64 a0_0, .slice A0_1 l0_1.length c0_1, .slice A0_2 l0_2.length c0_2]]) k (l7, ([] : List SStep), ([] : List Int), w64 ((l7.length : Int) - 1), none, 0, none, 0) hl28 ⟨rfl, trivial⟩ (fun w h => h) ?_
  refine natC (cur8 (fun l14 l15 l18 i21 A16 c17 A19 c20 => fun U30 hJ_ => ?_)) (fun k24 => (cur8 (fun l14 l15 l18 i21 A16 c17 A19 c20 => fun U30 hJ_ => ?_)))
  · skip
    replace hJ_ : spec_duTurn.l0 a0_0 l0_1 l0_2 0 l14 l15 l18 i21 = some o29 := hJ_
    rw [spec_duTurn.l0] at hJ_
    exact noneE hJ_
  · skip
    clear hl28
    have h := hJ_; clear hJ_
    replace h : spec_duTurn.l0 a0_0 l0_1 l0_2 (k24 + 1) l14 l15 l18 i21 = some o29 := h
    rw [spec_duTurn.l0] at h
    refine c_seq ?_
    refine c_seq ?_
    refine za0 ?_
    refine o_q rfl rfl (za2 rfl) ?_
    refine o_q rfl rfl (q_geq rfl rfl) ?_
    refine o_end ?_
    refine za1 ?_
    refine zar _ rfl (fun hb32 => ?_) (fun hb32 => ?_)
    · skip
      replace h := br_t hb32 h
      refine zal ?_
      refine za1 ?_
      refine c_seq ?_
      refine zaf ?_
      refine c_seq ?_
      refine za0 ?_
      refine o_q rfl rfl (q_ldB G36 Z36 rfl (fun w h => h.zae (i := 5) rfl) rfl) ?_
      refine o_q rfl rfl (za2 rfl) ?_
      refine o_q rfl rfl (za2 rfl) ?_
      refine za5 h (fun l34 hx33 h => ?_) rfl
      refine o_e rfl (za9 0 Z Try.func153 N153 rfl rfl rfl (fun w P1 hF hB hS hT => spec_duFactors.calls a0_0 A0_1 c0_1 l0_1.length l0_1 A0_2 c0_2 l0_2.length l0_2 i21 A9 c10 l7.length l14 hB hF (hS _ R0_1) hc0_1 (hS _ R0_2) hc0_2 (hT 2 _ rfl).row (hT 2 _ rfl).cap _ hx33)) (cur2 (fun A35 c36 => ?_))
      refine o_q rfl rfl (q_asg rfl) ?_
      refine o_end ?_
      refine za1 ?_
      refine c_seq ?_
      refine za0 ?_
      refine o_q rfl rfl (za2 rfl) ?_
      refine zaw (p := Sh A35 l34.length l34.length) (fun w h => f_sh (dk := (Kd.int .i64)) h (fun w h => h.zat (i := 0) rfl)) (fun hq37 => ?_)
      refine za5 h (fun y39 hg38 h => ?_) rfl
      refine o_q rfl rfl (q_ix Try.underlying22 Z3 rfl rfl hq37 hg38) ?_
      refine o_q rfl rfl (q_lde (off := 0) Y3 rfl rfl (fun w h => h.zat (i := 0) rfl) hg38 (fun _ _ h => h) rfl) ?_
      refine o_q rfl rfl (q_asg rfl) ?_
      refine o_end ?_
      refine za1 ?_
      refine c_seq ?_
      refine c_seq ?_
      refine za0 ?_
      refine o_q rfl rfl (za2 rfl) ?_
      refine za5 h (fun l40 hz41 h => ?_) rfl
      refine zaw (p := l34.length = l34.length ∧ l34.length ≤ c36) (fun w h => h.row_nc (i := 0) rfl) (fun hk42 => ?_)
      refine o_q rfl rfl (q_ctv Try.underlying22 Z3 rfl ⟨_, rfl⟩ rfl hk42.1 hk42.2 hz41) ?_
      refine o_q rfl rfl (q_len Try.underlying22 rfl) ?_
      refine o_q rfl rfl (za2 rfl) ?_
      refine o_end ?_
      refine za1 ?_
      refine zaf ?_
      refine za5 h (fun o58 hl57 hR56 => ?_) rfl
      clear h
      refine c_fact (p := l40.length ≤ 9223372036854775807) (fun w h => (C_cut (dk := (Kd.int .i64)) rfl hz41 hk42.2 (h.zat (i := 0) rfl)).2.1) (fun hm55 => ?_)
      refine zas (σ := (List Int) × (List SStep) × (List Int) × Int × Int × (Option Addr) × Nat × (Option Addr) × Nat) (fun k53 ((ys52, l43, l46, i49, i50, A44, c45, A47, c48) : (List Int) × (List SStep) × (List Int) × Int × Int × (Option Addr) × Nat × (Option Addr) × Nat) => Rg l40 i49 ys52 ∧ ys52.length = k53 ∧ spec_duTurn.l1 l0_2 ys52 l43 l46 i49 i50 = some o58) [7, 9, 38, 39, 40, 41, 42, 43, 44, 45, 46, 47, 48, 49] (fun ((ys52, l43, l46, i49, i50, A44, c45, A47, c48) : (List Int) × (List SStep) × (List Int) × Int × Int × (Option Addr) × Nat × (Option Addr) × Nat) => [(7, .int .i64 i50), (38, .int .i64 i49)]) (fun ((ys52, l43, l46, i49, i50, A44, c45, A47, c48) : (List Int) × (List SStep) × (List Int) × Int × Int × (Option Addr) × Nat × (Option Addr) × Nat) => [row (Kd.int .i64) 3 (.slice A35 l34.length c36) l34, row (Kd.int .i64) 3 (.slice A47 l46.length c48) l46, row kStep 117 (.slice A44 l43.length c45) l43, row (Kd.int .i64) 3 (.slice A9 l7.length c10) l14, box g5 36 #[.int .i64 (l0_2.length : Int), .slice A44 l43.length c45, .slice A47 l46.length c48], box g3 36 #[.int .i64 0, .slice none 0 0, .slice none 0 0], box g1 36 #[.int .i64 a0_0, .slice A0_1 l0_1.length c0_1, .slice A0_2 l0_2.length c0_2]]) l40.length (l40, l15, l18, 0, y39, A16, c17, A19, c20) ⟨Rg.start _, rfl, hl57⟩ ⟨rfl, rfl, trivial⟩ (fun w h => h) ?_
      refine fun k53 => cur9 (listC (fun l43 l46 i49 i50 A44 c45 A47 c48 U59 hJ_ => ?_) (fun y51 ys52 l43 l46 i49 i50 A44 c45 A47 c48 U59 hJ_ => ?_))
      · skip
        clear hl57
        have hr54 := hJ_.1; have hk60 := hJ_.2.1; have h := hJ_.2.2; clear hJ_
        replace h : spec_duTurn.l1 l0_2 [] l43 l46 i49 i50 = some o58 := h
        rw [spec_duTurn.l1] at h
        refine c_seq ?_
        refine za0 ?_
        refine o_q rfl rfl (q_lss rfl rfl) ?_
        refine o_end ?_
        refine za1 ?_
        refine c_seq ?_
        refine c_false (congrArg Value.bool hr54.ge) ?_
        refine c_exit ?_
        refine za4 ?_
        refine za4 ?_
        have e_ := Option.some.inj h; replace h := hR56; rw [← e_] at h; clear e_
        refine x_hit ?_
        refine za1 ?_
        refine za0 ?_
        refine o_q rfl rfl (za2 rfl) ?_
        refine o_q rfl rfl (za2 rfl) ?_
        refine o_q rfl rfl (za2 rfl) ?_
        refine zaw (p := Sh A9 l7.length l14.length) (fun w h => f_sh (dk := (Kd.int .i64)) h (fun w h => h.zat (i := 3) rfl)) (fun hq61 => ?_)
        refine za5 h (fun y63 hg62 h => ?_) rfl
        refine o_q rfl rfl (q_ix Try.underlying22 Z3 rfl rfl hq61 hg62) ?_
        refine za5 h (fun l64 hs65 h => ?_) rfl
        refine o_e rfl (e_set (i := 3) rfl rfl rfl Z3 hs65) (fun _ => ?_)
        refine o_end ?_
        refine zaq ?_
        refine za1 ?_
        refine za0 ?_
        refine o_q rfl rfl (za2 rfl) ?_
        refine o_q rfl rfl (q_sub64 rfl rfl) ?_
        refine o_q rfl rfl (q_asg rfl) ?_
        refine o_end ?_
        refine zak k24 (l64, l43, l46, w64 (i21 - 1), A44, c45, A47, c48) (Nat.lt_succ_self _) h ⟨rfl, trivial⟩ (fun w h => za7 [1, 2, 3, 4, 5, 6] (by decide) rfl w h) ?_
        repeat (first | exact zaa _ _ | refine zac rfl ?_ | refine zab rfl ?_ | refine zad rfl ?_)
      · skip
        clear hl57
        have hr54 := hJ_.1; have hk60 := hJ_.2.1; have h := hJ_.2.2; clear hJ_
        replace h : spec_duTurn.l1 l0_2 (y51 :: ys52) l43 l46 i49 i50 = some o58 := h
        rw [spec_duTurn.l1] at h
        refine c_seq ?_
        refine za0 ?_
        refine o_q rfl rfl (q_lss rfl rfl) ?_
        refine o_end ?_
        refine za1 ?_
        refine c_seq ?_
        refine c_true (congrArg Value.bool hr54.lt) ?_
        refine zal ?_
        refine za1 ?_
        refine c_seq ?_
        refine zaf ?_
        refine c_seq ?_
        refine za0 ?_
        refine zaw (p := Sh (cutA A35 c36 (1 : Int).toNat 1) l40.length l40.length) (fun w h => f_sh (dk := (Kd.int .i64)) h (fun w h => C_cut (dk := (Kd.int .i64)) rfl hz41 hk42.2 (h.zat (i := 0) rfl))) (fun hq66 => ?_)
        refine o_q rfl rfl (q_ix Try.underlying22 Z3 rfl rfl hq66 hr54.get) ?_
        refine o_q rfl rfl (q_lde (off := 0) Y3 rfl rfl (fun w h => C_cut (dk := (Kd.int .i64)) rfl hz41 hk42.2 (h.zat (i := 0) rfl)) hr54.get (fun _ _ h => h) rfl) ?_
        refine o_q rfl rfl (q_asg rfl) ?_
        refine o_end ?_
        refine za1 ?_
        refine za0 ?_
        refine o_q rfl rfl (q_ldB G36 Z36 rfl (fun w h => h.zae (i := 4) rfl) rfl) ?_
        refine o_q rfl rfl (za2 rfl) ?_
        refine o_q rfl rfl (za2 rfl) ?_
        refine za5 h (fun l68 hx67 h => ?_) rfl
        refine o_e rfl (za9 0 Z Try.func80 N80 rfl rfl rfl (fun w P1 hF hB hS hT => spec_meTimes.calls (l0_2.length : Int) A44 c45 l43.length l43 A47 c48 l46.length l46 i50 y51 hB hF (hT 2 _ rfl).row (hT 2 _ rfl).cap (hT 1 _ rfl).row (hT 1 _ rfl).cap _ hx67)) (cur2 (fun A69 c70 => ?_))
        refine o_q rfl rfl (za2 rfl) ?_
        refine o_q rfl rfl (q_ext rfl rfl) ?_
        refine o_q rfl rfl (q_ext rfl rfl) ?_
        refine o_e rfl (zaj (i := 6) rfl rfl rfl Z36 rfl rfl) (fun _ => ?_)
        refine o_q rfl rfl (q_asg rfl) ?_
        refine o_end ?_
        refine zaq ?_
        refine za1 ?_
        refine za0 ?_
        refine o_q rfl rfl (q_up rfl rfl (hr54.up hm55)) ?_
        refine o_q rfl rfl (za2 rfl) ?_
        refine o_end ?_
        refine x_fact (p := 0 = [].length) (fun w h => (h.row_C (i := 1) rfl).2.1) (fun hn71 => ?_)
        refine zak ys52.length (ys52, l68, [], i49 + 1, w64 ((l0_2.length : Int) + (l43.length : Int)), A69, c70, none, 0) (by rw [← hk60]; exact Nat.lt_succ_self _) ⟨hr54.step, rfl, h⟩ ⟨rfl, rfl, trivial⟩ (f_pickE (L1 := [row kStep 117 (.slice A69 l68.length c70) l68, row (Kd.int .i64) 3 (.slice none 0 0) [], row (Kd.int .i64) 3 (.slice A35 l34.length c36) l34, row (Kd.int .i64) 3 (.slice A47 l46.length c48) l46, row kStep 117 (.slice A44 l43.length c45) l43, row (Kd.int .i64) 3 (.slice A9 l7.length c10) l14, box g5 36 #[.int .i64 (l0_2.length : Int), .slice A69 l68.length c70, .slice none 0 0], box g3 36 #[.int .i64 0, .slice none 0 0, .slice none 0 0], box g1 36 #[.int .i64 a0_0, .slice A0_1 l0_1.length c0_1, .slice A0_2 l0_2.length c0_2]]) rfl [2, 1, 0, 5, 6, 7, 8] (by decide) rfl (by (try rw [hn71]); first | done | rfl)) ?_
        repeat (first | exact zaa _ _ | refine zac rfl ?_ | refine zab rfl ?_ | refine zad rfl ?_)
    · skip
      replace h := br_f hb32 h
      refine c_exit ?_
      refine za4 ?_
      refine za4 ?_
      have e_ := Option.some.inj h; replace h := hR27; rw [← e_] at h; clear e_
      refine x_hit ?_
      refine za1 ?_
      refine c_seq ?_
      refine za0 ?_
      refine o_q rfl rfl (za2 rfl) ?_
      refine o_q rfl rfl (q_f F36_0 rfl) ?_
      refine o_q rfl rfl (q_ldb Y3 rfl (fun w h => h.zae (i := 5) rfl) rfl) ?_
      refine za5 h (fun l72 hz73 h => ?_) rfl
      refine zaw (p := l7.length = l14.length ∧ l7.length ≤ c10) (fun w h => h.row_nc (i := 2) rfl) (fun hk74 => ?_)
      refine o_q rfl rfl (q_ctv Try.underlying22 Z3 rfl rfl ⟨_, rfl⟩ hk74.1 hk74.2 hz73) ?_
      refine za5 h (fun l76 hx75 h => ?_) rfl
      refine o_e rfl (za9 0 Z Try.func154 N154 rfl rfl rfl (fun w P1 hF hB hS hT => spec_l1Own.calls (cutA A9 c10 (0 : Int).toNat 1) (c10 - (0 : Int).toNat) l72.length l72 hB hF (stab_cut (dk := (Kd.int .i64)) rfl hz73 hk74.2 (hT 2 _ rfl).row) (ct_cap hz73 hk74.1 hk74.2) _ hx75)) (cur2 (fun A77 c78 => ?_))
      refine o_q rfl rfl (q_f F36_2 rfl) ?_
      refine o_e rfl (e_store (i := 4) rfl rfl rfl rfl Z22 rfl rfl) (fun _ => ?_)
      refine o_end ?_
      refine za1 ?_
      refine c_seq ?_
      refine za0 ?_
      refine o_q rfl rfl (q_ldB G36 Z36 rfl (fun w h => h.zae (i := 4) rfl) rfl) ?_
      refine o_e rfl (zaj (i := 5) rfl rfl rfl Z36 rfl rfl) (fun _ => ?_)
      refine o_end ?_
      refine za1 ?_
      refine c_ret ?_
      have e0_ := Option.some.inj h; clear h
      have d0_ := (Prod.mk.inj e0_).1; have e1_ := (Prod.mk.inj e0_).2; clear e0_; subst d0_
      subst e1_
      exact x_r1 (A16, c17, A77, c78) Try.results95 (rv_cell rfl G36 Z36 (fun w h => h.zae (i := 5) rfl) rfl) rfl (fun w h => za7 [2, 0] (by decide) rfl w h)

/-! ### loop.example/g01098/spec.TurnPlan: function 39 -/
def spec_TurnPlan.f (k : Nat) (a0_0 : Int) (l0_1 : List SStep) (l0_2 : List Int) : Option (Int × (List SStep) × (List Int) × Bool) := ((spec_plGood.f k a0_0 l0_1 l0_2).bind fun b17 => if b17 = true then ((spec_duCan.f a0_0 l0_1 l0_2).bind fun b20 => some (!b20)) else (some true)).bind fun b10 => if b10 = true then (some (0, ([] : List SStep), ([] : List Int), false)) else ((spec_duTurn.f k a0_0 l0_1 l0_2).bind fun (l23, l24) => (spec_plIf.f k (l0_2.length : Int) l23 l24).bind fun (i30, l31, l32, b33) => some (i30, l31, l32, b33))
set_option maxHeartbeats 600000 in
set_option maxRecDepth 100000 in
theorem spec_TurnPlan.calls (k : Nat) {w0 ws : World} {P0 : Nat → Prop} (a0_0 : Int) (A0_1 : Option Addr) (c0_1 : Nat) (n0_1 : Nat) (l0_1 : List SStep) (A0_2 : Option Addr) (c0_2 : Nat) (n0_2 : Nat) (l0_2 : List Int) (Z : Below w0.heap.size w0 ws) (hF : Fr w0 ws P0 [] ws) (R0_1 : Stable ws P0 (fun w => Kd.C kStep w A0_1 n0_1 l0_1)) (hc0_1 : n0_1 ≤ c0_1) (R0_2 : Stable ws P0 (fun w => Kd.C (Kd.int .i64) w A0_2 n0_2 l0_2)) (hc0_2 : n0_2 ≤ c0_2) (r_1 : Int) (r_2 : List SStep) (r_5 : List Int) (r_8 : Bool) (h : spec_TurnPlan.f k a0_0 l0_1 l0_2 = some (r_1, r_2, r_5, r_8)) :
    Calls Try.prog 39 #[.agg #[.int .i64 a0_0, .slice A0_1 n0_1 c0_1, .slice A0_2 n0_2 c0_2]] ws (Post1 w0 ws P0 (fun ((q_3, q_4, q_6, q_7) : (Option Addr) × Nat × (Option Addr) × Nat) => .tuple #[.agg #[.int .i64 r_1, .slice q_3 r_2.length q_4, .slice q_6 r_5.length q_7], .bool r_8]) (fun ((q_3, q_4, q_6, q_7) : (Option Addr) × Nat × (Option Addr) × Nat) => [row kStep 117 (.slice q_3 r_2.length q_4) r_2, row (Kd.int .i64) 3 (.slice q_6 r_5.length q_7) r_5])) := by
  unfold spec_TurnPlan.f at h
  obtain rfl := (R0_1 ws (KeptB.refl _ _)).1
  obtain rfl := (R0_2 ws (KeptB.refl _ _)).1
  refine enter Try.func39 rfl Try.ntmps39 rfl hF ?_
  refine c_seq ?_
  refine za0 ?_
  refine o_e rfl (e_box rfl) (fun g1 => ?_)
  refine o_e rfl (zau V36 rfl) (fun g3 => ?_)
  refine o_q rfl rfl (q_asg rfl) ?_
  refine o_end ?_
  refine za1 ?_
  refine c_seq ?_
  refine za5 h (fun o11 hl12 hR13 => ?_) rfl
  clear h
  refine c_cutJ (σ := Bool) (fun b10 => some b10 = some o11) [4, 5, 6, 7, 8, 9, 10, 11] (fun b10 => [(11, .bool b10)]) (fun b10 => [box g1 36 #[.int .i64 a0_0, .slice A0_1 l0_1.length c0_1, .slice A0_2 l0_2.length c0_2], box g3 36 #[.int .i64 0, .slice none 0 0, .slice none 0 0]]) ?_ ?_
  · skip
    have h := hl12; clear hl12
    clear hR13
    refine za0 ?_
    refine o_q rfl rfl (q_ldB G36 Z36 rfl (fun w h => h.zae (i := 1) rfl) rfl) ?_
    refine za5 h (fun b17 hx16 h => ?_) rfl
    refine o_e rfl (za9 0 Z Try.func72 N72 rfl rfl rfl (fun w P1 hF hB hS hT => spec_plGood.calls k a0_0 A0_1 c0_1 l0_1.length l0_1 A0_2 c0_2 l0_2.length l0_2 hB hF (hS _ R0_1) hc0_1 (hS _ R0_2) hc0_2 _ hx16)) (fun _ => ?_)
    refine o_q rfl rfl (q_not rfl) ?_
    refine o_q rfl rfl (za2 rfl) ?_
    refine byB b17 (fun hb18 => ?_) (fun hb18 => ?_)
    · replace h := bb_t hb18 h
      refine o_w (za6 rfl rfl rfl (congrArg (fun b => Value.bool (!(b))) hb18)) rfl (q_ldB G36 Z36 rfl (fun w h => h.zae (i := 1) rfl) rfl) ?_
      refine za5 h (fun b20 hx19 h => ?_) rfl
      refine o_ew (za6 rfl rfl rfl (congrArg (fun b => Value.bool (!(b))) hb18)) (za9 0 Z Try.func94 N94 rfl rfl rfl (fun w P1 hF hB hS hT => spec_duCan.calls a0_0 A0_1 c0_1 l0_1.length l0_1 A0_2 c0_2 l0_2.length l0_2 hB hF (hS _ R0_1) hc0_1 (hS _ R0_2) hc0_2 _ hx19)) (fun _ => ?_)
      refine o_w (za6 rfl rfl rfl (congrArg (fun b => Value.bool (!(b))) hb18)) rfl (q_not rfl) ?_
      refine o_q rfl rfl (zav false (congrArg (fun b => Value.bool (!(b))) hb18) rfl) ?_
      refine o_end ?_
      refine x_meetJ (!b20) h ⟨rfl, trivial⟩ (fun w h => za7 [1, 0] (by decide) rfl w h) ?_
      repeat (first | exact zaa _ _ | refine zac rfl ?_ | refine zab rfl ?_ | refine zad rfl ?_)
    · replace h := bb_f hb18 h
      refine @o_n _ _ _ _ _ _ _ _ _ _ _ 8 (za3 rfl rfl rfl (congrArg (fun b => Value.bool (!(b))) hb18) rfl) (Eq.refl (some 8)) ?_
      refine @o_n _ _ _ _ _ _ _ _ _ _ _ 9 (za3 rfl rfl rfl (congrArg (fun b => Value.bool (!(b))) hb18) rfl) (Eq.refl (some 9)) ?_
      refine @o_n _ _ _ _ _ _ _ _ _ _ _ 10 (za3 rfl rfl rfl (congrArg (fun b => Value.bool (!(b))) hb18) rfl) (Eq.refl (some 10)) ?_
      refine o_q rfl rfl (zav true (congrArg (fun b => Value.bool (!(b))) hb18) rfl) ?_
      refine o_end ?_
      refine x_meetJ true h ⟨rfl, trivial⟩ (fun w h => za7 [1, 0] (by decide) rfl w h) ?_
      repeat (first | exact zaa _ _ | refine zac rfl ?_ | refine zab rfl ?_ | refine zad rfl ?_)
  · skip
    refine (fun b10 => fun U14 hJ15 => ?_)
    have e_ := Option.some.inj hJ15; have h := hR13; rw [← e_] at h; clear e_ hJ15 hR13 hl12
    refine zar _ rfl (fun hb21 => ?_) (fun hb21 => ?_)
    · skip
      replace h := bb_t hb21 h
      refine c_seq ?_
      refine za0 ?_
      refine o_q rfl rfl (q_build (vs := []) (cs := [.int .i64 0, .slice none 0 0, .slice none 0 0]) rfl rfl) ?_
      refine o_e rfl (zaj (i := 1) rfl rfl rfl Z36 rfl rfl) (fun _ => ?_)
      refine o_q rfl rfl (q_asg rfl) ?_
      refine o_end ?_
      refine za1 ?_
      refine c_ret ?_
      refine za8 ?_
      refine x_nil kStep 117 ?_
      refine x_nil (Kd.int .i64) 3 ?_
      have e0_ := Option.some.inj h; clear h
      have d0_ := (Prod.mk.inj e0_).1; have e1_ := (Prod.mk.inj e0_).2; clear e0_; subst d0_
      have d1_ := (Prod.mk.inj e1_).1; have e2_ := (Prod.mk.inj e1_).2; clear e1_; subst d1_
      have d2_ := (Prod.mk.inj e2_).1; have e3_ := (Prod.mk.inj e2_).2; clear e2_; subst d2_
      subst e3_
      exact x_r2 (none, 0, none, 0) Try.results39 (rv_cell rfl G36 Z36 (fun w h => h.zae (i := 3) rfl) rfl) (zah rfl) rfl (fun w h => za7 [1, 0] (by decide) rfl w h)
    · skip
      replace h := bb_f hb21 h
      refine zal ?_
      refine za1 ?_
      refine c_seq ?_
      refine za0 ?_
      refine o_q rfl rfl (q_ldB G36 Z36 rfl (fun w h => h.zae (i := 0) rfl) rfl) ?_
      refine bindE2 h (fun l23 l24 hx22 h => ?_) rfl
      refine o_e rfl (za9 0 Z Try.func95 N95 rfl rfl rfl (fun w P1 hF hB hS hT => spec_duTurn.calls k a0_0 A0_1 c0_1 l0_1.length l0_1 A0_2 c0_2 l0_2.length l0_2 hB hF (hS _ R0_1) hc0_1 (hS _ R0_2) hc0_2 _ _ hx22)) (cur4 (fun A25 c26 A27 c28 => ?_))
      refine bindE4 h (fun i30 l31 l32 b33 hx29 h => ?_) rfl
      refine o_e rfl (za9 2 Z Try.func82 N82 rfl rfl rfl (fun w P1 hF hB hS hT => spec_plIf.calls k (l0_2.length : Int) A25 c26 l23.length l23 A27 c28 l24.length l24 hB hF _ _ _ _ hx29)) (cur4 (fun A34 c35 A36 c37 => ?_))
      refine o_q rfl rfl (q_ext rfl rfl) ?_
      refine o_q rfl rfl (q_ext rfl rfl) ?_
      refine o_e rfl (zaj (i := 3) rfl rfl rfl Z36 rfl rfl) (fun _ => ?_)
      refine o_q rfl rfl (q_asg rfl) ?_
      refine o_end ?_
      refine za1 ?_
      refine c_ret ?_
      have e0_ := Option.some.inj h; clear h
      have d0_ := (Prod.mk.inj e0_).1; have e1_ := (Prod.mk.inj e0_).2; clear e0_; subst d0_
      have d1_ := (Prod.mk.inj e1_).1; have e2_ := (Prod.mk.inj e1_).2; clear e1_; subst d1_
      have d2_ := (Prod.mk.inj e2_).1; have e3_ := (Prod.mk.inj e2_).2; clear e2_; subst d2_
      subst e3_
      exact x_r2 (A34, c35, A36, c37) Try.results39 (rv_cell rfl G36 Z36 (fun w h => h.zae (i := 3) rfl) rfl) (zah rfl) rfl (fun w h => za7 [0, 1] (by decide) rfl w h)

/-! ### loop.example/g01098/spec.VectorPlan: function 41 -/
def spec_VectorPlan.f (k : Nat) (l0 : List Int) : Option (Int × (List SStep) × (List Int) × Bool) := (spec_SquaresPlan.f k l0).bind fun (i4, l5, l6, b7) => if b7 = true then ((spec_TurnPlan.f k i4 l5 l6).bind fun (i16, l17, l18, b19) => some (i16, l17, l18, b19)) else (some (0, ([] : List SStep), ([] : List Int), false))
set_option maxHeartbeats 600000 in
set_option maxRecDepth 100000 in
theorem spec_VectorPlan.calls (k : Nat) {w0 ws : World} {P0 : Nat → Prop} (A0 : Option Addr) (c0 : Nat) (n0 : Nat) (l0 : List Int) (Z : Below w0.heap.size w0 ws) (hF : Fr w0 ws P0 [] ws) (R0 : Stable ws P0 (fun w => Kd.C (Kd.int .i64) w A0 n0 l0)) (hc0 : n0 ≤ c0) (r_1 : Int) (r_2 : List SStep) (r_5 : List Int) (r_8 : Bool) (h : spec_VectorPlan.f k l0 = some (r_1, r_2, r_5, r_8)) :
    Calls Try.prog 41 #[.slice A0 n0 c0] ws (Post1 w0 ws P0 (fun ((q_3, q_4, q_6, q_7) : (Option Addr) × Nat × (Option Addr) × Nat) => .tuple #[.agg #[.int .i64 r_1, .slice q_3 r_2.length q_4, .slice q_6 r_5.length q_7], .bool r_8]) (fun ((q_3, q_4, q_6, q_7) : (Option Addr) × Nat × (Option Addr) × Nat) => [row kStep 117 (.slice q_3 r_2.length q_4) r_2, row (Kd.int .i64) 3 (.slice q_6 r_5.length q_7) r_5])) := by
  unfold spec_VectorPlan.f at h
  obtain rfl := (R0 ws (KeptB.refl _ _)).1
  refine enter Try.func41 rfl Try.ntmps41 rfl hF ?_
  refine c_seq ?_
  refine za0 ?_
  refine o_e rfl (zau V36 rfl) (fun g1 => ?_)
  refine o_q rfl rfl (q_asg rfl) ?_
  refine o_end ?_
  refine za1 ?_
  refine c_seq ?_
  refine za0 ?_
  refine o_q rfl rfl (za2 rfl) ?_
  refine bindE4 h (fun i4 l5 l6 b7 hx3 h => ?_) rfl
  refine o_e rfl (za9 0 Z Try.func37 N37 rfl rfl rfl (fun w P1 hF hB hS hT => spec_SquaresPlan.calls k A0 c0 l0.length l0 hB hF (hS _ R0) hc0 _ _ _ _ hx3)) (cur4 (fun A8 c9 A10 c11 => ?_))
  refine o_q rfl rfl (za2 rfl) ?_
  refine o_q rfl rfl (q_ext rfl rfl) ?_
  refine o_q rfl rfl (q_ext rfl rfl) ?_
  refine o_e rfl (zau V36 rfl) (fun g12 => ?_)
  refine o_e rfl (zaj (i := 0) rfl rfl rfl Z36 rfl rfl) (fun _ => ?_)
  refine o_q rfl rfl (q_asg rfl) ?_
  refine o_end ?_
  refine za1 ?_
  refine c_seq ?_
  refine c_seq ?_
  refine za0 ?_
  refine o_q rfl rfl (za2 rfl) ?_
  refine o_q rfl rfl (q_not rfl) ?_
  refine o_end ?_
  refine za1 ?_
  refine zar _ rfl (fun hb14 => ?_) (fun hb14 => ?_)
  · replace hb14 := nt_t hb14
    replace h := bb_f hb14 h
    refine c_seq ?_
    refine za0 ?_
    refine o_q rfl rfl (q_build (vs := []) (cs := [.int .i64 0, .slice none 0 0, .slice none 0 0]) rfl rfl) ?_
    refine o_e rfl (zaj (i := 3) rfl rfl rfl Z36 rfl rfl) (fun _ => ?_)
    refine o_q rfl rfl (q_asg rfl) ?_
    refine o_end ?_
    refine za1 ?_
    refine c_ret ?_
    refine za8 ?_
    refine x_nil kStep 117 ?_
    refine x_nil (Kd.int .i64) 3 ?_
    have e0_ := Option.some.inj h; clear h
    have d0_ := (Prod.mk.inj e0_).1; have e1_ := (Prod.mk.inj e0_).2; clear e0_; subst d0_
    have d1_ := (Prod.mk.inj e1_).1; have e2_ := (Prod.mk.inj e1_).2; clear e1_; subst d1_
    have d2_ := (Prod.mk.inj e2_).1; have e3_ := (Prod.mk.inj e2_).2; clear e2_; subst d2_
    subst e3_
    exact x_r2 (none, 0, none, 0) Try.results41 (rv_cell rfl G36 Z36 (fun w h => h.zae (i := 5) rfl) rfl) (zah rfl) rfl (fun w h => za7 [1, 0] (by decide) rfl w h)
  · replace hb14 := nt_f hb14
    replace h := bb_t hb14 h
    refine zal ?_
    refine za1 ?_
    refine c_seq ?_
    refine za0 ?_
    refine o_q rfl rfl (q_ldB G36 Z36 rfl (fun w h => h.zae (i := 0) rfl) rfl) ?_
    refine bindE4 h (fun i16 l17 l18 b19 hx15 h => ?_) rfl
    refine o_e rfl (za9 0 Z Try.func39 N39 rfl rfl rfl (fun w P1 hF hB hS hT => spec_TurnPlan.calls k i4 A8 c9 l5.length l5 A10 c11 l6.length l6 hB hF (hT 1 _ rfl).row (hT 1 _ rfl).cap (hT 2 _ rfl).row (hT 2 _ rfl).cap _ _ _ _ hx15)) (cur4 (fun A20 c21 A22 c23 => ?_))
    refine o_q rfl rfl (q_ext rfl rfl) ?_
    refine o_q rfl rfl (q_ext rfl rfl) ?_
    refine o_e rfl (zaj (i := 5) rfl rfl rfl Z36 rfl rfl) (fun _ => ?_)
    refine o_q rfl rfl (q_asg rfl) ?_
    refine o_end ?_
    refine za1 ?_
    refine c_ret ?_
    have e0_ := Option.some.inj h; clear h
    have d0_ := (Prod.mk.inj e0_).1; have e1_ := (Prod.mk.inj e0_).2; clear e0_; subst d0_
    have d1_ := (Prod.mk.inj e1_).1; have e2_ := (Prod.mk.inj e1_).2; clear e1_; subst d1_
    have d2_ := (Prod.mk.inj e2_).1; have e3_ := (Prod.mk.inj e2_).2; clear e2_; subst d2_
    subst e3_
    exact x_r2 (A20, c21, A22, c23) Try.results41 (rv_cell rfl G36 Z36 (fun w h => h.zae (i := 5) rfl) rfl) (zah rfl) rfl (fun w h => za7 [0, 1] (by decide) rfl w h)

/-! ### loop.example/g01098/spec.VectorCosts: function 43 -/
def spec_VectorCosts.f (k : Nat) (l0 : List Int) : Option (Int × Int × Bool) := (spec_TogetherPlan.f k l0).bind fun (i2, l3, l4, b5) => (spec_VectorPlan.f k l0).bind fun (i13, l14, l15, b16) => (if b5 = true then (some (!b16)) else (some true)).bind fun b24 => if b24 = true then (some (0, 0, false)) else (some ((l3.length : Int), (l14.length : Int), true))
set_option maxHeartbeats 600000 in
set_option maxRecDepth 100000 in
theorem spec_VectorCosts.calls (k : Nat) {w0 ws : World} {P0 : Nat → Prop} (A0 : Option Addr) (c0 : Nat) (n0 : Nat) (l0 : List Int) (Z : Below w0.heap.size w0 ws) (hF : Fr w0 ws P0 [] ws) (R0 : Stable ws P0 (fun w => Kd.C (Kd.int .i64) w A0 n0 l0)) (hc0 : n0 ≤ c0) (r_1 : Int) (r_2 : Int) (r_3 : Bool) (h : spec_VectorCosts.f k l0 = some (r_1, r_2, r_3)) :
    Calls Try.prog 43 #[.slice A0 n0 c0] ws (Post1 w0 ws P0 (fun (_ : Unit) => .tuple #[.int .i64 r_1, .int .i64 r_2, .bool r_3]) (fun (_ : Unit) => [])) := by
  unfold spec_VectorCosts.f at h
  obtain rfl := (R0 ws (KeptB.refl _ _)).1
  refine enter Try.func43 rfl Try.ntmps43 rfl hF ?_
  refine c_seq ?_
  refine za0 ?_
  refine o_q rfl rfl (q_asg rfl) ?_
  refine o_q rfl rfl (q_asg rfl) ?_
  refine o_q rfl rfl (q_asg rfl) ?_
  refine o_end ?_
  refine za1 ?_
  refine c_seq ?_
  refine za0 ?_
  refine o_q rfl rfl (za2 rfl) ?_
  refine bindE4 h (fun i2 l3 l4 b5 hx1 h => ?_) rfl
  refine o_e rfl (za9 0 Z Try.func98 N98 rfl rfl rfl (fun w P1 hF hB hS hT => spec_TogetherPlan.calls k A0 c0 l0.length l0 hB hF (hS _ R0) hc0 _ _ _ _ hx1)) (cur4 (fun A6 c7 A8 c9 => ?_))
  refine o_q rfl rfl (za2 rfl) ?_
  refine o_q rfl rfl (q_ext rfl rfl) ?_
  refine o_q rfl rfl (q_ext rfl rfl) ?_
  refine o_e rfl (zau V36 rfl) (fun g10 => ?_)
  refine o_e rfl (zaj (i := 0) rfl rfl rfl Z36 rfl rfl) (fun _ => ?_)
  refine o_q rfl rfl (q_asg rfl) ?_
  refine o_end ?_
  refine za1 ?_
  refine c_seq ?_
  refine za0 ?_
  refine o_q rfl rfl (za2 rfl) ?_
  refine bindE4 h (fun i13 l14 l15 b16 hx12 h => ?_) rfl
  refine o_e rfl (za9 0 Z Try.func41 N41 rfl rfl rfl (fun w P1 hF hB hS hT => spec_VectorPlan.calls k A0 c0 l0.length l0 hB hF (hS _ R0) hc0 _ _ _ _ hx12)) (cur4 (fun A17 c18 A19 c20 => ?_))
  refine o_q rfl rfl (za2 rfl) ?_
  refine o_q rfl rfl (q_ext rfl rfl) ?_
  refine o_q rfl rfl (q_ext rfl rfl) ?_
  refine o_e rfl (zau V36 rfl) (fun g21 => ?_)
  refine o_e rfl (zaj (i := 0) rfl rfl rfl Z36 rfl rfl) (fun _ => ?_)
  refine o_q rfl rfl (q_asg rfl) ?_
  refine o_end ?_
  refine za1 ?_
  refine c_seq ?_
  refine za5 h (fun o25 hl26 hR27 => ?_) rfl
  clear h
  refine c_cutJ (σ := Bool) (fun b24 => some b24 = some o25) [19, 20, 21, 22, 23, 24] (fun b24 => [(24, .bool b24)]) (fun b24 => [box g10 36 #[.int .i64 i2, .slice A6 l3.length c7, .slice A8 l4.length c9], row kStep 117 (.slice A6 l3.length c7) l3, row (Kd.int .i64) 3 (.slice A8 l4.length c9) l4, box g21 36 #[.int .i64 i13, .slice A17 l14.length c18, .slice A19 l15.length c20], row kStep 117 (.slice A17 l14.length c18) l14, row (Kd.int .i64) 3 (.slice A19 l15.length c20) l15]) ?_ ?_
  · skip
    have h := hl26; clear hl26
    clear hR27
    refine za0 ?_
    refine o_q rfl rfl (za2 rfl) ?_
    refine o_q rfl rfl (q_not rfl) ?_
    refine o_q rfl rfl (za2 rfl) ?_
    refine byB b5 (fun hb30 => ?_) (fun hb30 => ?_)
    · replace h := bb_t hb30 h
      refine o_w (za6 rfl rfl rfl (congrArg (fun b => Value.bool (!(b))) hb30)) rfl (za2 rfl) ?_
      refine o_w (za6 rfl rfl rfl (congrArg (fun b => Value.bool (!(b))) hb30)) rfl (q_not rfl) ?_
      refine o_q rfl rfl (zav false (congrArg (fun b => Value.bool (!(b))) hb30) rfl) ?_
      refine o_end ?_
      refine x_meetJ (!b16) h ⟨rfl, trivial⟩ (fun w h => za7 [3, 4, 5, 0, 1, 2] (by decide) rfl w h) ?_
      repeat (first | exact zaa _ _ | refine zac rfl ?_ | refine zab rfl ?_ | refine zad rfl ?_)
    · replace h := bb_f hb30 h
      refine @o_n _ _ _ _ _ _ _ _ _ _ _ 22 (za3 rfl rfl rfl (congrArg (fun b => Value.bool (!(b))) hb30) rfl) (Eq.refl (some 22)) ?_
      refine @o_n _ _ _ _ _ _ _ _ _ _ _ 23 (za3 rfl rfl rfl (congrArg (fun b => Value.bool (!(b))) hb30) rfl) (Eq.refl (some 23)) ?_
      refine o_q rfl rfl (zav true (congrArg (fun b => Value.bool (!(b))) hb30) rfl) ?_
      refine o_end ?_
      refine x_meetJ true h ⟨rfl, trivial⟩ (fun w h => za7 [3, 4, 5, 0, 1, 2] (by decide) rfl w h) ?_
      repeat (first | exact zaa _ _ | refine zac rfl ?_ | refine zab rfl ?_ | refine zad rfl ?_)
  · skip
    refine (fun b24 => fun U28 hJ29 => ?_)
    have e_ := Option.some.inj hJ29; have h := hR27; rw [← e_] at h; clear e_ hJ29 hR27 hl26
    refine zar _ rfl (fun hb31 => ?_) (fun hb31 => ?_)
    · skip
      replace h := bb_t hb31 h
      refine c_seq ?_
      refine za0 ?_
      refine o_q rfl rfl (q_asg rfl) ?_
      refine o_q rfl rfl (q_asg rfl) ?_
      refine o_q rfl rfl (q_asg rfl) ?_
      refine o_end ?_
      refine za1 ?_
      refine c_ret ?_
      refine za8 ?_
      have e0_ := Option.some.inj h; clear h
      have d0_ := (Prod.mk.inj e0_).1; have e1_ := (Prod.mk.inj e0_).2; clear e0_; subst d0_
      have d1_ := (Prod.mk.inj e1_).1; have e2_ := (Prod.mk.inj e1_).2; clear e1_; subst d1_
      subst e2_
      exact x_r3 () Try.results43 (zah rfl) (zah rfl) (zah rfl) rfl (fun w h => za7 [] (by decide) rfl w h)
    · skip
      replace h := bb_f hb31 h
      refine zal ?_
      refine za1 ?_
      refine c_seq ?_
      refine a_start (ds := []) MO rfl ?_
      refine zai 0 rfl rfl rfl (by kernel_rfl) (fun _ _ _ h => h) (q_f F36_1 rfl) ?_
      refine a_take 1 rfl rfl rfl (by kernel_rfl) (fun _ _ _ h => h) (fun w h => h) (q_ldb Y34 rfl (fun w h => h.zae (i := 0) rfl) rfl) ?_
      refine zai 2 rfl rfl rfl (by kernel_rfl) (fun _ _ _ h => h) (q_len Try.underlying34 rfl) ?_
      refine zai 3 rfl rfl rfl (by kernel_rfl) (fun _ _ _ h => h) (q_f F36_1 rfl) ?_
      refine a_take 4 rfl rfl rfl (by kernel_rfl) (fun _ _ _ h => h) (fun w h => h) (q_ldb Y34 rfl (fun w h => h.zae (i := 3) rfl) rfl) ?_
      refine zai 5 rfl rfl rfl (by kernel_rfl) (fun _ _ _ h => h) (q_len Try.underlying34 rfl) ?_
      refine zai 6 rfl rfl rfl (by kernel_rfl) (fun _ _ _ h => h) (q_asg rfl) ?_
      refine zai 7 rfl rfl rfl (by kernel_rfl) (fun _ _ _ h => h) (q_asg rfl) ?_
      refine zai 8 rfl rfl rfl (by kernel_rfl) (fun _ _ _ h => h) (q_asg rfl) ?_
      refine a_done (by kernel_rfl) ?_
      refine za1 ?_
      refine c_ret ?_
      have e0_ := Option.some.inj h; clear h
      have d0_ := (Prod.mk.inj e0_).1; have e1_ := (Prod.mk.inj e0_).2; clear e0_; subst d0_
      have d1_ := (Prod.mk.inj e1_).1; have e2_ := (Prod.mk.inj e1_).2; clear e1_; subst d1_
      subst e2_
      exact x_r3 () Try.results43 (zah rfl) (zah rfl) (zah rfl) rfl (fun w h => za7 [] (by decide) rfl w h)

/-! ### loop.example/g01098/impl.TogetherPlan$1: function 158 -/
def impl_TogetherPlan_1.f (a0 : Int) : Option Bool := (impl_in.f a0 0 1000000).bind fun b2 => some (!b2)
set_option maxHeartbeats 600000 in
set_option maxRecDepth 100000 in
theorem impl_TogetherPlan_1.calls {w0 ws : World} {P0 : Nat → Prop} (a0 : Int) (Z : Below w0.heap.size w0 ws) (hF : Fr w0 ws P0 [] ws)  (r_1 : Bool) (h : impl_TogetherPlan_1.f a0 = some r_1) :
    Calls Try.prog 158 #[.int .i64 a0] ws (Post1 w0 ws P0 (fun (_ : Unit) => .bool r_1) (fun (_ : Unit) => [])) := by
  unfold impl_TogetherPlan_1.f at h
  refine enter Try.func158 rfl Try.ntmps158 rfl hF ?_
  refine c_seq ?_
  refine za0 ?_
  refine o_q rfl rfl (q_asg rfl) ?_
  refine o_end ?_
  refine za1 ?_
  refine c_seq ?_
  refine za0 ?_
  refine o_q rfl rfl (za2 rfl) ?_
  refine za5 h (fun b2 hx1 h => ?_) rfl
  refine o_e rfl (za9 0 Z Try.func83 N83 rfl rfl rfl (fun w P1 hF hB hS hT => impl_in.calls a0 0 1000000 hB hF _ hx1)) (fun _ => ?_)
  refine o_q rfl rfl (q_not rfl) ?_
  refine o_q rfl rfl (q_asg rfl) ?_
  refine o_end ?_
  refine za1 ?_
  refine c_ret ?_
  have e0_ := Option.some.inj h; clear h
  subst e0_
  exact x_r1 () Try.results158 (zah rfl) rfl (fun w h => za7 [] (by decide) rfl w h)

/-! ### slices.IndexFunc[[]int,int]: function 148 -/
def slices_IndexFunc_int_int_4.l0 : (List Int) → Int → Option ((Int) ⊕ (Unit))
  | [], i1 => some (.inr ())
  | y2 :: ys3, i1 => (impl_TogetherPlan_1.f y2).bind fun b14 => if b14 = true then (some (.inl i1)) else (slices_IndexFunc_int_int_4.l0 ys3 (i1 + 1))
def slices_IndexFunc_int_int_4.f (l0 : List Int) : Option Int := (slices_IndexFunc_int_int_4.l0 l0 0).bind fun o_ => match o_ with | .inl r_ => some r_ | .inr _ => some (-1)
set_option maxHeartbeats 600000 in
set_option maxRecDepth 100000 in
theorem slices_IndexFunc_int_int_4.calls {w0 ws : World} {P0 : Nat → Prop} (A0 : Option Addr) (c0 : Nat) (n0 : Nat) (l0 : List Int) (Z : Below w0.heap.size w0 ws) (hF : Fr w0 ws P0 [] ws) (R0 : Stable ws P0 (fun w => Kd.C (Kd.int .i64) w A0 n0 l0)) (hc0 : n0 ≤ c0) (r_1 : Int) (h : slices_IndexFunc_int_int_4.f l0 = some r_1) :
    Calls Try.prog 148 #[.slice A0 n0 c0, .func (.func 158) #[] #[]] ws (Post1 w0 ws P0 (fun (_ : Unit) => .int .i64 r_1) (fun (_ : Unit) => [])) := by
  unfold slices_IndexFunc_int_int_4.f at h
  obtain rfl := (R0 ws (KeptB.refl _ _)).1
  refine enter Try.func148 rfl Try.ntmps148 rfl hF ?_
  refine c_seq ?_
  refine za0 ?_
  refine o_q rfl rfl (q_asg rfl) ?_
  refine o_end ?_
  refine za1 ?_
  refine c_seq ?_
  refine c_seq ?_
  refine za0 ?_
  refine o_q rfl rfl (za2 rfl) ?_
  refine o_q rfl rfl (q_len Try.underlying22 rfl) ?_
  refine o_q rfl rfl (za2 rfl) ?_
  refine o_end ?_
  refine za1 ?_
  refine zaf ?_
  refine za5 h (fun o9 hl8 hR7 => ?_) rfl
  clear h
  refine c_fact (p := l0.length ≤ 9223372036854775807) (fun w h => (R0.now Z h).2.1) (fun hm6 => ?_)
  refine zas (σ := (List Int) × Int) (fun k4 ((ys3, i1) : (List Int) × Int) => Rg l0 i1 ys3 ∧ ys3.length = k4 ∧ slices_IndexFunc_int_int_4.l0 ys3 i1 = some o9) [4, 5, 8, 9, 10, 11, 12, 13, 14, 15, 16, 17, 18] (fun ((ys3, i1) : (List Int) × Int) => [(8, .int .i64 i1)]) (fun ((ys3, i1) : (List Int) × Int) => []) l0.length (l0, 0) ⟨Rg.start _, rfl, hl8⟩ ⟨rfl, trivial⟩ (fun w h => h) ?_
  refine fun k4 => cur2 (listC (fun i1 U10 hJ_ => ?_) (fun y2 ys3 i1 U10 hJ_ => ?_))
  · skip
    clear hl8
    have hr5 := hJ_.1; have hk11 := hJ_.2.1; have h := hJ_.2.2; clear hJ_
    replace h : slices_IndexFunc_int_int_4.l0 [] i1 = some o9 := h
    rw [slices_IndexFunc_int_int_4.l0] at h
    refine c_seq ?_
    refine za0 ?_
    refine o_q rfl rfl (q_lss rfl rfl) ?_
    refine o_end ?_
    refine za1 ?_
    refine c_seq ?_
    refine c_false (congrArg Value.bool hr5.ge) ?_
    refine c_exit ?_
    refine za4 ?_
    refine za4 ?_
    have e_ := Option.some.inj h; replace h := hR7; rw [← e_] at h; clear e_
    refine x_hit ?_
    refine za1 ?_
    refine c_seq ?_
    refine za0 ?_
    refine o_q rfl rfl (q_asg rfl) ?_
    refine o_end ?_
    refine za1 ?_
    refine c_ret ?_
    have e0_ := Option.some.inj h; clear h
    subst e0_
    exact x_r1 () Try.results148 (zah rfl) rfl (fun w h => za7 [] (by decide) rfl w h)
  · skip
    clear hl8
    have hr5 := hJ_.1; have hk11 := hJ_.2.1; have h := hJ_.2.2; clear hJ_
    replace h : slices_IndexFunc_int_int_4.l0 (y2 :: ys3) i1 = some o9 := h
    rw [slices_IndexFunc_int_int_4.l0] at h
    refine c_seq ?_
    refine za0 ?_
    refine o_q rfl rfl (q_lss rfl rfl) ?_
    refine o_end ?_
    refine za1 ?_
    refine c_seq ?_
    refine c_true (congrArg Value.bool hr5.lt) ?_
    refine zal ?_
    refine za1 ?_
    refine c_seq ?_
    refine zaf ?_
    refine c_seq ?_
    refine za0 ?_
    refine o_q rfl rfl (za2 rfl) ?_
    refine o_q rfl rfl (q_asg rfl) ?_
    refine o_end ?_
    refine za1 ?_
    refine c_seq ?_
    refine za0 ?_
    refine o_q rfl rfl (za2 rfl) ?_
    refine o_q rfl rfl (za2 rfl) ?_
    refine o_q rfl rfl (za2 rfl) ?_
    refine zaw (p := Sh A0 l0.length l0.length) (fun w h => f_sh (dk := (Kd.int .i64)) h (fun w h => R0.now Z h)) (fun hq12 => ?_)
    refine o_q rfl rfl (q_ix Try.underlying22 Z3 rfl rfl hq12 hr5.get) ?_
    refine o_q rfl rfl (q_lde (off := 0) Y3 rfl rfl (fun w h => R0.now Z h) hr5.get (fun _ _ h => h) rfl) ?_
    refine za5 h (fun b14 hx13 h => ?_) rfl
    refine o_e rfl (za9 0 Z Try.func158 N158 rfl rfl rfl (fun w P1 hF hB hS hT => impl_TogetherPlan_1.calls y2 hB hF _ hx13)) (fun _ => ?_)
    refine o_end ?_
    refine za1 ?_
    refine zar _ rfl (fun hb15 => ?_) (fun hb15 => ?_)
    · skip
      replace h := bb_t hb15 h
      refine c_seq ?_
      refine za0 ?_
      refine o_q rfl rfl (za2 rfl) ?_
      refine o_q rfl rfl (q_asg rfl) ?_
      refine o_end ?_
      refine za1 ?_
      refine c_ret ?_
      refine zam ?_
      refine za8 ?_
      refine za8 ?_
      have e_ := Option.some.inj h; replace h := hR7; rw [← e_] at h; clear e_
      refine zam ?_
      refine za8 ?_
      have e0_ := Option.some.inj h; clear h
      subst e0_
      exact x_r1 () Try.results148 (zah rfl) rfl (fun w h => za7 [] (by decide) rfl w h)
    · skip
      replace h := bb_f hb15 h
      refine zal ?_
      refine zaq ?_
      refine za1 ?_
      refine za0 ?_
      refine o_q rfl rfl (q_up rfl rfl (hr5.up hm6)) ?_
      refine o_q rfl rfl (za2 rfl) ?_
      refine o_end ?_
      refine zak ys3.length (ys3, i1 + 1) (by rw [← hk11]; exact Nat.lt_succ_self _) ⟨hr5.step, rfl, h⟩ ⟨rfl, trivial⟩ (fun w h => za7 [] (by decide) rfl w h) ?_
      repeat (first | exact zaa _ _ | refine zac rfl ?_ | refine zab rfl ?_ | refine zad rfl ?_)

/-! ### slices.ContainsFunc[[]int,int]: function 84 -/
def slices_ContainsFunc_int_int_4.f (l0 : List Int) : Option Bool := (slices_IndexFunc_int_int_4.f l0).bind fun i2 => some (decide (0 ≤ i2))
set_option maxHeartbeats 600000 in
set_option maxRecDepth 100000 in
theorem slices_ContainsFunc_int_int_4.calls {w0 ws : World} {P0 : Nat → Prop} (A0 : Option Addr) (c0 : Nat) (n0 : Nat) (l0 : List Int) (Z : Below w0.heap.size w0 ws) (hF : Fr w0 ws P0 [] ws) (R0 : Stable ws P0 (fun w => Kd.C (Kd.int .i64) w A0 n0 l0)) (hc0 : n0 ≤ c0) (r_1 : Bool) (h : slices_ContainsFunc_int_int_4.f l0 = some r_1) :
    Calls Try.prog 84 #[.slice A0 n0 c0, .func (.func 158) #[] #[]] ws (Post1 w0 ws P0 (fun (_ : Unit) => .bool r_1) (fun (_ : Unit) => [])) := by
  unfold slices_ContainsFunc_int_int_4.f at h
  obtain rfl := (R0 ws (KeptB.refl _ _)).1
  refine enter Try.func84 rfl Try.ntmps84 rfl hF ?_
  refine c_seq ?_
  refine za0 ?_
  refine o_q rfl rfl (q_asg rfl) ?_
  refine o_end ?_
  refine za1 ?_
  refine c_seq ?_
  refine za0 ?_
  refine o_q rfl rfl (za2 rfl) ?_
  refine o_q rfl rfl (za2 rfl) ?_
  refine za5 h (fun i2 hx1 h => ?_) rfl
  refine o_e rfl (za9 0 Z Try.func148 N148 rfl rfl rfl (fun w P1 hF hB hS hT => slices_IndexFunc_int_int_4.calls A0 c0 l0.length l0 hB hF (hS _ R0) hc0 _ hx1)) (fun _ => ?_)
  refine o_q rfl rfl (q_geq rfl rfl) ?_
  refine o_q rfl rfl (q_asg rfl) ?_
  refine o_end ?_
  refine za1 ?_
  refine c_ret ?_
  have e0_ := Option.some.inj h; clear h
  subst e0_
  exact x_r1 () Try.results84 (zah rfl) rfl (fun w h => za7 [] (by decide) rfl w h)

/-! ### loop.example/g01098/impl.TogetherPlan: function 99 -/
def impl_TogetherPlan.l1 (l0 : List Int) (i36 : Int) : (List Int) → (List SStep) → Int → Int → Option ((List SStep) × Int)
  | [], l69, i72, i73 => some (l69, i73)
  | y74 :: ys75, l69, i72, i73 => (nn i36).bind fun _ => if Go.bits .and .i64 (y74 / 2 ^ min (i36 : Int).toNat IntKind.i64.bits) 1 = 1 then ((impl_maker_times.f (l0.length : Int) l69 [] i73 i72).bind fun (i88, l89) => impl_TogetherPlan.l1 l0 i36 ys75 l89 (i72 + 1) i88) else (impl_TogetherPlan.l1 l0 i36 ys75 l69 (i72 + 1) i73)
def impl_TogetherPlan.l0 (l0 : List Int) : Nat → (List SStep) → Int → Int → Option ((List SStep) × Int)
  | 0, _, _, _ => none
  | k39 + 1, l32, i35, i36 => if 0 ≤ i36 then ((if 0 ≤ i35 then ((impl_maker_multiply.f (l0.length : Int) l32 [] i35 i35).bind fun (i65, l66) => some (l66, i65)) else (some (l32, i35))).bind fun (l54, i57) => (impl_TogetherPlan.l1 l0 i36 l0 l54 0 i57).bind fun (l69, i73) => impl_TogetherPlan.l0 l0 k39 l69 i73 (w64 (i36 - 1))) else (some (l32, i35))
def impl_TogetherPlan.f (k : Nat) (l0 : List Int) : Option (Int × (List SStep) × (List Int) × Bool) := ((impl_in.f (l0.length : Int) 1 6).bind fun b18 => if b18 = true then ((slices_ContainsFunc_int_int_4.f l0).bind fun b21 => if b21 = true then (some true) else ((slices_Max_int_int.f k l0).bind fun i24 => some (decide (i24 = 0)))) else (some true)).bind fun b11 => if b11 = true then (some (0, ([] : List SStep), ([] : List Int), false)) else ((impl_newMaker.f (l0.length : Int)).bind fun _ => (slices_Max_int_int.f k l0).bind fun i29 => (math_bits_Len.f (IntKind.u64.wrap i29)).bind fun i31 => (impl_TogetherPlan.l0 l0 k [] (-1) (w64 (i31 - 1))).bind fun (l32, i35) => (impl_maker_plan.f (l0.length : Int) l32 [] ([i35] : List Int)).bind fun _ => (impl_told.f k (l0.length : Int) l32 ([i35] : List Int)).bind fun (i97, l98, l99, b100) => some (i97, l98, l99, b100))
set_option maxHeartbeats 600000 in
set_option maxRecDepth 100000 in
theorem impl_TogetherPlan.calls (k : Nat) {w0 ws : World} {P0 : Nat → Prop} (A0 : Option Addr) (c0 : Nat) (n0 : Nat) (l0 : List Int) (Z : Below w0.heap.size w0 ws) (hF : Fr w0 ws P0 [] ws) (R0 : Stable ws P0 (fun w => Kd.C (Kd.int .i64) w A0 n0 l0)) (hc0 : n0 ≤ c0) (r_1 : Int) (r_2 : List SStep) (r_5 : List Int) (r_8 : Bool) (h : impl_TogetherPlan.f k l0 = some (r_1, r_2, r_5, r_8)) :
    Calls Try.prog 99 #[.slice A0 n0 c0] ws (Post1 w0 ws P0 (fun ((q_3, q_4, q_6, q_7) : (Option Addr) × Nat × (Option Addr) × Nat) => .tuple #[.agg #[.int .i64 r_1, .slice q_3 r_2.length q_4, .slice q_6 r_5.length q_7], .bool r_8]) (fun ((q_3, q_4, q_6, q_7) : (Option Addr) × Nat × (Option Addr) × Nat) => [row kStep 117 (.slice q_3 r_2.length q_4) r_2, row (Kd.int .i64) 3 (.slice q_6 r_5.length q_7) r_5])) := by
  unfold impl_TogetherPlan.f at h
  obtain rfl := (R0 ws (KeptB.refl _ _)).1
  refine enter Try.func99 rfl Try.ntmps99 rfl hF ?_
  refine c_seq ?_
  refine za0 ?_
  refine o_e rfl (zau V36 rfl) (fun g1 => ?_)
  refine o_q rfl rfl (q_asg rfl) ?_
  refine o_end ?_
  refine za1 ?_
  refine c_seq ?_
  refine za5 h (fun o12 hl13 hR14 => ?_) rfl
  clear h
  refine c_cutJ (σ := Bool) (fun b11 => some b11 = some o12) [9, 10, 11, 12, 13, 14, 15, 16, 17, 18, 19, 20, 21] (fun b11 => [(21, .bool b11)]) (fun b11 => [box g1 36 #[.int .i64 0, .slice none 0 0, .slice none 0 0]]) ?_ ?_
  · skip
    have h := hl13; clear hl13
    clear hR14
    refine za0 ?_
    refine o_q rfl rfl (za2 rfl) ?_
    refine o_q rfl rfl (q_len Try.underlying22 rfl) ?_
    refine za5 h (fun b18 hx17 h => ?_) rfl
    refine o_e rfl (za9 0 Z Try.func83 N83 rfl rfl rfl (fun w P1 hF hB hS hT => impl_in.calls (l0.length : Int) 1 6 hB hF _ hx17)) (fun _ => ?_)
    refine o_q rfl rfl (q_not rfl) ?_
    refine o_q rfl rfl (za2 rfl) ?_
    refine byB b18 (fun hb19 => ?_) (fun hb19 => ?_)
    · replace h := bb_t hb19 h
      refine o_w (za6 rfl rfl rfl (congrArg (fun b => Value.bool (!(b))) hb19)) rfl (za2 rfl) ?_
      refine za5 h (fun b21 hx20 h => ?_) rfl
      refine o_ew (za6 rfl rfl rfl (congrArg (fun b => Value.bool (!(b))) hb19)) (za9 0 Z Try.func84 N84 rfl rfl rfl (fun w P1 hF hB hS hT => slices_ContainsFunc_int_int_4.calls A0 c0 l0.length l0 hB hF (hS _ R0) hc0 _ hx20)) (fun _ => ?_)
      refine o_q rfl rfl (zav false (congrArg (fun b => Value.bool (!(b))) hb19) rfl) ?_
      refine o_q rfl rfl (za2 rfl) ?_
      refine byB b21 (fun hb22 => ?_) (fun hb22 => ?_)
      · replace h := bb_t hb22 h
        refine @o_n _ _ _ _ _ _ _ _ _ _ _ 18 (za3 rfl rfl rfl (congrArg Value.bool hb22) rfl) (Eq.refl (some 18)) ?_
        refine @o_n _ _ _ _ _ _ _ _ _ _ _ 19 (za3 rfl rfl rfl (congrArg Value.bool hb22) rfl) (Eq.refl (some 19)) ?_
        refine @o_n _ _ _ _ _ _ _ _ _ _ _ 20 (za3 rfl rfl rfl (congrArg Value.bool hb22) rfl) (Eq.refl (some 20)) ?_
        refine o_q rfl rfl (zav true (congrArg Value.bool hb22) rfl) ?_
        refine o_end ?_
        refine x_meetJ true h ⟨rfl, trivial⟩ (fun w h => za7 [0] (by decide) rfl w h) ?_
        repeat (first | exact zaa _ _ | refine zac rfl ?_ | refine zab rfl ?_ | refine zad rfl ?_)
      · replace h := bb_f hb22 h
        refine o_w (za6 rfl rfl rfl (congrArg Value.bool hb22)) rfl (za2 rfl) ?_
        refine za5 h (fun i24 hx23 h => ?_) rfl
        refine o_ew (za6 rfl rfl rfl (congrArg Value.bool hb22)) (za9 0 Z Try.func89 N89 rfl rfl rfl (fun w P1 hF hB hS hT => slices_Max_int_int.calls k A0 c0 l0.length l0 hB hF (hS _ R0) hc0 _ hx23)) (fun _ => ?_)
        refine o_w (za6 rfl rfl rfl (congrArg Value.bool hb22)) rfl (q_eql rfl rfl) ?_
        refine o_q rfl rfl (zav false (congrArg Value.bool hb22) rfl) ?_
        refine o_end ?_
        refine x_meetJ (decide (i24 = 0)) h ⟨rfl, trivial⟩ (fun w h => za7 [0] (by decide) rfl w h) ?_
        repeat (first | exact zaa _ _ | refine zac rfl ?_ | refine zab rfl ?_ | refine zad rfl ?_)
    · replace h := bb_f hb19 h
      refine @o_n _ _ _ _ _ _ _ _ _ _ _ 14 (za3 rfl rfl rfl (congrArg (fun b => Value.bool (!(b))) hb19) rfl) (Eq.refl (some 14)) ?_
      refine @o_n _ _ _ _ _ _ _ _ _ _ _ 15 (za3 rfl rfl rfl (congrArg (fun b => Value.bool (!(b))) hb19) rfl) (Eq.refl (some 15)) ?_
      refine o_q rfl rfl (zav true (congrArg (fun b => Value.bool (!(b))) hb19) rfl) ?_
      refine o_q rfl rfl (za2 rfl) ?_
      refine @o_n _ _ _ _ _ _ _ _ _ _ _ 18 (za3 rfl rfl rfl rfl rfl) (Eq.refl (some 18)) ?_
      refine @o_n _ _ _ _ _ _ _ _ _ _ _ 19 (za3 rfl rfl rfl rfl rfl) (Eq.refl (some 19)) ?_
      refine @o_n _ _ _ _ _ _ _ _ _ _ _ 20 (za3 rfl rfl rfl rfl rfl) (Eq.refl (some 20)) ?_
      refine o_q rfl rfl (zav true rfl rfl) ?_
      refine o_end ?_
      refine x_meetJ true h ⟨rfl, trivial⟩ (fun w h => za7 [0] (by decide) rfl w h) ?_
      repeat (first | exact zaa _ _ | refine zac rfl ?_ | refine zab rfl ?_ | refine zad rfl ?_)
  · skip
    refine (fun b11 => fun U15 hJ16 => ?_)
    have e_ := Option.some.inj hJ16; have h := hR14; rw [← e_] at h; clear e_ hJ16 hR14 hl13
    refine zar _ rfl (fun hb25 => ?_) (fun hb25 => ?_)
    · skip
      replace h := bb_t hb25 h
      refine c_seq ?_
      refine za0 ?_
      refine o_q rfl rfl (q_build (vs := []) (cs := [.int .i64 0, .slice none 0 0, .slice none 0 0]) rfl rfl) ?_
      refine o_e rfl (zaj (i := 0) rfl rfl rfl Z36 rfl rfl) (fun _ => ?_)
      refine o_q rfl rfl (q_asg rfl) ?_
      refine o_end ?_
      refine za1 ?_
      refine c_ret ?_
      refine za8 ?_
      refine x_nil kStep 117 ?_
      refine x_nil (Kd.int .i64) 3 ?_
      have e0_ := Option.some.inj h; clear h
      have d0_ := (Prod.mk.inj e0_).1; have e1_ := (Prod.mk.inj e0_).2; clear e0_; subst d0_
      have d1_ := (Prod.mk.inj e1_).1; have e2_ := (Prod.mk.inj e1_).2; clear e1_; subst d1_
      have d2_ := (Prod.mk.inj e2_).1; have e3_ := (Prod.mk.inj e2_).2; clear e2_; subst d2_
      subst e3_
      exact x_r2 (none, 0, none, 0) Try.results99 (rv_cell rfl G36 Z36 (fun w h => h.zae (i := 2) rfl) rfl) (zah rfl) rfl (fun w h => za7 [1, 0] (by decide) rfl w h)
    · skip
      replace h := bb_f hb25 h
      refine zal ?_
      refine za1 ?_
      refine c_seq ?_
      refine za0 ?_
      refine o_q rfl rfl (za2 rfl) ?_
      refine o_q rfl rfl (q_len Try.underlying22 rfl) ?_
      refine za5 h (fun _ hx26 h => ?_) rfl
      refine o_e rfl (za9 0 Z Try.func87 N87 rfl rfl rfl (fun w P1 hF hB hS hT => impl_newMaker.calls (l0.length : Int) hB hF hx26)) (fun c27 => ?_)
      refine o_q rfl rfl (q_asg rfl) ?_
      refine o_q rfl rfl (q_asg rfl) ?_
      refine o_end ?_
      refine za1 ?_
      refine c_seq ?_
      refine c_seq ?_
      refine za0 ?_
      refine o_q rfl rfl (za2 rfl) ?_
      refine za5 h (fun i29 hx28 h => ?_) rfl
      refine o_e rfl (za9 0 Z Try.func89 N89 rfl rfl rfl (fun w P1 hF hB hS hT => slices_Max_int_int.calls k A0 c0 l0.length l0 hB hF (hS _ R0) hc0 _ hx28)) (fun _ => ?_)
      refine o_q rfl rfl (q_conv (by rw [Try.underlying3]; rfl) Try.underlying99 rfl) ?_
      refine za5 h (fun i31 hx30 h => ?_) rfl
      refine o_e rfl (za9 0 Z Try.func88 N88 rfl rfl rfl (fun w P1 hF hB hS hT => math_bits_Len.calls (IntKind.u64.wrap i29) hB hF _ hx30)) (fun _ => ?_)
      refine o_q rfl rfl (q_sub64 rfl rfl) ?_
      refine o_q rfl rfl (q_asg rfl) ?_
      refine o_end ?_
      refine za1 ?_
      refine zaf ?_
      refine za5 h (fun o44 hl43 hR42 => ?_) rfl
      clear h
      refine zas (σ := (List SStep) × Int × Int × (Option Addr) × Nat) (fun k39 ((l32, i35, i36, A33, c34) : (List SStep) × Int × Int × (Option Addr) × Nat) => impl_TogetherPlan.l0 l0 k39 l32 i35 i36 = some o44) [5, 6, 7, 8, 31, 32, 33, 34, 35, 36, 37, 38, 39, 40, 41, 42, 43, 44, 45, 46, 47, 48, 49, 50, 51, 52, 53, 54, 55, 56, 57] (fun ((l32, i35, i36, A33, c34) : (List SStep) × Int × Int × (Option Addr) × Nat) => [(5, .int .i64 i35), (6, .int .i64 i36)]) (fun ((l32, i35, i36, A33, c34) : (List SStep) × Int × Int × (Option Addr) × Nat) => [box c27 108 #[.int .i64 (l0.length : Int), .slice A33 l32.length c34, .slice none 0 0], row kStep 117 (.slice A33 l32.length c34) l32, row (Kd.int .i64) 3 (.slice none 0 0) [], box g1 36 #[.int .i64 0, .slice none 0 0, .slice none 0 0]]) k ([], (-1), w64 (i31 - 1), none, 0) hl43 ⟨rfl, rfl, trivial⟩ (fun w h => h) ?_
      refine natC (cur5 (fun l32 i35 i36 A33 c34 => fun U45 hJ_ => ?_)) (fun k39 => (cur5 (fun l32 i35 i36 A33 c34 => fun U45 hJ_ => ?_)))
      · skip
        replace hJ_ : impl_TogetherPlan.l0 l0 0 l32 i35 i36 = some o44 := hJ_
        rw [impl_TogetherPlan.l0] at hJ_
        exact noneE hJ_
      · skip
        clear hl43
        have h := hJ_; clear hJ_
        replace h : impl_TogetherPlan.l0 l0 (k39 + 1) l32 i35 i36 = some o44 := h
        rw [impl_TogetherPlan.l0] at h
        refine c_seq ?_
        refine c_seq ?_
        refine za0 ?_
        refine o_q rfl rfl (za2 rfl) ?_
        refine o_q rfl rfl (q_geq rfl rfl) ?_
        refine o_end ?_
        refine za1 ?_
        refine zar _ rfl (fun hb47 => ?_) (fun hb47 => ?_)
        · skip
          replace h := br_t hb47 h
          refine zal ?_
          refine za1 ?_
          refine c_seq ?_
          refine zaf ?_
          refine za5 h (fun o58 hl59 hR60 => ?_) rfl
          clear h
          refine c_cutJ (σ := (List SStep) × Int × (Option Addr) × Nat) (fun (l54, i57, A55, c56) => some (l54, i57) = some o58) [5, 35, 36, 37, 38, 39, 40] (fun (l54, i57, A55, c56) => [(5, .int .i64 i57)]) (fun (l54, i57, A55, c56) => [box g1 36 #[.int .i64 0, .slice none 0 0, .slice none 0 0], box c27 108 #[.int .i64 (l0.length : Int), .slice A55 l54.length c56, .slice none 0 0], row kStep 117 (.slice A55 l54.length c56) l54, row (Kd.int .i64) 3 (.slice none 0 0) []]) ?_ ?_
          · skip
            have h := hl59; clear hl59
            clear hR60
            refine c_seq ?_
            refine za0 ?_
            refine o_q rfl rfl (za2 rfl) ?_
            refine o_q rfl rfl (q_geq rfl rfl) ?_
            refine o_end ?_
            refine za1 ?_
            refine zar _ rfl (fun hb63 => ?_) (fun hb63 => ?_)
            · skip
              replace h := br_t hb63 h
              refine za0 ?_
              refine o_q rfl rfl (za2 rfl) ?_
              refine o_q rfl rfl (za2 rfl) ?_
              refine o_q rfl rfl (za2 rfl) ?_
              refine bindE2 h (fun i65 l66 hx64 h => ?_) rfl
              refine o_e rfl (za9 2 Z Try.func90 N90 rfl rfl rfl (fun w P1 hF hB hS hT => impl_maker_multiply.calls c27 (l0.length : Int) A33 c34 l32.length l32 none 0 0 [] i35 i35 hB hF (hT 0 _ rfl).row (hT 0 _ rfl).cap _ _ hx64)) (cur2 (fun A67 c68 => ?_))
              refine o_q rfl rfl (q_asg rfl) ?_
              refine o_end ?_
              refine x_meetJ (l66, i65, A67, c68) h ⟨rfl, trivial⟩ (fun w h => za7 [3, 0, 1, 2] (by decide) rfl w h) ?_
              repeat (first | exact zaa _ _ | refine zac rfl ?_ | refine zab rfl ?_ | refine zad rfl ?_)
            · skip
              replace h := br_f hb63 h
              refine zal ?_
              refine x_meetJ (l32, i35, A33, c34) h ⟨rfl, trivial⟩ (fun w h => za7 [3, 0, 1, 2] (by decide) rfl w h) ?_
              repeat (first | exact zaa _ _ | refine zac rfl ?_ | refine zab rfl ?_ | refine zad rfl ?_)
          · skip
            refine (cur4 (fun l54 i57 A55 c56 => fun U61 hJ62 => ?_))
            have e_ := Option.some.inj hJ62; have h := hR60; rw [← e_] at h; clear e_ hJ62 hR60 hl59
            refine c_seq ?_
            refine za0 ?_
            refine o_q rfl rfl (za2 rfl) ?_
            refine o_q rfl rfl (q_len Try.underlying22 rfl) ?_
            refine o_q rfl rfl (za2 rfl) ?_
            refine o_end ?_
            refine za1 ?_
            refine zaf ?_
            refine za5 h (fun o81 hl80 hR79 => ?_) rfl
            clear h
            refine c_fact (p := l0.length ≤ 9223372036854775807) (fun w h => (R0.now Z h).2.1) (fun hm78 => ?_)
            refine zas (σ := (List Int) × (List SStep) × Int × Int × (Option Addr) × Nat) (fun k76 ((ys75, l69, i72, i73, A70, c71) : (List Int) × (List SStep) × Int × Int × (Option Addr) × Nat) => Rg l0 i72 ys75 ∧ ys75.length = k76 ∧ impl_TogetherPlan.l1 l0 i36 ys75 l69 i72 i73 = some o81) [5, 7, 8, 43, 44, 45, 46, 47, 48, 49, 50, 51, 52, 53, 54, 55, 56, 57] (fun ((ys75, l69, i72, i73, A70, c71) : (List Int) × (List SStep) × Int × Int × (Option Addr) × Nat) => [(5, .int .i64 i73), (43, .int .i64 i72)]) (fun ((ys75, l69, i72, i73, A70, c71) : (List Int) × (List SStep) × Int × Int × (Option Addr) × Nat) => [box g1 36 #[.int .i64 0, .slice none 0 0, .slice none 0 0], box c27 108 #[.int .i64 (l0.length : Int), .slice A70 l69.length c71, .slice none 0 0], row kStep 117 (.slice A70 l69.length c71) l69, row (Kd.int .i64) 3 (.slice none 0 0) []]) l0.length (l0, l54, 0, i57, A55, c56) ⟨Rg.start _, rfl, hl80⟩ ⟨rfl, rfl, trivial⟩ (fun w h => h) ?_
            refine fun k76 => cur6 (listC (fun l69 i72 i73 A70 c71 U82 hJ_ => ?_) (fun y74 ys75 l69 i72 i73 A70 c71 U82 hJ_ => ?_))
            · skip
              clear hl80
              have hr77 := hJ_.1; have hk83 := hJ_.2.1; have h := hJ_.2.2; clear hJ_
              replace h : impl_TogetherPlan.l1 l0 i36 [] l69 i72 i73 = some o81 := h
              rw [impl_TogetherPlan.l1] at h
              refine c_seq ?_
              refine za0 ?_
              refine o_q rfl rfl (q_lss rfl rfl) ?_
              refine o_end ?_
              refine za1 ?_
              refine c_seq ?_
              refine c_false (congrArg Value.bool hr77.ge) ?_
              refine c_exit ?_
              refine za4 ?_
              refine za4 ?_
              have e_ := Option.some.inj h; replace h := hR79; rw [← e_] at h; clear e_
              refine x_hit ?_
              refine zaq ?_
              refine za1 ?_
              refine za0 ?_
              refine o_q rfl rfl (za2 rfl) ?_
              refine o_q rfl rfl (q_sub64 rfl rfl) ?_
              refine o_q rfl rfl (q_asg rfl) ?_
              refine o_end ?_
              refine zak k39 (l69, i73, w64 (i36 - 1), A70, c71) (Nat.lt_succ_self _) h ⟨rfl, rfl, trivial⟩ (fun w h => za7 [1, 2, 3, 0] (by decide) rfl w h) ?_
              repeat (first | exact zaa _ _ | refine zac rfl ?_ | refine zab rfl ?_ | refine zad rfl ?_)
            · skip
              clear hl80
              have hr77 := hJ_.1; have hk83 := hJ_.2.1; have h := hJ_.2.2; clear hJ_
              replace h : impl_TogetherPlan.l1 l0 i36 (y74 :: ys75) l69 i72 i73 = some o81 := h
              rw [impl_TogetherPlan.l1] at h
              refine c_seq ?_
              refine za0 ?_
              refine o_q rfl rfl (q_lss rfl rfl) ?_
              refine o_end ?_
              refine za1 ?_
              refine c_seq ?_
              refine c_true (congrArg Value.bool hr77.lt) ?_
              refine zal ?_
              refine za1 ?_
              refine c_seq ?_
              refine zaf ?_
              refine c_seq ?_
              refine za0 ?_
              refine o_q rfl rfl (za2 rfl) ?_
              refine zaw (p := Sh A0 l0.length l0.length) (fun w h => f_sh (dk := (Kd.int .i64)) h (fun w h => R0.now Z h)) (fun hq84 => ?_)
              refine o_q rfl rfl (q_ix Try.underlying22 Z3 rfl rfl hq84 hr77.get) ?_
              refine o_q rfl rfl (q_lde (off := 0) Y3 rfl rfl (fun w h => R0.now Z h) hr77.get (fun _ _ h => h) rfl) ?_
              refine o_q rfl rfl (q_asg rfl) ?_
              refine o_q rfl rfl (q_asg rfl) ?_
              refine o_end ?_
              refine za1 ?_
              refine c_seq ?_
              refine za0 ?_
              refine o_q rfl rfl (za2 rfl) ?_
              refine o_q rfl rfl (za2 rfl) ?_
              refine za5 h (fun _ hz85 h => ?_) rfl
              refine o_q rfl rfl (q_shr rfl rfl (nn_le hz85)) ?_
              refine o_q rfl rfl (q_and rfl rfl) ?_
              refine o_q rfl rfl (q_eql rfl rfl) ?_
              refine o_end ?_
              refine za1 ?_
              refine zar _ rfl (fun hb86 => ?_) (fun hb86 => ?_)
              · skip
                replace h := br_t hb86 h
                refine za0 ?_
                refine o_q rfl rfl (za2 rfl) ?_
                refine o_q rfl rfl (za2 rfl) ?_
                refine o_q rfl rfl (za2 rfl) ?_
                refine o_pick [1, 2, 0, 3] (by decide) rfl ?_
                refine bindE2 h (fun i88 l89 hx87 h => ?_) rfl
                refine o_e rfl (za9 2 Z Try.func91 N91 rfl rfl rfl (fun w P1 hF hB hS hT => impl_maker_times.calls c27 (l0.length : Int) A70 c71 l69.length l69 none 0 0 [] i73 i72 hB hF (hT 1 _ rfl).row (hT 1 _ rfl).cap _ _ hx87)) (cur2 (fun A90 c91 => ?_))
                refine o_q rfl rfl (q_asg rfl) ?_
                refine o_end ?_
                refine zaq ?_
                refine za1 ?_
                refine za0 ?_
                refine o_q rfl rfl (q_up rfl rfl (hr77.up hm78)) ?_
                refine o_q rfl rfl (za2 rfl) ?_
                refine o_end ?_
                refine zak ys75.length (ys75, l89, i72 + 1, i88, A90, c91) (by rw [← hk83]; exact Nat.lt_succ_self _) ⟨hr77.step, rfl, h⟩ ⟨rfl, rfl, trivial⟩ (fun w h => za7 [2, 0, 1, 3] (by decide) rfl w h) ?_
                repeat (first | exact zaa _ _ | refine zac rfl ?_ | refine zab rfl ?_ | refine zad rfl ?_)
              · skip
                replace h := br_f hb86 h
                refine zal ?_
                refine zaq ?_
                refine za1 ?_
                refine za0 ?_
                refine o_q rfl rfl (q_up rfl rfl (hr77.up hm78)) ?_
                refine o_q rfl rfl (za2 rfl) ?_
                refine o_end ?_
                refine zak ys75.length (ys75, l69, i72 + 1, i73, A70, c71) (by rw [← hk83]; exact Nat.lt_succ_self _) ⟨hr77.step, rfl, h⟩ ⟨rfl, rfl, trivial⟩ (fun w h => za7 [0, 1, 2, 3] (by decide) rfl w h) ?_
                repeat (first | exact zaa _ _ | refine zac rfl ?_ | refine zab rfl ?_ | refine zad rfl ?_)
        · skip
          replace h := br_f hb47 h
          refine c_exit ?_
          refine za4 ?_
          refine za4 ?_
          have e_ := Option.some.inj h; replace h := hR42; rw [← e_] at h; clear e_
          refine x_hit ?_
          refine za1 ?_
          refine c_seq ?_
          refine za0 ?_
          refine o_q rfl rfl (za2 rfl) ?_
          refine o_q rfl rfl (za2 rfl) ?_
          refine o_e rfl (e_lit (vs := [(0, .int .i64 i35)]) (cs := [.int .i64 i35]) (Kd.int .i64) ([i35] : List Int) Try.underlying22 I3 (by decide) rfl (by decide) rfl rfl (fun _ _ => Kd.reps_scalar _)) (cur2 (fun A92 c93 => ?_))
          refine o_pick [1, 2, 0, 3, 4] (by decide) rfl ?_
          refine za5 h (fun _ hx95 h => ?_) rfl
          refine o_e rfl (za9 3 Z Try.func93 N93 rfl rfl rfl (fun w P1 hF hB hS hT => impl_maker_plan.calls c27 (l0.length : Int) A33 c34 l32.length l32 none 0 0 [] A92 c93 (([i35] : List Int).length) ([i35] : List Int) hB hF (hT 0 _ rfl).row (hT 0 _ rfl).cap hx95)) (fun _ => ?_)
          refine bindE4 h (fun i97 l98 l99 b100 hx96 h => ?_) rfl
          refine o_e rfl (za9 2 Z Try.func92 N92 rfl rfl rfl (fun w P1 hF hB hS hT => impl_told.calls k (l0.length : Int) A33 c34 l32.length l32 A92 c93 (([i35] : List Int).length) ([i35] : List Int) hB hF _ _ _ _ hx96)) (cur4 (fun A101 c102 A103 c104 => ?_))
          refine o_q rfl rfl (q_ext rfl rfl) ?_
          refine o_q rfl rfl (q_ext rfl rfl) ?_
          refine o_e rfl (zaj (i := 4) rfl rfl rfl Z36 rfl rfl) (fun _ => ?_)
          refine o_q rfl rfl (q_asg rfl) ?_
          refine o_end ?_
          refine za1 ?_
          refine c_ret ?_
          have e0_ := Option.some.inj h; clear h
          have d0_ := (Prod.mk.inj e0_).1; have e1_ := (Prod.mk.inj e0_).2; clear e0_; subst d0_
          have d1_ := (Prod.mk.inj e1_).1; have e2_ := (Prod.mk.inj e1_).2; clear e1_; subst d1_
          have d2_ := (Prod.mk.inj e2_).1; have e3_ := (Prod.mk.inj e2_).2; clear e2_; subst d2_
          subst e3_
          exact x_r2 (A101, c102, A103, c104) Try.results99 (rv_cell rfl G36 Z36 (fun w h => h.zae (i := 4) rfl) rfl) (zah rfl) rfl (fun w h => za7 [0, 1] (by decide) rfl w h)

/-! ### (*loop.example/g01098/impl.Plan).uses: function 156 -/
def impl_Plan_uses.l1 : (List Int) → (List Int) → Int → Option (List Int)
  | [], l19, i20 => some l19
  | y21 :: ys22, l19, i20 => (gt l19 y21).bind fun y35 => (gt l19 y21).bind fun y37 => (st l19 y21 (w64 (y35 + 1))).bind fun l38 => impl_Plan_uses.l1 ys22 l38 (i20 + 1)
def impl_Plan_uses.l0 : (List SStep) → (List Int) → Int → Option (List Int)
  | [], l7, i8 => some l7
  | y9 :: ys10, l7, i8 => (gt l7 y9.f0).bind fun y45 => (gt l7 y9.f0).bind fun y47 => (st l7 y9.f0 (w64 (y45 + 1))).bind fun l48 => (gt l48 y9.f1).bind fun y52 => (gt l48 y9.f1).bind fun y54 => (st l48 y9.f1 (w64 (y52 + 1))).bind fun l55 => impl_Plan_uses.l0 ys10 l55 (i8 + 1)
def impl_Plan_uses.f (a0_0 : Int) (l0_1 : List SStep) (l0_2 : List Int) : Option (List Int) := (impl_Plan_many.f a0_0 l0_1 l0_2).bind fun _ => (mk0 (w64 (a0_0 + (l0_1.length : Int))) (0 : Int)).bind fun l2 => (impl_Plan_uses.l0 l0_1 l2 0).bind fun l7 => (impl_Plan_uses.l1 l0_2 l7 0).bind fun l19 => some l19
set_option maxHeartbeats 600000 in
set_option maxRecDepth 100000 in
theorem impl_Plan_uses.calls {w0 ws : World} {P0 : Nat → Prop} (g0 : Nat) (a0_0 : Int) (A0_1 : Option Addr) (c0_1 : Nat) (n0_1 : Nat) (l0_1 : List SStep) (A0_2 : Option Addr) (c0_2 : Nat) (n0_2 : Nat) (l0_2 : List Int) (Z : Below w0.heap.size w0 ws) (hF : Fr w0 ws P0 [] ws) (R0_1 : Stable ws P0 (fun w => Kd.C kStep w A0_1 n0_1 l0_1)) (hc0_1 : n0_1 ≤ c0_1) (R0_2 : Stable ws P0 (fun w => Kd.C (Kd.int .i64) w A0_2 n0_2 l0_2)) (hc0_2 : n0_2 ≤ c0_2) (B0 : Stable ws P0 (fun w => w.heap[g0]? = some (.cells #[.int .i64 a0_0, .slice A0_1 n0_1 c0_1, .slice A0_2 n0_2 c0_2] 36 (0, 0)))) (r_1 : List Int) (h : impl_Plan_uses.f a0_0 l0_1 l0_2 = some r_1) :
    Calls Try.prog 156 #[.pointer (some ⟨g0, 0, none⟩)] ws (Post1 w0 ws P0 (fun ((q_2, q_3) : (Option Addr) × Nat) => .slice q_2 r_1.length q_3) (fun ((q_2, q_3) : (Option Addr) × Nat) => [row (Kd.int .i64) 3 (.slice q_2 r_1.length q_3) r_1])) := by
  unfold impl_Plan_uses.f at h
  obtain rfl := (R0_1 ws (KeptB.refl _ _)).1
  obtain rfl := (R0_2 ws (KeptB.refl _ _)).1
  refine enter Try.func156 rfl Try.ntmps156 rfl hF ?_
  refine c_seq ?_
  refine za0 ?_
  refine o_q rfl rfl (q_asg rfl) ?_
  refine o_end ?_
  refine za1 ?_
  refine c_seq ?_
  refine za0 ?_
  refine o_q rfl rfl (za2 rfl) ?_
  refine za5 h (fun _ hx1 h => ?_) rfl
  refine o_e rfl (za9 0 Z Try.func119 N119 rfl rfl rfl (fun w P1 hF hB hS hT => impl_Plan_many.calls g0 a0_0 A0_1 c0_1 l0_1.length l0_1 A0_2 c0_2 l0_2.length l0_2 hB hF (hS _ R0_1) hc0_1 (hS _ R0_2) hc0_2 (hS _ B0) hx1)) (fun _ => ?_)
  refine za5 h (fun l2 hm3 h => ?_) rfl
  refine o_e rfl (e_make (Kd.int .i64) (0 : Int) Try.underlying22 I3 rfl (by decide) (by decide) (fun _ _ => rfl) rfl rfl hm3) (cur2 (fun A4 c5 => ?_))
  refine o_q rfl rfl (q_asg rfl) ?_
  refine o_end ?_
  refine za1 ?_
  refine c_seq ?_
  refine c_seq ?_
  refine za0 ?_
  refine o_q rfl rfl (za2 rfl) ?_
  refine o_q rfl rfl (q_nil rfl) ?_
  refine o_q rfl rfl (q_f F36_1 rfl) ?_
  refine o_q rfl rfl (q_ldb Y34 rfl (fun w h => B0.now Z h) rfl) ?_
  refine o_q rfl rfl (q_len Try.underlying34 rfl) ?_
  refine o_q rfl rfl (za2 rfl) ?_
  refine o_end ?_
  refine za1 ?_
  refine zaf ?_
  refine za5 h (fun o16 hl15 hR14 => ?_) rfl
  clear h
  refine c_fact (p := l0_1.length ≤ 9223372036854775807) (fun w h => (R0_1.now Z h).2.1) (fun hm13 => ?_)
  refine zas (σ := (List SStep) × (List Int) × Int) (fun k11 ((ys10, l7, i8) : (List SStep) × (List Int) × Int) => Rg l0_1 i8 ys10 ∧ ys10.length = k11 ∧ impl_Plan_uses.l0 ys10 l7 i8 = some o16) [5, 16, 17, 18, 19, 20, 21, 22, 23, 24, 25, 26, 27, 28, 29, 30, 31, 32, 33, 34] (fun ((ys10, l7, i8) : (List SStep) × (List Int) × Int) => [(16, .int .i64 i8)]) (fun ((ys10, l7, i8) : (List SStep) × (List Int) × Int) => [row (Kd.int .i64) 3 (.slice A4 l2.length c5) l7]) l0_1.length (l0_1, l2, 0) ⟨Rg.start _, rfl, hl15⟩ ⟨rfl, trivial⟩ (fun w h => h) ?_
  refine fun k11 => cur3 (listC (fun l7 i8 U17 hJ_ => ?_) (fun y9 ys10 l7 i8 U17 hJ_ => ?_))
  · skip
    clear hl15
    have hr12 := hJ_.1; have hk18 := hJ_.2.1; have h := hJ_.2.2; clear hJ_
    replace h : impl_Plan_uses.l0 [] l7 i8 = some o16 := h
    rw [impl_Plan_uses.l0] at h
    refine c_seq ?_
    refine za0 ?_
    refine o_q rfl rfl (q_lss rfl rfl) ?_
    refine o_end ?_
    refine za1 ?_
    refine c_seq ?_
    refine c_false (congrArg Value.bool hr12.ge) ?_
    refine c_exit ?_
    refine za4 ?_
    refine za4 ?_
    have e_ := Option.some.inj h; replace h := hR14; rw [← e_] at h; clear e_
    refine x_hit ?_
    refine za1 ?_
    refine c_seq ?_
    refine c_seq ?_
    refine za0 ?_
    refine o_q rfl rfl (za2 rfl) ?_
    refine o_q rfl rfl (q_nil rfl) ?_
    refine o_q rfl rfl (q_f F36_2 rfl) ?_
    refine o_q rfl rfl (q_ldb Y22 rfl (fun w h => B0.now Z h) rfl) ?_
    refine o_q rfl rfl (q_len Try.underlying22 rfl) ?_
    refine o_q rfl rfl (za2 rfl) ?_
    refine o_end ?_
    refine za1 ?_
    refine zaf ?_
    refine za5 h (fun o28 hl27 hR26 => ?_) rfl
    clear h
    refine c_fact (p := l0_2.length ≤ 9223372036854775807) (fun w h => (R0_2.now Z h).2.1) (fun hm25 => ?_)
    refine zas (σ := (List Int) × (List Int) × Int) (fun k23 ((ys22, l19, i20) : (List Int) × (List Int) × Int) => Rg l0_2 i20 ys22 ∧ ys22.length = k23 ∧ impl_Plan_uses.l1 ys22 l19 i20 = some o28) [7, 40, 41, 42, 43, 44, 45, 46, 47, 48, 49, 50] (fun ((ys22, l19, i20) : (List Int) × (List Int) × Int) => [(40, .int .i64 i20)]) (fun ((ys22, l19, i20) : (List Int) × (List Int) × Int) => [row (Kd.int .i64) 3 (.slice A4 l2.length c5) l19]) l0_2.length (l0_2, l7, 0) ⟨Rg.start _, rfl, hl27⟩ ⟨rfl, trivial⟩ (fun w h => h) ?_
    refine fun k23 => cur3 (listC (fun l19 i20 U29 hJ_ => ?_) (fun y21 ys22 l19 i20 U29 hJ_ => ?_))
    · skip
      clear hl27
      have hr24 := hJ_.1; have hk30 := hJ_.2.1; have h := hJ_.2.2; clear hJ_
      replace h : impl_Plan_uses.l1 [] l19 i20 = some o28 := h
      rw [impl_Plan_uses.l1] at h
      refine c_seq ?_
      refine za0 ?_
      refine o_q rfl rfl (q_lss rfl rfl) ?_
      refine o_end ?_
      refine za1 ?_
      refine c_seq ?_
      refine c_false (congrArg Value.bool hr24.ge) ?_
      refine c_exit ?_
      refine za4 ?_
      refine za4 ?_
      have e_ := Option.some.inj h; replace h := hR26; rw [← e_] at h; clear e_
      refine x_hit ?_
      refine za1 ?_
      refine c_seq ?_
      refine za0 ?_
      refine o_q rfl rfl (za2 rfl) ?_
      refine o_q rfl rfl (q_asg rfl) ?_
      refine o_end ?_
      refine za1 ?_
      refine c_ret ?_
      refine x_fact (p := l2.length = l19.length) (fun w h => (h.row_C (i := 0) rfl).2.1) (fun hn31 => ?_)
      have e0_ := Option.some.inj h; clear h
      subst e0_
      exact x_r1 (A4, c5) Try.results156 (zah (v := .slice A4 l2.length c5) rfl) (by (try rw [hn31]); first | done | rfl) (f_pickE (L1 := [row (Kd.int .i64) 3 (.slice A4 l2.length c5) l19]) rfl [0] (by decide) rfl (by (try rw [hn31]); first | done | rfl))
    · skip
      clear hl27
      have hr24 := hJ_.1; have hk30 := hJ_.2.1; have h := hJ_.2.2; clear hJ_
      replace h : impl_Plan_uses.l1 (y21 :: ys22) l19 i20 = some o28 := h
      rw [impl_Plan_uses.l1] at h
      refine c_seq ?_
      refine za0 ?_
      refine o_q rfl rfl (q_lss rfl rfl) ?_
      refine o_end ?_
      refine za1 ?_
      refine c_seq ?_
      refine c_true (congrArg Value.bool hr24.lt) ?_
      refine zal ?_
      refine za1 ?_
      refine c_seq ?_
      refine zaf ?_
      refine c_seq ?_
      refine za0 ?_
      refine zaw (p := Sh A0_2 l0_2.length l0_2.length) (fun w h => f_sh (dk := (Kd.int .i64)) h (fun w h => R0_2.now Z h)) (fun hq32 => ?_)
      refine o_q rfl rfl (q_ix Try.underlying22 Z3 rfl rfl hq32 hr24.get) ?_
      refine o_q rfl rfl (q_lde (off := 0) Y3 rfl rfl (fun w h => R0_2.now Z h) hr24.get (fun _ _ h => h) rfl) ?_
      refine o_q rfl rfl (q_asg rfl) ?_
      refine o_end ?_
      refine za1 ?_
      refine za0 ?_
      refine o_q rfl rfl (za2 rfl) ?_
      refine o_q rfl rfl (za2 rfl) ?_
      refine zaw (p := Sh A4 l2.length l19.length) (fun w h => f_sh (dk := (Kd.int .i64)) h (fun w h => h.zat (i := 0) rfl)) (fun hq33 => ?_)
      refine za5 h (fun y35 hg34 h => ?_) rfl
      refine o_q rfl rfl (q_ix Try.underlying22 Z3 rfl rfl hq33 hg34) ?_
      refine o_q rfl rfl (q_lde (off := 0) Y3 rfl rfl (fun w h => h.zat (i := 0) rfl) hg34 (fun _ _ h => h) rfl) ?_
      refine o_q rfl rfl (q_add64 rfl rfl) ?_
      refine za5 h (fun y37 hg36 h => ?_) rfl
      refine o_q rfl rfl (q_ix Try.underlying22 Z3 rfl rfl hq33 hg36) ?_
      refine za5 h (fun l38 hs39 h => ?_) rfl
      refine o_e rfl (e_set (i := 0) rfl rfl rfl Z3 hs39) (fun _ => ?_)
      refine o_end ?_
      refine zaq ?_
      refine za1 ?_
      refine za0 ?_
      refine o_q rfl rfl (q_up rfl rfl (hr24.up hm25)) ?_
      refine o_q rfl rfl (za2 rfl) ?_
      refine o_end ?_
      refine zak ys22.length (ys22, l38, i20 + 1) (by rw [← hk30]; exact Nat.lt_succ_self _) ⟨hr24.step, rfl, h⟩ ⟨rfl, trivial⟩ (fun w h => za7 [0] (by decide) rfl w h) ?_
      repeat (first | exact zaa _ _ | refine zac rfl ?_ | refine zab rfl ?_ | refine zad rfl ?_)
  · skip
    clear hl15
    have hr12 := hJ_.1; have hk18 := hJ_.2.1; have h := hJ_.2.2; clear hJ_
    replace h : impl_Plan_uses.l0 (y9 :: ys10) l7 i8 = some o16 := h
    rw [impl_Plan_uses.l0] at h
    refine c_seq ?_
    refine za0 ?_
    refine o_q rfl rfl (q_lss rfl rfl) ?_
    refine o_end ?_
    refine za1 ?_
    refine c_seq ?_
    refine c_true (congrArg Value.bool hr12.lt) ?_
    refine zal ?_
    refine za1 ?_
    refine c_seq ?_
    refine zaf ?_
    refine c_seq ?_
    refine za0 ?_
    refine zaw (p := Sh A0_1 l0_1.length l0_1.length) (fun w h => f_sh (dk := kStep) h (fun w h => R0_1.now Z h)) (fun hq40 => ?_)
    refine o_q rfl rfl (q_ix Try.underlying34 Z117 rfl rfl hq40 hr12.get) ?_
    refine o_q rfl rfl (q_ldE G117 Z117 rfl rfl (fun w h => R0_1.now Z h) hr12.get (fun _ _ h => h) rfl) ?_
    refine o_e rfl (zau V117 rfl) (fun g41 => ?_)
    refine o_e rfl (zaj (i := 0) rfl rfl rfl Z117 rfl rfl) (fun _ => ?_)
    refine o_end ?_
    refine za1 ?_
    refine c_seq ?_
    refine za0 ?_
    refine o_q rfl rfl (za2 rfl) ?_
    refine o_q rfl rfl (q_f F117_0 rfl) ?_
    refine o_q rfl rfl (q_ldb Y3 rfl (fun w h => h.zae (i := 0) rfl) rfl) ?_
    refine zaw (p := Sh A4 l2.length l7.length) (fun w h => f_sh (dk := (Kd.int .i64)) h (fun w h => h.zat (i := 1) rfl)) (fun hq43 => ?_)
    refine za5 h (fun y45 hg44 h => ?_) rfl
    refine o_q rfl rfl (q_ix Try.underlying22 Z3 rfl rfl hq43 hg44) ?_
    refine o_q rfl rfl (q_lde (off := 0) Y3 rfl rfl (fun w h => h.zat (i := 1) rfl) hg44 (fun _ _ h => h) rfl) ?_
    refine o_q rfl rfl (q_add64 rfl rfl) ?_
    refine za5 h (fun y47 hg46 h => ?_) rfl
    refine o_q rfl rfl (q_ix Try.underlying22 Z3 rfl rfl hq43 hg46) ?_
    refine za5 h (fun l48 hs49 h => ?_) rfl
    refine o_e rfl (e_set (i := 1) rfl rfl rfl Z3 hs49) (fun _ => ?_)
    refine o_end ?_
    refine za1 ?_
    refine za0 ?_
    refine o_q rfl rfl (za2 rfl) ?_
    refine o_q rfl rfl (q_f F117_1 rfl) ?_
    refine o_q rfl rfl (q_ldb Y3 rfl (fun w h => h.zae (i := 0) rfl) rfl) ?_
    refine zaw (p := Sh A4 l2.length l48.length) (fun w h => f_sh (dk := (Kd.int .i64)) h (fun w h => h.zat (i := 1) rfl)) (fun hq50 => ?_)
    refine za5 h (fun y52 hg51 h => ?_) rfl
    refine o_q rfl rfl (q_ix Try.underlying22 Z3 rfl rfl hq50 hg51) ?_
    refine o_q rfl rfl (q_lde (off := 0) Y3 rfl rfl (fun w h => h.zat (i := 1) rfl) hg51 (fun _ _ h => h) rfl) ?_
    refine o_q rfl rfl (q_add64 rfl rfl) ?_
    refine za5 h (fun y54 hg53 h => ?_) rfl
    refine o_q rfl rfl (q_ix Try.underlying22 Z3 rfl rfl hq50 hg53) ?_
    refine za5 h (fun l55 hs56 h => ?_) rfl
    refine o_e rfl (e_set (i := 1) rfl rfl rfl Z3 hs56) (fun _ => ?_)
    refine o_end ?_
    refine zaq ?_
    refine za1 ?_
    refine za0 ?_
    refine o_q rfl rfl (q_up rfl rfl (hr12.up hm13)) ?_
    refine o_q rfl rfl (za2 rfl) ?_
    refine o_end ?_
    refine zak ys10.length (ys10, l55, i8 + 1) (by rw [← hk18]; exact Nat.lt_succ_self _) ⟨hr12.step, rfl, h⟩ ⟨rfl, trivial⟩ (fun w h => za7 [1] (by decide) rfl w h) ?_
    repeat (first | exact zaa _ _ | refine zac rfl ?_ | refine zab rfl ?_ | refine zad rfl ?_)

/-! ### slices.Index[[]int,int]: function 122 -/
def slices_Index_int_int.l0 (a1 : Int) : (List Int) → Int → Option ((Int) ⊕ (Unit))
  | [], i1 => some (.inr ())
  | y2 :: ys3, i1 => if a1 = y2 then (some (.inl i1)) else (slices_Index_int_int.l0 a1 ys3 (i1 + 1))
def slices_Index_int_int.f (l0 : List Int) (a1 : Int) : Option Int := (slices_Index_int_int.l0 a1 l0 0).bind fun o_ => match o_ with | .inl r_ => some r_ | .inr _ => some (-1)
set_option maxHeartbeats 600000 in
set_option maxRecDepth 100000 in
theorem slices_Index_int_int.calls {w0 ws : World} {P0 : Nat → Prop} (A0 : Option Addr) (c0 : Nat) (n0 : Nat) (l0 : List Int) (a1 : Int) (Z : Below w0.heap.size w0 ws) (hF : Fr w0 ws P0 [] ws) (R0 : Stable ws P0 (fun w => Kd.C (Kd.int .i64) w A0 n0 l0)) (hc0 : n0 ≤ c0) (r_1 : Int) (h : slices_Index_int_int.f l0 a1 = some r_1) :
    Calls Try.prog 122 #[.slice A0 n0 c0, .int .i64 a1] ws (Post1 w0 ws P0 (fun (_ : Unit) => .int .i64 r_1) (fun (_ : Unit) => [])) := by
  unfold slices_Index_int_int.f at h
  obtain rfl := (R0 ws (KeptB.refl _ _)).1
  refine enter Try.func122 rfl Try.ntmps122 rfl hF ?_
  refine c_seq ?_
  refine za0 ?_
  refine o_q rfl rfl (q_asg rfl) ?_
  refine o_end ?_
  refine za1 ?_
  refine c_seq ?_
  refine c_seq ?_
  refine za0 ?_
  refine o_q rfl rfl (za2 rfl) ?_
  refine o_q rfl rfl (q_len Try.underlying22 rfl) ?_
  refine o_q rfl rfl (za2 rfl) ?_
  refine o_end ?_
  refine za1 ?_
  refine zaf ?_
  refine za5 h (fun o9 hl8 hR7 => ?_) rfl
  clear h
  refine c_fact (p := l0.length ≤ 9223372036854775807) (fun w h => (R0.now Z h).2.1) (fun hm6 => ?_)
  refine zas (σ := (List Int) × Int) (fun k4 ((ys3, i1) : (List Int) × Int) => Rg l0 i1 ys3 ∧ ys3.length = k4 ∧ slices_Index_int_int.l0 a1 ys3 i1 = some o9) [4, 5, 8, 9, 10, 11, 12, 13, 14, 15, 16, 17, 18] (fun ((ys3, i1) : (List Int) × Int) => [(8, .int .i64 i1)]) (fun ((ys3, i1) : (List Int) × Int) => []) l0.length (l0, 0) ⟨Rg.start _, rfl, hl8⟩ ⟨rfl, trivial⟩ (fun w h => h) ?_
  refine fun k4 => cur2 (listC (fun i1 U10 hJ_ => ?_) (fun y2 ys3 i1 U10 hJ_ => ?_))
  · skip
    clear hl8
    have hr5 := hJ_.1; have hk11 := hJ_.2.1; have h := hJ_.2.2; clear hJ_
    replace h : slices_Index_int_int.l0 a1 [] i1 = some o9 := h
    rw [slices_Index_int_int.l0] at h
    refine c_seq ?_
    refine za0 ?_
    refine o_q rfl rfl (q_lss rfl rfl) ?_
    refine o_end ?_
    refine za1 ?_
    refine c_seq ?_
    refine c_false (congrArg Value.bool hr5.ge) ?_
    refine c_exit ?_
    refine za4 ?_
    refine za4 ?_
    have e_ := Option.some.inj h; replace h := hR7; rw [← e_] at h; clear e_
    refine x_hit ?_
    refine za1 ?_
    refine c_seq ?_
    refine za0 ?_
    refine o_q rfl rfl (q_asg rfl) ?_
    refine o_end ?_
    refine za1 ?_
    refine c_ret ?_
    have e0_ := Option.some.inj h; clear h
    subst e0_
    exact x_r1 () Try.results122 (zah rfl) rfl (fun w h => za7 [] (by decide) rfl w h)
  · skip
    clear hl8
    have hr5 := hJ_.1; have hk11 := hJ_.2.1; have h := hJ_.2.2; clear hJ_
    replace h : slices_Index_int_int.l0 a1 (y2 :: ys3) i1 = some o9 := h
    rw [slices_Index_int_int.l0] at h
    refine c_seq ?_
    refine za0 ?_
    refine o_q rfl rfl (q_lss rfl rfl) ?_
    refine o_end ?_
    refine za1 ?_
    refine c_seq ?_
    refine c_true (congrArg Value.bool hr5.lt) ?_
    refine zal ?_
    refine za1 ?_
    refine c_seq ?_
    refine zaf ?_
    refine c_seq ?_
    refine za0 ?_
    refine o_q rfl rfl (za2 rfl) ?_
    refine o_q rfl rfl (q_asg rfl) ?_
    refine o_end ?_
    refine za1 ?_
    refine c_seq ?_
    refine za0 ?_
    refine o_q rfl rfl (za2 rfl) ?_
    refine o_q rfl rfl (za2 rfl) ?_
    refine o_q rfl rfl (za2 rfl) ?_
    refine zaw (p := Sh A0 l0.length l0.length) (fun w h => f_sh (dk := (Kd.int .i64)) h (fun w h => R0.now Z h)) (fun hq12 => ?_)
    refine o_q rfl rfl (q_ix Try.underlying22 Z3 rfl rfl hq12 hr5.get) ?_
    refine o_q rfl rfl (q_lde (off := 0) Y3 rfl rfl (fun w h => R0.now Z h) hr5.get (fun _ _ h => h) rfl) ?_
    refine o_q rfl rfl (q_eql rfl rfl) ?_
    refine o_end ?_
    refine za1 ?_
    refine zar _ rfl (fun hb13 => ?_) (fun hb13 => ?_)
    · skip
      replace h := br_t hb13 h
      refine c_seq ?_
      refine za0 ?_
      refine o_q rfl rfl (za2 rfl) ?_
      refine o_q rfl rfl (q_asg rfl) ?_
      refine o_end ?_
      refine za1 ?_
      refine c_ret ?_
      refine zam ?_
      refine za8 ?_
      refine za8 ?_
      have e_ := Option.some.inj h; replace h := hR7; rw [← e_] at h; clear e_
      refine zam ?_
      refine za8 ?_
      have e0_ := Option.some.inj h; clear h
      subst e0_
      exact x_r1 () Try.results122 (zah rfl) rfl (fun w h => za7 [] (by decide) rfl w h)
    · skip
      replace h := br_f hb13 h
      refine zal ?_
      refine zaq ?_
      refine za1 ?_
      refine za0 ?_
      refine o_q rfl rfl (q_up rfl rfl (hr5.up hm6)) ?_
      refine o_q rfl rfl (za2 rfl) ?_
      refine o_end ?_
      refine zak ys3.length (ys3, i1 + 1) (by rw [← hk11]; exact Nat.lt_succ_self _) ⟨hr5.step, rfl, h⟩ ⟨rfl, trivial⟩ (fun w h => za7 [] (by decide) rfl w h) ?_
      repeat (first | exact zaa _ _ | refine zac rfl ?_ | refine zab rfl ?_ | refine zad rfl ?_)

/-! ### slices.Contains[[]int,int]: function 155 -/
def slices_Contains_int_int.f (l0 : List Int) (a1 : Int) : Option Bool := (slices_Index_int_int.f l0 a1).bind fun i2 => some (decide (0 ≤ i2))
set_option maxHeartbeats 600000 in
set_option maxRecDepth 100000 in
theorem slices_Contains_int_int.calls {w0 ws : World} {P0 : Nat → Prop} (A0 : Option Addr) (c0 : Nat) (n0 : Nat) (l0 : List Int) (a1 : Int) (Z : Below w0.heap.size w0 ws) (hF : Fr w0 ws P0 [] ws) (R0 : Stable ws P0 (fun w => Kd.C (Kd.int .i64) w A0 n0 l0)) (hc0 : n0 ≤ c0) (r_1 : Bool) (h : slices_Contains_int_int.f l0 a1 = some r_1) :
    Calls Try.prog 155 #[.slice A0 n0 c0, .int .i64 a1] ws (Post1 w0 ws P0 (fun (_ : Unit) => .bool r_1) (fun (_ : Unit) => [])) := by
  unfold slices_Contains_int_int.f at h
  obtain rfl := (R0 ws (KeptB.refl _ _)).1
  refine enter Try.func155 rfl Try.ntmps155 rfl hF ?_
  refine c_seq ?_
  refine za0 ?_
  refine o_q rfl rfl (q_asg rfl) ?_
  refine o_end ?_
  refine za1 ?_
  refine c_seq ?_
  refine za0 ?_
  refine o_q rfl rfl (za2 rfl) ?_
  refine o_q rfl rfl (za2 rfl) ?_
  refine za5 h (fun i2 hx1 h => ?_) rfl
  refine o_e rfl (za9 0 Z Try.func122 N122 rfl rfl rfl (fun w P1 hF hB hS hT => slices_Index_int_int.calls A0 c0 l0.length l0 a1 hB hF (hS _ R0) hc0 _ hx1)) (fun _ => ?_)
  refine o_q rfl rfl (q_geq rfl rfl) ?_
  refine o_q rfl rfl (q_asg rfl) ?_
  refine o_end ?_
  refine za1 ?_
  refine c_ret ?_
  have e0_ := Option.some.inj h; clear h
  subst e0_
  exact x_r1 () Try.results155 (zah rfl) rfl (fun w h => za7 [] (by decide) rfl w h)

/-! ### (*loop.example/g01098/impl.Plan).canTurn: function 96 -/
def impl_Plan_canTurn.f (a0_0 : Int) (l0_1 : List SStep) (l0_2 : List Int) : Option Bool := if 0 < (l0_2.length : Int) then ((impl_Plan_uses.f a0_0 l0_1 l0_2).bind fun l3 => (slices_Contains_int_int.f l3 0).bind fun b7 => some (!b7)) else (some false)
set_option maxHeartbeats 600000 in
set_option maxRecDepth 100000 in
theorem impl_Plan_canTurn.calls {w0 ws : World} {P0 : Nat → Prop} (g0 : Nat) (a0_0 : Int) (A0_1 : Option Addr) (c0_1 : Nat) (n0_1 : Nat) (l0_1 : List SStep) (A0_2 : Option Addr) (c0_2 : Nat) (n0_2 : Nat) (l0_2 : List Int) (Z : Below w0.heap.size w0 ws) (hF : Fr w0 ws P0 [] ws) (R0_1 : Stable ws P0 (fun w => Kd.C kStep w A0_1 n0_1 l0_1)) (hc0_1 : n0_1 ≤ c0_1) (R0_2 : Stable ws P0 (fun w => Kd.C (Kd.int .i64) w A0_2 n0_2 l0_2)) (hc0_2 : n0_2 ≤ c0_2) (B0 : Stable ws P0 (fun w => w.heap[g0]? = some (.cells #[.int .i64 a0_0, .slice A0_1 n0_1 c0_1, .slice A0_2 n0_2 c0_2] 36 (0, 0)))) (r_1 : Bool) (h : impl_Plan_canTurn.f a0_0 l0_1 l0_2 = some r_1) :
    Calls Try.prog 96 #[.pointer (some ⟨g0, 0, none⟩)] ws (Post1 w0 ws P0 (fun (_ : Unit) => .bool r_1) (fun (_ : Unit) => [])) := by
  unfold impl_Plan_canTurn.f at h
  obtain rfl := (R0_1 ws (KeptB.refl _ _)).1
  obtain rfl := (R0_2 ws (KeptB.refl _ _)).1
  refine enter Try.func96 rfl Try.ntmps96 rfl hF ?_
  refine c_seq ?_
  refine za0 ?_
  refine o_q rfl rfl (q_asg rfl) ?_
  refine o_end ?_
  refine za1 ?_
  refine c_seq ?_
  refine za0 ?_
  refine o_q rfl rfl (za2 rfl) ?_
  refine o_q rfl rfl (q_nil rfl) ?_
  refine o_q rfl rfl (q_f F36_2 rfl) ?_
  refine o_q rfl rfl (q_ldb Y22 rfl (fun w h => B0.now Z h) rfl) ?_
  refine o_q rfl rfl (q_len Try.underlying22 rfl) ?_
  refine o_q rfl rfl (q_gtr rfl rfl) ?_
  refine o_q rfl rfl (za2 rfl) ?_
  refine byB (decide (0 < (l0_2.length : Int))) (fun hb1 => ?_) (fun hb1 => ?_)
  · replace h := br_t hb1 h
    refine o_w (za6 rfl rfl rfl (congrArg Value.bool hb1)) rfl (za2 rfl) ?_
    refine za5 h (fun l3 hx2 h => ?_) rfl
    refine o_ew (za6 rfl rfl rfl (congrArg Value.bool hb1)) (za9 0 Z Try.func156 N156 rfl rfl rfl (fun w P1 hF hB hS hT => impl_Plan_uses.calls g0 a0_0 A0_1 c0_1 l0_1.length l0_1 A0_2 c0_2 l0_2.length l0_2 hB hF (hS _ R0_1) hc0_1 (hS _ R0_2) hc0_2 (hS _ B0) _ hx2)) (cur2 (fun A4 c5 => ?_))
    refine za5 h (fun b7 hx6 h => ?_) rfl
    refine o_ew (za6 rfl rfl rfl (congrArg Value.bool hb1)) (za9 0 Z Try.func155 N155 rfl rfl rfl (fun w P1 hF hB hS hT => slices_Contains_int_int.calls A4 c5 l3.length l3 0 hB hF (hT 0 _ rfl).row (hT 0 _ rfl).cap _ hx6)) (fun _ => ?_)
    refine o_w (za6 rfl rfl rfl (congrArg Value.bool hb1)) rfl (q_not rfl) ?_
    refine o_q rfl rfl (zav true (congrArg Value.bool hb1) rfl) ?_
    refine o_q rfl rfl (q_asg rfl) ?_
    refine o_end ?_
    refine za1 ?_
    refine c_ret ?_
    have e0_ := Option.some.inj h; clear h
    subst e0_
    exact x_r1 () Try.results96 (zah rfl) rfl (fun w h => za7 [] (by decide) rfl w h)
  · replace h := br_f hb1 h
    refine @o_n _ _ _ _ _ _ _ _ _ _ _ 10 (za3 rfl rfl rfl (congrArg Value.bool hb1) rfl) (Eq.refl (some 10)) ?_
    refine @o_n _ _ _ _ _ _ _ _ _ _ _ 11 (za3 rfl rfl rfl (congrArg Value.bool hb1) rfl) (Eq.refl (some 11)) ?_
    refine @o_n _ _ _ _ _ _ _ _ _ _ _ 12 (za3 rfl rfl rfl (congrArg Value.bool hb1) rfl) (Eq.refl (some 12)) ?_
    refine @o_n _ _ _ _ _ _ _ _ _ _ _ 13 (za3 rfl rfl rfl (congrArg Value.bool hb1) rfl) (Eq.refl (some 13)) ?_
    refine o_q rfl rfl (zav false (congrArg Value.bool hb1) rfl) ?_
    refine o_q rfl rfl (q_asg rfl) ?_
    refine o_end ?_
    refine za1 ?_
    refine c_ret ?_
    have e0_ := Option.some.inj h; clear h
    subst e0_
    exact x_r1 () Try.results96 (zah rfl) rfl (fun w h => za7 [] (by decide) rfl w h)

/-! ### (*loop.example/g01098/impl.maker).plan: function 93 -/
def impl_maker_plan_2.f (a0_0 : Int) (l0_1 : List SStep) (l0_2 : List Int) (l1 : List Int) (k1 : Nat) : Option Unit := some ()
set_option maxHeartbeats 600000 in
set_option maxRecDepth 100000 in
theorem impl_maker_plan_2.calls {w0 ws : World} {P0 : Nat → Prop} (g0 : Nat) (a0_0 : Int) (A0_1 : Option Addr) (c0_1 : Nat) (n0_1 : Nat) (l0_1 : List SStep) (A0_2 : Option Addr) (c0_2 : Nat) (n0_2 : Nat) (l0_2 : List Int) (A1 : Option Addr) (c1 : Nat) (n1 : Nat) (l1 : List Int) (k1 : Nat) (Z : Below w0.heap.size w0 ws) (hF : Fr w0 ws P0 [box g0 108 #[.int .i64 a0_0, .slice A0_1 n0_1 c0_1, .slice A0_2 n0_2 c0_2], row kStep 117 (.slice A0_1 n0_1 c0_1) l0_1, row (Kd.int .i64) 3 (.slice A1 n1 c1) l1] ws) (R0_2 : Stable ws P0 (fun w => Kd.C (Kd.int .i64) w A0_2 n0_2 l0_2)) (hc0_2 : n0_2 ≤ c0_2)  (h : impl_maker_plan_2.f a0_0 l0_1 l0_2 l1 k1 = some ()) :
    Calls Try.prog 93 #[.pointer (some ⟨g0, 0, none⟩), .slice A1 (tl k1 n1) (tl k1 n1)] ws (Post1 w0 ws P0 (fun (_ : Unit) => .agg #[.int .i64 a0_0, .slice A0_1 n0_1 c0_1, .slice A1 (tl k1 n1) (tl k1 n1)]) (fun (_ : Unit) => [row kStep 117 (.slice A0_1 n0_1 c0_1) l0_1, row (Kd.int .i64) 3 (.slice A1 n1 c1) l1, box g0 108 #[.int .i64 a0_0, .slice A0_1 n0_1 c0_1, .slice A1 (tl k1 n1) (tl k1 n1)]])) := by
  unfold impl_maker_plan_2.f at h
  obtain rfl := (hF.row_C (i := 1) rfl).2.1
  obtain rfl := (hF.row_C (i := 2) rfl).2.1
  obtain rfl := (R0_2 ws (KeptB.refl _ _)).1
  refine enter Try.func93 rfl Try.ntmps93 rfl hF ?_
  refine c_seq ?_
  refine za0 ?_
  refine o_e rfl (zau V36 rfl) (fun g1 => ?_)
  refine o_end ?_
  refine za1 ?_
  refine c_seq ?_
  refine za0 ?_
  refine o_q rfl rfl (za2 rfl) ?_
  refine o_q rfl rfl (za2 rfl) ?_
  refine o_q rfl rfl (q_nil rfl) ?_
  refine o_q rfl rfl (q_f F108_0 rfl) ?_
  refine o_q rfl rfl (q_f F36_2 rfl) ?_
  refine o_e rfl (e_store (i := 1) rfl rfl rfl rfl Z22 rfl rfl) (fun _ => ?_)
  refine o_end ?_
  refine za1 ?_
  refine c_seq ?_
  refine za0 ?_
  refine o_q rfl rfl (za2 rfl) ?_
  refine o_q rfl rfl (q_nil rfl) ?_
  refine o_q rfl rfl (q_f F108_0 rfl) ?_
  refine o_q rfl rfl (q_ldB G36 Z36 rfl (fun w h => h.zae (i := 1) rfl) rfl) ?_
  refine o_e rfl (zaj (i := 0) rfl rfl rfl Z36 rfl rfl) (fun _ => ?_)
  refine o_end ?_
  refine za1 ?_
  refine c_ret ?_
  exact x_r1 () Try.results93 (rv_cell rfl G36 Z36 (fun w h => h.zae (i := 0) rfl) rfl) rfl (fun w h => za7 [2, 3, 1] (by decide) rfl w h)

/-! ### (*loop.example/g01098/impl.Plan).turned: function 97 -/
def impl_Plan_turned.l3 (a0_0 : Int) (l0_2 : List Int) (i16 : Int) (l15 : List Int) (i46 : Int) : (List Int) → (List SStep) → Int → Int → Option ((List SStep) × Int)
  | [], l69, i72, i73 => some (l69, i72)
  | y74 :: ys75, l69, i72, i73 => if y74 = i16 then ((gt l15 (w64 (a0_0 + i46))).bind fun y88 => (impl_maker_times.f (l0_2.length : Int) l69 [] i72 y88).bind fun (i90, l91) => impl_Plan_turned.l3 a0_0 l0_2 i16 l15 i46 ys75 l91 i90 (i73 + 1)) else (impl_Plan_turned.l3 a0_0 l0_2 i16 l15 i46 ys75 l69 i72 (i73 + 1))
def impl_Plan_turned.l2 (a0_0 : Int) (l0_2 : List Int) (i16 : Int) (l15 : List Int) : (List SStep) → (List SStep) → Int → Int → Option ((List SStep) × Int)
  | [], l43, i46, i47 => some (l43, i47)
  | y48 :: ys49, l43, i46, i47 => (impl_Plan_turned.l3 a0_0 l0_2 i16 l15 i46 ([y48.f0, y48.f1] : List Int) l43 i47 0).bind fun (l69, i72) => impl_Plan_turned.l2 a0_0 l0_2 i16 l15 ys49 l69 (i46 + 1) i72
def impl_Plan_turned.l1 (l0_2 : List Int) (i16 : Int) : (List Int) → (List SStep) → Int → Int → Option ((List SStep) × Int)
  | [], l28, i31, i32 => some (l28, i32)
  | y33 :: ys34, l28, i31, i32 => if y33 = i16 then ((impl_maker_times.f (l0_2.length : Int) l28 [] i32 i31).bind fun (i97, l98) => impl_Plan_turned.l1 l0_2 i16 ys34 l98 (i31 + 1) i97) else (impl_Plan_turned.l1 l0_2 i16 ys34 l28 (i31 + 1) i32)
def impl_Plan_turned.l0 (a0_0 : Int) (l0_1 : List SStep) (l0_2 : List Int) : Nat → (List SStep) → (List Int) → Int → Option ((List SStep) × (List Int))
  | 0, _, _, _ => none
  | k19 + 1, l12, l15, i16 => if 0 ≤ i16 then ((impl_Plan_turned.l1 l0_2 i16 l0_2 l12 0 (-1)).bind fun (l28, i32) => (impl_Plan_turned.l2 a0_0 l0_2 i16 l15 l0_1 l28 0 i32).bind fun (l43, i47) => (gt l15 i16).bind fun y60 => (st l15 i16 i47).bind fun l61 => impl_Plan_turned.l0 a0_0 l0_1 l0_2 k19 l43 l61 (w64 (i16 - 1))) else (some (l12, l15))
def impl_Plan_turned.f (k : Nat) (a0_0 : Int) (l0_1 : List SStep) (l0_2 : List Int) : Option ((List SStep) × (List Int)) := (impl_newMaker.f (l0_2.length : Int)).bind fun _ => (impl_Plan_many.f a0_0 l0_1 l0_2).bind fun _ => (mk0 (w64 (a0_0 + (l0_1.length : Int))) (0 : Int)).bind fun l6 => (impl_Plan_many.f a0_0 l0_1 l0_2).bind fun _ => (impl_Plan_turned.l0 a0_0 l0_1 l0_2 k [] l6 (w64 (w64 (a0_0 + (l0_1.length : Int)) - 1))).bind fun (l12, l15) => (ctk l15 a0_0).bind fun _ => (impl_maker_plan_2.f (l0_2.length : Int) l12 [] l15 ((a0_0 : Int).toNat)).bind fun _ => some (l12, l15)
set_option maxHeartbeats 600000 in
set_option maxRecDepth 100000 in
theorem impl_Plan_turned.calls (k : Nat) {w0 ws : World} {P0 : Nat → Prop} (g0 : Nat) (a0_0 : Int) (A0_1 : Option Addr) (c0_1 : Nat) (n0_1 : Nat) (l0_1 : List SStep) (A0_2 : Option Addr) (c0_2 : Nat) (n0_2 : Nat) (l0_2 : List Int) (Z : Below w0.heap.size w0 ws) (hF : Fr w0 ws P0 [] ws) (R0_1 : Stable ws P0 (fun w => Kd.C kStep w A0_1 n0_1 l0_1)) (hc0_1 : n0_1 ≤ c0_1) (R0_2 : Stable ws P0 (fun w => Kd.C (Kd.int .i64) w A0_2 n0_2 l0_2)) (hc0_2 : n0_2 ≤ c0_2) (B0 : Stable ws P0 (fun w => w.heap[g0]? = some (.cells #[.int .i64 a0_0, .slice A0_1 n0_1 c0_1, .slice A0_2 n0_2 c0_2] 36 (0, 0)))) (r_1 : List SStep) (r_4 : List Int) (h : impl_Plan_turned.f k a0_0 l0_1 l0_2 = some (r_1, r_4)) :
    Calls Try.prog 97 #[.pointer (some ⟨g0, 0, none⟩)] ws (Post1 w0 ws P0 (fun ((q_2, q_3, q_5, q_6) : (Option Addr) × Nat × (Option Addr) × Nat) => .agg #[.int .i64 (l0_2.length : Int), .slice q_2 r_1.length q_3, .slice q_5 (tl ((a0_0 : Int).toNat) r_4.length) (tl ((a0_0 : Int).toNat) r_4.length)]) (fun ((q_2, q_3, q_5, q_6) : (Option Addr) × Nat × (Option Addr) × Nat) => [row kStep 117 (.slice q_2 r_1.length q_3) r_1, row (Kd.int .i64) 3 (.slice q_5 r_4.length q_6) r_4])) := by
  unfold impl_Plan_turned.f at h
  obtain rfl := (R0_1 ws (KeptB.refl _ _)).1
  obtain rfl := (R0_2 ws (KeptB.refl _ _)).1
  refine enter Try.func97 rfl Try.ntmps97 rfl hF ?_
  refine c_seq ?_
  refine za0 ?_
  refine o_e rfl (zau V36 rfl) (fun g1 => ?_)
  refine o_end ?_
  refine za1 ?_
  refine c_seq ?_
  refine a_start (ds := []) MO rfl ?_
  refine zai 0 rfl rfl rfl (by kernel_rfl) (fun _ _ _ h => h) (za2 rfl) ?_
  refine zai 1 rfl rfl rfl (by kernel_rfl) (fun _ _ _ h => h) (q_nil rfl) ?_
  refine zai 2 rfl rfl rfl (by kernel_rfl) (fun _ _ _ h => h) (q_f F36_2 rfl) ?_
  refine a_take 3 rfl rfl rfl (by kernel_rfl) (fun _ _ _ h => h) (fun w h => h) (q_ldb Y22 rfl (fun w h => B0.now Z h) rfl) ?_
  refine zai 4 rfl rfl rfl (by kernel_rfl) (fun _ _ _ h => h) (q_len Try.underlying22 rfl) ?_
  refine zai 6 rfl rfl rfl (by kernel_rfl) (fun _ _ _ h => h) (za2 rfl) ?_
  refine za5 h (fun _ hx3 h => ?_) rfl
  refine a_one 5 rfl rfl (by kernel_rfl) rfl (za9 0 Z Try.func87 N87 rfl rfl rfl (fun w P1 hF hB hS hT => impl_newMaker.calls (l0_2.length : Int) hB hF hx3)) (fun s w h => zao [some 3] (by decide) w h rfl) (fun c4 => ?_)
  refine za5 h (fun _ hx5 h => ?_) rfl
  refine a_one 7 rfl rfl (by kernel_rfl) rfl (za9 0 Z Try.func119 N119 rfl rfl rfl (fun w P1 hF hB hS hT => impl_Plan_many.calls g0 a0_0 A0_1 c0_1 l0_1.length l0_1 A0_2 c0_2 l0_2.length l0_2 hB hF (hS _ R0_1) hc0_1 (hS _ R0_2) hc0_2 (hS _ B0) hx5)) (fun s w h => zao [some 3] (by decide) w h rfl) (fun _ => ?_)
  refine zai 9 rfl rfl rfl (by kernel_rfl) (fun _ _ _ h => h) (q_asg rfl) ?_
  refine za5 h (fun l6 hm7 h => ?_) rfl
  refine a_one 8 rfl rfl (by kernel_rfl) rfl (e_make (Kd.int .i64) (0 : Int) Try.underlying22 I3 rfl (by decide) (by decide) (fun _ _ => rfl) rfl rfl hm7) (fun s w h => zao [some 4] (by decide) w h rfl) (cur2 (fun A8 c9 => ?_))
  refine zai 10 rfl rfl rfl (by kernel_rfl) (fun _ _ _ h => h) (q_asg rfl) ?_
  refine a_done (by kernel_rfl) ?_
  refine za1 ?_
  refine c_seq ?_
  refine c_seq ?_
  refine za0 ?_
  refine o_q rfl rfl (za2 rfl) ?_
  refine za5 h (fun _ hx11 h => ?_) rfl
  refine o_e rfl (za9 0 Z Try.func119 N119 rfl rfl rfl (fun w P1 hF hB hS hT => impl_Plan_many.calls g0 a0_0 A0_1 c0_1 l0_1.length l0_1 A0_2 c0_2 l0_2.length l0_2 hB hF (hS _ R0_1) hc0_1 (hS _ R0_2) hc0_2 (hS _ B0) hx11)) (fun _ => ?_)
  refine o_q rfl rfl (q_sub64 rfl rfl) ?_
  refine o_q rfl rfl (q_asg rfl) ?_
  refine o_end ?_
  refine za1 ?_
  refine zaf ?_
  refine za5 h (fun o24 hl23 hR22 => ?_) rfl
  clear h
  refine zas (σ := (List SStep) × (List Int) × Int × (Option Addr) × Nat) (fun k19 ((l12, l15, i16, A13, c14) : (List SStep) × (List Int) × Int × (Option Addr) × Nat) => impl_Plan_turned.l0 a0_0 l0_1 l0_2 k19 l12 l15 i16 = some o24) [5, 6, 7, 8, 9, 10, 12, 25, 26, 27, 28, 29, 30, 31, 32, 33, 34, 35, 36, 37, 38, 39, 40, 41, 42, 43, 44, 45, 46, 47, 48, 49, 50, 51, 52, 53, 54, 55, 56, 57, 58, 59, 60, 61, 62, 63, 64, 65, 66, 67, 68, 69, 70, 71, 72, 73, 74, 75, 76, 77, 78, 79, 80, 81, 82, 83, 84, 85, 86, 87] (fun ((l12, l15, i16, A13, c14) : (List SStep) × (List Int) × Int × (Option Addr) × Nat) => [(5, .int .i64 i16)]) (fun ((l12, l15, i16, A13, c14) : (List SStep) × (List Int) × Int × (Option Addr) × Nat) => [row (Kd.int .i64) 3 (.slice A8 l6.length c9) l15, box c4 108 #[.int .i64 (l0_2.length : Int), .slice A13 l12.length c14, .slice none 0 0], row kStep 117 (.slice A13 l12.length c14) l12, row (Kd.int .i64) 3 (.slice none 0 0) [], box g1 36 #[.int .i64 0, .slice none 0 0, .slice none 0 0]]) k ([], l6, w64 (w64 (a0_0 + (l0_1.length : Int)) - 1), none, 0) hl23 ⟨rfl, trivial⟩ (fun w h => h) ?_
  refine natC (cur5 (fun l12 l15 i16 A13 c14 => fun U25 hJ_ => ?_)) (fun k19 => (cur5 (fun l12 l15 i16 A13 c14 => fun U25 hJ_ => ?_)))
  · skip
    replace hJ_ : impl_Plan_turned.l0 a0_0 l0_1 l0_2 0 l12 l15 i16 = some o24 := hJ_
    rw [impl_Plan_turned.l0] at hJ_
    exact noneE hJ_
  · skip
    clear hl23
    have h := hJ_; clear hJ_
    replace h : impl_Plan_turned.l0 a0_0 l0_1 l0_2 (k19 + 1) l12 l15 i16 = some o24 := h
    rw [impl_Plan_turned.l0] at h
    refine c_seq ?_
    refine c_seq ?_
    refine za0 ?_
    refine o_q rfl rfl (za2 rfl) ?_
    refine o_q rfl rfl (q_geq rfl rfl) ?_
    refine o_end ?_
    refine za1 ?_
    refine zar _ rfl (fun hb27 => ?_) (fun hb27 => ?_)
    · skip
      replace h := br_t hb27 h
      refine zal ?_
      refine za1 ?_
      refine c_seq ?_
      refine zaf ?_
      refine c_seq ?_
      refine za0 ?_
      refine o_q rfl rfl (q_asg rfl) ?_
      refine o_end ?_
      refine za1 ?_
      refine c_seq ?_
      refine c_seq ?_
      refine za0 ?_
      refine o_q rfl rfl (za2 rfl) ?_
      refine o_q rfl rfl (q_nil rfl) ?_
      refine o_q rfl rfl (q_f F36_2 rfl) ?_
      refine o_q rfl rfl (q_ldb Y22 rfl (fun w h => B0.now Z h) rfl) ?_
      refine o_q rfl rfl (q_len Try.underlying22 rfl) ?_
      refine o_q rfl rfl (za2 rfl) ?_
      refine o_end ?_
      refine za1 ?_
      refine zaf ?_
      refine za5 h (fun o40 hl39 hR38 => ?_) rfl
      clear h
      refine c_fact (p := l0_2.length ≤ 9223372036854775807) (fun w h => (R0_2.now Z h).2.1) (fun hm37 => ?_)
      refine zas (σ := (List Int) × (List SStep) × Int × Int × (Option Addr) × Nat) (fun k35 ((ys34, l28, i31, i32, A29, c30) : (List Int) × (List SStep) × Int × Int × (Option Addr) × Nat) => Rg l0_2 i31 ys34 ∧ ys34.length = k35 ∧ impl_Plan_turned.l1 l0_2 i16 ys34 l28 i31 i32 = some o40) [6, 7, 8, 34, 35, 36, 37, 38, 39, 40, 41, 42, 43, 44, 45, 46] (fun ((ys34, l28, i31, i32, A29, c30) : (List Int) × (List SStep) × Int × Int × (Option Addr) × Nat) => [(6, .int .i64 i32), (34, .int .i64 i31)]) (fun ((ys34, l28, i31, i32, A29, c30) : (List Int) × (List SStep) × Int × Int × (Option Addr) × Nat) => [row (Kd.int .i64) 3 (.slice A8 l6.length c9) l15, box c4 108 #[.int .i64 (l0_2.length : Int), .slice A29 l28.length c30, .slice none 0 0], row kStep 117 (.slice A29 l28.length c30) l28, row (Kd.int .i64) 3 (.slice none 0 0) [], box g1 36 #[.int .i64 0, .slice none 0 0, .slice none 0 0]]) l0_2.length (l0_2, l12, 0, (-1), A13, c14) ⟨Rg.start _, rfl, hl39⟩ ⟨rfl, rfl, trivial⟩ (fun w h => h) ?_
      refine fun k35 => cur6 (listC (fun l28 i31 i32 A29 c30 U41 hJ_ => ?_) (fun y33 ys34 l28 i31 i32 A29 c30 U41 hJ_ => ?_))
      · skip
        clear hl39
        have hr36 := hJ_.1; have hk42 := hJ_.2.1; have h := hJ_.2.2; clear hJ_
        replace h : impl_Plan_turned.l1 l0_2 i16 [] l28 i31 i32 = some o40 := h
        rw [impl_Plan_turned.l1] at h
        refine c_seq ?_
        refine za0 ?_
        refine o_q rfl rfl (q_lss rfl rfl) ?_
        refine o_end ?_
        refine za1 ?_
        refine c_seq ?_
        refine c_false (congrArg Value.bool hr36.ge) ?_
        refine c_exit ?_
        refine za4 ?_
        refine za4 ?_
        have e_ := Option.some.inj h; replace h := hR38; rw [← e_] at h; clear e_
        refine x_hit ?_
        refine za1 ?_
        refine c_seq ?_
        refine c_seq ?_
        refine za0 ?_
        refine o_q rfl rfl (za2 rfl) ?_
        refine o_q rfl rfl (q_nil rfl) ?_
        refine o_q rfl rfl (q_f F36_1 rfl) ?_
        refine o_q rfl rfl (q_ldb Y34 rfl (fun w h => B0.now Z h) rfl) ?_
        refine o_q rfl rfl (q_len Try.underlying34 rfl) ?_
        refine o_q rfl rfl (za2 rfl) ?_
        refine o_end ?_
        refine za1 ?_
        refine zaf ?_
        refine za5 h (fun o55 hl54 hR53 => ?_) rfl
        clear h
        refine c_fact (p := l0_1.length ≤ 9223372036854775807) (fun w h => (R0_1.now Z h).2.1) (fun hm52 => ?_)
        refine zas (σ := (List SStep) × (List SStep) × Int × Int × (Option Addr) × Nat) (fun k50 ((ys49, l43, i46, i47, A44, c45) : (List SStep) × (List SStep) × Int × Int × (Option Addr) × Nat) => Rg l0_1 i46 ys49 ∧ ys49.length = k50 ∧ impl_Plan_turned.l2 a0_0 l0_2 i16 l15 ys49 l43 i46 i47 = some o55) [6, 9, 10, 12, 52, 53, 54, 55, 56, 57, 58, 59, 60, 61, 62, 63, 64, 65, 66, 67, 68, 69, 70, 71, 72, 73, 74, 75, 76, 77, 78, 79, 80, 81, 82, 83] (fun ((ys49, l43, i46, i47, A44, c45) : (List SStep) × (List SStep) × Int × Int × (Option Addr) × Nat) => [(6, .int .i64 i47), (52, .int .i64 i46)]) (fun ((ys49, l43, i46, i47, A44, c45) : (List SStep) × (List SStep) × Int × Int × (Option Addr) × Nat) => [row (Kd.int .i64) 3 (.slice A8 l6.length c9) l15, box c4 108 #[.int .i64 (l0_2.length : Int), .slice A44 l43.length c45, .slice none 0 0], row kStep 117 (.slice A44 l43.length c45) l43, row (Kd.int .i64) 3 (.slice none 0 0) [], box g1 36 #[.int .i64 0, .slice none 0 0, .slice none 0 0]]) l0_1.length (l0_1, l28, 0, i32, A29, c30) ⟨Rg.start _, rfl, hl54⟩ ⟨rfl, rfl, trivial⟩ (fun w h => h) ?_
        refine fun k50 => cur6 (listC (fun l43 i46 i47 A44 c45 U56 hJ_ => ?_) (fun y48 ys49 l43 i46 i47 A44 c45 U56 hJ_ => ?_))
        · skip
          clear hl54
          have hr51 := hJ_.1; have hk57 := hJ_.2.1; have h := hJ_.2.2; clear hJ_
          replace h : impl_Plan_turned.l2 a0_0 l0_2 i16 l15 [] l43 i46 i47 = some o55 := h
          rw [impl_Plan_turned.l2] at h
          refine c_seq ?_
          refine za0 ?_
          refine o_q rfl rfl (q_lss rfl rfl) ?_
          refine o_end ?_
          refine za1 ?_
          refine c_seq ?_
          refine c_false (congrArg Value.bool hr51.ge) ?_
          refine c_exit ?_
          refine za4 ?_
          refine za4 ?_
          have e_ := Option.some.inj h; replace h := hR53; rw [← e_] at h; clear e_
          refine x_hit ?_
          refine za1 ?_
          refine za0 ?_
          refine o_q rfl rfl (za2 rfl) ?_
          refine o_q rfl rfl (za2 rfl) ?_
          refine o_q rfl rfl (za2 rfl) ?_
          refine zaw (p := Sh A8 l6.length l15.length) (fun w h => f_sh (dk := (Kd.int .i64)) h (fun w h => h.zat (i := 0) rfl)) (fun hq58 => ?_)
          refine za5 h (fun y60 hg59 h => ?_) rfl
          refine o_q rfl rfl (q_ix Try.underlying22 Z3 rfl rfl hq58 hg59) ?_
          refine za5 h (fun l61 hs62 h => ?_) rfl
          refine o_e rfl (e_set (i := 0) rfl rfl rfl Z3 hs62) (fun _ => ?_)
          refine o_end ?_
          refine zaq ?_
          refine za1 ?_
          refine za0 ?_
          refine o_q rfl rfl (za2 rfl) ?_
          refine o_q rfl rfl (q_sub64 rfl rfl) ?_
          refine o_q rfl rfl (q_asg rfl) ?_
          refine o_end ?_
          refine zak k19 (l43, l61, w64 (i16 - 1), A44, c45) (Nat.lt_succ_self _) h ⟨rfl, trivial⟩ (fun w h => za7 [0, 1, 2, 3, 4] (by decide) rfl w h) ?_
          repeat (first | exact zaa _ _ | refine zac rfl ?_ | refine zab rfl ?_ | refine zad rfl ?_)
        · skip
          clear hl54
          have hr51 := hJ_.1; have hk57 := hJ_.2.1; have h := hJ_.2.2; clear hJ_
          replace h : impl_Plan_turned.l2 a0_0 l0_2 i16 l15 (y48 :: ys49) l43 i46 i47 = some o55 := h
          rw [impl_Plan_turned.l2] at h
          refine c_seq ?_
          refine za0 ?_
          refine o_q rfl rfl (q_lss rfl rfl) ?_
          refine o_end ?_
          refine za1 ?_
          refine c_seq ?_
          refine c_true (congrArg Value.bool hr51.lt) ?_
          refine zal ?_
          refine za1 ?_
          refine c_seq ?_
          refine zaf ?_
          refine c_seq ?_
          refine za0 ?_
          refine o_q rfl rfl (za2 rfl) ?_
          refine zaw (p := Sh A0_1 l0_1.length l0_1.length) (fun w h => f_sh (dk := kStep) h (fun w h => R0_1.now Z h)) (fun hq63 => ?_)
          refine o_q rfl rfl (q_ix Try.underlying34 Z117 rfl rfl hq63 hr51.get) ?_
          refine o_q rfl rfl (q_ldE G117 Z117 rfl rfl (fun w h => R0_1.now Z h) hr51.get (fun _ _ h => h) rfl) ?_
          refine o_e rfl (zau V117 rfl) (fun g64 => ?_)
          refine o_q rfl rfl (q_asg rfl) ?_
          refine o_e rfl (zaj (i := 0) rfl rfl rfl Z117 rfl rfl) (fun _ => ?_)
          refine o_end ?_
          refine za1 ?_
          refine c_seq ?_
          refine za0 ?_
          refine o_q rfl rfl (q_f F117_0 rfl) ?_
          refine o_q rfl rfl (q_ldb Y3 rfl (fun w h => h.zae (i := 0) rfl) rfl) ?_
          refine o_q rfl rfl (q_f F117_1 rfl) ?_
          refine o_q rfl rfl (q_ldb Y3 rfl (fun w h => h.zae (i := 0) rfl) rfl) ?_
          refine o_e rfl (e_lit (vs := [(0, .int .i64 y48.f0), (1, .int .i64 y48.f1)]) (cs := [.int .i64 y48.f0, .int .i64 y48.f1]) (Kd.int .i64) ([y48.f0, y48.f1] : List Int) Try.underlying22 I3 (by decide) rfl (by decide) rfl rfl (fun _ _ => Kd.reps_scalar _)) (cur2 (fun A66 c67 => ?_))
          refine o_q rfl rfl (q_len Try.underlying22 rfl) ?_
          refine o_q rfl rfl (za2 rfl) ?_
          refine o_end ?_
          refine za1 ?_
          refine zaf ?_
          refine za5 h (fun o81 hl80 hR79 => ?_) rfl
          clear h
          refine c_fact (p := ([y48.f0, y48.f1] : List Int).length ≤ 9223372036854775807) (fun w h => (h.zat (i := 0) rfl).2.1) (fun hm78 => ?_)
          refine zas (σ := (List Int) × (List SStep) × Int × Int × (Option Addr) × Nat) (fun k76 ((ys75, l69, i72, i73, A70, c71) : (List Int) × (List SStep) × Int × Int × (Option Addr) × Nat) => Rg ([y48.f0, y48.f1] : List Int) i73 ys75 ∧ ys75.length = k76 ∧ impl_Plan_turned.l3 a0_0 l0_2 i16 l15 i46 ys75 l69 i72 i73 = some o81) [6, 12, 63, 64, 65, 66, 67, 68, 69, 70, 71, 72, 73, 74, 75, 76, 77, 78, 79, 80, 81, 82] (fun ((ys75, l69, i72, i73, A70, c71) : (List Int) × (List SStep) × Int × Int × (Option Addr) × Nat) => [(6, .int .i64 i72), (63, .int .i64 i73)]) (fun ((ys75, l69, i72, i73, A70, c71) : (List Int) × (List SStep) × Int × Int × (Option Addr) × Nat) => [row (Kd.int .i64) 3 (.slice A66 (([y48.f0, y48.f1] : List Int).length) c67) ([y48.f0, y48.f1] : List Int), box g64 117 #[.int .i64 y48.f0, .int .i64 y48.f1], row (Kd.int .i64) 3 (.slice A8 l6.length c9) l15, box c4 108 #[.int .i64 (l0_2.length : Int), .slice A70 l69.length c71, .slice none 0 0], row kStep 117 (.slice A70 l69.length c71) l69, row (Kd.int .i64) 3 (.slice none 0 0) [], box g1 36 #[.int .i64 0, .slice none 0 0, .slice none 0 0]]) ([y48.f0, y48.f1] : List Int).length (([y48.f0, y48.f1] : List Int), l43, i47, 0, A44, c45) ⟨Rg.start _, rfl, hl80⟩ ⟨rfl, rfl, trivial⟩ (fun w h => h) ?_
          refine fun k76 => cur6 (listC (fun l69 i72 i73 A70 c71 U82 hJ_ => ?_) (fun y74 ys75 l69 i72 i73 A70 c71 U82 hJ_ => ?_))
          · skip
            clear hl80
            have hr77 := hJ_.1; have hk83 := hJ_.2.1; have h := hJ_.2.2; clear hJ_
            replace h : impl_Plan_turned.l3 a0_0 l0_2 i16 l15 i46 [] l69 i72 i73 = some o81 := h
            rw [impl_Plan_turned.l3] at h
            refine c_seq ?_
            refine za0 ?_
            refine o_q rfl rfl (q_lss rfl rfl) ?_
            refine o_end ?_
            refine za1 ?_
            refine c_seq ?_
            refine c_false (congrArg Value.bool hr77.ge) ?_
            refine c_exit ?_
            refine za4 ?_
            refine za4 ?_
            have e_ := Option.some.inj h; replace h := hR79; rw [← e_] at h; clear e_
            refine x_hit ?_
            refine zaq ?_
            refine za1 ?_
            refine za0 ?_
            refine o_q rfl rfl (q_up rfl rfl (hr51.up hm52)) ?_
            refine o_q rfl rfl (za2 rfl) ?_
            refine o_end ?_
            refine zak ys49.length (ys49, l69, i46 + 1, i72, A70, c71) (by rw [← hk57]; exact Nat.lt_succ_self _) ⟨hr51.step, rfl, h⟩ ⟨rfl, rfl, trivial⟩ (fun w h => za7 [2, 3, 4, 5, 6] (by decide) rfl w h) ?_
            repeat (first | exact zaa _ _ | refine zac rfl ?_ | refine zab rfl ?_ | refine zad rfl ?_)
          · skip
            clear hl80
            have hr77 := hJ_.1; have hk83 := hJ_.2.1; have h := hJ_.2.2; clear hJ_
            replace h : impl_Plan_turned.l3 a0_0 l0_2 i16 l15 i46 (y74 :: ys75) l69 i72 i73 = some o81 := h
            rw [impl_Plan_turned.l3] at h
            refine c_seq ?_
            refine za0 ?_
            refine o_q rfl rfl (q_lss rfl rfl) ?_
            refine o_end ?_
            refine za1 ?_
            refine c_seq ?_
            refine c_true (congrArg Value.bool hr77.lt) ?_
            refine zal ?_
            refine za1 ?_
            refine c_seq ?_
            refine zaf ?_
            refine c_seq ?_
            refine za0 ?_
            refine zaw (p := Sh A66 (([y48.f0, y48.f1] : List Int).length) ([y48.f0, y48.f1] : List Int).length) (fun w h => f_sh (dk := (Kd.int .i64)) h (fun w h => h.zat (i := 0) rfl)) (fun hq84 => ?_)
            refine o_q rfl rfl (q_ix Try.underlying22 Z3 rfl rfl hq84 hr77.get) ?_
            refine o_q rfl rfl (q_lde (off := 0) Y3 rfl rfl (fun w h => h.zat (i := 0) rfl) hr77.get (fun _ _ h => h) rfl) ?_
            refine o_q rfl rfl (q_asg rfl) ?_
            refine o_end ?_
            refine za1 ?_
            refine c_seq ?_
            refine za0 ?_
            refine o_q rfl rfl (za2 rfl) ?_
            refine o_q rfl rfl (za2 rfl) ?_
            refine o_q rfl rfl (q_eql rfl rfl) ?_
            refine o_end ?_
            refine za1 ?_
            refine zar _ rfl (fun hb85 => ?_) (fun hb85 => ?_)
            · skip
              replace h := br_t hb85 h
              refine za0 ?_
              refine o_q rfl rfl (za2 rfl) ?_
              refine o_q rfl rfl (za2 rfl) ?_
              refine o_q rfl rfl (za2 rfl) ?_
              refine o_q rfl rfl (za2 rfl) ?_
              refine o_q rfl rfl (q_nil rfl) ?_
              refine o_q rfl rfl (q_f F36_0 rfl) ?_
              refine o_q rfl rfl (q_ldb Y3 rfl (fun w h => B0.now Z h) rfl) ?_
              refine o_q rfl rfl (za2 rfl) ?_
              refine o_q rfl rfl (q_add64 rfl rfl) ?_
              refine zaw (p := Sh A8 l6.length l15.length) (fun w h => f_sh (dk := (Kd.int .i64)) h (fun w h => h.zat (i := 2) rfl)) (fun hq86 => ?_)
              refine za5 h (fun y88 hg87 h => ?_) rfl
              refine o_q rfl rfl (q_ix Try.underlying22 Z3 rfl rfl hq86 hg87) ?_
              refine o_q rfl rfl (q_lde (off := 0) Y3 rfl rfl (fun w h => h.zat (i := 2) rfl) hg87 (fun _ _ h => h) rfl) ?_
              refine o_pick [3, 4, 0, 1, 2, 5, 6] (by decide) rfl ?_
              refine bindE2 h (fun i90 l91 hx89 h => ?_) rfl
              refine o_e rfl (za9 2 Z Try.func91 N91 rfl rfl rfl (fun w P1 hF hB hS hT => impl_maker_times.calls c4 (l0_2.length : Int) A70 c71 l69.length l69 none 0 0 [] i72 y88 hB hF (hT 3 _ rfl).row (hT 3 _ rfl).cap _ _ hx89)) (cur2 (fun A92 c93 => ?_))
              refine o_q rfl rfl (q_asg rfl) ?_
              refine o_end ?_
              refine zaq ?_
              refine za1 ?_
              refine za0 ?_
              refine o_q rfl rfl (q_up rfl rfl (hr77.up hm78)) ?_
              refine o_q rfl rfl (za2 rfl) ?_
              refine o_end ?_
              refine zak ys75.length (ys75, l91, i90, i73 + 1, A92, c93) (by rw [← hk83]; exact Nat.lt_succ_self _) ⟨hr77.step, rfl, h⟩ ⟨rfl, rfl, trivial⟩ (fun w h => za7 [2, 3, 4, 0, 1, 5, 6] (by decide) rfl w h) ?_
              repeat (first | exact zaa _ _ | refine zac rfl ?_ | refine zab rfl ?_ | refine zad rfl ?_)
            · skip
              replace h := br_f hb85 h
              refine zal ?_
              refine zaq ?_
              refine za1 ?_
              refine za0 ?_
              refine o_q rfl rfl (q_up rfl rfl (hr77.up hm78)) ?_
              refine o_q rfl rfl (za2 rfl) ?_
              refine o_end ?_
              refine zak ys75.length (ys75, l69, i72, i73 + 1, A70, c71) (by rw [← hk83]; exact Nat.lt_succ_self _) ⟨hr77.step, rfl, h⟩ ⟨rfl, rfl, trivial⟩ (fun w h => za7 [0, 1, 2, 3, 4, 5, 6] (by decide) rfl w h) ?_
              repeat (first | exact zaa _ _ | refine zac rfl ?_ | refine zab rfl ?_ | refine zad rfl ?_)
      · skip
        clear hl39
        have hr36 := hJ_.1; have hk42 := hJ_.2.1; have h := hJ_.2.2; clear hJ_
        replace h : impl_Plan_turned.l1 l0_2 i16 (y33 :: ys34) l28 i31 i32 = some o40 := h
        rw [impl_Plan_turned.l1] at h
        refine c_seq ?_
        refine za0 ?_
        refine o_q rfl rfl (q_lss rfl rfl) ?_
        refine o_end ?_
        refine za1 ?_
        refine c_seq ?_
        refine c_true (congrArg Value.bool hr36.lt) ?_
        refine zal ?_
        refine za1 ?_
        refine c_seq ?_
        refine zaf ?_
        refine c_seq ?_
        refine za0 ?_
        refine o_q rfl rfl (za2 rfl) ?_
        refine zaw (p := Sh A0_2 l0_2.length l0_2.length) (fun w h => f_sh (dk := (Kd.int .i64)) h (fun w h => R0_2.now Z h)) (fun hq94 => ?_)
        refine o_q rfl rfl (q_ix Try.underlying22 Z3 rfl rfl hq94 hr36.get) ?_
        refine o_q rfl rfl (q_lde (off := 0) Y3 rfl rfl (fun w h => R0_2.now Z h) hr36.get (fun _ _ h => h) rfl) ?_
        refine o_q rfl rfl (q_asg rfl) ?_
        refine o_q rfl rfl (q_asg rfl) ?_
        refine o_end ?_
        refine za1 ?_
        refine c_seq ?_
        refine za0 ?_
        refine o_q rfl rfl (za2 rfl) ?_
        refine o_q rfl rfl (za2 rfl) ?_
        refine o_q rfl rfl (q_eql rfl rfl) ?_
        refine o_end ?_
        refine za1 ?_
        refine zar _ rfl (fun hb95 => ?_) (fun hb95 => ?_)
        · skip
          replace h := br_t hb95 h
          refine za0 ?_
          refine o_q rfl rfl (za2 rfl) ?_
          refine o_q rfl rfl (za2 rfl) ?_
          refine o_q rfl rfl (za2 rfl) ?_
          refine o_pick [1, 2, 0, 3, 4] (by decide) rfl ?_
          refine bindE2 h (fun i97 l98 hx96 h => ?_) rfl
          refine o_e rfl (za9 2 Z Try.func91 N91 rfl rfl rfl (fun w P1 hF hB hS hT => impl_maker_times.calls c4 (l0_2.length : Int) A29 c30 l28.length l28 none 0 0 [] i32 i31 hB hF (hT 1 _ rfl).row (hT 1 _ rfl).cap _ _ hx96)) (cur2 (fun A99 c100 => ?_))
          refine o_q rfl rfl (q_asg rfl) ?_
          refine o_end ?_
          refine zaq ?_
          refine za1 ?_
          refine za0 ?_
          refine o_q rfl rfl (q_up rfl rfl (hr36.up hm37)) ?_
          refine o_q rfl rfl (za2 rfl) ?_
          refine o_end ?_
          refine zak ys34.length (ys34, l98, i31 + 1, i97, A99, c100) (by rw [← hk42]; exact Nat.lt_succ_self _) ⟨hr36.step, rfl, h⟩ ⟨rfl, rfl, trivial⟩ (fun w h => za7 [2, 0, 1, 3, 4] (by decide) rfl w h) ?_
          repeat (first | exact zaa _ _ | refine zac rfl ?_ | refine zab rfl ?_ | refine zad rfl ?_)
        · skip
          replace h := br_f hb95 h
          refine zal ?_
          refine zaq ?_
          refine za1 ?_
          refine za0 ?_
          refine o_q rfl rfl (q_up rfl rfl (hr36.up hm37)) ?_
          refine o_q rfl rfl (za2 rfl) ?_
          refine o_end ?_
          refine zak ys34.length (ys34, l28, i31 + 1, i32, A29, c30) (by rw [← hk42]; exact Nat.lt_succ_self _) ⟨hr36.step, rfl, h⟩ ⟨rfl, rfl, trivial⟩ (fun w h => za7 [0, 1, 2, 3, 4] (by decide) rfl w h) ?_
          repeat (first | exact zaa _ _ | refine zac rfl ?_ | refine zab rfl ?_ | refine zad rfl ?_)
    · skip
      replace h := br_f hb27 h
      refine c_exit ?_
      refine za4 ?_
      refine za4 ?_
      have e_ := Option.some.inj h; replace h := hR22; rw [← e_] at h; clear e_
      refine x_hit ?_
      refine za1 ?_
      refine c_seq ?_
      refine a_startS (ds := []) [none, none, none, some 3, none] MO rfl ?_
      refine zai 0 rfl rfl rfl (by kernel_rfl) (fun _ _ _ h => h) (za2 rfl) ?_
      refine zai 1 rfl rfl rfl (by kernel_rfl) (fun _ _ _ h => h) (za2 rfl) ?_
      refine zai 2 rfl rfl rfl (by kernel_rfl) (fun _ _ _ h => h) (za2 rfl) ?_
      refine zai 3 rfl rfl rfl (by kernel_rfl) (fun _ _ _ h => h) (q_nil rfl) ?_
      refine zai 4 rfl rfl rfl (by kernel_rfl) (fun _ _ _ h => h) (q_f F36_0 rfl) ?_
      refine a_take 5 rfl rfl rfl (by kernel_rfl) (fun _ _ _ h => h) (fun w h => zao [none, none, none, some 3, none] (by decide) w h rfl) (q_ldb Y3 rfl (fun w h => B0.now Z h) rfl) ?_
      refine zai 6 rfl rfl rfl (by kernel_rfl) (fun _ _ _ h => h) (za2 rfl) ?_
      refine zai 7 rfl rfl rfl (by kernel_rfl) (fun _ _ _ h => h) (q_nil rfl) ?_
      refine zai 8 rfl rfl rfl (by kernel_rfl) (fun _ _ _ h => h) (q_f F36_0 rfl) ?_
      refine a_take 9 rfl rfl rfl (by kernel_rfl) (fun _ _ _ h => h) (fun w h => zao [none, none, none, some 3, none] (by decide) w h rfl) (q_ldb Y3 rfl (fun w h => B0.now Z h) rfl) ?_
      refine a_fact (p := l6.length = l15.length ∧ l6.length ≤ c9) (fun w h => h.row_nc (i := 0) rfl) (fun hk101 => ?_)
      refine za5 h (fun _ hz102 h => ?_) rfl
      refine zai 10 rfl rfl rfl (by kernel_rfl) (fun _ _ _ h => h) (q_tk Try.underlying22 Z3 rfl ⟨_, rfl⟩ ⟨_, rfl⟩ hk101.1 hk101.2 hz102) ?_
      refine a_pick [1, 2, 0, 3, 4] (by decide) rfl ?_
      refine za5 h (fun _ hx103 h => ?_) rfl
      refine a_one 11 rfl rfl (by kernel_rfl) rfl (za9 3 Z Try.func93 N93 rfl rfl rfl (fun w P1 hF hB hS hT => impl_maker_plan_2.calls c4 (l0_2.length : Int) A13 c14 l12.length l12 none 0 0 [] A8 c9 l6.length l15 ((a0_0 : Int).toNat) hB hF (hT 0 _ rfl).row (hT 0 _ rfl).cap hx103)) (fun s w h => zao [none, none, none, some 3, none] (by decide) w h rfl) (fun _ => ?_)
      refine a_one 12 rfl rfl (by kernel_rfl) rfl (zaj (i := 4) rfl rfl rfl Z36 rfl rfl) (fun s w h => zao [none, none, none, some 3, none] (by decide) w h rfl) (fun _ => ?_)
      refine a_done (by kernel_rfl) ?_
      refine za1 ?_
      refine c_ret ?_
      refine x_fact (p := l6.length = l15.length) (fun w h => (h.row_C (i := 1) rfl).2.1) (fun hn104 => ?_)
      have e0_ := Option.some.inj h; clear h
      have d0_ := (Prod.mk.inj e0_).1; have e1_ := (Prod.mk.inj e0_).2; clear e0_; subst d0_
      subst e1_
      exact x_r1 (A13, c14, A8, c9) Try.results97 (rv_cell (cs := #[.int .i64 (l0_2.length : Int), .slice A13 l12.length c14, .slice A8 (tl ((a0_0 : Int).toNat) l6.length) (tl ((a0_0 : Int).toNat) l6.length)]) rfl G36 Z36 (fun w h => h.zae (i := 4) rfl) rfl) (by (try rw [hn104]); first | done | rfl) (f_pickE (L1 := [row kStep 117 (.slice A13 l12.length c14) l12, row (Kd.int .i64) 3 (.slice A8 l6.length c9) l15, box c4 108 #[.int .i64 (l0_2.length : Int), .slice A13 l12.length c14, .slice A8 (tl ((a0_0 : Int).toNat) l6.length) (tl ((a0_0 : Int).toNat) l6.length)], row (Kd.int .i64) 3 (.slice none 0 0) [], box g1 36 #[.int .i64 (l0_2.length : Int), .slice A13 l12.length c14, .slice A8 (tl ((a0_0 : Int).toNat) l6.length) (tl ((a0_0 : Int).toNat) l6.length)]]) rfl [0, 1] (by decide) rfl (by (try rw [hn104]); first | done | rfl))

end Go.Proofs.Ytpdpomjgfmdjfaa.V3
