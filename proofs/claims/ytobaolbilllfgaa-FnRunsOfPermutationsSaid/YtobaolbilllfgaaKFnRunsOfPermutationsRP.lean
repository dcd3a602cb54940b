import Derived.Test.YtobaolbilllfgaaKFnRunsOfPermutationsRPp3
namespace Go.Proofs.Ytobaolbilllfgaa.RP
open Go.RowKit Go.Proofs.Ytobaolbilllfgaa.Frame Go.Proofs.YtobaolbilllfgaaW.PrintLast Go.Proofs.Ytobaolbilllfgaa.Hand
open Go.Proofs.YtobaolbilllfgaaW.PrintWords hiding mn mx
set_option linter.unusedVariables false
/-! ### loop.example/g01098/impl.DoCommute: function 9 -/
def impl_DoCommute.l1 (y6 : List Int) : (List (List Int)) → Int → Option ((Bool × Bool) ⊕ (Unit))
  | [], i20 => some (.inr ())
  | y21 :: ys22, i20 => (impl_then.f y6 y21).bind fun l34 => (impl_then.f y21 y6).bind fun l38 => (slices_Equal_int_int.f l34 l38).bind fun b42 => if b42 = true then (impl_DoCommute.l1 y6 ys22 (i20 + 1)) else (some (.inl (false, true)))
def impl_DoCommute.l0 (l0 : List (List Int)) : (List (List Int)) → Int → Option ((Bool × Bool) ⊕ (Unit))
  | [], i5 => some (.inr ())
  | y6 :: ys7, i5 => (ct l0 (0 : Int) i5).bind fun l18 => (impl_DoCommute.l1 y6 l18 0).bind fun o_ => match o_ with | .inl r_ => some (.inl r_) | .inr _ => impl_DoCommute.l0 l0 ys7 (i5 + 1)
def impl_DoCommute.f (l0 : List (List Int)) : Option (Bool × Bool) := if 6 < (l0.length : Int) then (some (false, false)) else ((impl_alike.f l0).bind fun b3 => if b3 = true then ((impl_DoCommute.l0 l0 l0 0).bind fun o_ => match o_ with | .inl r_ => some r_ | .inr _ => some (true, true)) else (some (false, false)))
set_option maxHeartbeats 600000 in
set_option maxRecDepth 100000 in
theorem impl_DoCommute.calls {w0 ws : World} {P0 : Nat → Prop} (A0 : Option Addr) (c0 : Nat) (n0 : Nat) (H0 : Hd) (l0 : List (List Int)) (Z : Below w0.heap.size w0 ws) (hF : Fr w0 ws P0 [] ws) (R0 : Stable ws P0 (fun w => Kd.C (gk 3 (Kd.int .i64)) w A0 n0 (zp H0 l0))) (hc0 : n0 ≤ c0) (r_1 : Bool) (r_2 : Bool) (h : impl_DoCommute.f l0 = some (r_1, r_2)) :
    Calls Try.prog 9 #[.slice A0 n0 c0] ws (Post1 w0 ws P0 (fun (_ : Unit) => .tuple #[.bool r_1, .bool r_2]) (fun (_ : Unit) => [])) := by
  unfold impl_DoCommute.f at h
  obtain rfl := (zp_len _ _).symm.trans (R0 ws (KeptB.refl _ _)).1
  refine enter Try.func9 rfl Try.ntmps9 rfl hF ?_
  refine c_seq ?_
  refine za0 ?_
  refine o_q rfl rfl (q_asg rfl) ?_
  refine o_q rfl rfl (q_asg rfl) ?_
  refine o_end ?_
  refine za1 ?_
  refine c_seq ?_
  refine c_seq ?_
  refine za0 ?_
  refine o_q rfl rfl (za2 rfl) ?_
  refine o_q rfl rfl (q_len Try.underlying28 rfl) ?_
  refine o_q rfl rfl (q_gtr rfl rfl) ?_
  refine o_q rfl rfl (za2 rfl) ?_
  refine byB (decide (6 < (l0.length : Int))) (fun hb1 => ?_) (fun hb1 => ?_)
  · replace h := br_t hb1 h
    refine @o_n _ _ _ _ _ _ _ _ _ _ _ 12 (za3 rfl rfl rfl (congrArg Value.bool hb1) rfl) (Eq.refl (some 12)) ?_
    refine @o_n _ _ _ _ _ _ _ _ _ _ _ 13 (za3 rfl rfl rfl (congrArg Value.bool hb1) rfl) (Eq.refl (some 13)) ?_
    refine @o_n _ _ _ _ _ _ _ _ _ _ _ 14 (za3 rfl rfl rfl (congrArg Value.bool hb1) rfl) (Eq.refl (some 14)) ?_
    refine o_q rfl rfl (zar true (congrArg Value.bool hb1) rfl) ?_
    refine o_end ?_
    refine za1 ?_
    refine zaw rfl ?_
    refine c_seq ?_
    refine za0 ?_
    refine o_q rfl rfl (q_asg rfl) ?_
    refine o_q rfl rfl (q_asg rfl) ?_
    refine o_end ?_
    refine za1 ?_
    refine c_ret ?_
    refine za5 ?_
    have e0_ := Option.some.inj h; clear h
    have d0_ := (Prod.mk.inj e0_).1; have e1_ := (Prod.mk.inj e0_).2; clear e0_; subst d0_
    subst e1_
    exact x_r2 () Try.results9 (zaa rfl) (zaa rfl) rfl (fun w h => za7 [] (by decide) rfl w h)
  · replace h := br_f hb1 h
    refine o_w (za4 rfl rfl rfl (congrArg Value.bool hb1)) rfl (za2 rfl) ?_
    refine za8 h (fun b3 hx2 h => ?_) rfl
    refine o_ew (za4 rfl rfl rfl (congrArg Value.bool hb1)) (za9 0 Z Try.func22 N22 rfl rfl rfl (fun w P1 hF hB hS hT => impl_alike.calls A0 c0 l0.length H0 l0 hB hF (hS _ R0) hc0 _ hx2)) (fun _ => ?_)
    refine o_w (za4 rfl rfl rfl (congrArg Value.bool hb1)) rfl (q_not rfl) ?_
    refine o_q rfl rfl (zar false (congrArg Value.bool hb1) rfl) ?_
    refine o_end ?_
    refine za1 ?_
    refine zaq _ rfl (fun hb4 => ?_) (fun hb4 => ?_)
    · replace hb4 := nt_t hb4
      replace h := bb_f hb4 h
      refine c_seq ?_
      refine za0 ?_
      refine o_q rfl rfl (q_asg rfl) ?_
      refine o_q rfl rfl (q_asg rfl) ?_
      refine o_end ?_
      refine za1 ?_
      refine c_ret ?_
      refine za5 ?_
      have e0_ := Option.some.inj h; clear h
      have d0_ := (Prod.mk.inj e0_).1; have e1_ := (Prod.mk.inj e0_).2; clear e0_; subst d0_
      subst e1_
      exact x_r2 () Try.results9 (zaa rfl) (zaa rfl) rfl (fun w h => za7 [] (by decide) rfl w h)
    · replace hb4 := nt_f hb4
      replace h := bb_t hb4 h
      refine zak ?_
      refine za1 ?_
      refine c_seq ?_
      refine c_seq ?_
      refine za0 ?_
      refine o_q rfl rfl (za2 rfl) ?_
      refine o_q rfl rfl (q_len Try.underlying28 rfl) ?_
      refine o_q rfl rfl (za2 rfl) ?_
      refine o_end ?_
      refine za1 ?_
      refine zaf ?_
      refine za8 h (fun o13 hl12 hR11 => ?_) rfl
      clear h
      refine c_fact (p := l0.length ≤ 9223372036854775807) (fun w h => (R0.now Z h).2.1) (fun hm10 => ?_)
      refine zav (σ := (List (List Int)) × Int) (fun k8 ((ys7, i5) : (List (List Int)) × Int) => Rg l0 i5 ys7 ∧ ys7.length = k8 ∧ impl_DoCommute.l0 l0 ys7 i5 = some o13) [2, 3, 4, 5, 7, 18, 19, 20, 21, 22, 23, 24, 25, 26, 27, 28, 29, 30, 31, 32, 33, 34, 35, 36, 37, 38, 39, 40] (fun ((ys7, i5) : (List (List Int)) × Int) => [(18, .int .i64 i5)]) (fun ((ys7, i5) : (List (List Int)) × Int) => []) l0.length (l0, 0) ⟨Rg.start _, rfl, hl12⟩ ⟨rfl, trivial⟩ (fun w h => h) ?_
      refine fun k8 => cur2 (listC (fun i5 U14 hJ_ => ?_) (fun y6 ys7 i5 U14 hJ_ => ?_))
      · skip
        clear hl12
        have hr9 := hJ_.1; have hk15 := hJ_.2.1; have h := hJ_.2.2; clear hJ_
        replace h : impl_DoCommute.l0 l0 [] i5 = some o13 := h
        rw [impl_DoCommute.l0] at h
        refine c_seq ?_
        refine za0 ?_
        refine o_q rfl rfl (q_lss rfl rfl) ?_
        refine o_end ?_
        refine za1 ?_
        refine c_seq ?_
        refine c_false (congrArg Value.bool hr9.ge) ?_
        refine c_exit ?_
        refine za6 ?_
        refine za6 ?_
        have e_ := Option.some.inj h; replace h := hR11; rw [← e_] at h; clear e_
        refine x_hit ?_
        refine za1 ?_
        refine c_seq ?_
        refine za0 ?_
        refine o_q rfl rfl (q_asg rfl) ?_
        refine o_q rfl rfl (q_asg rfl) ?_
        refine o_end ?_
        refine za1 ?_
        refine c_ret ?_
        have e0_ := Option.some.inj h; clear h
        have d0_ := (Prod.mk.inj e0_).1; have e1_ := (Prod.mk.inj e0_).2; clear e0_; subst d0_
        subst e1_
        exact x_r2 () Try.results9 (zaa rfl) (zaa rfl) rfl (fun w h => za7 [] (by decide) rfl w h)
      · skip
        clear hl12
        have hr9 := hJ_.1; have hk15 := hJ_.2.1; have h := hJ_.2.2; clear hJ_
        replace h : impl_DoCommute.l0 l0 (y6 :: ys7) i5 = some o13 := h
        rw [impl_DoCommute.l0] at h
        refine c_seq ?_
        refine za0 ?_
        refine o_q rfl rfl (q_lss rfl rfl) ?_
        refine o_end ?_
        refine za1 ?_
        refine c_seq ?_
        refine zaw (congrArg Value.bool hr9.lt) ?_
        refine zak ?_
        refine za1 ?_
        refine c_seq ?_
        refine zaf ?_
        refine c_seq ?_
        refine za0 ?_
        refine o_q rfl rfl (za2 rfl) ?_
        refine zat (p := Sh A0 l0.length (zp H0 l0).length) (fun w h => f_sh (dk := (gk 3 (Kd.int .i64))) h (fun w h => R0.now Z h)) (fun hq16 => ?_)
        refine o_q rfl rfl (q_ix Try.underlying28 Z25 rfl rfl hq16 (gt_zp hr9.get)) ?_
        refine zat (p := y6.length ≤ hC H0 i5) (fun w h => (K_in (R0.now Z h) hr9.get).1) (fun hc17 => ?_)
        refine o_q rfl rfl (q_lde (off := 0) Y25 rfl rfl (fun w h => R0.now Z h) (gt_zp hr9.get) (fun _ _ h => h.1) rfl) ?_
        refine o_q rfl rfl (q_asg rfl) ?_
        refine o_q rfl rfl (q_asg rfl) ?_
        refine o_end ?_
        refine za1 ?_
        refine c_seq ?_
        refine za0 ?_
        refine o_q rfl rfl (za2 rfl) ?_
        refine o_q rfl rfl (za2 rfl) ?_
        refine za8 h (fun l18 hz19 h => ?_) rfl
        refine o_q rfl rfl (q_ctv Try.underlying28 Z25 rfl rfl ⟨_, rfl⟩ rfl hc0 hz19) ?_
        refine o_q rfl rfl (q_len Try.underlying28 rfl) ?_
        refine o_q rfl rfl (za2 rfl) ?_
        refine o_end ?_
        refine za1 ?_
        refine zaf ?_
        refine za8 h (fun o28 hl27 hR26 => ?_) rfl
        clear h
        refine c_fact (p := l18.length ≤ 9223372036854775807) (fun w h => (C_cutG hz19 hc0 (R0.now Z h)).2.1) (fun hm25 => ?_)
        refine zav (σ := (List (List Int)) × Int) (fun k23 ((ys22, i20) : (List (List Int)) × Int) => Rg l18 i20 ys22 ∧ ys22.length = k23 ∧ impl_DoCommute.l1 y6 ys22 i20 = some o28) [2, 3, 7, 27, 28, 29, 30, 31, 32, 33, 34, 35, 36, 37, 38, 39] (fun ((ys22, i20) : (List (List Int)) × Int) => [(27, .int .i64 i20)]) (fun ((ys22, i20) : (List (List Int)) × Int) => []) l18.length (l18, 0) ⟨Rg.start _, rfl, hl27⟩ ⟨rfl, trivial⟩ (fun w h => h) ?_
        refine fun k23 => cur2 (listC (fun i20 U29 hJ_ => ?_) (fun y21 ys22 i20 U29 hJ_ => ?_))
        · skip
          clear hl27
          have hr24 := hJ_.1; have hk30 := hJ_.2.1; have h := hJ_.2.2; clear hJ_
          replace h : impl_DoCommute.l1 y6 [] i20 = some o28 := h
          rw [impl_DoCommute.l1] at h
          refine c_seq ?_
          refine za0 ?_
          refine o_q rfl rfl (q_lss rfl rfl) ?_
          refine o_end ?_
          refine za1 ?_
          refine c_seq ?_
          refine c_false (congrArg Value.bool hr24.ge) ?_
          refine c_exit ?_
          refine za6 ?_
          refine za6 ?_
          have e_ := Option.some.inj h; replace h := hR26; rw [← e_] at h; clear e_
          refine x_hit ?_
          refine zam ?_
          refine za1 ?_
          refine za0 ?_
          refine o_q rfl rfl (q_up rfl rfl (hr9.up hm10)) ?_
          refine o_q rfl rfl (za2 rfl) ?_
          refine o_end ?_
          refine zal ys7.length (ys7, i5 + 1) (by rw [← hk15]; exact Nat.lt_succ_self _) ⟨hr9.step, rfl, h⟩ ⟨rfl, trivial⟩ (fun w h => za7 [] (by decide) rfl w h) ?_
          repeat (first | exact zad _ _ | refine zah rfl ?_ | refine zae rfl ?_ | refine zai rfl ?_)
        · skip
          clear hl27
          have hr24 := hJ_.1; have hk30 := hJ_.2.1; have h := hJ_.2.2; clear hJ_
          replace h : impl_DoCommute.l1 y6 (y21 :: ys22) i20 = some o28 := h
          rw [impl_DoCommute.l1] at h
          refine c_seq ?_
          refine za0 ?_
          refine o_q rfl rfl (q_lss rfl rfl) ?_
          refine o_end ?_
          refine za1 ?_
          refine c_seq ?_
          refine zaw (congrArg Value.bool hr24.lt) ?_
          refine zak ?_
          refine za1 ?_
          refine c_seq ?_
          refine zaf ?_
          refine c_seq ?_
          refine za0 ?_
          refine zat (p := Sh (cutA A0 c0 (0 : Int).toNat 1) l18.length (zp (H0.drop (0 : Int).toNat) l18).length) (fun w h => f_sh (dk := (gk 3 (Kd.int .i64))) h (fun w h => C_cutG hz19 hc0 (R0.now Z h))) (fun hq31 => ?_)
          refine o_q rfl rfl (q_ix Try.underlying28 Z25 rfl rfl hq31 (gt_zp hr24.get)) ?_
          refine zat (p := y21.length ≤ hC (H0.drop (0 : Int).toNat) i20) (fun w h => (K_in (C_cutG hz19 hc0 (R0.now Z h)) hr24.get).1) (fun hc32 => ?_)
          refine o_q rfl rfl (q_lde (off := 0) Y25 rfl rfl (fun w h => C_cutG hz19 hc0 (R0.now Z h)) (gt_zp hr24.get) (fun _ _ h => h.1) rfl) ?_
          refine o_q rfl rfl (q_asg rfl) ?_
          refine o_end ?_
          refine za1 ?_
          refine c_seq ?_
          refine za0 ?_
          refine o_q rfl rfl (za2 rfl) ?_
          refine o_q rfl rfl (za2 rfl) ?_
          refine za8 h (fun l34 hx33 h => ?_) rfl
          refine o_e rfl (za9 0 Z Try.func25 N25 rfl rfl rfl (fun w P1 hF hB hS hT => impl_then.calls (hA H0 i5) (hC H0 i5) y6.length y6 (hA (H0.drop (0 : Int).toNat) i20) (hC (H0.drop (0 : Int).toNat) i20) y21.length y21 hB hF (stab_in (hS _ R0) hr9.get) hc17 (stab_in (stab_cutG hz19 hc0 (hS _ R0)) hr24.get) hc32 _ hx33)) (cur2 (fun A35 c36 => ?_))
          refine o_q rfl rfl (za2 rfl) ?_
          refine o_q rfl rfl (za2 rfl) ?_
          refine za8 h (fun l38 hx37 h => ?_) rfl
          refine o_e rfl (za9 0 Z Try.func25 N25 rfl rfl rfl (fun w P1 hF hB hS hT => impl_then.calls (hA (H0.drop (0 : Int).toNat) i20) (hC (H0.drop (0 : Int).toNat) i20) y21.length y21 (hA H0 i5) (hC H0 i5) y6.length y6 hB hF (stab_in (stab_cutG hz19 hc0 (hS _ R0)) hr24.get) hc32 (stab_in (hS _ R0) hr9.get) hc17 _ hx37)) (cur2 (fun A39 c40 => ?_))
          refine za8 h (fun b42 hx41 h => ?_) rfl
          refine o_e rfl (za9 0 Z Try.func31 N31 rfl rfl rfl (fun w P1 hF hB hS hT => slices_Equal_int_int.calls A35 c36 l34.length l34 A39 c40 l38.length l38 hB hF (hT 1 _ rfl).row (hT 1 _ rfl).cap (hT 0 _ rfl).row (hT 0 _ rfl).cap _ hx41)) (fun _ => ?_)
          refine o_q rfl rfl (q_not rfl) ?_
          refine o_end ?_
          refine za1 ?_
          refine zaq _ rfl (fun hb43 => ?_) (fun hb43 => ?_)
          · replace hb43 := nt_t hb43
            replace h := bb_f hb43 h
            refine c_seq ?_
            refine za0 ?_
            refine o_q rfl rfl (q_asg rfl) ?_
            refine o_q rfl rfl (q_asg rfl) ?_
            refine o_end ?_
            refine za1 ?_
            refine c_ret ?_
            refine zab ?_
            refine za5 ?_
            refine za5 ?_
            have e_ := Option.some.inj h; replace h := hR26; rw [← e_] at h; clear e_
            refine zab ?_
            refine zab ?_
            refine za5 ?_
            refine za5 ?_
            have e_ := Option.some.inj h; replace h := hR11; rw [← e_] at h; clear e_
            refine zab ?_
            refine za5 ?_
            have e0_ := Option.some.inj h; clear h
            have d0_ := (Prod.mk.inj e0_).1; have e1_ := (Prod.mk.inj e0_).2; clear e0_; subst d0_
            subst e1_
            exact x_r2 () Try.results9 (zaa rfl) (zaa rfl) rfl (fun w h => za7 [] (by decide) rfl w h)
          · replace hb43 := nt_f hb43
            replace h := bb_t hb43 h
            refine zak ?_
            refine zam ?_
            refine za1 ?_
            refine za0 ?_
            refine o_q rfl rfl (q_up rfl rfl (hr24.up hm25)) ?_
            refine o_q rfl rfl (za2 rfl) ?_
            refine o_end ?_
            refine zal ys22.length (ys22, i20 + 1) (by rw [← hk30]; exact Nat.lt_succ_self _) ⟨hr24.step, rfl, h⟩ ⟨rfl, trivial⟩ (fun w h => za7 [] (by decide) rfl w h) ?_
            repeat (first | exact zad _ _ | refine zah rfl ?_ | refine zae rfl ?_ | refine zai rfl ?_)

/-! ### loop.example/g01098/spec.l1Same: function 32 -/
def spec_l1Same.l0 (l1 : List Int) : (List Int) → Int → Option ((Bool) ⊕ (Unit))
  | [], i2 => some (.inr ())
  | y3 :: ys4, i2 => (gt l1 i2).bind fun y16 => if y3 ≠ y16 then (some (.inl false)) else (spec_l1Same.l0 l1 ys4 (i2 + 1))
def spec_l1Same.f (l0 : List Int) (l1 : List Int) : Option Bool := if (l0.length : Int) ≠ (l1.length : Int) then (some false) else ((spec_l1Same.l0 l1 l0 0).bind fun o_ => match o_ with | .inl r_ => some r_ | .inr _ => some true)
set_option maxHeartbeats 600000 in
set_option maxRecDepth 100000 in
theorem spec_l1Same.calls {w0 ws : World} {P0 : Nat → Prop} (A0 : Option Addr) (c0 : Nat) (n0 : Nat) (l0 : List Int) (A1 : Option Addr) (c1 : Nat) (n1 : Nat) (l1 : List Int) (Z : Below w0.heap.size w0 ws) (hF : Fr w0 ws P0 [] ws) (R0 : Stable ws P0 (fun w => Kd.C (Kd.int .i64) w A0 n0 l0)) (hc0 : n0 ≤ c0) (R1 : Stable ws P0 (fun w => Kd.C (Kd.int .i64) w A1 n1 l1)) (hc1 : n1 ≤ c1) (r_1 : Bool) (h : spec_l1Same.f l0 l1 = some r_1) :
    Calls Try.prog 32 #[.slice A0 n0 c0, .slice A1 n1 c1] ws (Post1 w0 ws P0 (fun (_ : Unit) => .bool r_1) (fun (_ : Unit) => [])) := by
  unfold spec_l1Same.f at h
  obtain rfl := (R0 ws (KeptB.refl _ _)).1
  obtain rfl := (R1 ws (KeptB.refl _ _)).1
  refine enter Try.func32 rfl Try.ntmps32 rfl hF ?_
  refine c_seq ?_
  refine za0 ?_
  refine o_q rfl rfl (q_asg rfl) ?_
  refine o_end ?_
  refine za1 ?_
  refine c_seq ?_
  refine c_seq ?_
  refine za0 ?_
  refine o_q rfl rfl (za2 rfl) ?_
  refine o_q rfl rfl (q_len Try.underlying25 rfl) ?_
  refine o_q rfl rfl (za2 rfl) ?_
  refine o_q rfl rfl (q_len Try.underlying25 rfl) ?_
  refine o_q rfl rfl (q_neq rfl rfl) ?_
  refine o_end ?_
  refine za1 ?_
  refine zaq _ rfl (fun hb1 => ?_) (fun hb1 => ?_)
  · skip
    replace h := br_t hb1 h
    refine c_seq ?_
    refine za0 ?_
    refine o_q rfl rfl (q_asg rfl) ?_
    refine o_end ?_
    refine za1 ?_
    refine c_ret ?_
    refine za5 ?_
    have e0_ := Option.some.inj h; clear h
    subst e0_
    exact x_r1 () Try.results32 (zaa rfl) rfl (fun w h => za7 [] (by decide) rfl w h)
  · skip
    replace h := br_f hb1 h
    refine zak ?_
    refine za1 ?_
    refine c_seq ?_
    refine c_seq ?_
    refine za0 ?_
    refine o_q rfl rfl (za2 rfl) ?_
    refine o_q rfl rfl (q_len Try.underlying25 rfl) ?_
    refine o_q rfl rfl (za2 rfl) ?_
    refine o_end ?_
    refine za1 ?_
    refine zaf ?_
    refine za8 h (fun o10 hl9 hR8 => ?_) rfl
    clear h
    refine c_fact (p := l0.length ≤ 9223372036854775807) (fun w h => (R0.now Z h).2.1) (fun hm7 => ?_)
    refine zav (σ := (List Int) × Int) (fun k5 ((ys4, i2) : (List Int) × Int) => Rg l0 i2 ys4 ∧ ys4.length = k5 ∧ spec_l1Same.l0 l1 ys4 i2 = some o10) [4, 5, 13, 14, 15, 16, 17, 18, 19, 20, 21, 22, 23, 24, 25] (fun ((ys4, i2) : (List Int) × Int) => [(13, .int .i64 i2)]) (fun ((ys4, i2) : (List Int) × Int) => []) l0.length (l0, 0) ⟨Rg.start _, rfl, hl9⟩ ⟨rfl, trivial⟩ (fun w h => h) ?_
    refine fun k5 => cur2 (listC (fun i2 U11 hJ_ => ?_) (fun y3 ys4 i2 U11 hJ_ => ?_))
    · skip
      clear hl9
      have hr6 := hJ_.1; have hk12 := hJ_.2.1; have h := hJ_.2.2; clear hJ_
      replace h : spec_l1Same.l0 l1 [] i2 = some o10 := h
      rw [spec_l1Same.l0] at h
      refine c_seq ?_
      refine za0 ?_
      refine o_q rfl rfl (q_lss rfl rfl) ?_
      refine o_end ?_
      refine za1 ?_
      refine c_seq ?_
      refine c_false (congrArg Value.bool hr6.ge) ?_
      refine c_exit ?_
      refine za6 ?_
      refine za6 ?_
      have e_ := Option.some.inj h; replace h := hR8; rw [← e_] at h; clear e_
      refine x_hit ?_
      refine za1 ?_
      refine c_seq ?_
      refine za0 ?_
      refine o_q rfl rfl (q_asg rfl) ?_
      refine o_end ?_
      refine za1 ?_
      refine c_ret ?_
      have e0_ := Option.some.inj h; clear h
      subst e0_
      exact x_r1 () Try.results32 (zaa rfl) rfl (fun w h => za7 [] (by decide) rfl w h)
    · skip
      clear hl9
      have hr6 := hJ_.1; have hk12 := hJ_.2.1; have h := hJ_.2.2; clear hJ_
      replace h : spec_l1Same.l0 l1 (y3 :: ys4) i2 = some o10 := h
      rw [spec_l1Same.l0] at h
      refine c_seq ?_
      refine za0 ?_
      refine o_q rfl rfl (q_lss rfl rfl) ?_
      refine o_end ?_
      refine za1 ?_
      refine c_seq ?_
      refine zaw (congrArg Value.bool hr6.lt) ?_
      refine zak ?_
      refine za1 ?_
      refine c_seq ?_
      refine zaf ?_
      refine c_seq ?_
      refine za0 ?_
      refine o_q rfl rfl (za2 rfl) ?_
      refine o_q rfl rfl (q_asg rfl) ?_
      refine o_end ?_
      refine za1 ?_
      refine c_seq ?_
      refine a_start (ds := []) MO rfl ?_
      refine zac 0 rfl rfl rfl (by kernel_rfl) (fun _ _ _ h => h) (za2 rfl) ?_
      refine zac 1 rfl rfl rfl (by kernel_rfl) (fun _ _ _ h => h) (za2 rfl) ?_
      refine a_fact (p := Sh A0 l0.length l0.length) (fun w h => f_sh (dk := (Kd.int .i64)) h (fun w h => R0.now Z h)) (fun hq13 => ?_)
      refine zac 2 rfl rfl rfl (by kernel_rfl) (fun _ _ _ h => h) (q_ix Try.underlying25 Z3 rfl rfl hq13 hr6.get) ?_
      refine a_take 3 rfl rfl rfl (by kernel_rfl) (fun _ _ _ h => h) (fun w h => h) (q_lde (off := 0) Y3 rfl rfl (fun w h => R0.now Z h) hr6.get (fun _ _ h => h) rfl) ?_
      refine zac 4 rfl rfl rfl (by kernel_rfl) (fun _ _ _ h => h) (za2 rfl) ?_
      refine zac 5 rfl rfl rfl (by kernel_rfl) (fun _ _ _ h => h) (za2 rfl) ?_
      refine a_fact (p := Sh A1 l1.length l1.length) (fun w h => f_sh (dk := (Kd.int .i64)) h (fun w h => R1.now Z h)) (fun hq14 => ?_)
      refine za8 h (fun y16 hg15 h => ?_) rfl
      refine zac 6 rfl rfl rfl (by kernel_rfl) (fun _ _ _ h => h) (q_ix Try.underlying25 Z3 rfl rfl hq14 hg15) ?_
      refine a_take 7 rfl rfl rfl (by kernel_rfl) (fun _ _ _ h => h) (fun w h => h) (q_lde (off := 0) Y3 rfl rfl (fun w h => R1.now Z h) hg15 (fun _ _ h => h) rfl) ?_
      refine zac 8 rfl rfl rfl (by kernel_rfl) (fun _ _ _ h => h) (q_neq rfl rfl) ?_
      refine a_done (by kernel_rfl) ?_
      refine za1 ?_
      refine zaq _ rfl (fun hb17 => ?_) (fun hb17 => ?_)
      · skip
        replace h := br_t hb17 h
        refine c_seq ?_
        refine za0 ?_
        refine o_q rfl rfl (q_asg rfl) ?_
        refine o_end ?_
        refine za1 ?_
        refine c_ret ?_
        refine zab ?_
        refine za5 ?_
        refine za5 ?_
        have e_ := Option.some.inj h; replace h := hR8; rw [← e_] at h; clear e_
        refine zab ?_
        refine za5 ?_
        have e0_ := Option.some.inj h; clear h
        subst e0_
        exact x_r1 () Try.results32 (zaa rfl) rfl (fun w h => za7 [] (by decide) rfl w h)
      · skip
        replace h := br_f hb17 h
        refine zak ?_
        refine zam ?_
        refine za1 ?_
        refine za0 ?_
        refine o_q rfl rfl (q_up rfl rfl (hr6.up hm7)) ?_
        refine o_q rfl rfl (za2 rfl) ?_
        refine o_end ?_
        refine zal ys4.length (ys4, i2 + 1) (by rw [← hk12]; exact Nat.lt_succ_self _) ⟨hr6.step, rfl, h⟩ ⟨rfl, trivial⟩ (fun w h => za7 [] (by decide) rfl w h) ?_
        repeat (first | exact zad _ _ | refine zah rfl ?_ | refine zae rfl ?_ | refine zai rfl ?_)

/-! ### loop.example/g01098/spec.DoCommute: function 10 -/
def spec_DoCommute.l1 (y5 : List Int) : (List (List Int)) → Int → Option ((Bool × Bool) ⊕ (Unit))
  | [], i17 => some (.inr ())
  | y18 :: ys19, i17 => (spec_moThen.f y5 y18).bind fun l30 => (spec_moThen.f y18 y5).bind fun l34 => (spec_l1Same.f l30 l34).bind fun b38 => if b38 = true then (spec_DoCommute.l1 y5 ys19 (i17 + 1)) else (some (.inl (false, true)))
def spec_DoCommute.l0 (l0 : List (List Int)) : (List (List Int)) → Int → Option ((Bool × Bool) ⊕ (Unit))
  | [], i4 => some (.inr ())
  | y5 :: ys6, i4 => (spec_DoCommute.l1 y5 l0 0).bind fun o_ => match o_ with | .inl r_ => some (.inl r_) | .inr _ => spec_DoCommute.l0 l0 ys6 (i4 + 1)
def spec_DoCommute.f (l0 : List (List Int)) : Option (Bool × Bool) := (spec_moAlike.f l0).bind fun b2 => if b2 = true then ((spec_DoCommute.l0 l0 l0 0).bind fun o_ => match o_ with | .inl r_ => some r_ | .inr _ => some (true, true)) else (some (false, false))
set_option maxHeartbeats 600000 in
set_option maxRecDepth 100000 in
theorem spec_DoCommute.calls {w0 ws : World} {P0 : Nat → Prop} (A0 : Option Addr) (c0 : Nat) (n0 : Nat) (H0 : Hd) (l0 : List (List Int)) (Z : Below w0.heap.size w0 ws) (hF : Fr w0 ws P0 [] ws) (R0 : Stable ws P0 (fun w => Kd.C (gk 3 (Kd.int .i64)) w A0 n0 (zp H0 l0))) (hc0 : n0 ≤ c0) (r_1 : Bool) (r_2 : Bool) (h : spec_DoCommute.f l0 = some (r_1, r_2)) :
    Calls Try.prog 10 #[.slice A0 n0 c0] ws (Post1 w0 ws P0 (fun (_ : Unit) => .tuple #[.bool r_1, .bool r_2]) (fun (_ : Unit) => [])) := by
  unfold spec_DoCommute.f at h
  obtain rfl := (zp_len _ _).symm.trans (R0 ws (KeptB.refl _ _)).1
  refine enter Try.func10 rfl Try.ntmps10 rfl hF ?_
  refine c_seq ?_
  refine za0 ?_
  refine o_q rfl rfl (q_asg rfl) ?_
  refine o_q rfl rfl (q_asg rfl) ?_
  refine o_end ?_
  refine za1 ?_
  refine c_seq ?_
  refine c_seq ?_
  refine za0 ?_
  refine o_q rfl rfl (za2 rfl) ?_
  refine za8 h (fun b2 hx1 h => ?_) rfl
  refine o_e rfl (za9 0 Z Try.func28 N28 rfl rfl rfl (fun w P1 hF hB hS hT => spec_moAlike.calls A0 c0 l0.length H0 l0 hB hF (hS _ R0) hc0 _ hx1)) (fun _ => ?_)
  refine o_q rfl rfl (q_not rfl) ?_
  refine o_end ?_
  refine za1 ?_
  refine zaq _ rfl (fun hb3 => ?_) (fun hb3 => ?_)
  · replace hb3 := nt_t hb3
    replace h := bb_f hb3 h
    refine c_seq ?_
    refine za0 ?_
    refine o_q rfl rfl (q_asg rfl) ?_
    refine o_q rfl rfl (q_asg rfl) ?_
    refine o_end ?_
    refine za1 ?_
    refine c_ret ?_
    refine za5 ?_
    have e0_ := Option.some.inj h; clear h
    have d0_ := (Prod.mk.inj e0_).1; have e1_ := (Prod.mk.inj e0_).2; clear e0_; subst d0_
    subst e1_
    exact x_r2 () Try.results10 (zaa rfl) (zaa rfl) rfl (fun w h => za7 [] (by decide) rfl w h)
  · replace hb3 := nt_f hb3
    replace h := bb_t hb3 h
    refine zak ?_
    refine za1 ?_
    refine c_seq ?_
    refine c_seq ?_
    refine za0 ?_
    refine o_q rfl rfl (za2 rfl) ?_
    refine o_q rfl rfl (q_len Try.underlying28 rfl) ?_
    refine o_q rfl rfl (za2 rfl) ?_
    refine o_end ?_
    refine za1 ?_
    refine zaf ?_
    refine za8 h (fun o12 hl11 hR10 => ?_) rfl
    clear h
    refine c_fact (p := l0.length ≤ 9223372036854775807) (fun w h => (R0.now Z h).2.1) (fun hm9 => ?_)
    refine zav (σ := (List (List Int)) × Int) (fun k7 ((ys6, i4) : (List (List Int)) × Int) => Rg l0 i4 ys6 ∧ ys6.length = k7 ∧ spec_DoCommute.l0 l0 ys6 i4 = some o12) [2, 3, 5, 7, 13, 14, 15, 16, 17, 18, 19, 20, 21, 22, 23, 24, 25, 26, 27, 28, 29, 30, 31, 32] (fun ((ys6, i4) : (List (List Int)) × Int) => [(13, .int .i64 i4)]) (fun ((ys6, i4) : (List (List Int)) × Int) => []) l0.length (l0, 0) ⟨Rg.start _, rfl, hl11⟩ ⟨rfl, trivial⟩ (fun w h => h) ?_
    refine fun k7 => cur2 (listC (fun i4 U13 hJ_ => ?_) (fun y5 ys6 i4 U13 hJ_ => ?_))
    · skip
      clear hl11
      have hr8 := hJ_.1; have hk14 := hJ_.2.1; have h := hJ_.2.2; clear hJ_
      replace h : spec_DoCommute.l0 l0 [] i4 = some o12 := h
      rw [spec_DoCommute.l0] at h
      refine c_seq ?_
      refine za0 ?_
      refine o_q rfl rfl (q_lss rfl rfl) ?_
      refine o_end ?_
      refine za1 ?_
      refine c_seq ?_
      refine c_false (congrArg Value.bool hr8.ge) ?_
      refine c_exit ?_
      refine za6 ?_
      refine za6 ?_
      have e_ := Option.some.inj h; replace h := hR10; rw [← e_] at h; clear e_
      refine x_hit ?_
      refine za1 ?_
      refine c_seq ?_
      refine za0 ?_
      refine o_q rfl rfl (q_asg rfl) ?_
      refine o_q rfl rfl (q_asg rfl) ?_
      refine o_end ?_
      refine za1 ?_
      refine c_ret ?_
      have e0_ := Option.some.inj h; clear h
      have d0_ := (Prod.mk.inj e0_).1; have e1_ := (Prod.mk.inj e0_).2; clear e0_; subst d0_
      subst e1_
      exact x_r2 () Try.results10 (zaa rfl) (zaa rfl) rfl (fun w h => za7 [] (by decide) rfl w h)
    · skip
      clear hl11
      have hr8 := hJ_.1; have hk14 := hJ_.2.1; have h := hJ_.2.2; clear hJ_
      replace h : spec_DoCommute.l0 l0 (y5 :: ys6) i4 = some o12 := h
      rw [spec_DoCommute.l0] at h
      refine c_seq ?_
      refine za0 ?_
      refine o_q rfl rfl (q_lss rfl rfl) ?_
      refine o_end ?_
      refine za1 ?_
      refine c_seq ?_
      refine zaw (congrArg Value.bool hr8.lt) ?_
      refine zak ?_
      refine za1 ?_
      refine c_seq ?_
      refine zaf ?_
      refine c_seq ?_
      refine za0 ?_
      refine zat (p := Sh A0 l0.length (zp H0 l0).length) (fun w h => f_sh (dk := (gk 3 (Kd.int .i64))) h (fun w h => R0.now Z h)) (fun hq15 => ?_)
      refine o_q rfl rfl (q_ix Try.underlying28 Z25 rfl rfl hq15 (gt_zp hr8.get)) ?_
      refine zat (p := y5.length ≤ hC H0 i4) (fun w h => (K_in (R0.now Z h) hr8.get).1) (fun hc16 => ?_)
      refine o_q rfl rfl (q_lde (off := 0) Y25 rfl rfl (fun w h => R0.now Z h) (gt_zp hr8.get) (fun _ _ h => h.1) rfl) ?_
      refine o_q rfl rfl (q_asg rfl) ?_
      refine o_end ?_
      refine za1 ?_
      refine c_seq ?_
      refine za0 ?_
      refine o_q rfl rfl (za2 rfl) ?_
      refine o_q rfl rfl (q_len Try.underlying28 rfl) ?_
      refine o_q rfl rfl (za2 rfl) ?_
      refine o_end ?_
      refine za1 ?_
      refine zaf ?_
      refine za8 h (fun o25 hl24 hR23 => ?_) rfl
      clear h
      refine c_fact (p := l0.length ≤ 9223372036854775807) (fun w h => (R0.now Z h).2.1) (fun hm22 => ?_)
      refine zav (σ := (List (List Int)) × Int) (fun k20 ((ys19, i17) : (List (List Int)) × Int) => Rg l0 i17 ys19 ∧ ys19.length = k20 ∧ spec_DoCommute.l1 y5 ys19 i17 = some o25) [2, 3, 7, 19, 20, 21, 22, 23, 24, 25, 26, 27, 28, 29, 30, 31] (fun ((ys19, i17) : (List (List Int)) × Int) => [(19, .int .i64 i17)]) (fun ((ys19, i17) : (List (List Int)) × Int) => []) l0.length (l0, 0) ⟨Rg.start _, rfl, hl24⟩ ⟨rfl, trivial⟩ (fun w h => h) ?_
      refine fun k20 => cur2 (listC (fun i17 U26 hJ_ => ?_) (fun y18 ys19 i17 U26 hJ_ => ?_))
      · skip
        clear hl24
        have hr21 := hJ_.1; have hk27 := hJ_.2.1; have h := hJ_.2.2; clear hJ_
        replace h : spec_DoCommute.l1 y5 [] i17 = some o25 := h
        rw [spec_DoCommute.l1] at h
        refine c_seq ?_
        refine za0 ?_
        refine o_q rfl rfl (q_lss rfl rfl) ?_
        refine o_end ?_
        refine za1 ?_
        refine c_seq ?_
        refine c_false (congrArg Value.bool hr21.ge) ?_
        refine c_exit ?_
        refine za6 ?_
        refine za6 ?_
        have e_ := Option.some.inj h; replace h := hR23; rw [← e_] at h; clear e_
        refine x_hit ?_
        refine zam ?_
        refine za1 ?_
        refine za0 ?_
        refine o_q rfl rfl (q_up rfl rfl (hr8.up hm9)) ?_
        refine o_q rfl rfl (za2 rfl) ?_
        refine o_end ?_
        refine zal ys6.length (ys6, i4 + 1) (by rw [← hk14]; exact Nat.lt_succ_self _) ⟨hr8.step, rfl, h⟩ ⟨rfl, trivial⟩ (fun w h => za7 [] (by decide) rfl w h) ?_
        repeat (first | exact zad _ _ | refine zah rfl ?_ | refine zae rfl ?_ | refine zai rfl ?_)
      · skip
        clear hl24
        have hr21 := hJ_.1; have hk27 := hJ_.2.1; have h := hJ_.2.2; clear hJ_
        replace h : spec_DoCommute.l1 y5 (y18 :: ys19) i17 = some o25 := h
        rw [spec_DoCommute.l1] at h
        refine c_seq ?_
        refine za0 ?_
        refine o_q rfl rfl (q_lss rfl rfl) ?_
        refine o_end ?_
        refine za1 ?_
        refine c_seq ?_
        refine zaw (congrArg Value.bool hr21.lt) ?_
        refine zak ?_
        refine za1 ?_
        refine c_seq ?_
        refine zaf ?_
        refine c_seq ?_
        refine za0 ?_
        refine o_q rfl rfl (q_ix Try.underlying28 Z25 rfl rfl hq15 (gt_zp hr21.get)) ?_
        refine zat (p := y18.length ≤ hC H0 i17) (fun w h => (K_in (R0.now Z h) hr21.get).1) (fun hc28 => ?_)
        refine o_q rfl rfl (q_lde (off := 0) Y25 rfl rfl (fun w h => R0.now Z h) (gt_zp hr21.get) (fun _ _ h => h.1) rfl) ?_
        refine o_q rfl rfl (q_asg rfl) ?_
        refine o_end ?_
        refine za1 ?_
        refine c_seq ?_
        refine za0 ?_
        refine o_q rfl rfl (za2 rfl) ?_
        refine o_q rfl rfl (za2 rfl) ?_
        refine za8 h (fun l30 hx29 h => ?_) rfl
        refine o_e rfl (za9 0 Z Try.func30 N30 rfl rfl rfl (fun w P1 hF hB hS hT => spec_moThen.calls (hA H0 i4) (hC H0 i4) y5.length y5 (hA H0 i17) (hC H0 i17) y18.length y18 hB hF (stab_in (hS _ R0) hr8.get) hc16 (stab_in (hS _ R0) hr21.get) hc28 _ hx29)) (cur2 (fun A31 c32 => ?_))
        refine o_q rfl rfl (za2 rfl) ?_
        refine o_q rfl rfl (za2 rfl) ?_
        refine za8 h (fun l34 hx33 h => ?_) rfl
        refine o_e rfl (za9 0 Z Try.func30 N30 rfl rfl rfl (fun w P1 hF hB hS hT => spec_moThen.calls (hA H0 i17) (hC H0 i17) y18.length y18 (hA H0 i4) (hC H0 i4) y5.length y5 hB hF (stab_in (hS _ R0) hr21.get) hc28 (stab_in (hS _ R0) hr8.get) hc16 _ hx33)) (cur2 (fun A35 c36 => ?_))
        refine za8 h (fun b38 hx37 h => ?_) rfl
        refine o_e rfl (za9 0 Z Try.func32 N32 rfl rfl rfl (fun w P1 hF hB hS hT => spec_l1Same.calls A31 c32 l30.length l30 A35 c36 l34.length l34 hB hF (hT 1 _ rfl).row (hT 1 _ rfl).cap (hT 0 _ rfl).row (hT 0 _ rfl).cap _ hx37)) (fun _ => ?_)
        refine o_q rfl rfl (q_not rfl) ?_
        refine o_end ?_
        refine za1 ?_
        refine zaq _ rfl (fun hb39 => ?_) (fun hb39 => ?_)
        · replace hb39 := nt_t hb39
          replace h := bb_f hb39 h
          refine c_seq ?_
          refine za0 ?_
          refine o_q rfl rfl (q_asg rfl) ?_
          refine o_q rfl rfl (q_asg rfl) ?_
          refine o_end ?_
          refine za1 ?_
          refine c_ret ?_
          refine zab ?_
          refine za5 ?_
          refine za5 ?_
          have e_ := Option.some.inj h; replace h := hR23; rw [← e_] at h; clear e_
          refine zab ?_
          refine zab ?_
          refine za5 ?_
          refine za5 ?_
          have e_ := Option.some.inj h; replace h := hR10; rw [← e_] at h; clear e_
          refine zab ?_
          refine za5 ?_
          have e0_ := Option.some.inj h; clear h
          have d0_ := (Prod.mk.inj e0_).1; have e1_ := (Prod.mk.inj e0_).2; clear e0_; subst d0_
          subst e1_
          exact x_r2 () Try.results10 (zaa rfl) (zaa rfl) rfl (fun w h => za7 [] (by decide) rfl w h)
        · replace hb39 := nt_f hb39
          replace h := bb_t hb39 h
          refine zak ?_
          refine zam ?_
          refine za1 ?_
          refine za0 ?_
          refine o_q rfl rfl (q_up rfl rfl (hr21.up hm22)) ?_
          refine o_q rfl rfl (za2 rfl) ?_
          refine o_end ?_
          refine zal ys19.length (ys19, i17 + 1) (by rw [← hk27]; exact Nat.lt_succ_self _) ⟨hr21.step, rfl, h⟩ ⟨rfl, trivial⟩ (fun w h => za7 [] (by decide) rfl w h) ?_
          repeat (first | exact zad _ _ | refine zah rfl ?_ | refine zae rfl ?_ | refine zai rfl ?_)

/-! ### (*loop.example/g01098/impl.Plan).outputExponents: function 33 -/
def impl_Plan_outputExponents.l0 (l2 : List (List Int)) : (List Int) → (List (List Int)) → Int → Option (List (List Int))
  | [], l9, i13 => some l9
  | y14 :: ys15, l9, i13 => (gt l2 y14).bind fun y27 => (slices_Clone_int_int.f y27).bind fun l30 => (ap l9 ([l30] : List (List Int))).bind fun l37 => impl_Plan_outputExponents.l0 l2 ys15 l37 (i13 + 1)
def impl_Plan_outputExponents.f (a0_0 : Int) (l0_1 : List SStep) (l0_2 : List Int) : Option (List (List Int)) := (impl_Plan_exponents.f a0_0 l0_1 l0_2).bind fun l2 => (impl_Plan_outputExponents.l0 l2 l0_2 ([] : List (List Int)) 0).bind fun l9 => some l9
set_option maxHeartbeats 600000 in
set_option maxRecDepth 100000 in
theorem impl_Plan_outputExponents.calls {w0 ws : World} {P0 : Nat → Prop} (g0 : Nat) (a0_0 : Int) (A0_1 : Option Addr) (c0_1 : Nat) (n0_1 : Nat) (l0_1 : List SStep) (A0_2 : Option Addr) (c0_2 : Nat) (n0_2 : Nat) (l0_2 : List Int) (Z : Below w0.heap.size w0 ws) (hF : Fr w0 ws P0 [] ws) (R0_1 : Stable ws P0 (fun w => Kd.C kStep w A0_1 n0_1 l0_1)) (hc0_1 : n0_1 ≤ c0_1) (R0_2 : Stable ws P0 (fun w => Kd.C (Kd.int .i64) w A0_2 n0_2 l0_2)) (hc0_2 : n0_2 ≤ c0_2) (B0 : Stable ws P0 (fun w => w.heap[g0]? = some (.cells #[.int .i64 a0_0, .slice A0_1 n0_1 c0_1, .slice A0_2 n0_2 c0_2] 27 (0, 0)))) (r_1 : List (List Int)) (h : impl_Plan_outputExponents.f a0_0 l0_1 l0_2 = some r_1) :
    Calls Try.prog 33 #[.pointer (some ⟨g0, 0, none⟩)] ws (Post1 w0 ws P0 (fun ((q_2, q_3, q_4) : (Option Addr) × Nat × Hd) => .slice q_2 r_1.length q_3) (fun ((q_2, q_3, q_4) : (Option Addr) × Nat × Hd) => [row (gk 3 (Kd.int .i64)) 25 (.slice q_2 r_1.length q_3) (zp q_4 r_1)])) := by
  unfold impl_Plan_outputExponents.f at h
  obtain rfl := (R0_1 ws (KeptB.refl _ _)).1
  obtain rfl := (R0_2 ws (KeptB.refl _ _)).1
  refine enter Try.func33 rfl Try.ntmps33 rfl hF ?_
  refine c_seq ?_
  refine za0 ?_
  refine o_q rfl rfl (q_asg rfl) ?_
  refine o_end ?_
  refine za1 ?_
  refine c_seq ?_
  refine za0 ?_
  refine o_q rfl rfl (za2 rfl) ?_
  refine za8 h (fun l2 hx1 h => ?_) rfl
  refine o_e rfl (za9 0 Z Try.func47 N47 rfl rfl rfl (fun w P1 hF hB hS hT => impl_Plan_exponents.calls g0 a0_0 A0_1 c0_1 l0_1.length l0_1 A0_2 c0_2 l0_2.length l0_2 hB hF (hS _ R0_1) hc0_1 (hS _ R0_2) hc0_2 (hS _ B0) _ hx1)) (cur3 (fun A3 c4 H5 => ?_))
  refine o_e rfl (e_lit0 (gk 3 (Kd.int .i64)) Try.underlying28 I25) (cur2 (fun A6 c7 => ?_))
  refine o_q rfl rfl (q_asg rfl) ?_
  refine o_q rfl rfl (q_asg rfl) ?_
  refine o_end ?_
  refine za1 ?_
  refine c_seq ?_
  refine c_seq ?_
  refine za0 ?_
  refine o_q rfl rfl (za2 rfl) ?_
  refine o_q rfl rfl (q_nil rfl) ?_
  refine o_q rfl rfl (q_f F27_2 rfl) ?_
  refine o_q rfl rfl (q_ldb Y25 rfl (fun w h => B0.now Z h) rfl) ?_
  refine o_q rfl rfl (q_len Try.underlying25 rfl) ?_
  refine o_q rfl rfl (za2 rfl) ?_
  refine o_end ?_
  refine za1 ?_
  refine zaf ?_
  refine za8 h (fun o21 hl20 hR19 => ?_) rfl
  clear h
  refine c_fact (p := l0_2.length ≤ 9223372036854775807) (fun w h => (R0_2.now Z h).2.1) (fun hm18 => ?_)
  refine zav (σ := (List Int) × (List (List Int)) × Int × (Option Addr) × Nat × Hd) (fun k16 ((ys15, l9, i13, A10, c11, H12) : (List Int) × (List (List Int)) × Int × (Option Addr) × Nat × Hd) => Rg l0_2 i13 ys15 ∧ ys15.length = k16 ∧ impl_Plan_outputExponents.l0 l2 ys15 l9 i13 = some o21) [4, 6, 15, 16, 17, 18, 19, 20, 21, 22, 23, 24, 25, 26, 27] (fun ((ys15, l9, i13, A10, c11, H12) : (List Int) × (List (List Int)) × Int × (Option Addr) × Nat × Hd) => [(4, .slice A10 l9.length c11), (15, .int .i64 i13)]) (fun ((ys15, l9, i13, A10, c11, H12) : (List Int) × (List (List Int)) × Int × (Option Addr) × Nat × Hd) => [row (gk 3 (Kd.int .i64)) 25 (.slice A10 l9.length c11) (zp H12 l9), row (gk 3 (Kd.int .i64)) 25 (.slice A3 l2.length c4) (zp H5 l2)]) l0_2.length (l0_2, ([] : List (List Int)), 0, A6, c7, ([] : Hd)) ⟨Rg.start _, rfl, hl20⟩ ⟨rfl, rfl, trivial⟩ (fun w h => h) ?_
  refine fun k16 => cur6 (listC (fun l9 i13 A10 c11 H12 U22 hJ_ => ?_) (fun y14 ys15 l9 i13 A10 c11 H12 U22 hJ_ => ?_))
  · skip
    clear hl20
    have hr17 := hJ_.1; have hk23 := hJ_.2.1; have h := hJ_.2.2; clear hJ_
    replace h : impl_Plan_outputExponents.l0 l2 [] l9 i13 = some o21 := h
    rw [impl_Plan_outputExponents.l0] at h
    refine c_seq ?_
    refine za0 ?_
    refine o_q rfl rfl (q_lss rfl rfl) ?_
    refine o_end ?_
    refine za1 ?_
    refine c_seq ?_
    refine c_false (congrArg Value.bool hr17.ge) ?_
    refine c_exit ?_
    refine za6 ?_
    refine za6 ?_
    have e_ := Option.some.inj h; replace h := hR19; rw [← e_] at h; clear e_
    refine x_hit ?_
    refine za1 ?_
    refine c_seq ?_
    refine za0 ?_
    refine o_q rfl rfl (za2 rfl) ?_
    refine o_q rfl rfl (q_asg rfl) ?_
    refine o_end ?_
    refine za1 ?_
    refine c_ret ?_
    have e0_ := Option.some.inj h; clear h
    subst e0_
    exact x_r1 (A10, c11, H12) Try.results33 (zaa rfl) rfl (fun w h => za7 [0] (by decide) rfl w h)
  · skip
    clear hl20
    have hr17 := hJ_.1; have hk23 := hJ_.2.1; have h := hJ_.2.2; clear hJ_
    replace h : impl_Plan_outputExponents.l0 l2 (y14 :: ys15) l9 i13 = some o21 := h
    rw [impl_Plan_outputExponents.l0] at h
    refine c_seq ?_
    refine za0 ?_
    refine o_q rfl rfl (q_lss rfl rfl) ?_
    refine o_end ?_
    refine za1 ?_
    refine c_seq ?_
    refine zaw (congrArg Value.bool hr17.lt) ?_
    refine zak ?_
    refine za1 ?_
    refine c_seq ?_
    refine zaf ?_
    refine c_seq ?_
    refine za0 ?_
    refine zat (p := Sh A0_2 l0_2.length l0_2.length) (fun w h => f_sh (dk := (Kd.int .i64)) h (fun w h => R0_2.now Z h)) (fun hq24 => ?_)
    refine o_q rfl rfl (q_ix Try.underlying25 Z3 rfl rfl hq24 hr17.get) ?_
    refine o_q rfl rfl (q_lde (off := 0) Y3 rfl rfl (fun w h => R0_2.now Z h) hr17.get (fun _ _ h => h) rfl) ?_
    refine o_q rfl rfl (q_asg rfl) ?_
    refine o_end ?_
    refine za1 ?_
    refine za0 ?_
    refine o_q rfl rfl (za2 rfl) ?_
    refine o_q rfl rfl (za2 rfl) ?_
    refine o_q rfl rfl (za2 rfl) ?_
    refine zat (p := Sh A3 l2.length (zp H5 l2).length) (fun w h => f_sh (dk := (gk 3 (Kd.int .i64))) h (fun w h => h.zao (i := 1) rfl)) (fun hq25 => ?_)
    refine za8 h (fun y27 hg26 h => ?_) rfl
    refine o_q rfl rfl (q_ix Try.underlying28 Z25 rfl rfl hq25 (gt_zp hg26)) ?_
    refine zat (p := y27.length ≤ hC H5 y14) (fun w h => (K_in (h.zao (i := 1) rfl) hg26).1) (fun hc28 => ?_)
    refine o_q rfl rfl (q_lde (off := 0) Y25 rfl rfl (fun w h => h.zao (i := 1) rfl) (gt_zp hg26) (fun _ _ h => h.1) rfl) ?_
    refine za8 h (fun l30 hx29 h => ?_) rfl
    refine o_e rfl (za9 0 Z Try.func26 N26 rfl rfl rfl (fun w P1 hF hB hS hT => slices_Clone_int_int.calls (hA H5 y14) (hC H5 y14) y27.length y27 hB hF (stab_in (hT 1 _ rfl).row hg26) hc28 _ hx29)) (cur2 (fun A31 c32 => ?_))
    refine o_e rfl (e_litG (j := 0) (ue := 3) (dk := (Kd.int .i64)) (ys := l30) Try.underlying28 I25 rfl rfl rfl) (cur3 (fun A33 c34 H36 => ?_))
    refine za8 h (fun l37 ha38 h => ?_) rfl
    refine o_e rfl (e_appG (i := 2) (j := 0) Try.underlying28 I25 rfl (by decide) rfl rfl rfl rfl rfl ha38) (cur3 (fun A39 c40 H41 => ?_))
    refine o_q rfl rfl (q_asg rfl) ?_
    refine o_end ?_
    refine zam ?_
    refine za1 ?_
    refine za0 ?_
    refine o_q rfl rfl (q_up rfl rfl (hr17.up hm18)) ?_
    refine o_q rfl rfl (za2 rfl) ?_
    refine o_end ?_
    refine zal ys15.length (ys15, l37, i13 + 1, A39, c40, H41) (by rw [← hk23]; exact Nat.lt_succ_self _) ⟨hr17.step, rfl, h⟩ ⟨rfl, rfl, trivial⟩ (fun w h => za7 [2, 3] (by decide) rfl w h) ?_
    repeat (first | exact zad _ _ | refine zah rfl ?_ | refine zae rfl ?_ | refine zai rfl ?_)

/-! ### loop.example/g01098/impl.OutputExponents: function 11 -/
def impl_OutputExponents.f (k : Nat) (a0_0 : Int) (l0_1 : List SStep) (l0_2 : List Int) : Option ((List (List Int)) × Bool) := (impl_IsPlan.f k a0_0 l0_1 l0_2).bind fun b4 => if b4 = true then ((impl_Plan_outputExponents.f a0_0 l0_1 l0_2).bind fun l7 => some (l7, true)) else (some (([] : List (List Int)), false))
set_option maxHeartbeats 600000 in
set_option maxRecDepth 100000 in
theorem impl_OutputExponents.calls (k : Nat) {w0 ws : World} {P0 : Nat → Prop} (a0_0 : Int) (A0_1 : Option Addr) (c0_1 : Nat) (n0_1 : Nat) (l0_1 : List SStep) (A0_2 : Option Addr) (c0_2 : Nat) (n0_2 : Nat) (l0_2 : List Int) (Z : Below w0.heap.size w0 ws) (hF : Fr w0 ws P0 [] ws) (R0_1 : Stable ws P0 (fun w => Kd.C kStep w A0_1 n0_1 l0_1)) (hc0_1 : n0_1 ≤ c0_1) (R0_2 : Stable ws P0 (fun w => Kd.C (Kd.int .i64) w A0_2 n0_2 l0_2)) (hc0_2 : n0_2 ≤ c0_2) (r_1 : List (List Int)) (r_5 : Bool) (h : impl_OutputExponents.f k a0_0 l0_1 l0_2 = some (r_1, r_5)) :
    Calls Try.prog 11 #[.agg #[.int .i64 a0_0, .slice A0_1 n0_1 c0_1, .slice A0_2 n0_2 c0_2]] ws (Post1 w0 ws P0 (fun ((q_2, q_3, q_4) : (Option Addr) × Nat × Hd) => .tuple #[.slice q_2 r_1.length q_3, .bool r_5]) (fun ((q_2, q_3, q_4) : (Option Addr) × Nat × Hd) => [row (gk 3 (Kd.int .i64)) 25 (.slice q_2 r_1.length q_3) (zp q_4 r_1)])) := by
  unfold impl_OutputExponents.f at h
  obtain rfl := (R0_1 ws (KeptB.refl _ _)).1
  obtain rfl := (R0_2 ws (KeptB.refl _ _)).1
  refine enter Try.func11 rfl Try.ntmps11 rfl hF ?_
  refine c_seq ?_
  refine za0 ?_
  refine o_e rfl (e_box rfl) (fun g1 => ?_)
  refine o_q rfl rfl (q_asg rfl) ?_
  refine o_q rfl rfl (q_asg rfl) ?_
  refine o_end ?_
  refine za1 ?_
  refine c_seq ?_
  refine c_seq ?_
  refine za0 ?_
  refine o_q rfl rfl (q_ldB G27 Z27 rfl (fun w h => h.zan (i := 0) rfl) rfl) ?_
  refine za8 h (fun b4 hx3 h => ?_) rfl
  refine o_e rfl (za9 0 Z Try.func21 N21 rfl rfl rfl (fun w P1 hF hB hS hT => impl_IsPlan.calls k a0_0 A0_1 c0_1 l0_1.length l0_1 A0_2 c0_2 l0_2.length l0_2 hB hF (hS _ R0_1) hc0_1 (hS _ R0_2) hc0_2 _ hx3)) (fun _ => ?_)
  refine o_q rfl rfl (q_not rfl) ?_
  refine o_end ?_
  refine za1 ?_
  refine zaq _ rfl (fun hb5 => ?_) (fun hb5 => ?_)
  · replace hb5 := nt_t hb5
    replace h := bb_f hb5 h
    refine c_seq ?_
    refine za0 ?_
    refine o_q rfl rfl (q_asg rfl) ?_
    refine o_q rfl rfl (q_asg rfl) ?_
    refine o_end ?_
    refine za1 ?_
    refine c_ret ?_
    refine za5 ?_
    refine x_nil (gk 3 (Kd.int .i64)) 25 ?_
    have e0_ := Option.some.inj h; clear h
    have d0_ := (Prod.mk.inj e0_).1; have e1_ := (Prod.mk.inj e0_).2; clear e0_; subst d0_
    subst e1_
    exact x_r2 (none, 0, ([] : Hd)) Try.results11 (zaa rfl) (zaa rfl) rfl (fun w h => za7 [0] (by decide) rfl w h)
  · replace hb5 := nt_f hb5
    replace h := bb_t hb5 h
    refine zak ?_
    refine za1 ?_
    refine c_seq ?_
    refine za0 ?_
    refine za8 h (fun l7 hx6 h => ?_) rfl
    refine o_e rfl (za9 0 Z Try.func33 N33 rfl rfl rfl (fun w P1 hF hB hS hT => impl_Plan_outputExponents.calls g1 a0_0 A0_1 c0_1 l0_1.length l0_1 A0_2 c0_2 l0_2.length l0_2 hB hF (hS _ R0_1) hc0_1 (hS _ R0_2) hc0_2 (hT 0 _ rfl).box _ hx6)) (cur3 (fun A8 c9 H10 => ?_))
    refine o_q rfl rfl (q_asg rfl) ?_
    refine o_q rfl rfl (q_asg rfl) ?_
    refine o_end ?_
    refine za1 ?_
    refine c_ret ?_
    have e0_ := Option.some.inj h; clear h
    have d0_ := (Prod.mk.inj e0_).1; have e1_ := (Prod.mk.inj e0_).2; clear e0_; subst d0_
    subst e1_
    exact x_r2 (A8, c9, H10) Try.results11 (zaa rfl) (zaa rfl) rfl (fun w h => za7 [0] (by decide) rfl w h)

/-! ### loop.example/g01098/impl.exponentOk: function 35 -/
def impl_exponentOk.f (a0 : Int) : Option Bool := (impl_in.f a0 0 1000000).bind fun b2 => some b2
set_option maxHeartbeats 600000 in
set_option maxRecDepth 100000 in
theorem impl_exponentOk.calls {w0 ws : World} {P0 : Nat → Prop} (a0 : Int) (Z : Below w0.heap.size w0 ws) (hF : Fr w0 ws P0 [] ws)  (r_1 : Bool) (h : impl_exponentOk.f a0 = some r_1) :
    Calls Try.prog 35 #[.int .i64 a0] ws (Post1 w0 ws P0 (fun (_ : Unit) => .bool r_1) (fun (_ : Unit) => [])) := by
  unfold impl_exponentOk.f at h
  refine enter Try.func35 rfl Try.ntmps35 rfl hF ?_
  refine c_seq ?_
  refine za0 ?_
  refine o_q rfl rfl (q_asg rfl) ?_
  refine o_end ?_
  refine za1 ?_
  refine c_seq ?_
  refine za0 ?_
  refine o_q rfl rfl (za2 rfl) ?_
  refine za8 h (fun b2 hx1 h => ?_) rfl
  refine o_e rfl (za9 0 Z Try.func57 N57 rfl rfl rfl (fun w P1 hF hB hS hT => impl_in.calls a0 0 1000000 hB hF _ hx1)) (fun _ => ?_)
  refine o_q rfl rfl (q_asg rfl) ?_
  refine o_end ?_
  refine za1 ?_
  refine c_ret ?_
  have e0_ := Option.some.inj h; clear h
  subst e0_
  exact x_r1 () Try.results35 (zaa rfl) rfl (fun w h => za7 [] (by decide) rfl w h)

/-! ### loop.example/g01098/impl.power[[]int]: function 36 -/
def impl_power_int.l0 : Nat → (List Int) → (List Int) → Int → Option ((List Int) × (List Int))
  | 0, _, _, _ => none
  | k11 + 1, l2, l5, i8 => if 0 < i8 then ((if i8.tmod 2 = 1 then ((impl_then.f l2 l5).bind fun l58 => some l58) else (some l2)).bind fun l48 => (impl_then.f l5 l5).bind fun l62 => impl_power_int.l0 k11 l48 l62 (w64 (i8.tdiv 2))) else (some (l2, l5))
def impl_power_int.f (k : Nat) (l0 : List Int) (l1 : List Int) (a2 : Int) : Option (List Int) := (impl_power_int.l0 k l1 l0 a2).bind fun (l2, l5) => some l2
set_option maxHeartbeats 600000 in
set_option maxRecDepth 100000 in
theorem impl_power_int.calls (k : Nat) {w0 ws : World} {P0 : Nat → Prop} (A0 : Option Addr) (c0 : Nat) (n0 : Nat) (l0 : List Int) (A1 : Option Addr) (c1 : Nat) (n1 : Nat) (l1 : List Int) (a2 : Int) (Z : Below w0.heap.size w0 ws) (hF : Fr w0 ws P0 [row (Kd.int .i64) 3 (.slice A1 n1 c1) l1] ws) (R0 : Stable ws P0 (fun w => Kd.C (Kd.int .i64) w A0 n0 l0)) (hc0 : n0 ≤ c0) (r_1 : List Int) (h : impl_power_int.f k l0 l1 a2 = some r_1) :
    Calls Try.prog 36 #[.slice A0 n0 c0, .slice A1 n1 c1, .int .i64 a2, .func (.func 25) #[] #[]] ws (Post1 w0 ws P0 (fun ((q_2, q_3) : (Option Addr) × Nat) => .slice q_2 r_1.length q_3) (fun ((q_2, q_3) : (Option Addr) × Nat) => [row (Kd.int .i64) 3 (.slice q_2 r_1.length q_3) r_1])) := by
  unfold impl_power_int.f at h
  obtain rfl := (hF.row_C (i := 0) rfl).2.1
  obtain rfl := (R0 ws (KeptB.refl _ _)).1
  refine enter Try.func36 rfl Try.ntmps36 rfl hF ?_
  refine c_seq ?_
  refine za0 ?_
  refine o_q rfl rfl (q_asg rfl) ?_
  refine o_end ?_
  refine za1 ?_
  refine c_seq ?_
  refine zaf ?_
  refine za8 h (fun o16 hl15 hR14 => ?_) rfl
  clear h
  rcases natEx k with hk0_ | ⟨k1_, hk1_⟩
  · skip
    have h := at_ (p := fun m_ => impl_power_int.l0 m_ l1 l0 a2 = some o16) hl15 hk0_
    replace h : impl_power_int.l0 0 l1 l0 a2 = some o16 := h
    rw [impl_power_int.l0] at h
    exact noneE h
  · skip
    have h := at_ (p := fun m_ => impl_power_int.l0 m_ l1 l0 a2 = some o16) hl15 hk1_
    replace h : impl_power_int.l0 (k1_ + 1) l1 l0 a2 = some o16 := h
    refine c_loopP (σ := (List Int) × (List Int) × Int × (Option Addr) × Nat × (Option Addr) × Nat) (fun k11 ((l2, l5, i8, A3, c4, A6, c7) : (List Int) × (List Int) × Int × (Option Addr) × Nat × (Option Addr) × Nat) => impl_power_int.l0 k11 l2 l5 i8 = some o16) [0, 1, 2, 9, 10, 11, 12, 13, 14, 15, 16, 17, 18, 19, 20, 21, 22, 23] (fun ((l2, l5, i8, A3, c4, A6, c7) : (List Int) × (List Int) × Int × (Option Addr) × Nat × (Option Addr) × Nat) => [(0, .slice A6 l5.length c7), (1, .slice A3 l2.length c4), (2, .int .i64 i8)]) (fun ((l2, l5, i8, A3, c4, A6, c7) : (List Int) × (List Int) × Int × (Option Addr) × Nat × (Option Addr) × Nat) => [row (Kd.int .i64) 3 (.slice A6 l5.length c7) l5, row (Kd.int .i64) 3 (.slice A3 l2.length c4) l2]) (k1_ + 1) ?_ ?_
    · skip
      clear hl15
      rw [impl_power_int.l0] at h
      refine c_seq ?_
      refine c_seq ?_
      refine za0 ?_
      refine o_q rfl rfl (za2 rfl) ?_
      refine o_q rfl rfl (q_gtr rfl rfl) ?_
      refine o_end ?_
      refine za1 ?_
      refine zaq _ rfl (fun hb19 => ?_) (fun hb19 => ?_)
      · skip
        replace h := br_t hb19 h
        refine zak ?_
        refine za1 ?_
        refine c_seq ?_
        refine zaf ?_
        refine za8 h (fun o28 hl29 hR30 => ?_) rfl
        clear h
        refine c_cutJ (σ := (List Int) × (Option Addr) × Nat) (fun (l25, A26, c27) => some l25 = some o28) [1, 13, 14, 15, 16, 17, 18, 19] (fun (l25, A26, c27) => [(1, .slice A26 l25.length c27)]) (fun (l25, A26, c27) => [row (Kd.int .i64) 3 (.slice A26 l25.length c27) l25]) ?_ ?_
        · skip
          have h := hl29; clear hl29
          clear hR30
          refine c_seq ?_
          refine za0 ?_
          refine o_q rfl rfl (za2 rfl) ?_
          refine o_q rfl rfl (q_rem rfl rfl (by decide)) ?_
          refine o_q rfl rfl (q_eql rfl rfl) ?_
          refine o_end ?_
          refine za1 ?_
          refine zaq _ rfl (fun hb33 => ?_) (fun hb33 => ?_)
          · skip
            replace h := br_t hb33 h
            refine za0 ?_
            refine o_q rfl rfl (za2 rfl) ?_
            refine o_q rfl rfl (za2 rfl) ?_
            refine o_q rfl rfl (za2 rfl) ?_
            refine za8 h (fun l35 hx34 h => ?_) rfl
            refine o_e rfl (za9 0 Z Try.func25 N25 rfl rfl rfl (fun w P1 hF hB hS hT => impl_then.calls A1 c1 l1.length l1 A0 c0 l0.length l0 hB hF (hT 0 _ rfl).row (hT 0 _ rfl).cap (hS _ R0) hc0 _ hx34)) (cur2 (fun A36 c37 => ?_))
            refine o_q rfl rfl (q_asg rfl) ?_
            refine o_end ?_
            refine x_meetJ (l35, A36, c37) h ⟨rfl, trivial⟩ (fun w h => za7 [0] (by decide) rfl w h) ?_
            repeat (first | exact zad _ _ | refine zah rfl ?_ | refine zae rfl ?_ | refine zai rfl ?_)
          · skip
            replace h := br_f hb33 h
            refine zak ?_
            refine x_meetJ (l1, A1, c1) h ⟨rfl, trivial⟩ (fun w h => za7 [0] (by decide) rfl w h) ?_
            repeat (first | exact zad _ _ | refine zah rfl ?_ | refine zae rfl ?_ | refine zai rfl ?_)
        · skip
          refine (cur3 (fun l25 A26 c27 => fun U31 hJ32 => ?_))
          have e_ := Option.some.inj hJ32; have h := hR30; rw [← e_] at h; clear e_ hJ32 hR30 hl29
          refine za0 ?_
          refine o_q rfl rfl (za2 rfl) ?_
          refine o_q rfl rfl (za2 rfl) ?_
          refine o_q rfl rfl (za2 rfl) ?_
          refine za8 h (fun l39 hx38 h => ?_) rfl
          refine o_e rfl (za9 0 Z Try.func25 N25 rfl rfl rfl (fun w P1 hF hB hS hT => impl_then.calls A0 c0 l0.length l0 A0 c0 l0.length l0 hB hF (hS _ R0) hc0 (hS _ R0) hc0 _ hx38)) (cur2 (fun A40 c41 => ?_))
          refine o_q rfl rfl (q_asg rfl) ?_
          refine o_end ?_
          refine zam ?_
          refine za1 ?_
          refine za0 ?_
          refine o_q rfl rfl (za2 rfl) ?_
          refine o_q rfl rfl (q_quo64 rfl rfl (by decide)) ?_
          refine o_q rfl rfl (q_asg rfl) ?_
          refine o_end ?_
          refine zal k1_ (l25, l39, w64 (a2.tdiv 2), A26, c27, A40, c41) (Nat.lt_succ_self _) h ⟨rfl, rfl, rfl, trivial⟩ (fun w h => za7 [0, 1] (by decide) rfl w h) ?_
          repeat (first | exact zad _ _ | refine zah rfl ?_ | refine zae rfl ?_ | refine zai rfl ?_)
      · skip
        replace h := br_f hb19 h
        refine c_exit ?_
        refine za6 ?_
        refine za6 ?_
        have e_ := Option.some.inj h; replace h := hR14; rw [← e_] at h; clear e_
        refine x_hit ?_
        refine za1 ?_
        refine c_seq ?_
        refine za0 ?_
        refine o_q rfl rfl (za2 rfl) ?_
        refine o_q rfl rfl (q_asg rfl) ?_
        refine o_end ?_
        refine za1 ?_
        refine c_ret ?_
        have e0_ := Option.some.inj h; clear h
        subst e0_
        exact x_r1 (A1, c1) Try.results36 (zaa rfl) rfl (fun w h => za7 [0] (by decide) rfl w h)
    · skip
      clear h
      refine natC (cur7 (fun l2 l5 i8 A3 c4 A6 c7 => fun U17 hJ_ => ?_)) (fun k11 => (cur7 (fun l2 l5 i8 A3 c4 A6 c7 => fun U17 hJ_ => ?_)))
      · skip
        replace hJ_ : impl_power_int.l0 0 l2 l5 i8 = some o16 := hJ_
        rw [impl_power_int.l0] at hJ_
        exact noneE hJ_
      · skip
        clear hl15
        have h := hJ_; clear hJ_
        replace h : impl_power_int.l0 (k11 + 1) l2 l5 i8 = some o16 := h
        rw [impl_power_int.l0] at h
        refine c_seq ?_
        refine c_seq ?_
        refine za0 ?_
        refine o_q rfl rfl (za2 rfl) ?_
        refine o_q rfl rfl (q_gtr rfl rfl) ?_
        refine o_end ?_
        refine za1 ?_
        refine zaq _ rfl (fun hb42 => ?_) (fun hb42 => ?_)
        · skip
          replace h := br_t hb42 h
          refine zak ?_
          refine za1 ?_
          refine c_seq ?_
          refine zaf ?_
          refine za8 h (fun o51 hl52 hR53 => ?_) rfl
          clear h
          refine c_cutJ (σ := (List Int) × (Option Addr) × Nat) (fun (l48, A49, c50) => some l48 = some o51) [1, 13, 14, 15, 16, 17, 18, 19] (fun (l48, A49, c50) => [(1, .slice A49 l48.length c50)]) (fun (l48, A49, c50) => [row (Kd.int .i64) 3 (.slice A6 l5.length c7) l5, row (Kd.int .i64) 3 (.slice A49 l48.length c50) l48]) ?_ ?_
          · skip
            have h := hl52; clear hl52
            clear hR53
            refine c_seq ?_
            refine za0 ?_
            refine o_q rfl rfl (za2 rfl) ?_
            refine o_q rfl rfl (q_rem rfl rfl (by decide)) ?_
            refine o_q rfl rfl (q_eql rfl rfl) ?_
            refine o_end ?_
            refine za1 ?_
            refine zaq _ rfl (fun hb56 => ?_) (fun hb56 => ?_)
            · skip
              replace h := br_t hb56 h
              refine za0 ?_
              refine o_q rfl rfl (za2 rfl) ?_
              refine o_q rfl rfl (za2 rfl) ?_
              refine o_q rfl rfl (za2 rfl) ?_
              refine za8 h (fun l58 hx57 h => ?_) rfl
              refine o_e rfl (za9 0 Z Try.func25 N25 rfl rfl rfl (fun w P1 hF hB hS hT => impl_then.calls A3 c4 l2.length l2 A6 c7 l5.length l5 hB hF (hT 1 _ rfl).row (hT 1 _ rfl).cap (hT 0 _ rfl).row (hT 0 _ rfl).cap _ hx57)) (cur2 (fun A59 c60 => ?_))
              refine o_q rfl rfl (q_asg rfl) ?_
              refine o_end ?_
              refine x_meetJ (l58, A59, c60) h ⟨rfl, trivial⟩ (fun w h => za7 [1, 0] (by decide) rfl w h) ?_
              repeat (first | exact zad _ _ | refine zah rfl ?_ | refine zae rfl ?_ | refine zai rfl ?_)
            · skip
              replace h := br_f hb56 h
              refine zak ?_
              refine x_meetJ (l2, A3, c4) h ⟨rfl, trivial⟩ (fun w h => za7 [0, 1] (by decide) rfl w h) ?_
              repeat (first | exact zad _ _ | refine zah rfl ?_ | refine zae rfl ?_ | refine zai rfl ?_)
          · skip
            refine (cur3 (fun l48 A49 c50 => fun U54 hJ55 => ?_))
            have e_ := Option.some.inj hJ55; have h := hR53; rw [← e_] at h; clear e_ hJ55 hR53 hl52
            refine za0 ?_
            refine o_q rfl rfl (za2 rfl) ?_
            refine o_q rfl rfl (za2 rfl) ?_
            refine o_q rfl rfl (za2 rfl) ?_
            refine za8 h (fun l62 hx61 h => ?_) rfl
            refine o_e rfl (za9 0 Z Try.func25 N25 rfl rfl rfl (fun w P1 hF hB hS hT => impl_then.calls A6 c7 l5.length l5 A6 c7 l5.length l5 hB hF (hT 0 _ rfl).row (hT 0 _ rfl).cap (hT 0 _ rfl).row (hT 0 _ rfl).cap _ hx61)) (cur2 (fun A63 c64 => ?_))
            refine o_q rfl rfl (q_asg rfl) ?_
            refine o_end ?_
            refine zam ?_
            refine za1 ?_
            refine za0 ?_
            refine o_q rfl rfl (za2 rfl) ?_
            refine o_q rfl rfl (q_quo64 rfl rfl (by decide)) ?_
            refine o_q rfl rfl (q_asg rfl) ?_
            refine o_end ?_
            refine zal k11 (l48, l62, w64 (i8.tdiv 2), A49, c50, A63, c64) (Nat.lt_succ_self _) h ⟨rfl, rfl, rfl, trivial⟩ (fun w h => za7 [0, 2] (by decide) rfl w h) ?_
            repeat (first | exact zad _ _ | refine zah rfl ?_ | refine zae rfl ?_ | refine zai rfl ?_)
        · skip
          replace h := br_f hb42 h
          refine c_exit ?_
          refine za6 ?_
          refine za6 ?_
          have e_ := Option.some.inj h; replace h := hR14; rw [← e_] at h; clear e_
          refine x_hit ?_
          refine za1 ?_
          refine c_seq ?_
          refine za0 ?_
          refine o_q rfl rfl (za2 rfl) ?_
          refine o_q rfl rfl (q_asg rfl) ?_
          refine o_end ?_
          refine za1 ?_
          refine c_ret ?_
          have e0_ := Option.some.inj h; clear h
          subst e0_
          exact x_r1 (A3, c4) Try.results36 (zaa rfl) rfl (fun w h => za7 [1] (by decide) rfl w h)

/-! ### loop.example/g01098/impl.PermutationPower: function 12 -/
def impl_PermutationPower.f (k : Nat) (l0 : List Int) (a1 : Int) : Option ((List Int) × Bool) := (impl_IsPermutation.f l0).bind fun b2 => if b2 = true then ((impl_exponentOk.f a1).bind fun b5 => if b5 = true then ((impl_firsts.f (l0.length : Int)).bind fun l8 => (impl_power_int.f k l0 l8 a1).bind fun l12 => some (l12, true)) else (some (([] : List Int), false))) else (some (([] : List Int), false))
set_option maxHeartbeats 600000 in
set_option maxRecDepth 100000 in
theorem impl_PermutationPower.calls (k : Nat) {w0 ws : World} {P0 : Nat → Prop} (A0 : Option Addr) (c0 : Nat) (n0 : Nat) (l0 : List Int) (a1 : Int) (Z : Below w0.heap.size w0 ws) (hF : Fr w0 ws P0 [] ws) (R0 : Stable ws P0 (fun w => Kd.C (Kd.int .i64) w A0 n0 l0)) (hc0 : n0 ≤ c0) (r_1 : List Int) (r_4 : Bool) (h : impl_PermutationPower.f k l0 a1 = some (r_1, r_4)) :
    Calls Try.prog 12 #[.slice A0 n0 c0, .int .i64 a1] ws (Post1 w0 ws P0 (fun ((q_2, q_3) : (Option Addr) × Nat) => .tuple #[.slice q_2 r_1.length q_3, .bool r_4]) (fun ((q_2, q_3) : (Option Addr) × Nat) => [row (Kd.int .i64) 3 (.slice q_2 r_1.length q_3) r_1])) := by
  unfold impl_PermutationPower.f at h
  obtain rfl := (R0 ws (KeptB.refl _ _)).1
  refine enter Try.func12 rfl Try.ntmps12 rfl hF ?_
  refine c_seq ?_
  refine za0 ?_
  refine o_q rfl rfl (q_asg rfl) ?_
  refine o_q rfl rfl (q_asg rfl) ?_
  refine o_end ?_
  refine za1 ?_
  refine c_seq ?_
  refine c_seq ?_
  refine za0 ?_
  refine o_q rfl rfl (za2 rfl) ?_
  refine za8 h (fun b2 hx1 h => ?_) rfl
  refine o_e rfl (za9 0 Z Try.func34 N34 rfl rfl rfl (fun w P1 hF hB hS hT => impl_IsPermutation.calls A0 c0 l0.length l0 hB hF (hS _ R0) hc0 _ hx1)) (fun _ => ?_)
  refine o_q rfl rfl (q_not rfl) ?_
  refine o_q rfl rfl (za2 rfl) ?_
  refine byB b2 (fun hb3 => ?_) (fun hb3 => ?_)
  · replace h := bb_t hb3 h
    refine o_w (za4 rfl rfl rfl (congrArg (fun b => Value.bool (!(b))) hb3)) rfl (za2 rfl) ?_
    refine za8 h (fun b5 hx4 h => ?_) rfl
    refine o_ew (za4 rfl rfl rfl (congrArg (fun b => Value.bool (!(b))) hb3)) (za9 0 Z Try.func35 N35 rfl rfl rfl (fun w P1 hF hB hS hT => impl_exponentOk.calls a1 hB hF _ hx4)) (fun _ => ?_)
    refine o_w (za4 rfl rfl rfl (congrArg (fun b => Value.bool (!(b))) hb3)) rfl (q_not rfl) ?_
    refine o_q rfl rfl (zar false (congrArg (fun b => Value.bool (!(b))) hb3) rfl) ?_
    refine o_end ?_
    refine za1 ?_
    refine zaq _ rfl (fun hb6 => ?_) (fun hb6 => ?_)
    · replace hb6 := nt_t hb6
      replace h := bb_f hb6 h
      refine c_seq ?_
      refine za0 ?_
      refine o_q rfl rfl (q_asg rfl) ?_
      refine o_q rfl rfl (q_asg rfl) ?_
      refine o_end ?_
      refine za1 ?_
      refine c_ret ?_
      refine za5 ?_
      refine x_nil (Kd.int .i64) 3 ?_
      have e0_ := Option.some.inj h; clear h
      have d0_ := (Prod.mk.inj e0_).1; have e1_ := (Prod.mk.inj e0_).2; clear e0_; subst d0_
      subst e1_
      exact x_r2 (none, 0) Try.results12 (zaa rfl) (zaa rfl) rfl (fun w h => za7 [0] (by decide) rfl w h)
    · replace hb6 := nt_f hb6
      replace h := bb_t hb6 h
      refine zak ?_
      refine za1 ?_
      refine c_seq ?_
      refine za0 ?_
      refine o_q rfl rfl (za2 rfl) ?_
      refine o_q rfl rfl (za2 rfl) ?_
      refine o_q rfl rfl (q_len Try.underlying25 rfl) ?_
      refine za8 h (fun l8 hx7 h => ?_) rfl
      refine o_e rfl (za9 0 Z Try.func37 N37 rfl rfl rfl (fun w P1 hF hB hS hT => impl_firsts.calls (l0.length : Int) hB hF _ hx7)) (cur2 (fun A9 c10 => ?_))
      refine o_q rfl rfl (za2 rfl) ?_
      refine za8 h (fun l12 hx11 h => ?_) rfl
      refine o_e rfl (za9 1 Z Try.func36 N36 rfl rfl rfl (fun w P1 hF hB hS hT => impl_power_int.calls k A0 c0 l0.length l0 A9 c10 l8.length l8 a1 hB hF (hS _ R0) hc0 _ hx11)) (cur2 (fun A13 c14 => ?_))
      refine o_q rfl rfl (q_asg rfl) ?_
      refine o_q rfl rfl (q_asg rfl) ?_
      refine o_end ?_
      refine za1 ?_
      refine c_ret ?_
      have e0_ := Option.some.inj h; clear h
      have d0_ := (Prod.mk.inj e0_).1; have e1_ := (Prod.mk.inj e0_).2; clear e0_; subst d0_
      subst e1_
      exact x_r2 (A13, c14) Try.results12 (zaa rfl) (zaa rfl) rfl (fun w h => za7 [0] (by decide) rfl w h)
  · replace h := bb_f hb3 h
    refine @o_n _ _ _ _ _ _ _ _ _ _ _ 10 (za3 rfl rfl rfl (congrArg (fun b => Value.bool (!(b))) hb3) rfl) (Eq.refl (some 10)) ?_
    refine @o_n _ _ _ _ _ _ _ _ _ _ _ 11 (za3 rfl rfl rfl (congrArg (fun b => Value.bool (!(b))) hb3) rfl) (Eq.refl (some 11)) ?_
    refine @o_n _ _ _ _ _ _ _ _ _ _ _ 12 (za3 rfl rfl rfl (congrArg (fun b => Value.bool (!(b))) hb3) rfl) (Eq.refl (some 12)) ?_
    refine o_q rfl rfl (zar true (congrArg (fun b => Value.bool (!(b))) hb3) rfl) ?_
    refine o_end ?_
    refine za1 ?_
    refine zaw rfl ?_
    refine c_seq ?_
    refine za0 ?_
    refine o_q rfl rfl (q_asg rfl) ?_
    refine o_q rfl rfl (q_asg rfl) ?_
    refine o_end ?_
    refine za1 ?_
    refine c_ret ?_
    refine za5 ?_
    refine x_nil (Kd.int .i64) 3 ?_
    have e0_ := Option.some.inj h; clear h
    have d0_ := (Prod.mk.inj e0_).1; have e1_ := (Prod.mk.inj e0_).2; clear e0_; subst d0_
    subst e1_
    exact x_r2 (none, 0) Try.results12 (zaa rfl) (zaa rfl) rfl (fun w h => za7 [0] (by decide) rfl w h)

/-! ### loop.example/g01098/impl.ThenPermutation: function 13 -/
def impl_ThenPermutation.f (l0 : List Int) (l1 : List Int) : Option ((List Int) × Bool) := (impl_IsPermutation.f l0).bind fun b2 => if b2 = true then ((impl_IsPermutation.f l1).bind fun b5 => if b5 = true then (if (l0.length : Int) ≠ (l1.length : Int) then (some (([] : List Int), false)) else ((impl_then.f l0 l1).bind fun l9 => some (l9, true))) else (some (([] : List Int), false))) else (some (([] : List Int), false))
set_option maxHeartbeats 600000 in
set_option maxRecDepth 100000 in
theorem impl_ThenPermutation.calls {w0 ws : World} {P0 : Nat → Prop} (A0 : Option Addr) (c0 : Nat) (n0 : Nat) (l0 : List Int) (A1 : Option Addr) (c1 : Nat) (n1 : Nat) (l1 : List Int) (Z : Below w0.heap.size w0 ws) (hF : Fr w0 ws P0 [] ws) (R0 : Stable ws P0 (fun w => Kd.C (Kd.int .i64) w A0 n0 l0)) (hc0 : n0 ≤ c0) (R1 : Stable ws P0 (fun w => Kd.C (Kd.int .i64) w A1 n1 l1)) (hc1 : n1 ≤ c1) (r_1 : List Int) (r_4 : Bool) (h : impl_ThenPermutation.f l0 l1 = some (r_1, r_4)) :
    Calls Try.prog 13 #[.slice A0 n0 c0, .slice A1 n1 c1] ws (Post1 w0 ws P0 (fun ((q_2, q_3) : (Option Addr) × Nat) => .tuple #[.slice q_2 r_1.length q_3, .bool r_4]) (fun ((q_2, q_3) : (Option Addr) × Nat) => [row (Kd.int .i64) 3 (.slice q_2 r_1.length q_3) r_1])) := by
  unfold impl_ThenPermutation.f at h
  obtain rfl := (R0 ws (KeptB.refl _ _)).1
  obtain rfl := (R1 ws (KeptB.refl _ _)).1
  refine enter Try.func13 rfl Try.ntmps13 rfl hF ?_
  refine c_seq ?_
  refine za0 ?_
  refine o_q rfl rfl (q_asg rfl) ?_
  refine o_q rfl rfl (q_asg rfl) ?_
  refine o_end ?_
  refine za1 ?_
  refine c_seq ?_
  refine c_seq ?_
  refine za0 ?_
  refine o_q rfl rfl (za2 rfl) ?_
  refine za8 h (fun b2 hx1 h => ?_) rfl
  refine o_e rfl (za9 0 Z Try.func34 N34 rfl rfl rfl (fun w P1 hF hB hS hT => impl_IsPermutation.calls A0 c0 l0.length l0 hB hF (hS _ R0) hc0 _ hx1)) (fun _ => ?_)
  refine o_q rfl rfl (q_not rfl) ?_
  refine o_q rfl rfl (za2 rfl) ?_
  refine byB b2 (fun hb3 => ?_) (fun hb3 => ?_)
  · replace h := bb_t hb3 h
    refine o_w (za4 rfl rfl rfl (congrArg (fun b => Value.bool (!(b))) hb3)) rfl (za2 rfl) ?_
    refine za8 h (fun b5 hx4 h => ?_) rfl
    refine o_ew (za4 rfl rfl rfl (congrArg (fun b => Value.bool (!(b))) hb3)) (za9 0 Z Try.func34 N34 rfl rfl rfl (fun w P1 hF hB hS hT => impl_IsPermutation.calls A1 c1 l1.length l1 hB hF (hS _ R1) hc1 _ hx4)) (fun _ => ?_)
    refine o_w (za4 rfl rfl rfl (congrArg (fun b => Value.bool (!(b))) hb3)) rfl (q_not rfl) ?_
    refine o_q rfl rfl (zar false (congrArg (fun b => Value.bool (!(b))) hb3) rfl) ?_
    refine o_q rfl rfl (za2 rfl) ?_
    refine byB b5 (fun hb6 => ?_) (fun hb6 => ?_)
    · replace h := bb_t hb6 h
      refine o_w (za4 rfl rfl rfl (congrArg (fun b => Value.bool (!(b))) hb6)) rfl (za2 rfl) ?_
      refine o_w (za4 rfl rfl rfl (congrArg (fun b => Value.bool (!(b))) hb6)) rfl (q_len Try.underlying25 rfl) ?_
      refine o_w (za4 rfl rfl rfl (congrArg (fun b => Value.bool (!(b))) hb6)) rfl (za2 rfl) ?_
      refine o_w (za4 rfl rfl rfl (congrArg (fun b => Value.bool (!(b))) hb6)) rfl (q_len Try.underlying25 rfl) ?_
      refine o_w (za4 rfl rfl rfl (congrArg (fun b => Value.bool (!(b))) hb6)) rfl (q_neq rfl rfl) ?_
      refine o_q rfl rfl (zar false (congrArg (fun b => Value.bool (!(b))) hb6) rfl) ?_
      refine o_end ?_
      refine za1 ?_
      refine zaq _ rfl (fun hb7 => ?_) (fun hb7 => ?_)
      · skip
        replace h := br_t hb7 h
        refine c_seq ?_
        refine za0 ?_
        refine o_q rfl rfl (q_asg rfl) ?_
        refine o_q rfl rfl (q_asg rfl) ?_
        refine o_end ?_
        refine za1 ?_
        refine c_ret ?_
        refine za5 ?_
        refine x_nil (Kd.int .i64) 3 ?_
        have e0_ := Option.some.inj h; clear h
        have d0_ := (Prod.mk.inj e0_).1; have e1_ := (Prod.mk.inj e0_).2; clear e0_; subst d0_
        subst e1_
        exact x_r2 (none, 0) Try.results13 (zaa rfl) (zaa rfl) rfl (fun w h => za7 [0] (by decide) rfl w h)
      · skip
        replace h := br_f hb7 h
        refine zak ?_
        refine za1 ?_
        refine c_seq ?_
        refine za0 ?_
        refine o_q rfl rfl (za2 rfl) ?_
        refine o_q rfl rfl (za2 rfl) ?_
        refine za8 h (fun l9 hx8 h => ?_) rfl
        refine o_e rfl (za9 0 Z Try.func25 N25 rfl rfl rfl (fun w P1 hF hB hS hT => impl_then.calls A0 c0 l0.length l0 A1 c1 l1.length l1 hB hF (hS _ R0) hc0 (hS _ R1) hc1 _ hx8)) (cur2 (fun A10 c11 => ?_))
        refine o_q rfl rfl (q_asg rfl) ?_
        refine o_q rfl rfl (q_asg rfl) ?_
        refine o_end ?_
        refine za1 ?_
        refine c_ret ?_
        have e0_ := Option.some.inj h; clear h
        have d0_ := (Prod.mk.inj e0_).1; have e1_ := (Prod.mk.inj e0_).2; clear e0_; subst d0_
        subst e1_
        exact x_r2 (A10, c11) Try.results13 (zaa rfl) (zaa rfl) rfl (fun w h => za7 [0] (by decide) rfl w h)
    · replace h := bb_f hb6 h
      refine @o_n _ _ _ _ _ _ _ _ _ _ _ 15 (za3 rfl rfl rfl (congrArg (fun b => Value.bool (!(b))) hb6) rfl) (Eq.refl (some 15)) ?_
      refine @o_n _ _ _ _ _ _ _ _ _ _ _ 16 (za3 rfl rfl rfl (congrArg (fun b => Value.bool (!(b))) hb6) rfl) (Eq.refl (some 16)) ?_
      refine @o_n _ _ _ _ _ _ _ _ _ _ _ 17 (za3 rfl rfl rfl (congrArg (fun b => Value.bool (!(b))) hb6) rfl) (Eq.refl (some 17)) ?_
      refine @o_n _ _ _ _ _ _ _ _ _ _ _ 18 (za3 rfl rfl rfl (congrArg (fun b => Value.bool (!(b))) hb6) rfl) (Eq.refl (some 18)) ?_
      refine @o_n _ _ _ _ _ _ _ _ _ _ _ 19 (za3 rfl rfl rfl (congrArg (fun b => Value.bool (!(b))) hb6) rfl) (Eq.refl (some 19)) ?_
      refine o_q rfl rfl (zar true (congrArg (fun b => Value.bool (!(b))) hb6) rfl) ?_
      refine o_end ?_
      refine za1 ?_
      refine zaw rfl ?_
      refine c_seq ?_
      refine za0 ?_
      refine o_q rfl rfl (q_asg rfl) ?_
      refine o_q rfl rfl (q_asg rfl) ?_
      refine o_end ?_
      refine za1 ?_
      refine c_ret ?_
      refine za5 ?_
      refine x_nil (Kd.int .i64) 3 ?_
      have e0_ := Option.some.inj h; clear h
      have d0_ := (Prod.mk.inj e0_).1; have e1_ := (Prod.mk.inj e0_).2; clear e0_; subst d0_
      subst e1_
      exact x_r2 (none, 0) Try.results13 (zaa rfl) (zaa rfl) rfl (fun w h => za7 [0] (by decide) rfl w h)
  · replace h := bb_f hb3 h
    refine @o_n _ _ _ _ _ _ _ _ _ _ _ 10 (za3 rfl rfl rfl (congrArg (fun b => Value.bool (!(b))) hb3) rfl) (Eq.refl (some 10)) ?_
    refine @o_n _ _ _ _ _ _ _ _ _ _ _ 11 (za3 rfl rfl rfl (congrArg (fun b => Value.bool (!(b))) hb3) rfl) (Eq.refl (some 11)) ?_
    refine @o_n _ _ _ _ _ _ _ _ _ _ _ 12 (za3 rfl rfl rfl (congrArg (fun b => Value.bool (!(b))) hb3) rfl) (Eq.refl (some 12)) ?_
    refine o_q rfl rfl (zar true (congrArg (fun b => Value.bool (!(b))) hb3) rfl) ?_
    refine o_q rfl rfl (za2 rfl) ?_
    refine @o_n _ _ _ _ _ _ _ _ _ _ _ 15 (za3 rfl rfl rfl rfl rfl) (Eq.refl (some 15)) ?_
    refine @o_n _ _ _ _ _ _ _ _ _ _ _ 16 (za3 rfl rfl rfl rfl rfl) (Eq.refl (some 16)) ?_
    refine @o_n _ _ _ _ _ _ _ _ _ _ _ 17 (za3 rfl rfl rfl rfl rfl) (Eq.refl (some 17)) ?_
    refine @o_n _ _ _ _ _ _ _ _ _ _ _ 18 (za3 rfl rfl rfl rfl rfl) (Eq.refl (some 18)) ?_
    refine @o_n _ _ _ _ _ _ _ _ _ _ _ 19 (za3 rfl rfl rfl rfl rfl) (Eq.refl (some 19)) ?_
    refine o_q rfl rfl (zar true rfl rfl) ?_
    refine o_end ?_
    refine za1 ?_
    refine zaw rfl ?_
    refine c_seq ?_
    refine za0 ?_
    refine o_q rfl rfl (q_asg rfl) ?_
    refine o_q rfl rfl (q_asg rfl) ?_
    refine o_end ?_
    refine za1 ?_
    refine c_ret ?_
    refine za5 ?_
    refine x_nil (Kd.int .i64) 3 ?_
    have e0_ := Option.some.inj h; clear h
    have d0_ := (Prod.mk.inj e0_).1; have e1_ := (Prod.mk.inj e0_).2; clear e0_; subst d0_
    subst e1_
    exact x_r2 (none, 0) Try.results13 (zaa rfl) (zaa rfl) rfl (fun w h => za7 [0] (by decide) rfl w h)

/-! ### loop.example/g01098/laws.FnRunsOfPermutations: function 3 -/
def laws_FnRunsOfPermutations.l1 (k : Nat) (y52 : List Int) : (List (List Int)) → (List Int) → Int → Option ((Bool) ⊕ ((List Int)))
  | [], l73, i76 => some (.inr l73)
  | y77 :: ys78, l73, i76 => (gt y52 i76).bind fun y98 => (impl_PermutationPower.f k y77 y98).bind fun (l100, b101) => (impl_ThenPermutation.f l73 l100).bind fun (l105, b106) => if b101 = true then (if b106 = true then (laws_FnRunsOfPermutations.l1 k y52 ys78 l105 (i76 + 1)) else (some (.inl false))) else (some (.inl false))
def laws_FnRunsOfPermutations.l0 (k : Nat) (l8 : List (List Int)) (l19 : List (List Int)) : (List (List Int)) → Int → Option ((Bool) ⊕ (Unit))
  | [], i51 => some (.inr ())
  | y52 :: ys53, i51 => (gt l8 0).bind fun y66 => (impl_PermutationPower.f k y66 0).bind fun (l69, b70) => (laws_FnRunsOfPermutations.l1 k y52 l8 l69 0).bind fun o_ => match o_ with | .inl r_ => some (.inl r_) | .inr l73 => if b70 = true then ((gt l19 i51).bind fun y90 => (laws_rSame.f l73 y90).bind fun b93 => if b93 = true then (laws_FnRunsOfPermutations.l0 k l8 l19 ys53 (i51 + 1)) else (some (.inl false))) else (some (.inl false))
def laws_FnRunsOfPermutations.f (k : Nat) (l0 : List Int) (l1 : List Int) : Option Bool := (laws_big.f l0 l1).bind fun b2 => if b2 = true then (some true) else ((spec_DrawRunPermutations.f k l0).bind fun (i5, l6, l7, l8) => (impl_RunPermutations.f k i5 l6 l7 l8).bind fun (l19, b20) => (spec_RunPermutations.f k i5 l6 l7 l8).bind fun (l25, b26) => if (b20 != b26) = true then (some false) else ((laws_rSameLists.f l19 l25).bind fun b32 => if b32 = true then (if b20 = true then ((impl_DoCommute.f l8).bind fun (b36, b37) => (spec_DoCommute.f l8).bind fun (b39, b40) => (impl_OutputExponents.f k i5 l6 l7).bind fun (l42, b43) => if (b37 != b40) = true then (some false) else (if (b36 != b39) = true then (some false) else (if b43 = true then (if b36 = true then ((laws_FnRunsOfPermutations.l0 k l8 l19 l42 0).bind fun o_ => match o_ with | .inl r_ => some r_ | .inr _ => some true) else (some true)) else (some false)))) else (some true)) else (some false)))
set_option maxHeartbeats 600000 in
set_option maxRecDepth 100000 in
theorem laws_FnRunsOfPermutations.calls (k : Nat) {w0 ws : World} {P0 : Nat → Prop} (A0 : Option Addr) (c0 : Nat) (n0 : Nat) (l0 : List Int) (A1 : Option Addr) (c1 : Nat) (n1 : Nat) (l1 : List Int) (Z : Below w0.heap.size w0 ws) (hF : Fr w0 ws P0 [] ws) (R0 : Stable ws P0 (fun w => Kd.C (Kd.int .u8) w A0 n0 l0)) (hc0 : n0 ≤ c0) (R1 : Stable ws P0 (fun w => Kd.C (Kd.int .u8) w A1 n1 l1)) (hc1 : n1 ≤ c1) (r_1 : Bool) (h : laws_FnRunsOfPermutations.f k l0 l1 = some r_1) :
    Calls Try.prog 3 #[.slice A0 n0 c0, .slice A1 n1 c1] ws (Post1 w0 ws P0 (fun (_ : Unit) => .bool r_1) (fun (_ : Unit) => [])) := by
  unfold laws_FnRunsOfPermutations.f at h
  obtain rfl := (R0 ws (KeptB.refl _ _)).1
  obtain rfl := (R1 ws (KeptB.refl _ _)).1
  refine enter Try.func3 rfl Try.ntmps3 rfl hF ?_
  refine c_seq ?_
  refine za0 ?_
  refine o_q rfl rfl (q_asg rfl) ?_
  refine o_end ?_
  refine za1 ?_
  refine c_seq ?_
  refine c_seq ?_
  refine za0 ?_
  refine o_q rfl rfl (za2 rfl) ?_
  refine o_q rfl rfl (za2 rfl) ?_
  refine za8 h (fun b2 hx1 h => ?_) rfl
  refine o_e rfl (za9 0 Z Try.func4 N4 rfl rfl rfl (fun w P1 hF hB hS hT => laws_big.calls A0 c0 l0.length l0 A1 c1 l1.length l1 hB hF (hS _ R0) hc0 (hS _ R1) hc1 _ hx1)) (fun _ => ?_)
  refine o_end ?_
  refine za1 ?_
  refine zaq _ rfl (fun hb3 => ?_) (fun hb3 => ?_)
  · skip
    replace h := bb_t hb3 h
    refine c_seq ?_
    refine za0 ?_
    refine o_q rfl rfl (q_asg rfl) ?_
    refine o_end ?_
    refine za1 ?_
    refine c_ret ?_
    refine za5 ?_
    have e0_ := Option.some.inj h; clear h
    subst e0_
    exact x_r1 () Try.results3 (zaa rfl) rfl (fun w h => za7 [] (by decide) rfl w h)
  · skip
    replace h := bb_f hb3 h
    refine zak ?_
    refine za1 ?_
    refine c_seq ?_
    refine za0 ?_
    refine o_q rfl rfl (za2 rfl) ?_
    refine bindE4 h (fun i5 l6 l7 l8 hx4 h => ?_) rfl
    refine o_e rfl (za9 0 Z Try.func5 N5 rfl rfl rfl (fun w P1 hF hB hS hT => spec_DrawRunPermutations.calls k A0 c0 l0.length l0 hB hF (hS _ R0) hc0 _ _ _ _ hx4)) (cur7 (fun A9 c10 A11 c12 A13 c14 H15 => ?_))
    refine o_q rfl rfl (za2 rfl) ?_
    refine o_q rfl rfl (q_ext rfl rfl) ?_
    refine o_q rfl rfl (q_ext rfl rfl) ?_
    refine o_e rfl (e_alloc V27 rfl) (fun g16 => ?_)
    refine o_e rfl (e_storeA (i := 0) rfl rfl rfl Z27 rfl rfl) (fun _ => ?_)
    refine o_q rfl rfl (q_asg rfl) ?_
    refine o_end ?_
    refine za1 ?_
    refine c_seq ?_
    refine za0 ?_
    refine o_q rfl rfl (q_ldB G27 Z27 rfl (fun w h => h.zan (i := 0) rfl) rfl) ?_
    refine o_q rfl rfl (za2 rfl) ?_
    refine bindE2 h (fun l19 b20 hx18 h => ?_) rfl
    refine o_e rfl (za9 0 Z Try.func6 N6 rfl rfl rfl (fun w P1 hF hB hS hT => impl_RunPermutations.calls k i5 A9 c10 l6.length l6 A11 c12 l7.length l7 A13 c14 l8.length H15 l8 hB hF (hT 1 _ rfl).row (hT 1 _ rfl).cap (hT 2 _ rfl).row (hT 2 _ rfl).cap (hT 3 _ rfl).row (hT 3 _ rfl).cap _ _ hx18)) (cur3 (fun A21 c22 H23 => ?_))
    refine o_q rfl rfl (za2 rfl) ?_
    refine o_q rfl rfl (q_ext rfl rfl) ?_
    refine o_q rfl rfl (q_ext rfl rfl) ?_
    refine o_q rfl rfl (q_asg rfl) ?_
    refine o_q rfl rfl (q_asg rfl) ?_
    refine o_end ?_
    refine za1 ?_
    refine c_seq ?_
    refine za0 ?_
    refine o_q rfl rfl (q_ldB G27 Z27 rfl (fun w h => h.zan (i := 1) rfl) rfl) ?_
    refine o_q rfl rfl (za2 rfl) ?_
    refine bindE2 h (fun l25 b26 hx24 h => ?_) rfl
    refine o_e rfl (za9 0 Z Try.func7 N7 rfl rfl rfl (fun w P1 hF hB hS hT => spec_RunPermutations.calls k i5 A9 c10 l6.length l6 A11 c12 l7.length l7 A13 c14 l8.length H15 l8 hB hF (hT 2 _ rfl).row (hT 2 _ rfl).cap (hT 3 _ rfl).row (hT 3 _ rfl).cap (hT 4 _ rfl).row (hT 4 _ rfl).cap _ _ hx24)) (cur3 (fun A27 c28 H29 => ?_))
    refine o_q rfl rfl (za2 rfl) ?_
    refine o_q rfl rfl (q_ext rfl rfl) ?_
    refine o_q rfl rfl (q_ext rfl rfl) ?_
    refine o_q rfl rfl (q_asg rfl) ?_
    refine o_q rfl rfl (q_asg rfl) ?_
    refine o_end ?_
    refine za1 ?_
    refine c_seq ?_
    refine c_seq ?_
    refine za0 ?_
    refine o_q rfl rfl (za2 rfl) ?_
    refine o_q rfl rfl (za2 rfl) ?_
    refine o_q rfl rfl (q_bneq Try.underlying4 rfl rfl) ?_
    refine o_q rfl rfl (za2 rfl) ?_
    refine byB (b20 != b26) (fun hb30 => ?_) (fun hb30 => ?_)
    · replace h := bb_t hb30 h
      refine @o_n _ _ _ _ _ _ _ _ _ _ _ 51 (za3 rfl rfl rfl (congrArg Value.bool hb30) rfl) (Eq.refl (some 51)) ?_
      refine @o_n _ _ _ _ _ _ _ _ _ _ _ 52 (za3 rfl rfl rfl (congrArg Value.bool hb30) rfl) (Eq.refl (some 52)) ?_
      refine @o_n _ _ _ _ _ _ _ _ _ _ _ 53 (za3 rfl rfl rfl (congrArg Value.bool hb30) rfl) (Eq.refl (some 53)) ?_
      refine @o_n _ _ _ _ _ _ _ _ _ _ _ 54 (za3 rfl rfl rfl (congrArg Value.bool hb30) rfl) (Eq.refl (some 54)) ?_
      refine o_q rfl rfl (zar true (congrArg Value.bool hb30) rfl) ?_
      refine o_end ?_
      refine za1 ?_
      refine zaw rfl ?_
      refine c_seq ?_
      refine za0 ?_
      refine o_q rfl rfl (q_asg rfl) ?_
      refine o_end ?_
      refine za1 ?_
      refine c_ret ?_
      refine za5 ?_
      have e0_ := Option.some.inj h; clear h
      subst e0_
      exact x_r1 () Try.results3 (zaa rfl) rfl (fun w h => za7 [] (by decide) rfl w h)
    · replace h := bb_f hb30 h
      refine o_w (za4 rfl rfl rfl (congrArg Value.bool hb30)) rfl (za2 rfl) ?_
      refine o_w (za4 rfl rfl rfl (congrArg Value.bool hb30)) rfl (za2 rfl) ?_
      refine za8 h (fun b32 hx31 h => ?_) rfl
      refine o_ew (za4 rfl rfl rfl (congrArg Value.bool hb30)) (za9 0 Z Try.func8 N8 rfl rfl rfl (fun w P1 hF hB hS hT => laws_rSameLists.calls A21 c22 l19.length H23 l19 A27 c28 l25.length H29 l25 hB hF (hT 1 _ rfl).row (hT 1 _ rfl).cap (hT 0 _ rfl).row (hT 0 _ rfl).cap _ hx31)) (fun _ => ?_)
      refine o_w (za4 rfl rfl rfl (congrArg Value.bool hb30)) rfl (q_not rfl) ?_
      refine o_q rfl rfl (zar false (congrArg Value.bool hb30) rfl) ?_
      refine o_end ?_
      refine za1 ?_
      refine zaq _ rfl (fun hb33 => ?_) (fun hb33 => ?_)
      · replace hb33 := nt_t hb33
        replace h := bb_f hb33 h
        refine c_seq ?_
        refine za0 ?_
        refine o_q rfl rfl (q_asg rfl) ?_
        refine o_end ?_
        refine za1 ?_
        refine c_ret ?_
        refine za5 ?_
        have e0_ := Option.some.inj h; clear h
        subst e0_
        exact x_r1 () Try.results3 (zaa rfl) rfl (fun w h => za7 [] (by decide) rfl w h)
      · replace hb33 := nt_f hb33
        replace h := bb_t hb33 h
        refine zak ?_
        refine za1 ?_
        refine c_seq ?_
        refine c_seq ?_
        refine za0 ?_
        refine o_q rfl rfl (za2 rfl) ?_
        refine o_q rfl rfl (q_not rfl) ?_
        refine o_end ?_
        refine za1 ?_
        refine zaq _ rfl (fun hb34 => ?_) (fun hb34 => ?_)
        · replace hb34 := nt_t hb34
          replace h := bb_f hb34 h
          refine c_seq ?_
          refine za0 ?_
          refine o_q rfl rfl (q_asg rfl) ?_
          refine o_end ?_
          refine za1 ?_
          refine c_ret ?_
          refine za5 ?_
          have e0_ := Option.some.inj h; clear h
          subst e0_
          exact x_r1 () Try.results3 (zaa rfl) rfl (fun w h => za7 [] (by decide) rfl w h)
        · replace hb34 := nt_f hb34
          replace h := bb_t hb34 h
          refine zak ?_
          refine za1 ?_
          refine c_seq ?_
          refine za0 ?_
          refine o_q rfl rfl (za2 rfl) ?_
          refine bindE2 h (fun b36 b37 hx35 h => ?_) rfl
          refine o_e rfl (za9 0 Z Try.func9 N9 rfl rfl rfl (fun w P1 hF hB hS hT => impl_DoCommute.calls A13 c14 l8.length H15 l8 hB hF (hT 5 _ rfl).row (hT 5 _ rfl).cap _ _ hx35)) (fun _ => ?_)
          refine o_q rfl rfl (za2 rfl) ?_
          refine o_q rfl rfl (q_ext rfl rfl) ?_
          refine o_q rfl rfl (q_ext rfl rfl) ?_
          refine o_q rfl rfl (q_asg rfl) ?_
          refine o_q rfl rfl (q_asg rfl) ?_
          refine o_end ?_
          refine za1 ?_
          refine c_seq ?_
          refine za0 ?_
          refine o_q rfl rfl (za2 rfl) ?_
          refine bindE2 h (fun b39 b40 hx38 h => ?_) rfl
          refine o_e rfl (za9 0 Z Try.func10 N10 rfl rfl rfl (fun w P1 hF hB hS hT => spec_DoCommute.calls A13 c14 l8.length H15 l8 hB hF (hT 5 _ rfl).row (hT 5 _ rfl).cap _ _ hx38)) (fun _ => ?_)
          refine o_q rfl rfl (za2 rfl) ?_
          refine o_q rfl rfl (q_ext rfl rfl) ?_
          refine o_q rfl rfl (q_ext rfl rfl) ?_
          refine o_q rfl rfl (q_asg rfl) ?_
          refine o_q rfl rfl (q_asg rfl) ?_
          refine o_end ?_
          refine za1 ?_
          refine c_seq ?_
          refine za0 ?_
          refine o_q rfl rfl (q_ldB G27 Z27 rfl (fun w h => h.zan (i := 2) rfl) rfl) ?_
          refine bindE2 h (fun l42 b43 hx41 h => ?_) rfl
          refine o_e rfl (za9 0 Z Try.func11 N11 rfl rfl rfl (fun w P1 hF hB hS hT => impl_OutputExponents.calls k i5 A9 c10 l6.length l6 A11 c12 l7.length l7 hB hF (hT 3 _ rfl).row (hT 3 _ rfl).cap (hT 4 _ rfl).row (hT 4 _ rfl).cap _ _ hx41)) (cur3 (fun A44 c45 H46 => ?_))
          refine o_q rfl rfl (za2 rfl) ?_
          refine o_q rfl rfl (q_ext rfl rfl) ?_
          refine o_q rfl rfl (q_ext rfl rfl) ?_
          refine o_q rfl rfl (q_asg rfl) ?_
          refine o_q rfl rfl (q_asg rfl) ?_
          refine o_end ?_
          refine za1 ?_
          refine c_seq ?_
          refine c_seq ?_
          refine za0 ?_
          refine o_q rfl rfl (za2 rfl) ?_
          refine o_q rfl rfl (za2 rfl) ?_
          refine o_q rfl rfl (q_bneq Try.underlying4 rfl rfl) ?_
          refine o_q rfl rfl (za2 rfl) ?_
          refine byB (b37 != b40) (fun hb47 => ?_) (fun hb47 => ?_)
          · replace h := bb_t hb47 h
            refine @o_n _ _ _ _ _ _ _ _ _ _ _ 77 (za3 rfl rfl rfl (congrArg Value.bool hb47) rfl) (Eq.refl (some 77)) ?_
            refine @o_n _ _ _ _ _ _ _ _ _ _ _ 78 (za3 rfl rfl rfl (congrArg Value.bool hb47) rfl) (Eq.refl (some 78)) ?_
            refine @o_n _ _ _ _ _ _ _ _ _ _ _ 79 (za3 rfl rfl rfl (congrArg Value.bool hb47) rfl) (Eq.refl (some 79)) ?_
            refine o_q rfl rfl (zar true (congrArg Value.bool hb47) rfl) ?_
            refine o_q rfl rfl (za2 rfl) ?_
            refine @o_n _ _ _ _ _ _ _ _ _ _ _ 82 (za3 rfl rfl rfl rfl rfl) (Eq.refl (some 82)) ?_
            refine @o_n _ _ _ _ _ _ _ _ _ _ _ 83 (za3 rfl rfl rfl rfl rfl) (Eq.refl (some 83)) ?_
            refine o_q rfl rfl (zar true rfl rfl) ?_
            refine o_end ?_
            refine za1 ?_
            refine zaw rfl ?_
            refine c_seq ?_
            refine za0 ?_
            refine o_q rfl rfl (q_asg rfl) ?_
            refine o_end ?_
            refine za1 ?_
            refine c_ret ?_
            refine za5 ?_
            have e0_ := Option.some.inj h; clear h
            subst e0_
            exact x_r1 () Try.results3 (zaa rfl) rfl (fun w h => za7 [] (by decide) rfl w h)
          · replace h := bb_f hb47 h
            refine o_w (za4 rfl rfl rfl (congrArg Value.bool hb47)) rfl (za2 rfl) ?_
            refine o_w (za4 rfl rfl rfl (congrArg Value.bool hb47)) rfl (za2 rfl) ?_
            refine o_w (za4 rfl rfl rfl (congrArg Value.bool hb47)) rfl (q_bneq Try.underlying4 rfl rfl) ?_
            refine o_q rfl rfl (zar false (congrArg Value.bool hb47) rfl) ?_
            refine o_q rfl rfl (za2 rfl) ?_
            refine byB (b36 != b39) (fun hb48 => ?_) (fun hb48 => ?_)
            · replace h := bb_t hb48 h
              refine @o_n _ _ _ _ _ _ _ _ _ _ _ 82 (za3 rfl rfl rfl (congrArg Value.bool hb48) rfl) (Eq.refl (some 82)) ?_
              refine @o_n _ _ _ _ _ _ _ _ _ _ _ 83 (za3 rfl rfl rfl (congrArg Value.bool hb48) rfl) (Eq.refl (some 83)) ?_
              refine o_q rfl rfl (zar true (congrArg Value.bool hb48) rfl) ?_
              refine o_end ?_
              refine za1 ?_
              refine zaw rfl ?_
              refine c_seq ?_
              refine za0 ?_
              refine o_q rfl rfl (q_asg rfl) ?_
              refine o_end ?_
              refine za1 ?_
              refine c_ret ?_
              refine za5 ?_
              have e0_ := Option.some.inj h; clear h
              subst e0_
              exact x_r1 () Try.results3 (zaa rfl) rfl (fun w h => za7 [] (by decide) rfl w h)
            · replace h := bb_f hb48 h
              refine o_w (za4 rfl rfl rfl (congrArg Value.bool hb48)) rfl (za2 rfl) ?_
              refine o_w (za4 rfl rfl rfl (congrArg Value.bool hb48)) rfl (q_not rfl) ?_
              refine o_q rfl rfl (zar false (congrArg Value.bool hb48) rfl) ?_
              refine o_end ?_
              refine za1 ?_
              refine zaq _ rfl (fun hb49 => ?_) (fun hb49 => ?_)
              · replace hb49 := nt_t hb49
                replace h := bb_f hb49 h
                refine c_seq ?_
                refine za0 ?_
                refine o_q rfl rfl (q_asg rfl) ?_
                refine o_end ?_
                refine za1 ?_
                refine c_ret ?_
                refine za5 ?_
                have e0_ := Option.some.inj h; clear h
                subst e0_
                exact x_r1 () Try.results3 (zaa rfl) rfl (fun w h => za7 [] (by decide) rfl w h)
              · replace hb49 := nt_f hb49
                replace h := bb_t hb49 h
                refine zak ?_
                refine za1 ?_
                refine c_seq ?_
                refine c_seq ?_
                refine za0 ?_
                refine o_q rfl rfl (za2 rfl) ?_
                refine o_q rfl rfl (q_not rfl) ?_
                refine o_end ?_
                refine za1 ?_
                refine zaq _ rfl (fun hb50 => ?_) (fun hb50 => ?_)
                · replace hb50 := nt_t hb50
                  replace h := bb_f hb50 h
                  refine c_seq ?_
                  refine za0 ?_
                  refine o_q rfl rfl (q_asg rfl) ?_
                  refine o_end ?_
                  refine za1 ?_
                  refine c_ret ?_
                  refine za5 ?_
                  have e0_ := Option.some.inj h; clear h
                  subst e0_
                  exact x_r1 () Try.results3 (zaa rfl) rfl (fun w h => za7 [] (by decide) rfl w h)
                · replace hb50 := nt_f hb50
                  replace h := bb_t hb50 h
                  refine zak ?_
                  refine za1 ?_
                  refine c_seq ?_
                  refine c_seq ?_
                  refine za0 ?_
                  refine o_q rfl rfl (za2 rfl) ?_
                  refine o_q rfl rfl (q_len Try.underlying28 rfl) ?_
                  refine o_q rfl rfl (za2 rfl) ?_
                  refine o_end ?_
                  refine za1 ?_
                  refine zaf ?_
                  refine za8 h (fun o59 hl58 hR57 => ?_) rfl
                  clear h
                  refine c_fact (p := l42.length ≤ 9223372036854775807) (fun w h => (h.zao (i := 0) rfl).2.1) (fun hm56 => ?_)
                  refine zav (σ := (List (List Int)) × Int) (fun k54 ((ys53, i51) : (List (List Int)) × Int) => Rg l42 i51 ys53 ∧ ys53.length = k54 ∧ laws_FnRunsOfPermutations.l0 k l8 l19 ys53 i51 = some o59) [4, 17, 18, 19, 20, 21, 22, 23, 24, 25, 26, 89, 90, 91, 92, 93, 94, 95, 96, 97, 98, 99, 100, 101, 102, 103, 104, 105, 106, 107, 108, 109, 110, 111, 112, 113, 114, 115, 116, 117, 118, 119, 120, 121, 122, 123, 124, 125, 126, 127, 128, 129, 130, 131, 132, 133, 134, 135, 136, 137, 138, 139, 140, 141, 142] (fun ((ys53, i51) : (List (List Int)) × Int) => [(89, .int .i64 i51)]) (fun ((ys53, i51) : (List (List Int)) × Int) => [row (gk 3 (Kd.int .i64)) 25 (.slice A44 l42.length c45) (zp H46 l42), row (gk 3 (Kd.int .i64)) 25 (.slice A27 l25.length c28) (zp H29 l25), row (gk 3 (Kd.int .i64)) 25 (.slice A21 l19.length c22) (zp H23 l19), box g16 27 #[.int .i64 i5, .slice A9 l6.length c10, .slice A11 l7.length c12], row kStep 58 (.slice A9 l6.length c10) l6, row (Kd.int .i64) 3 (.slice A11 l7.length c12) l7, row (gk 3 (Kd.int .i64)) 25 (.slice A13 l8.length c14) (zp H15 l8)]) l42.length (l42, 0) ⟨Rg.start _, rfl, hl58⟩ ⟨rfl, trivial⟩ (fun w h => h) ?_
                  refine fun k54 => cur2 (listC (fun i51 U60 hJ_ => ?_) (fun y52 ys53 i51 U60 hJ_ => ?_))
                  · skip
                    clear hl58
                    have hr55 := hJ_.1; have hk61 := hJ_.2.1; have h := hJ_.2.2; clear hJ_
                    replace h : laws_FnRunsOfPermutations.l0 k l8 l19 [] i51 = some o59 := h
                    rw [laws_FnRunsOfPermutations.l0] at h
                    refine c_seq ?_
                    refine za0 ?_
                    refine o_q rfl rfl (q_lss rfl rfl) ?_
                    refine o_end ?_
                    refine za1 ?_
                    refine c_seq ?_
                    refine c_false (congrArg Value.bool hr55.ge) ?_
                    refine c_exit ?_
                    refine za6 ?_
                    refine za6 ?_
                    have e_ := Option.some.inj h; replace h := hR57; rw [← e_] at h; clear e_
                    refine x_hit ?_
                    refine za1 ?_
                    refine c_seq ?_
                    refine za0 ?_
                    refine o_q rfl rfl (q_asg rfl) ?_
                    refine o_end ?_
                    refine za1 ?_
                    refine c_ret ?_
                    have e0_ := Option.some.inj h; clear h
                    subst e0_
                    exact x_r1 () Try.results3 (zaa rfl) rfl (fun w h => za7 [] (by decide) rfl w h)
                  · skip
                    clear hl58
                    have hr55 := hJ_.1; have hk61 := hJ_.2.1; have h := hJ_.2.2; clear hJ_
                    replace h : laws_FnRunsOfPermutations.l0 k l8 l19 (y52 :: ys53) i51 = some o59 := h
                    rw [laws_FnRunsOfPermutations.l0] at h
                    refine c_seq ?_
                    refine za0 ?_
                    refine o_q rfl rfl (q_lss rfl rfl) ?_
                    refine o_end ?_
                    refine za1 ?_
                    refine c_seq ?_
                    refine zaw (congrArg Value.bool hr55.lt) ?_
                    refine zak ?_
                    refine za1 ?_
                    refine c_seq ?_
                    refine zaf ?_
                    refine c_seq ?_
                    refine za0 ?_
                    refine o_q rfl rfl (za2 rfl) ?_
                    refine zat (p := Sh A44 l42.length (zp H46 l42).length) (fun w h => f_sh (dk := (gk 3 (Kd.int .i64))) h (fun w h => h.zao (i := 0) rfl)) (fun hq62 => ?_)
                    refine o_q rfl rfl (q_ix Try.underlying28 Z25 rfl rfl hq62 (gt_zp hr55.get)) ?_
                    refine zat (p := y52.length ≤ hC H46 i51) (fun w h => (K_in (h.zao (i := 0) rfl) hr55.get).1) (fun hc63 => ?_)
                    refine o_q rfl rfl (q_lde (off := 0) Y25 rfl rfl (fun w h => h.zao (i := 0) rfl) (gt_zp hr55.get) (fun _ _ h => h.1) rfl) ?_
                    refine o_q rfl rfl (q_asg rfl) ?_
                    refine o_q rfl rfl (q_asg rfl) ?_
                    refine o_end ?_
                    refine za1 ?_
                    refine c_seq ?_
                    refine za0 ?_
                    refine o_q rfl rfl (za2 rfl) ?_
                    refine zat (p := Sh A13 l8.length (zp H15 l8).length) (fun w h => f_sh (dk := (gk 3 (Kd.int .i64))) h (fun w h => h.zao (i := 6) rfl)) (fun hq64 => ?_)
                    refine za8 h (fun y66 hg65 h => ?_) rfl
                    refine o_q rfl rfl (q_ix Try.underlying28 Z25 rfl rfl hq64 (gt_zp hg65)) ?_
                    refine zat (p := y66.length ≤ hC H15 (0 : Int)) (fun w h => (K_in (h.zao (i := 6) rfl) hg65).1) (fun hc67 => ?_)
                    refine o_q rfl rfl (q_lde (off := 0) Y25 rfl rfl (fun w h => h.zao (i := 6) rfl) (gt_zp hg65) (fun _ _ h => h.1) rfl) ?_
                    refine bindE2 h (fun l69 b70 hx68 h => ?_) rfl
                    refine o_e rfl (za9 0 Z Try.func12 N12 rfl rfl rfl (fun w P1 hF hB hS hT => impl_PermutationPower.calls k (hA H15 (0 : Int)) (hC H15 (0 : Int)) y66.length y66 0 hB hF (stab_in (hT 6 _ rfl).row hg65) hc67 _ _ hx68)) (cur2 (fun A71 c72 => ?_))
                    refine o_q rfl rfl (za2 rfl) ?_
                    refine o_q rfl rfl (q_ext rfl rfl) ?_
                    refine o_q rfl rfl (q_ext rfl rfl) ?_
                    refine o_q rfl rfl (q_asg rfl) ?_
                    refine o_q rfl rfl (q_asg rfl) ?_
                    refine o_end ?_
                    refine za1 ?_
                    refine c_seq ?_
                    refine c_seq ?_
                    refine za0 ?_
                    refine o_q rfl rfl (za2 rfl) ?_
                    refine o_q rfl rfl (q_len Try.underlying28 rfl) ?_
                    refine o_q rfl rfl (za2 rfl) ?_
                    refine o_end ?_
                    refine za1 ?_
                    refine zaf ?_
                    refine za8 h (fun o84 hl83 hR82 => ?_) rfl
                    clear h
                    refine c_fact (p := l8.length ≤ 9223372036854775807) (fun w h => (h.zao (i := 7) rfl).2.1) (fun hm81 => ?_)
                    refine zav (σ := (List (List Int)) × (List Int) × Int × (Option Addr) × Nat) (fun k79 ((ys78, l73, i76, A74, c75) : (List (List Int)) × (List Int) × Int × (Option Addr) × Nat) => Rg l8 i76 ys78 ∧ ys78.length = k79 ∧ laws_FnRunsOfPermutations.l1 k y52 ys78 l73 i76 = some o84) [4, 19, 21, 22, 23, 24, 25, 26, 103, 104, 105, 106, 107, 108, 109, 110, 111, 112, 113, 114, 115, 116, 117, 118, 119, 120, 121, 122, 123, 124, 125, 126, 127, 128, 129, 130] (fun ((ys78, l73, i76, A74, c75) : (List (List Int)) × (List Int) × Int × (Option Addr) × Nat) => [(19, .slice A74 l73.length c75), (103, .int .i64 i76)]) (fun ((ys78, l73, i76, A74, c75) : (List (List Int)) × (List Int) × Int × (Option Addr) × Nat) => [row (Kd.int .i64) 3 (.slice A74 l73.length c75) l73, row (gk 3 (Kd.int .i64)) 25 (.slice A44 l42.length c45) (zp H46 l42), row (gk 3 (Kd.int .i64)) 25 (.slice A27 l25.length c28) (zp H29 l25), row (gk 3 (Kd.int .i64)) 25 (.slice A21 l19.length c22) (zp H23 l19), box g16 27 #[.int .i64 i5, .slice A9 l6.length c10, .slice A11 l7.length c12], row kStep 58 (.slice A9 l6.length c10) l6, row (Kd.int .i64) 3 (.slice A11 l7.length c12) l7, row (gk 3 (Kd.int .i64)) 25 (.slice A13 l8.length c14) (zp H15 l8)]) l8.length (l8, l69, 0, A71, c72) ⟨Rg.start _, rfl, hl83⟩ ⟨rfl, rfl, trivial⟩ (fun w h => h) ?_
                    refine fun k79 => cur5 (listC (fun l73 i76 A74 c75 U85 hJ_ => ?_) (fun y77 ys78 l73 i76 A74 c75 U85 hJ_ => ?_))
                    · skip
                      clear hl83
                      have hr80 := hJ_.1; have hk86 := hJ_.2.1; have h := hJ_.2.2; clear hJ_
                      replace h : laws_FnRunsOfPermutations.l1 k y52 [] l73 i76 = some o84 := h
                      rw [laws_FnRunsOfPermutations.l1] at h
                      refine c_seq ?_
                      refine za0 ?_
                      refine o_q rfl rfl (q_lss rfl rfl) ?_
                      refine o_end ?_
                      refine za1 ?_
                      refine c_seq ?_
                      refine c_false (congrArg Value.bool hr80.ge) ?_
                      refine c_exit ?_
                      refine za6 ?_
                      refine za6 ?_
                      have e_ := Option.some.inj h; replace h := hR82; rw [← e_] at h; clear e_
                      refine x_hit ?_
                      refine za1 ?_
                      refine c_seq ?_
                      refine za0 ?_
                      refine o_q rfl rfl (za2 rfl) ?_
                      refine o_q rfl rfl (q_not rfl) ?_
                      refine o_q rfl rfl (za2 rfl) ?_
                      refine byB b70 (fun hb87 => ?_) (fun hb87 => ?_)
                      · replace h := bb_t hb87 h
                        refine o_w (za4 rfl rfl rfl (congrArg (fun b => Value.bool (!(b))) hb87)) rfl (za2 rfl) ?_
                        refine o_w (za4 rfl rfl rfl (congrArg (fun b => Value.bool (!(b))) hb87)) rfl (za2 rfl) ?_
                        refine o_w (za4 rfl rfl rfl (congrArg (fun b => Value.bool (!(b))) hb87)) rfl (za2 rfl) ?_
                        refine zat (p := Sh A21 l19.length (zp H23 l19).length) (fun w h => f_sh (dk := (gk 3 (Kd.int .i64))) h (fun w h => h.zao (i := 3) rfl)) (fun hq88 => ?_)
                        refine za8 h (fun y90 hg89 h => ?_) rfl
                        refine o_w (za4 rfl rfl rfl (congrArg (fun b => Value.bool (!(b))) hb87)) rfl (q_ix Try.underlying28 Z25 rfl rfl hq88 (gt_zp hg89)) ?_
                        refine zat (p := y90.length ≤ hC H23 i51) (fun w h => (K_in (h.zao (i := 3) rfl) hg89).1) (fun hc91 => ?_)
                        refine o_w (za4 rfl rfl rfl (congrArg (fun b => Value.bool (!(b))) hb87)) rfl (q_lde (off := 0) Y25 rfl rfl (fun w h => h.zao (i := 3) rfl) (gt_zp hg89) (fun _ _ h => h.1) rfl) ?_
                        refine za8 h (fun b93 hx92 h => ?_) rfl
                        refine o_ew (za4 rfl rfl rfl (congrArg (fun b => Value.bool (!(b))) hb87)) (za9 0 Z Try.func14 N14 rfl rfl rfl (fun w P1 hF hB hS hT => laws_rSame.calls A74 c75 l73.length l73 (hA H23 i51) (hC H23 i51) y90.length y90 hB hF (hT 0 _ rfl).row (hT 0 _ rfl).cap (stab_in (hT 3 _ rfl).row hg89) hc91 _ hx92)) (fun _ => ?_)
                        refine o_w (za4 rfl rfl rfl (congrArg (fun b => Value.bool (!(b))) hb87)) rfl (q_not rfl) ?_
                        refine o_q rfl rfl (zar false (congrArg (fun b => Value.bool (!(b))) hb87) rfl) ?_
                        refine o_end ?_
                        refine za1 ?_
                        refine zaq _ rfl (fun hb94 => ?_) (fun hb94 => ?_)
                        · replace hb94 := nt_t hb94
                          replace h := bb_f hb94 h
                          refine c_seq ?_
                          refine za0 ?_
                          refine o_q rfl rfl (q_asg rfl) ?_
                          refine o_end ?_
                          refine za1 ?_
                          refine c_ret ?_
                          refine zab ?_
                          refine za5 ?_
                          refine za5 ?_
                          have e_ := Option.some.inj h; replace h := hR57; rw [← e_] at h; clear e_
                          refine zab ?_
                          refine za5 ?_
                          have e0_ := Option.some.inj h; clear h
                          subst e0_
                          exact x_r1 () Try.results3 (zaa rfl) rfl (fun w h => za7 [] (by decide) rfl w h)
                        · replace hb94 := nt_f hb94
                          replace h := bb_t hb94 h
                          refine zak ?_
                          refine zam ?_
                          refine za1 ?_
                          refine za0 ?_
                          refine o_q rfl rfl (q_up rfl rfl (hr55.up hm56)) ?_
                          refine o_q rfl rfl (za2 rfl) ?_
                          refine o_end ?_
                          refine zal ys53.length (ys53, i51 + 1) (by rw [← hk61]; exact Nat.lt_succ_self _) ⟨hr55.step, rfl, h⟩ ⟨rfl, trivial⟩ (fun w h => za7 [1, 2, 3, 4, 5, 6, 7] (by decide) rfl w h) ?_
                          repeat (first | exact zad _ _ | refine zah rfl ?_ | refine zae rfl ?_ | refine zai rfl ?_)
                      · replace h := bb_f hb87 h
                        refine @o_n _ _ _ _ _ _ _ _ _ _ _ 134 (za3 rfl rfl rfl (congrArg (fun b => Value.bool (!(b))) hb87) rfl) (Eq.refl (some 134)) ?_
                        refine @o_n _ _ _ _ _ _ _ _ _ _ _ 135 (za3 rfl rfl rfl (congrArg (fun b => Value.bool (!(b))) hb87) rfl) (Eq.refl (some 135)) ?_
                        refine @o_n _ _ _ _ _ _ _ _ _ _ _ 136 (za3 rfl rfl rfl (congrArg (fun b => Value.bool (!(b))) hb87) rfl) (Eq.refl (some 136)) ?_
                        refine @o_n _ _ _ _ _ _ _ _ _ _ _ 137 (za3 rfl rfl rfl (congrArg (fun b => Value.bool (!(b))) hb87) rfl) (Eq.refl (some 137)) ?_
                        refine @o_n _ _ _ _ _ _ _ _ _ _ _ 138 (za3 rfl rfl rfl (congrArg (fun b => Value.bool (!(b))) hb87) rfl) (Eq.refl (some 138)) ?_
                        refine @o_n _ _ _ _ _ _ _ _ _ _ _ 139 (za3 rfl rfl rfl (congrArg (fun b => Value.bool (!(b))) hb87) rfl) (Eq.refl (some 139)) ?_
                        refine @o_n _ _ _ _ _ _ _ _ _ _ _ 140 (za3 rfl rfl rfl (congrArg (fun b => Value.bool (!(b))) hb87) rfl) (Eq.refl (some 140)) ?_
                        refine o_q rfl rfl (zar true (congrArg (fun b => Value.bool (!(b))) hb87) rfl) ?_
                        refine o_end ?_
                        refine za1 ?_
                        refine zaw rfl ?_
                        refine c_seq ?_
                        refine za0 ?_
                        refine o_q rfl rfl (q_asg rfl) ?_
                        refine o_end ?_
                        refine za1 ?_
                        refine c_ret ?_
                        refine zab ?_
                        refine za5 ?_
                        refine za5 ?_
                        have e_ := Option.some.inj h; replace h := hR57; rw [← e_] at h; clear e_
                        refine zab ?_
                        refine za5 ?_
                        have e0_ := Option.some.inj h; clear h
                        subst e0_
                        exact x_r1 () Try.results3 (zaa rfl) rfl (fun w h => za7 [] (by decide) rfl w h)
                    · skip
                      clear hl83
                      have hr80 := hJ_.1; have hk86 := hJ_.2.1; have h := hJ_.2.2; clear hJ_
                      replace h : laws_FnRunsOfPermutations.l1 k y52 (y77 :: ys78) l73 i76 = some o84 := h
                      rw [laws_FnRunsOfPermutations.l1] at h
                      refine c_seq ?_
                      refine za0 ?_
                      refine o_q rfl rfl (q_lss rfl rfl) ?_
                      refine o_end ?_
                      refine za1 ?_
                      refine c_seq ?_
                      refine zaw (congrArg Value.bool hr80.lt) ?_
                      refine zak ?_
                      refine za1 ?_
                      refine c_seq ?_
                      refine zaf ?_
                      refine c_seq ?_
                      refine za0 ?_
                      refine o_q rfl rfl (za2 rfl) ?_
                      refine o_q rfl rfl (q_ix Try.underlying28 Z25 rfl rfl hq64 (gt_zp hr80.get)) ?_
                      refine zat (p := y77.length ≤ hC H15 i76) (fun w h => (K_in (h.zao (i := 7) rfl) hr80.get).1) (fun hc95 => ?_)
                      refine o_q rfl rfl (q_lde (off := 0) Y25 rfl rfl (fun w h => h.zao (i := 7) rfl) (gt_zp hr80.get) (fun _ _ h => h.1) rfl) ?_
                      refine o_q rfl rfl (q_asg rfl) ?_
                      refine o_q rfl rfl (q_asg rfl) ?_
                      refine o_end ?_
                      refine za1 ?_
                      refine c_seq ?_
                      refine za0 ?_
                      refine o_q rfl rfl (za2 rfl) ?_
                      refine o_q rfl rfl (za2 rfl) ?_
                      refine o_q rfl rfl (za2 rfl) ?_
                      refine zat (p := Sh (hA H46 i51) y52.length y52.length) (fun w h => f_sh (dk := (Kd.int .i64)) h (fun w h => C_in (h.zao (i := 1) rfl) hr55.get)) (fun hq96 => ?_)
                      refine za8 h (fun y98 hg97 h => ?_) rfl
                      refine o_q rfl rfl (q_ix Try.underlying25 Z3 rfl rfl hq96 hg97) ?_
                      refine o_q rfl rfl (q_lde (off := 0) Y3 rfl rfl (fun w h => C_in (h.zao (i := 1) rfl) hr55.get) hg97 (fun _ _ h => h) rfl) ?_
                      refine bindE2 h (fun l100 b101 hx99 h => ?_) rfl
                      refine o_e rfl (za9 0 Z Try.func12 N12 rfl rfl rfl (fun w P1 hF hB hS hT => impl_PermutationPower.calls k (hA H15 i76) (hC H15 i76) y77.length y77 y98 hB hF (stab_in (hT 7 _ rfl).row hr80.get) hc95 _ _ hx99)) (cur2 (fun A102 c103 => ?_))
                      refine o_q rfl rfl (za2 rfl) ?_
                      refine o_q rfl rfl (q_ext rfl rfl) ?_
                      refine o_q rfl rfl (q_ext rfl rfl) ?_
                      refine o_q rfl rfl (q_asg rfl) ?_
                      refine o_q rfl rfl (q_asg rfl) ?_
                      refine o_end ?_
                      refine za1 ?_
                      refine c_seq ?_
                      refine za0 ?_
                      refine o_q rfl rfl (za2 rfl) ?_
                      refine o_q rfl rfl (za2 rfl) ?_
                      refine bindE2 h (fun l105 b106 hx104 h => ?_) rfl
                      refine o_e rfl (za9 0 Z Try.func13 N13 rfl rfl rfl (fun w P1 hF hB hS hT => impl_ThenPermutation.calls A74 c75 l73.length l73 A102 c103 l100.length l100 hB hF (hT 1 _ rfl).row (hT 1 _ rfl).cap (hT 0 _ rfl).row (hT 0 _ rfl).cap _ _ hx104)) (cur2 (fun A107 c108 => ?_))
                      refine o_q rfl rfl (za2 rfl) ?_
                      refine o_q rfl rfl (q_ext rfl rfl) ?_
                      refine o_q rfl rfl (q_ext rfl rfl) ?_
                      refine o_q rfl rfl (q_asg rfl) ?_
                      refine o_q rfl rfl (q_asg rfl) ?_
                      refine o_end ?_
                      refine za1 ?_
                      refine c_seq ?_
                      refine c_seq ?_
                      refine za0 ?_
                      refine o_q rfl rfl (za2 rfl) ?_
                      refine o_q rfl rfl (q_not rfl) ?_
                      refine o_q rfl rfl (za2 rfl) ?_
                      refine byB b101 (fun hb109 => ?_) (fun hb109 => ?_)
                      · replace h := bb_t hb109 h
                        refine o_w (za4 rfl rfl rfl (congrArg (fun b => Value.bool (!(b))) hb109)) rfl (za2 rfl) ?_
                        refine o_w (za4 rfl rfl rfl (congrArg (fun b => Value.bool (!(b))) hb109)) rfl (q_not rfl) ?_
                        refine o_q rfl rfl (zar false (congrArg (fun b => Value.bool (!(b))) hb109) rfl) ?_
                        refine o_end ?_
                        refine za1 ?_
                        refine zaq _ rfl (fun hb110 => ?_) (fun hb110 => ?_)
                        · replace hb110 := nt_t hb110
                          replace h := bb_f hb110 h
                          refine c_seq ?_
                          refine za0 ?_
                          refine o_q rfl rfl (q_asg rfl) ?_
                          refine o_end ?_
                          refine za1 ?_
                          refine c_ret ?_
                          refine za5 ?_
                          refine zab ?_
                          refine za5 ?_
                          refine za5 ?_
                          have e_ := Option.some.inj h; replace h := hR82; rw [← e_] at h; clear e_
                          refine zab ?_
                          refine za5 ?_
                          refine zab ?_
                          refine za5 ?_
                          refine za5 ?_
                          have e_ := Option.some.inj h; replace h := hR57; rw [← e_] at h; clear e_
                          refine zab ?_
                          refine za5 ?_
                          have e0_ := Option.some.inj h; clear h
                          subst e0_
                          exact x_r1 () Try.results3 (zaa rfl) rfl (fun w h => za7 [] (by decide) rfl w h)
                        · replace hb110 := nt_f hb110
                          replace h := bb_t hb110 h
                          refine zak ?_
                          refine za1 ?_
                          refine za0 ?_
                          refine o_q rfl rfl (za2 rfl) ?_
                          refine o_q rfl rfl (q_asg rfl) ?_
                          refine o_end ?_
                          refine zam ?_
                          refine za1 ?_
                          refine za0 ?_
                          refine o_q rfl rfl (q_up rfl rfl (hr80.up hm81)) ?_
                          refine o_q rfl rfl (za2 rfl) ?_
                          refine o_end ?_
                          refine zal ys78.length (ys78, l105, i76 + 1, A107, c108) (by rw [← hk86]; exact Nat.lt_succ_self _) ⟨hr80.step, rfl, h⟩ ⟨rfl, rfl, trivial⟩ (fun w h => za7 [0, 3, 4, 5, 6, 7, 8, 9] (by decide) rfl w h) ?_
                          repeat (first | exact zad _ _ | refine zah rfl ?_ | refine zae rfl ?_ | refine zai rfl ?_)
                      · replace h := bb_f hb109 h
                        refine @o_n _ _ _ _ _ _ _ _ _ _ _ 126 (za3 rfl rfl rfl (congrArg (fun b => Value.bool (!(b))) hb109) rfl) (Eq.refl (some 126)) ?_
                        refine @o_n _ _ _ _ _ _ _ _ _ _ _ 127 (za3 rfl rfl rfl (congrArg (fun b => Value.bool (!(b))) hb109) rfl) (Eq.refl (some 127)) ?_
                        refine o_q rfl rfl (zar true (congrArg (fun b => Value.bool (!(b))) hb109) rfl) ?_
                        refine o_end ?_
                        refine za1 ?_
                        refine zaw rfl ?_
                        refine c_seq ?_
                        refine za0 ?_
                        refine o_q rfl rfl (q_asg rfl) ?_
                        refine o_end ?_
                        refine za1 ?_
                        refine c_ret ?_
                        refine za5 ?_
                        refine zab ?_
                        refine za5 ?_
                        refine za5 ?_
                        have e_ := Option.some.inj h; replace h := hR82; rw [← e_] at h; clear e_
                        refine zab ?_
                        refine za5 ?_
                        refine zab ?_
                        refine za5 ?_
                        refine za5 ?_
                        have e_ := Option.some.inj h; replace h := hR57; rw [← e_] at h; clear e_
                        refine zab ?_
                        refine za5 ?_
                        have e0_ := Option.some.inj h; clear h
                        subst e0_
                        exact x_r1 () Try.results3 (zaa rfl) rfl (fun w h => za7 [] (by decide) rfl w h)

/-- THE ONE PURE STATEMENT of laws_FnRunsOfPermutations. -/
def laws_FnRunsOfPermutations.Pure : Prop := ∀ (l0 : List Int) (l1 : List Int), l0.length ≤ maxLen → (∀ y ∈ l0, (Lit.int .u8 y).wf = true) → l1.length ≤ maxLen → (∀ y ∈ l1, (Lit.int .u8 y).wf = true) → ∃ k, laws_FnRunsOfPermutations.f k l0 l1 = some true
theorem laws_FnRunsOfPermutations.walk (P : laws_FnRunsOfPermutations.Pure) (A0 : Option Addr) (c0 : Nat) (l0 : List Int) (A1 : Option Addr) (c1 : Nat) (l1 : List Int) (w : World) (hr0 : Kd.C (Kd.int .u8) w A0 l0.length l0) (hc0 : l0.length ≤ c0) (hr1 : Kd.C (Kd.int .u8) w A1 l1.length l1) (hc1 : l1.length ≤ c1) (q0 : l0.length ≤ maxLen) (q1 : (∀ y ∈ l0, (Lit.int .u8 y).wf = true)) (q2 : l1.length ≤ maxLen) (q3 : (∀ y ∈ l1, (Lit.int .u8 y).wf = true)) :
    Calls Try.prog 3 #[.slice A0 l0.length c0, .slice A1 l1.length c1] w fun e w' => e = .returned (.bool true) ∧ Below w.heap.size w w' := by
  obtain ⟨k, h⟩ := P l0 l1 q0 q1 q2 q3
  refine (laws_FnRunsOfPermutations.calls k A0 c0 l0.length l0 A1 c1 l1.length l1 (Below.refl _ _) (Fr.start w) (fun W hW => Kd.C_below hr0 hW.below) hc0 (fun W hW => Kd.C_below hr1 hW.below) hc1 true h).mono ?_
  rintro e w' ⟨s, rfl, hF⟩
  exact ⟨rfl, hF.bel⟩
end Go.Proofs.Ytobaolbilllfgaa.RP
