import Derived.Test.YtnnlfipcoahcnaaDoorKFnExactParsePlanP2p2
namespace Go.Proofs.YtnnlfipcoahcnaaDoor.P2
open Go.RowKit Go.Proofs.YtnnlfipcoahcnaaDoor.Frame Go.Proofs.YtnnlfipcoahcnaaDoorW.PrintLast Go.Proofs.YtnnlfipcoahcnaaDoor.Hand
open Go.Proofs.YtnnlfipcoahcnaaDoorW.PrintWords hiding mn mx
set_option linter.unusedVariables false
/-! ### loop.example/g01098/laws.FnExactParsePlan: function 5 -/
def laws_FnExactParsePlan.f (k : Nat) (a0 : ByteArray) : Option Bool := if 1048576 < (a0.size : Int) then (some true) else ((spec_ParsePlan.f k a0).bind fun (i3, l4, l5, b6) => (impl_ParsePlan.f k a0).bind fun (i14, l15, l16, b17) => (laws_eqPlan.f k i14 l15 l16 i3 l4 l5).bind fun b25 => if b25 = true then (if (b17 != b6) = true then (some false) else ((laws_markPlan.f k i14 l15 l16 1).bind fun (i29, l30, l31) => (laws_heldPlan.f k i14 l30 l31 1).bind fun i33 => if i33 < 0 then (some false) else (if i33 ≠ i29 then (some false) else ((impl_ParsePlan.f k a0).bind fun (i37, l38, l39, b40) => (laws_eqPlan.f k i37 l38 l39 i3 l4 l5).bind fun b48 => if b48 = true then (if (b40 != b6) = true then (some false) else ((laws_heldPlan.f k i14 l30 l31 1).bind fun i52 => if i52 < 0 then (some false) else (if i52 ≠ i29 then (some false) else (some true)))) else (some false))))) else (some false))
set_option maxHeartbeats 600000 in
set_option maxRecDepth 100000 in
theorem laws_FnExactParsePlan.calls (k : Nat) {w0 ws : World} {P0 : Nat → Prop} (a0 : ByteArray) (Z : Below w0.heap.size w0 ws) (hF : Fr w0 ws P0 [] ws) (GW : Stable ws P0 GP) (r_1 : Bool) (h : laws_FnExactParsePlan.f k a0 = some r_1) :
    Calls Tryd.prog 5 #[.string a0] ws (Post1 w0 ws P0 (fun (_ : Unit) => .bool r_1) (fun (_ : Unit) => [])) := by
  unfold laws_FnExactParsePlan.f at h
  refine enter Tryd.func5 rfl Tryd.ntmps5 rfl hF ?_
  refine c_seq ?_
  refine za0 ?_
  refine o_q rfl rfl (q_asg rfl) ?_
  refine o_end ?_
  refine za1 ?_
  refine c_seq ?_
  refine c_seq ?_
  refine za0 ?_
  refine o_q rfl rfl (za2 rfl) ?_
  refine o_q rfl rfl (q_lens Tryd.underlying9 rfl) ?_
  refine o_q rfl rfl (q_gtr rfl rfl) ?_
  refine o_end ?_
  refine za1 ?_
  refine zao _ rfl (fun hb1 => ?_) (fun hb1 => ?_)
  · skip
    replace h := br_t hb1 h
    refine c_seq ?_
    refine za0 ?_
    refine o_q rfl rfl (q_asg rfl) ?_
    refine o_end ?_
    refine za1 ?_
    refine c_ret ?_
    refine za3 ?_
    have e0_ := Option.some.inj h; clear h
    subst e0_
    exact x_r1 () Tryd.results5 (zab rfl) rfl (fun w h => za8 [] (by decide) rfl w h)
  · skip
    replace h := br_f hb1 h
    refine zak ?_
    refine za1 ?_
    refine c_seq ?_
    refine za0 ?_
    refine o_q rfl rfl (za2 rfl) ?_
    refine bindE4 h (fun i3 l4 l5 b6 hx2 h => ?_) rfl
    refine o_e rfl (za9 0 Z Tryd.func16 N16 rfl rfl rfl (fun w P1 hF hB hS hT => spec_ParsePlan.calls k a0 hB hF _ _ _ _ hx2)) (cur4 (fun A7 c8 A9 c10 => ?_))
    refine o_q rfl rfl (za2 rfl) ?_
    refine o_q rfl rfl (q_ext rfl rfl) ?_
    refine o_q rfl rfl (q_ext rfl rfl) ?_
    refine o_e rfl (e_alloc V31 rfl) (fun g11 => ?_)
    refine o_e rfl (e_storeA (i := 0) rfl rfl rfl Z31 rfl rfl) (fun _ => ?_)
    refine o_q rfl rfl (q_asg rfl) ?_
    refine o_end ?_
    refine za1 ?_
    refine c_seq ?_
    refine za0 ?_
    refine o_q rfl rfl (za2 rfl) ?_
    refine bindE4 h (fun i14 l15 l16 b17 hx13 h => ?_) rfl
    refine o_e rfl (za9 0 Z Tryd.func17 N17 rfl rfl rfl (fun w P1 hF hB hS hT => impl_ParsePlan.calls k a0 hB hF (hS _ GW) _ _ _ _ hx13)) (cur4 (fun A18 c19 A20 c21 => ?_))
    refine o_q rfl rfl (za2 rfl) ?_
    refine o_q rfl rfl (q_ext rfl rfl) ?_
    refine o_q rfl rfl (q_ext rfl rfl) ?_
    refine o_e rfl (e_alloc V31 rfl) (fun g22 => ?_)
    refine o_e rfl (e_storeA (i := 0) rfl rfl rfl Z31 rfl rfl) (fun _ => ?_)
    refine o_q rfl rfl (q_asg rfl) ?_
    refine o_end ?_
    refine za1 ?_
    refine c_seq ?_
    refine c_seq ?_
    refine za0 ?_
    refine o_q rfl rfl (q_ldB G31 Z31 rfl (fun w h => h.zai (i := 0) rfl) rfl) ?_
    refine o_q rfl rfl (q_ldB G31 Z31 rfl (fun w h => h.zai (i := 3) rfl) rfl) ?_
    refine za6 h (fun b25 hx24 h => ?_) rfl
    refine o_e rfl (za9 0 Z Tryd.func10 N10 rfl rfl rfl (fun w P1 hF hB hS hT => laws_eqPlan.calls k i14 A18 c19 l15.length l15 A20 c21 l16.length l16 i3 A7 c8 l4.length l4 A9 c10 l5.length l5 hB hF (hT 1 _ rfl).row (hT 1 _ rfl).cap (hT 2 _ rfl).row (hT 2 _ rfl).cap (hT 4 _ rfl).row (hT 4 _ rfl).cap (hT 5 _ rfl).row (hT 5 _ rfl).cap _ hx24)) (fun _ => ?_)
    refine o_q rfl rfl (q_not rfl) ?_
    refine o_q rfl rfl (za2 rfl) ?_
    refine byB b25 (fun hb26 => ?_) (fun hb26 => ?_)
    · replace h := bb_t hb26 h
      refine o_w (za5 rfl rfl rfl (congrArg (fun b => Value.bool (!(b))) hb26)) rfl (za2 rfl) ?_
      refine o_w (za5 rfl rfl rfl (congrArg (fun b => Value.bool (!(b))) hb26)) rfl (za2 rfl) ?_
      refine o_w (za5 rfl rfl rfl (congrArg (fun b => Value.bool (!(b))) hb26)) rfl (q_bneq Tryd.underlying4 rfl rfl) ?_
      refine o_q rfl rfl (q_pick false (congrArg (fun b => Value.bool (!(b))) hb26) rfl) ?_
      refine o_end ?_
      refine za1 ?_
      refine zao _ rfl (fun hb27 => ?_) (fun hb27 => ?_)
      · skip
        replace h := bb_t hb27 h
        refine c_seq ?_
        refine za0 ?_
        refine o_q rfl rfl (q_asg rfl) ?_
        refine o_end ?_
        refine za1 ?_
        refine c_ret ?_
        refine za3 ?_
        have e0_ := Option.some.inj h; clear h
        subst e0_
        exact x_r1 () Tryd.results5 (zab rfl) rfl (fun w h => za8 [] (by decide) rfl w h)
      · skip
        replace h := bb_f hb27 h
        refine zak ?_
        refine za1 ?_
        refine c_seq ?_
        refine za0 ?_
        refine o_q rfl rfl (q_asg rfl) ?_
        refine o_end ?_
        refine za1 ?_
        refine c_seq ?_
        refine za0 ?_
        refine o_q rfl rfl (q_ldB G31 Z31 rfl (fun w h => h.zai (i := 0) rfl) rfl) ?_
        refine o_q rfl rfl (za2 rfl) ?_
        refine o_pick [1, 2, 0, 3, 4, 5] (by decide) rfl ?_
        refine bindE3 h (fun i29 l30 l31 hx28 h => ?_) rfl
        refine o_e rfl (za9 2 Z Tryd.func18 N18 rfl rfl rfl (fun w P1 hF hB hS hT => laws_markPlan.calls k i14 A18 c19 l15.length l15 A20 c21 l16.length l16 1 hB hF _ _ _ hx28)) (fun _ => ?_)
        refine o_q rfl rfl (q_asg rfl) ?_
        refine o_end ?_
        refine za1 ?_
        refine c_seq ?_
        refine za0 ?_
        refine o_q rfl rfl (q_asg rfl) ?_
        refine o_end ?_
        refine za1 ?_
        refine c_seq ?_
        refine za0 ?_
        refine o_q rfl rfl (q_ldB G31 Z31 rfl (fun w h => h.zai (i := 2) rfl) rfl) ?_
        refine o_q rfl rfl (za2 rfl) ?_
        refine za6 h (fun i33 hx32 h => ?_) rfl
        refine o_e rfl (za9 0 Z Tryd.func19 N19 rfl rfl rfl (fun w P1 hF hB hS hT => laws_heldPlan.calls k i14 A18 c19 l15.length l30 A20 c21 l16.length l31 1 hB hF (hT 0 _ rfl).row (hT 0 _ rfl).cap (hT 1 _ rfl).row (hT 1 _ rfl).cap _ hx32)) (fun _ => ?_)
        refine o_q rfl rfl (q_asg rfl) ?_
        refine o_end ?_
        refine za1 ?_
        refine c_seq ?_
        refine c_seq ?_
        refine za0 ?_
        refine o_q rfl rfl (za2 rfl) ?_
        refine o_q rfl rfl (q_lss rfl rfl) ?_
        refine o_end ?_
        refine za1 ?_
        refine zao _ rfl (fun hb34 => ?_) (fun hb34 => ?_)
        · skip
          replace h := br_t hb34 h
          refine c_seq ?_
          refine za0 ?_
          refine o_q rfl rfl (q_asg rfl) ?_
          refine o_end ?_
          refine za1 ?_
          refine c_ret ?_
          refine za3 ?_
          have e0_ := Option.some.inj h; clear h
          subst e0_
          exact x_r1 () Tryd.results5 (zab rfl) rfl (fun w h => za8 [] (by decide) rfl w h)
        · skip
          replace h := br_f hb34 h
          refine zak ?_
          refine za1 ?_
          refine c_seq ?_
          refine c_seq ?_
          refine za0 ?_
          refine o_q rfl rfl (za2 rfl) ?_
          refine o_q rfl rfl (za2 rfl) ?_
          refine o_q rfl rfl (q_neq rfl rfl) ?_
          refine o_end ?_
          refine za1 ?_
          refine zao _ rfl (fun hb35 => ?_) (fun hb35 => ?_)
          · skip
            replace h := br_t hb35 h
            refine c_seq ?_
            refine za0 ?_
            refine o_q rfl rfl (q_asg rfl) ?_
            refine o_end ?_
            refine za1 ?_
            refine c_ret ?_
            refine za3 ?_
            have e0_ := Option.some.inj h; clear h
            subst e0_
            exact x_r1 () Tryd.results5 (zab rfl) rfl (fun w h => za8 [] (by decide) rfl w h)
          · skip
            replace h := br_f hb35 h
            refine zak ?_
            refine za1 ?_
            refine c_seq ?_
            refine za0 ?_
            refine o_q rfl rfl (za2 rfl) ?_
            refine bindE4 h (fun i37 l38 l39 b40 hx36 h => ?_) rfl
            refine o_e rfl (za9 0 Z Tryd.func17 N17 rfl rfl rfl (fun w P1 hF hB hS hT => impl_ParsePlan.calls k a0 hB hF (hS _ GW) _ _ _ _ hx36)) (cur4 (fun A41 c42 A43 c44 => ?_))
            refine o_q rfl rfl (za2 rfl) ?_
            refine o_q rfl rfl (q_ext rfl rfl) ?_
            refine o_q rfl rfl (q_ext rfl rfl) ?_
            refine o_e rfl (e_alloc V31 rfl) (fun g45 => ?_)
            refine o_e rfl (e_storeA (i := 0) rfl rfl rfl Z31 rfl rfl) (fun _ => ?_)
            refine o_q rfl rfl (q_asg rfl) ?_
            refine o_end ?_
            refine za1 ?_
            refine c_seq ?_
            refine c_seq ?_
            refine za0 ?_
            refine o_q rfl rfl (q_ldB G31 Z31 rfl (fun w h => h.zai (i := 0) rfl) rfl) ?_
            refine o_q rfl rfl (q_ldB G31 Z31 rfl (fun w h => h.zai (i := 6) rfl) rfl) ?_
            refine za6 h (fun b48 hx47 h => ?_) rfl
            refine o_e rfl (za9 0 Z Tryd.func10 N10 rfl rfl rfl (fun w P1 hF hB hS hT => laws_eqPlan.calls k i37 A41 c42 l38.length l38 A43 c44 l39.length l39 i3 A7 c8 l4.length l4 A9 c10 l5.length l5 hB hF (hT 1 _ rfl).row (hT 1 _ rfl).cap (hT 2 _ rfl).row (hT 2 _ rfl).cap (hT 7 _ rfl).row (hT 7 _ rfl).cap (hT 8 _ rfl).row (hT 8 _ rfl).cap _ hx47)) (fun _ => ?_)
            refine o_q rfl rfl (q_not rfl) ?_
            refine o_q rfl rfl (za2 rfl) ?_
            refine byB b48 (fun hb49 => ?_) (fun hb49 => ?_)
            · replace h := bb_t hb49 h
              refine o_w (za5 rfl rfl rfl (congrArg (fun b => Value.bool (!(b))) hb49)) rfl (za2 rfl) ?_
              refine o_w (za5 rfl rfl rfl (congrArg (fun b => Value.bool (!(b))) hb49)) rfl (za2 rfl) ?_
              refine o_w (za5 rfl rfl rfl (congrArg (fun b => Value.bool (!(b))) hb49)) rfl (q_bneq Tryd.underlying4 rfl rfl) ?_
              refine o_q rfl rfl (q_pick false (congrArg (fun b => Value.bool (!(b))) hb49) rfl) ?_
              refine o_end ?_
              refine za1 ?_
              refine zao _ rfl (fun hb50 => ?_) (fun hb50 => ?_)
              · skip
                replace h := bb_t hb50 h
                refine c_seq ?_
                refine za0 ?_
                refine o_q rfl rfl (q_asg rfl) ?_
                refine o_end ?_
                refine za1 ?_
                refine c_ret ?_
                refine za3 ?_
                have e0_ := Option.some.inj h; clear h
                subst e0_
                exact x_r1 () Tryd.results5 (zab rfl) rfl (fun w h => za8 [] (by decide) rfl w h)
              · skip
                replace h := bb_f hb50 h
                refine zak ?_
                refine za1 ?_
                refine c_seq ?_
                refine za0 ?_
                refine o_q rfl rfl (q_asg rfl) ?_
                refine o_end ?_
                refine za1 ?_
                refine c_seq ?_
                refine za0 ?_
                refine o_q rfl rfl (q_ldB G31 Z31 rfl (fun w h => h.zai (i := 5) rfl) rfl) ?_
                refine o_q rfl rfl (za2 rfl) ?_
                refine za6 h (fun i52 hx51 h => ?_) rfl
                refine o_e rfl (za9 0 Z Tryd.func19 N19 rfl rfl rfl (fun w P1 hF hB hS hT => laws_heldPlan.calls k i14 A18 c19 l15.length l30 A20 c21 l16.length l31 1 hB hF (hT 3 _ rfl).row (hT 3 _ rfl).cap (hT 4 _ rfl).row (hT 4 _ rfl).cap _ hx51)) (fun _ => ?_)
                refine o_q rfl rfl (q_asg rfl) ?_
                refine o_end ?_
                refine za1 ?_
                refine c_seq ?_
                refine c_seq ?_
                refine za0 ?_
                refine o_q rfl rfl (za2 rfl) ?_
                refine o_q rfl rfl (q_lss rfl rfl) ?_
                refine o_end ?_
                refine za1 ?_
                refine zao _ rfl (fun hb53 => ?_) (fun hb53 => ?_)
                · skip
                  replace h := br_t hb53 h
                  refine c_seq ?_
                  refine za0 ?_
                  refine o_q rfl rfl (q_asg rfl) ?_
                  refine o_end ?_
                  refine za1 ?_
                  refine c_ret ?_
                  refine za3 ?_
                  have e0_ := Option.some.inj h; clear h
                  subst e0_
                  exact x_r1 () Tryd.results5 (zab rfl) rfl (fun w h => za8 [] (by decide) rfl w h)
                · skip
                  replace h := br_f hb53 h
                  refine zak ?_
                  refine za1 ?_
                  refine c_seq ?_
                  refine c_seq ?_
                  refine za0 ?_
                  refine o_q rfl rfl (za2 rfl) ?_
                  refine o_q rfl rfl (za2 rfl) ?_
                  refine o_q rfl rfl (q_neq rfl rfl) ?_
                  refine o_end ?_
                  refine za1 ?_
                  refine zao _ rfl (fun hb54 => ?_) (fun hb54 => ?_)
                  · skip
                    replace h := br_t hb54 h
                    refine c_seq ?_
                    refine za0 ?_
                    refine o_q rfl rfl (q_asg rfl) ?_
                    refine o_end ?_
                    refine za1 ?_
                    refine c_ret ?_
                    refine za3 ?_
                    have e0_ := Option.some.inj h; clear h
                    subst e0_
                    exact x_r1 () Tryd.results5 (zab rfl) rfl (fun w h => za8 [] (by decide) rfl w h)
                  · skip
                    replace h := br_f hb54 h
                    refine zak ?_
                    refine za1 ?_
                    refine c_seq ?_
                    refine za0 ?_
                    refine o_q rfl rfl (q_asg rfl) ?_
                    refine o_end ?_
                    refine za1 ?_
                    refine c_ret ?_
                    have e0_ := Option.some.inj h; clear h
                    subst e0_
                    exact x_r1 () Tryd.results5 (zab rfl) rfl (fun w h => za8 [] (by decide) rfl w h)
            · replace h := bb_f hb49 h
              refine @o_n _ _ _ _ _ _ _ _ _ _ _ 54 (za4 rfl rfl rfl (congrArg (fun b => Value.bool (!(b))) hb49) rfl) (Eq.refl (some 54)) ?_
              refine @o_n _ _ _ _ _ _ _ _ _ _ _ 55 (za4 rfl rfl rfl (congrArg (fun b => Value.bool (!(b))) hb49) rfl) (Eq.refl (some 55)) ?_
              refine @o_n _ _ _ _ _ _ _ _ _ _ _ 56 (za4 rfl rfl rfl (congrArg (fun b => Value.bool (!(b))) hb49) rfl) (Eq.refl (some 56)) ?_
              refine o_q rfl rfl (q_pick true (congrArg (fun b => Value.bool (!(b))) hb49) rfl) ?_
              refine o_end ?_
              refine za1 ?_
              refine c_true rfl ?_
              refine c_seq ?_
              refine za0 ?_
              refine o_q rfl rfl (q_asg rfl) ?_
              refine o_end ?_
              refine za1 ?_
              refine c_ret ?_
              refine za3 ?_
              have e0_ := Option.some.inj h; clear h
              subst e0_
              exact x_r1 () Tryd.results5 (zab rfl) rfl (fun w h => za8 [] (by decide) rfl w h)
    · replace h := bb_f hb26 h
      refine @o_n _ _ _ _ _ _ _ _ _ _ _ 29 (za4 rfl rfl rfl (congrArg (fun b => Value.bool (!(b))) hb26) rfl) (Eq.refl (some 29)) ?_
      refine @o_n _ _ _ _ _ _ _ _ _ _ _ 30 (za4 rfl rfl rfl (congrArg (fun b => Value.bool (!(b))) hb26) rfl) (Eq.refl (some 30)) ?_
      refine @o_n _ _ _ _ _ _ _ _ _ _ _ 31 (za4 rfl rfl rfl (congrArg (fun b => Value.bool (!(b))) hb26) rfl) (Eq.refl (some 31)) ?_
      refine o_q rfl rfl (q_pick true (congrArg (fun b => Value.bool (!(b))) hb26) rfl) ?_
      refine o_end ?_
      refine za1 ?_
      refine c_true rfl ?_
      refine c_seq ?_
      refine za0 ?_
      refine o_q rfl rfl (q_asg rfl) ?_
      refine o_end ?_
      refine za1 ?_
      refine c_ret ?_
      refine za3 ?_
      have e0_ := Option.some.inj h; clear h
      subst e0_
      exact x_r1 () Tryd.results5 (zab rfl) rfl (fun w h => za8 [] (by decide) rfl w h)

/-- THE ONE PURE STATEMENT of laws_FnExactParsePlan. -/
def laws_FnExactParsePlan.Pure : Prop := ∀ (a0 : ByteArray), a0.size ≤ 140737488355328 → ∃ k, laws_FnExactParsePlan.f k a0 = some true
theorem laws_FnExactParsePlan.walk (P : laws_FnExactParsePlan.Pure) (a0 : ByteArray) (w : World) (hG : GP w)  (q0 : a0.size ≤ 140737488355328) :
    Calls Tryd.prog 5 #[.string a0] w fun e w' => e = .returned (.bool true) ∧ Below w.heap.size w w' := by
  obtain ⟨k, h⟩ := P a0 q0
  refine (laws_FnExactParsePlan.calls k a0 (Below.refl _ _) (Fr.start w) (fun W hW => GP_below hG hW.below) true h).mono ?_
  rintro e w' ⟨s, rfl, hF⟩
  exact ⟨rfl, hF.bel⟩
end Go.Proofs.YtnnlfipcoahcnaaDoor.P2
