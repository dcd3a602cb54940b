import Derived.Test.YtpdpomjgfmdjfaaKFnExactFactorPlanOpg
import Derived.Test.YtpdpomjgfmdjfaaProg
import Derived.KernelRfl
namespace Go.Proofs.Ytpdpomjgfmdjfaa.E2
open Go.RowKit Go.Proofs.Ytpdpomjgfmdjfaa.Frame Go.Proofs.YtpdpomjgfmdjfaaW.PrintWords Go.Proofs.YtpdpomjgfmdjfaaW.PrintLast
set_option linter.unusedVariables false
structure SStep where
  f0 : Int
  f1 : Int
def kStep : Kd SStep := flat (fun x => [.int .i64 x.f0, .int .i64 x.f1]) 2 (fun _ => rfl) (fun x u hu => by
  simp only [List.mem_cons, List.not_mem_nil, or_false] at hu
  rcases hu with rfl | rfl <;> rfl)
theorem F108_0 : fldOff Try.prog 108 0 = some 0 := by kernel_rfl
theorem F117_0 : fldOff Try.prog 117 0 = some 0 := by kernel_rfl
theorem F117_1 : fldOff Try.prog 117 1 = some 1 := by kernel_rfl
theorem F36_0 : fldOff Try.prog 36 0 = some 0 := by kernel_rfl
theorem F36_1 : fldOff Try.prog 36 1 = some 1 := by kernel_rfl
theorem F36_2 : fldOff Try.prog 36 2 = some 2 := by kernel_rfl
theorem G117 : aggTy (Try.prog.underlying 117) = true := by kernel_rfl
theorem G36 : aggTy (Try.prog.underlying 36) = true := by kernel_rfl
theorem I117 : (Try.prog.info? 117).map (fun i => (i.zero, i.size, i.bytes)) = some (some (.agg #[.int .i64 0, .int .i64 0]), 2, 16) := by kernel_rfl
theorem I22 : (Try.prog.info? 22).map (fun i => (i.zero, i.size, i.bytes)) = some (some (.slice none 0 0), 1, 24) := by kernel_rfl
theorem I3 : (Try.prog.info? 3).map (fun i => (i.zero, i.size, i.bytes)) = some (some (.int .i64 0), 1, 8) := by kernel_rfl
theorem MO : Try.prog.follows .mixedOrders = true := by kernel_rfl
theorem N100 : (Try.f100.name == "runtime.NumGoroutine") = false := by kernel_rfl
theorem N101 : (Try.f101.name == "runtime.NumGoroutine") = false := by kernel_rfl
theorem N102 : (Try.f102.name == "runtime.NumGoroutine") = false := by kernel_rfl
theorem N103 : (Try.f103.name == "runtime.NumGoroutine") = false := by kernel_rfl
theorem N104 : (Try.f104.name == "runtime.NumGoroutine") = false := by kernel_rfl
theorem N119 : (Try.f119.name == "runtime.NumGoroutine") = false := by kernel_rfl
theorem N123 : (Try.f123.name == "runtime.NumGoroutine") = false := by kernel_rfl
theorem N130 : (Try.f130.name == "runtime.NumGoroutine") = false := by kernel_rfl
theorem N135 : (Try.f135.name == "runtime.NumGoroutine") = false := by kernel_rfl
theorem N139 : (Try.f139.name == "runtime.NumGoroutine") = false := by kernel_rfl
theorem N140 : (Try.f140.name == "runtime.NumGoroutine") = false := by kernel_rfl
theorem N141 : (Try.f141.name == "runtime.NumGoroutine") = false := by kernel_rfl
theorem N142 : (Try.f142.name == "runtime.NumGoroutine") = false := by kernel_rfl
theorem N146 : (Try.f146.name == "runtime.NumGoroutine") = false := by kernel_rfl
theorem N147 : (Try.f147.name == "runtime.NumGoroutine") = false := by kernel_rfl
theorem N148 : (Try.f148.name == "runtime.NumGoroutine") = false := by kernel_rfl
theorem N151 : (Try.f151.name == "runtime.NumGoroutine") = false := by kernel_rfl
theorem N154 : (Try.f154.name == "runtime.NumGoroutine") = false := by kernel_rfl
theorem N157 : (Try.f157.name == "runtime.NumGoroutine") = false := by kernel_rfl
theorem N159 : (Try.f159.name == "runtime.NumGoroutine") = false := by kernel_rfl
theorem N160 : (Try.f160.name == "runtime.NumGoroutine") = false := by kernel_rfl
theorem N161 : (Try.f161.name == "runtime.NumGoroutine") = false := by kernel_rfl
theorem N162 : (Try.f162.name == "runtime.NumGoroutine") = false := by kernel_rfl
theorem N163 : (Try.f163.name == "runtime.NumGoroutine") = false := by kernel_rfl
theorem N173 : (Try.f173.name == "runtime.NumGoroutine") = false := by kernel_rfl
theorem N175 : (Try.f175.name == "runtime.NumGoroutine") = false := by kernel_rfl
theorem N176 : (Try.f176.name == "runtime.NumGoroutine") = false := by kernel_rfl
theorem N177 : (Try.f177.name == "runtime.NumGoroutine") = false := by kernel_rfl
theorem N23 : (Try.f23.name == "runtime.NumGoroutine") = false := by kernel_rfl
theorem N25 : (Try.f25.name == "runtime.NumGoroutine") = false := by kernel_rfl
theorem N26 : (Try.f26.name == "runtime.NumGoroutine") = false := by kernel_rfl
theorem N30 : (Try.f30.name == "runtime.NumGoroutine") = false := by kernel_rfl
theorem N31 : (Try.f31.name == "runtime.NumGoroutine") = false := by kernel_rfl
theorem N32 : (Try.f32.name == "runtime.NumGoroutine") = false := by kernel_rfl
theorem N45 : (Try.f45.name == "runtime.NumGoroutine") = false := by kernel_rfl
theorem N46 : (Try.f46.name == "runtime.NumGoroutine") = false := by kernel_rfl
theorem N63 : (Try.f63.name == "runtime.NumGoroutine") = false := by kernel_rfl
theorem N65 : (Try.f65.name == "runtime.NumGoroutine") = false := by kernel_rfl
theorem N66 : (Try.f66.name == "runtime.NumGoroutine") = false := by kernel_rfl
theorem N68 : (Try.f68.name == "runtime.NumGoroutine") = false := by kernel_rfl
theorem N72 : (Try.f72.name == "runtime.NumGoroutine") = false := by kernel_rfl
theorem N75 : (Try.f75.name == "runtime.NumGoroutine") = false := by kernel_rfl
theorem N77 : (Try.f77.name == "runtime.NumGoroutine") = false := by kernel_rfl
theorem N80 : (Try.f80.name == "runtime.NumGoroutine") = false := by kernel_rfl
theorem N82 : (Try.f82.name == "runtime.NumGoroutine") = false := by kernel_rfl
theorem N83 : (Try.f83.name == "runtime.NumGoroutine") = false := by kernel_rfl
theorem N84 : (Try.f84.name == "runtime.NumGoroutine") = false := by kernel_rfl
theorem N86 : (Try.f86.name == "runtime.NumGoroutine") = false := by kernel_rfl
theorem N89 : (Try.f89.name == "runtime.NumGoroutine") = false := by kernel_rfl
theorem N90 : (Try.f90.name == "runtime.NumGoroutine") = false := by kernel_rfl
theorem N92 : (Try.f92.name == "runtime.NumGoroutine") = false := by kernel_rfl
theorem N93 : (Try.f93.name == "runtime.NumGoroutine") = false := by kernel_rfl
theorem V117 : (Try.prog.info? 117).bind (·.zero) = some (.agg #[.int .i64 0, .int .i64 0]) := by kernel_rfl
theorem V36 : (Try.prog.info? 36).bind (·.zero) = some (.agg #[.int .i64 0, .slice none 0 0, .slice none 0 0]) := by kernel_rfl
theorem Y22 : cellTy (Try.prog.underlying 22) = true := by kernel_rfl
theorem Y3 : cellTy (Try.prog.underlying 3) = true := by kernel_rfl
theorem Y34 : cellTy (Try.prog.underlying 34) = true := by kernel_rfl
theorem Y88 : cellTy (Try.prog.underlying 88) = true := by kernel_rfl
theorem Z117 : (Try.prog.info? 117).map (·.size) = some 2 := by kernel_rfl
theorem Z22 : (Try.prog.info? 22).map (·.size) = some 1 := by kernel_rfl
theorem Z3 : (Try.prog.info? 3).map (·.size) = some 1 := by kernel_rfl
theorem Z34 : (Try.prog.info? 34).map (·.size) = some 1 := by kernel_rfl
theorem Z36 : (Try.prog.info? 36).map (·.size) = some 3 := by kernel_rfl
/-! ### loop.example/g01098/spec.l1In: function 77 -/
def spec_l1In.f (a0 : Int) (a1 : Int) (a2 : Int) : Option Bool := if a1 ≤ a0 then (some (decide (a0 ≤ a2))) else (some false)
set_option maxHeartbeats 600000 in
set_option maxRecDepth 100000 in
theorem spec_l1In.calls {w0 ws : World} {P0 : Nat → Prop} (a0 : Int) (a1 : Int) (a2 : Int) (Z : Below w0.heap.size w0 ws) (hF : Fr w0 ws P0 [] ws)  (r_1 : Bool) (h : spec_l1In.f a0 a1 a2 = some r_1) :
    Calls Try.prog 77 #[.int .i64 a0, .int .i64 a1, .int .i64 a2] ws (Post1 w0 ws P0 (fun (_ : Unit) => .bool r_1) (fun (_ : Unit) => [])) := by
  unfold spec_l1In.f at h
  refine enter Try.func77 rfl Try.ntmps77 rfl hF ?_
  refine c_seq ?_
  refine za0 ?_
  refine o_q rfl rfl (q_asg rfl) ?_
  refine o_end ?_
  refine za1 ?_
  refine c_seq ?_
  refine za0 ?_
  refine o_q rfl rfl (za2 rfl) ?_
  refine o_q rfl rfl (za2 rfl) ?_
  refine o_q rfl rfl (q_geq rfl rfl) ?_
  refine o_q rfl rfl (za2 rfl) ?_
  refine byB (decide (a1 ≤ a0)) (fun hb1 => ?_) (fun hb1 => ?_)
  · replace h := br_t hb1 h
    refine o_w (za5 rfl rfl rfl (congrArg Value.bool hb1)) rfl (za2 rfl) ?_
    refine o_w (za5 rfl rfl rfl (congrArg Value.bool hb1)) rfl (za2 rfl) ?_
    refine o_w (za5 rfl rfl rfl (congrArg Value.bool hb1)) rfl (q_leq rfl rfl) ?_
    refine o_q rfl rfl (q_pick true (congrArg Value.bool hb1) rfl) ?_
    refine o_q rfl rfl (q_asg rfl) ?_
    refine o_end ?_
    refine za1 ?_
    refine c_ret ?_
    have e0_ := Option.some.inj h; clear h
    subst e0_
    exact x_r1 () Try.results77 (zad rfl) rfl (fun w h => za6 [] (by decide) rfl w h)
  · replace h := br_f hb1 h
    refine @o_n _ _ _ _ _ _ _ _ _ _ _ 11 (za4 rfl rfl rfl (congrArg Value.bool hb1) rfl) (Eq.refl (some 11)) ?_
    refine @o_n _ _ _ _ _ _ _ _ _ _ _ 12 (za4 rfl rfl rfl (congrArg Value.bool hb1) rfl) (Eq.refl (some 12)) ?_
    refine @o_n _ _ _ _ _ _ _ _ _ _ _ 13 (za4 rfl rfl rfl (congrArg Value.bool hb1) rfl) (Eq.refl (some 13)) ?_
    refine o_q rfl rfl (q_pick false (congrArg Value.bool hb1) rfl) ?_
    refine o_q rfl rfl (q_asg rfl) ?_
    refine o_end ?_
    refine za1 ?_
    refine c_ret ?_
    have e0_ := Option.some.inj h; clear h
    subst e0_
    exact x_r1 () Try.results77 (zad rfl) rfl (fun w h => za6 [] (by decide) rfl w h)

/-! ### loop.example/g01098/spec.chNumber: function 100 -/
def spec_chNumber.f (a0 : Int) : Option Bool := (spec_l1In.f a0 1 1000000).bind fun b2 => some b2
set_option maxHeartbeats 600000 in
set_option maxRecDepth 100000 in
theorem spec_chNumber.calls {w0 ws : World} {P0 : Nat → Prop} (a0 : Int) (Z : Below w0.heap.size w0 ws) (hF : Fr w0 ws P0 [] ws)  (r_1 : Bool) (h : spec_chNumber.f a0 = some r_1) :
    Calls Try.prog 100 #[.int .i64 a0] ws (Post1 w0 ws P0 (fun (_ : Unit) => .bool r_1) (fun (_ : Unit) => [])) := by
  unfold spec_chNumber.f at h
  refine enter Try.func100 rfl Try.ntmps100 rfl hF ?_
  refine c_seq ?_
  refine za0 ?_
  refine o_q rfl rfl (q_asg rfl) ?_
  refine o_end ?_
  refine za1 ?_
  refine c_seq ?_
  refine za0 ?_
  refine o_q rfl rfl (za2 rfl) ?_
  refine za7 h (fun b2 hx1 h => ?_) rfl
  refine o_e rfl (zab 0 Z Try.func77 N77 rfl rfl rfl (fun w P1 hF hB hS hT => spec_l1In.calls a0 1 1000000 hB hF _ hx1)) (fun _ => ?_)
  refine o_q rfl rfl (q_asg rfl) ?_
  refine o_end ?_
  refine za1 ?_
  refine c_ret ?_
  have e0_ := Option.some.inj h; clear h
  subst e0_
  exact x_r1 () Try.results100 (zad rfl) rfl (fun w h => za6 [] (by decide) rfl w h)

/-! ### loop.example/g01098/spec.meEnd: function 157 -/
def spec_meEnd.f (a0_0 : Int) (l0_1 : List SStep) (l0_2 : List Int) (a1 : Int) : Option Unit := some ()
set_option maxHeartbeats 600000 in
set_option maxRecDepth 100000 in
theorem spec_meEnd.calls {w0 ws : World} {P0 : Nat → Prop} (a0_0 : Int) (A0_1 : Option Addr) (c0_1 : Nat) (n0_1 : Nat) (l0_1 : List SStep) (A0_2 : Option Addr) (c0_2 : Nat) (n0_2 : Nat) (l0_2 : List Int) (a1 : Int) (Z : Below w0.heap.size w0 ws) (hF : Fr w0 ws P0 [row kStep 117 (.slice A0_1 n0_1 c0_1) l0_1] ws) (R0_2 : Stable ws P0 (fun w => Kd.C (Kd.int .i64) w A0_2 n0_2 l0_2)) (hc0_2 : n0_2 ≤ c0_2)  (h : spec_meEnd.f a0_0 l0_1 l0_2 a1 = some ()) :
    Calls Try.prog 157 #[.agg #[.int .i64 a0_0, .slice A0_1 n0_1 c0_1, .slice A0_2 n0_2 c0_2], .int .i64 a1] ws (Post1 w0 ws P0 (fun ((q_1, q_2) : (Option Addr) × Nat) => .agg #[.int .i64 a0_0, .slice A0_1 n0_1 c0_1, .slice q_1 (([a1] : List Int).length) q_2]) (fun ((q_1, q_2) : (Option Addr) × Nat) => [row kStep 117 (.slice A0_1 n0_1 c0_1) l0_1, row (Kd.int .i64) 3 (.slice q_1 (([a1] : List Int).length) q_2) ([a1] : List Int)])) := by
  unfold spec_meEnd.f at h
  obtain rfl := (hF.row_C (i := 0) rfl).2.1
  obtain rfl := (R0_2 ws (KeptB.refl _ _)).1
  refine enter Try.func157 rfl Try.ntmps157 rfl hF ?_
  refine c_seq ?_
  refine za0 ?_
  refine o_e rfl (e_box rfl) (fun g1 => ?_)
  refine o_e rfl (e_alloc V36 rfl) (fun g3 => ?_)
  refine o_end ?_
  refine za1 ?_
  refine c_seq ?_
  refine za0 ?_
  refine o_q rfl rfl (q_f F36_0 rfl) ?_
  refine o_q rfl rfl (q_ldb Y3 rfl (fun w h => h.zaa (i := 1) rfl) rfl) ?_
  refine o_q rfl rfl (q_f F36_1 rfl) ?_
  refine o_q rfl rfl (q_ldb Y34 rfl (fun w h => h.zaa (i := 1) rfl) rfl) ?_
  refine o_q rfl rfl (za2 rfl) ?_
  refine o_e rfl (e_lit (vs := [(0, .int .i64 a1)]) (cs := [.int .i64 a1]) (Kd.int .i64) ([a1] : List Int) Try.underlying22 I3 (by decide) rfl (by decide) rfl rfl (fun _ _ => Kd.reps_scalar _)) (cur2 (fun A5 c6 => ?_))
  refine o_q rfl rfl (q_build (vs := [(0, .int .i64 a0_0), (1, .slice A0_1 l0_1.length c0_1), (2, .slice A5 (([a1] : List Int).length) c6)]) (cs := [.int .i64 a0_0, .slice A0_1 l0_1.length c0_1, .slice A5 (([a1] : List Int).length) c6]) rfl rfl) ?_
  refine o_e rfl (zaf (i := 1) rfl rfl rfl Z36 rfl rfl) (fun _ => ?_)
  refine o_end ?_
  refine za1 ?_
  refine c_ret ?_
  exact x_r1 (A5, c6) Try.results157 (rv_cell rfl G36 Z36 (fun w h => h.zaa (i := 1) rfl) rfl) rfl (fun w h => za6 [3, 0] (by decide) rfl w h)

/-! ### loop.example/g01098/spec.meFactor: function 159 -/
def spec_meFactor.l0 (a0 : Int) : Nat → Int → Option ((Int) ⊕ (Unit))
  | 0, _ => none
  | k4 + 1, i1 => if w64 (i1 * i1) ≤ a0 then ((nz i1).bind fun _ => if a0.tmod i1 = 0 then (some (.inl i1)) else (spec_meFactor.l0 a0 k4 (w64 (i1 + 1)))) else (some (.inr ()))
def spec_meFactor.f (k : Nat) (a0 : Int) : Option Int := (spec_meFactor.l0 a0 k 2).bind fun o_ => match o_ with | .inl r_ => some r_ | .inr _ => some a0
set_option maxHeartbeats 600000 in
set_option maxRecDepth 100000 in
theorem spec_meFactor.calls (k : Nat) {w0 ws : World} {P0 : Nat → Prop} (a0 : Int) (Z : Below w0.heap.size w0 ws) (hF : Fr w0 ws P0 [] ws)  (r_1 : Int) (h : spec_meFactor.f k a0 = some r_1) :
    Calls Try.prog 159 #[.int .i64 a0] ws (Post1 w0 ws P0 (fun (_ : Unit) => .int .i64 r_1) (fun (_ : Unit) => [])) := by
  unfold spec_meFactor.f at h
  refine enter Try.func159 rfl Try.ntmps159 rfl hF ?_
  refine c_seq ?_
  refine za0 ?_
  refine o_q rfl rfl (q_asg rfl) ?_
  refine o_end ?_
  refine za1 ?_
  refine c_seq ?_
  refine c_seq ?_
  refine za0 ?_
  refine o_q rfl rfl (q_asg rfl) ?_
  refine o_end ?_
  refine za1 ?_
  refine zal ?_
  refine za7 h (fun o9 hl8 hR7 => ?_) rfl
  clear h
  refine c_loopL (σ := Int) (fun k4 (i1 : Int) => spec_meFactor.l0 a0 k4 i1 = some o9) [2, 3, 4, 5, 6, 7, 8, 9, 10, 11, 12, 13, 14, 15] (fun (i1 : Int) => [(3, .int .i64 i1)]) (fun (i1 : Int) => []) k 2 hl8 ⟨rfl, trivial⟩ (fun w h => h) ?_
  refine natC (fun i1 => fun U10 hJ_ => ?_) (fun k4 => (fun i1 => fun U10 hJ_ => ?_))
  · skip
    replace hJ_ : spec_meFactor.l0 a0 0 i1 = some o9 := hJ_
    rw [spec_meFactor.l0] at hJ_
    exact noneE hJ_
  · skip
    clear hl8
    have h := hJ_; clear hJ_
    replace h : spec_meFactor.l0 a0 (k4 + 1) i1 = some o9 := h
    rw [spec_meFactor.l0] at h
    refine c_seq ?_
    refine c_seq ?_
    refine za0 ?_
    refine o_q rfl rfl (za2 rfl) ?_
    refine o_q rfl rfl (za2 rfl) ?_
    refine o_q rfl rfl (q_mul64 rfl rfl) ?_
    refine o_q rfl rfl (za2 rfl) ?_
    refine o_q rfl rfl (q_leq rfl rfl) ?_
    refine o_end ?_
    refine za1 ?_
    refine zao _ rfl (fun hb12 => ?_) (fun hb12 => ?_)
    · skip
      replace h := br_t hb12 h
      refine zaj ?_
      refine za1 ?_
      refine c_seq ?_
      refine zal ?_
      refine c_seq ?_
      refine za0 ?_
      refine o_q rfl rfl (za2 rfl) ?_
      refine o_q rfl rfl (za2 rfl) ?_
      refine za7 h (fun _ hz13 h => ?_) rfl
      refine o_q rfl rfl (q_rem rfl rfl (nz_ne hz13)) ?_
      refine o_q rfl rfl (q_eql rfl rfl) ?_
      refine o_end ?_
      refine za1 ?_
      refine zao _ rfl (fun hb14 => ?_) (fun hb14 => ?_)
      · skip
        replace h := br_t hb14 h
        refine c_seq ?_
        refine za0 ?_
        refine o_q rfl rfl (za2 rfl) ?_
        refine o_q rfl rfl (q_asg rfl) ?_
        refine o_end ?_
        refine za1 ?_
        refine c_ret ?_
        refine zae ?_
        refine za3 ?_
        refine za3 ?_
        have e_ := Option.some.inj h; replace h := hR7; rw [← e_] at h; clear e_
        refine zae ?_
        refine za3 ?_
        have e0_ := Option.some.inj h; clear h
        subst e0_
        exact x_r1 () Try.results159 (zad rfl) rfl (fun w h => za6 [] (by decide) rfl w h)
      · skip
        replace h := br_f hb14 h
        refine zaj ?_
        refine x_block ?_
        refine za1 ?_
        refine za0 ?_
        refine o_q rfl rfl (za2 rfl) ?_
        refine o_q rfl rfl (q_add64 rfl rfl) ?_
        refine o_q rfl rfl (q_asg rfl) ?_
        refine o_end ?_
        refine x_roundL k4 (w64 (i1 + 1)) (Nat.lt_succ_self _) h ⟨rfl, trivial⟩ (fun w h => za6 [] (by decide) rfl w h) ?_
        repeat (first | exact zah _ _ | refine zam rfl ?_ | refine zai rfl ?_ | refine zan rfl ?_)
    · skip
      replace h := br_f hb12 h
      refine c_exit ?_
      refine za9 ?_
      refine za9 ?_
      have e_ := Option.some.inj h; replace h := hR7; rw [← e_] at h; clear e_
      refine x_hit ?_
      refine za1 ?_
      refine c_seq ?_
      refine za0 ?_
      refine o_q rfl rfl (za2 rfl) ?_
      refine o_q rfl rfl (q_asg rfl) ?_
      refine o_end ?_
      refine za1 ?_
      refine c_ret ?_
      have e0_ := Option.some.inj h; clear h
      subst e0_
      exact x_r1 () Try.results159 (zad rfl) rfl (fun w h => za6 [] (by decide) rfl w h)

/-! ### loop.example/g01098/spec.l1Least: function 177 -/
def spec_l1Least.f (a0 : Int) (a1 : Int) : Option Int := if a0 < a1 then (some a0) else (some a1)
set_option maxHeartbeats 600000 in
set_option maxRecDepth 100000 in
theorem spec_l1Least.calls {w0 ws : World} {P0 : Nat → Prop} (a0 : Int) (a1 : Int) (Z : Below w0.heap.size w0 ws) (hF : Fr w0 ws P0 [] ws)  (r_1 : Int) (h : spec_l1Least.f a0 a1 = some r_1) :
    Calls Try.prog 177 #[.int .i64 a0, .int .i64 a1] ws (Post1 w0 ws P0 (fun (_ : Unit) => .int .i64 r_1) (fun (_ : Unit) => [])) := by
  unfold spec_l1Least.f at h
  refine enter Try.func177 rfl Try.ntmps177 rfl hF ?_
  refine c_seq ?_
  refine za0 ?_
  refine o_q rfl rfl (q_asg rfl) ?_
  refine o_end ?_
  refine za1 ?_
  refine c_seq ?_
  refine c_seq ?_
  refine za0 ?_
  refine o_q rfl rfl (za2 rfl) ?_
  refine o_q rfl rfl (za2 rfl) ?_
  refine o_q rfl rfl (q_lss rfl rfl) ?_
  refine o_end ?_
  refine za1 ?_
  refine zao _ rfl (fun hb1 => ?_) (fun hb1 => ?_)
  · skip
    replace h := br_t hb1 h
    refine c_seq ?_
    refine za0 ?_
    refine o_q rfl rfl (za2 rfl) ?_
    refine o_q rfl rfl (q_asg rfl) ?_
    refine o_end ?_
    refine za1 ?_
    refine c_ret ?_
    refine za3 ?_
    have e0_ := Option.some.inj h; clear h
    subst e0_
    exact x_r1 () Try.results177 (zad rfl) rfl (fun w h => za6 [] (by decide) rfl w h)
  · skip
    replace h := br_f hb1 h
    refine zaj ?_
    refine za1 ?_
    refine c_seq ?_
    refine za0 ?_
    refine o_q rfl rfl (za2 rfl) ?_
    refine o_q rfl rfl (q_asg rfl) ?_
    refine o_end ?_
    refine za1 ?_
    refine c_ret ?_
    have e0_ := Option.some.inj h; clear h
    subst e0_
    exact x_r1 () Try.results177 (zad rfl) rfl (fun w h => za6 [] (by decide) rfl w h)

/-! ### loop.example/g01098/spec.l1Most: function 146 -/
def spec_l1Most.f (a0 : Int) (a1 : Int) : Option Int := if a1 < a0 then (some a0) else (some a1)
set_option maxHeartbeats 600000 in
set_option maxRecDepth 100000 in
theorem spec_l1Most.calls {w0 ws : World} {P0 : Nat → Prop} (a0 : Int) (a1 : Int) (Z : Below w0.heap.size w0 ws) (hF : Fr w0 ws P0 [] ws)  (r_1 : Int) (h : spec_l1Most.f a0 a1 = some r_1) :
    Calls Try.prog 146 #[.int .i64 a0, .int .i64 a1] ws (Post1 w0 ws P0 (fun (_ : Unit) => .int .i64 r_1) (fun (_ : Unit) => [])) := by
  unfold spec_l1Most.f at h
  refine enter Try.func146 rfl Try.ntmps146 rfl hF ?_
  refine c_seq ?_
  refine za0 ?_
  refine o_q rfl rfl (q_asg rfl) ?_
  refine o_end ?_
  refine za1 ?_
  refine c_seq ?_
  refine c_seq ?_
  refine za0 ?_
  refine o_q rfl rfl (za2 rfl) ?_
  refine o_q rfl rfl (za2 rfl) ?_
  refine o_q rfl rfl (q_gtr rfl rfl) ?_
  refine o_end ?_
  refine za1 ?_
  refine zao _ rfl (fun hb1 => ?_) (fun hb1 => ?_)
  · skip
    replace h := br_t hb1 h
    refine c_seq ?_
    refine za0 ?_
    refine o_q rfl rfl (za2 rfl) ?_
    refine o_q rfl rfl (q_asg rfl) ?_
    refine o_end ?_
    refine za1 ?_
    refine c_ret ?_
    refine za3 ?_
    have e0_ := Option.some.inj h; clear h
    subst e0_
    exact x_r1 () Try.results146 (zad rfl) rfl (fun w h => za6 [] (by decide) rfl w h)
  · skip
    replace h := br_f hb1 h
    refine zaj ?_
    refine za1 ?_
    refine c_seq ?_
    refine za0 ?_
    refine o_q rfl rfl (za2 rfl) ?_
    refine o_q rfl rfl (q_asg rfl) ?_
    refine o_end ?_
    refine za1 ?_
    refine c_ret ?_
    have e0_ := Option.some.inj h; clear h
    subst e0_
    exact x_r1 () Try.results146 (zad rfl) rfl (fun w h => za6 [] (by decide) rfl w h)

/-! ### loop.example/g01098/spec.plStep: function 147 -/
def spec_plStep.f (a0 : Int) (a1 : Int) : Option SStep := (spec_l1Least.f a0 a1).bind fun i4 => (spec_l1Most.f a0 a1).bind fun i6 => some (⟨i4, i6⟩ : SStep)
set_option maxHeartbeats 600000 in
set_option maxRecDepth 100000 in
theorem spec_plStep.calls {w0 ws : World} {P0 : Nat → Prop} (a0 : Int) (a1 : Int) (Z : Below w0.heap.size w0 ws) (hF : Fr w0 ws P0 [] ws)  (r_1 : SStep) (h : spec_plStep.f a0 a1 = some r_1) :
    Calls Try.prog 147 #[.int .i64 a0, .int .i64 a1] ws (Post1 w0 ws P0 (fun (_ : Unit) => .agg #[.int .i64 r_1.f0, .int .i64 r_1.f1]) (fun (_ : Unit) => [])) := by
  unfold spec_plStep.f at h
  refine enter Try.func147 rfl Try.ntmps147 rfl hF ?_
  refine c_seq ?_
  refine za0 ?_
  refine o_e rfl (e_alloc V117 rfl) (fun g1 => ?_)
  refine o_end ?_
  refine za1 ?_
  refine c_seq ?_
  refine za0 ?_
  refine o_q rfl rfl (za2 rfl) ?_
  refine o_q rfl rfl (za2 rfl) ?_
  refine za7 h (fun i4 hx3 h => ?_) rfl
  refine o_e rfl (zab 0 Z Try.func177 N177 rfl rfl rfl (fun w P1 hF hB hS hT => spec_l1Least.calls a0 a1 hB hF _ hx3)) (fun _ => ?_)
  refine o_q rfl rfl (za2 rfl) ?_
  refine o_q rfl rfl (za2 rfl) ?_
  refine za7 h (fun i6 hx5 h => ?_) rfl
  refine o_e rfl (zab 0 Z Try.func146 N146 rfl rfl rfl (fun w P1 hF hB hS hT => spec_l1Most.calls a0 a1 hB hF _ hx5)) (fun _ => ?_)
  refine o_q rfl rfl (q_build (vs := [(0, .int .i64 i4), (1, .int .i64 i6)]) (cs := [.int .i64 i4, .int .i64 i6]) rfl rfl) ?_
  refine o_e rfl (zaf (i := 0) rfl rfl rfl Z117 rfl rfl) (fun _ => ?_)
  refine o_end ?_
  refine za1 ?_
  refine c_ret ?_
  have e0_ := Option.some.inj h; clear h
  subst e0_
  exact x_r1 () Try.results147 (rv_cell rfl G117 Z117 (fun w h => h.zaa (i := 0) rfl) rfl) rfl (fun w h => za6 [] (by decide) rfl w h)

/-! ### loop.example/g01098/spec.meTimes: function 80 -/
def spec_meTimes.f (a0_0 : Int) (l0_1 : List SStep) (l0_2 : List Int) (a1 : Int) (a2 : Int) : Option (List SStep) := ((ap ([] : List SStep) l0_1).bind fun l1216 => (spec_plStep.f a1 a2).bind fun z1397 => (ap l1216 ([z1397] : List SStep)).bind fun l1516 => some l1516).bind fun l907 => some l907
set_option maxHeartbeats 600000 in
set_option maxRecDepth 100000 in
theorem spec_meTimes.calls {w0 ws : World} {P0 : Nat → Prop} (a0_0 : Int) (A0_1 : Option Addr) (c0_1 : Nat) (n0_1 : Nat) (l0_1 : List SStep) (A0_2 : Option Addr) (c0_2 : Nat) (n0_2 : Nat) (l0_2 : List Int) (a1 : Int) (a2 : Int) (Z : Below w0.heap.size w0 ws) (hF : Fr w0 ws P0 [] ws) (R0_1 : Stable ws P0 (fun w => Kd.C kStep w A0_1 n0_1 l0_1)) (hc0_1 : n0_1 ≤ c0_1) (R0_2 : Stable ws P0 (fun w => Kd.C (Kd.int .i64) w A0_2 n0_2 l0_2)) (hc0_2 : n0_2 ≤ c0_2) (r_1 : List SStep) (h : spec_meTimes.f a0_0 l0_1 l0_2 a1 a2 = some r_1) :
    Calls Try.prog 80 #[.agg #[.int .i64 a0_0, .slice A0_1 n0_1 c0_1, .slice A0_2 n0_2 c0_2], .int .i64 a1, .int .i64 a2] ws (Post1 w0 ws P0 (fun ((q_2, q_3) : (Option Addr) × Nat) => .tuple #[.agg #[.int .i64 a0_0, .slice q_2 r_1.length q_3, .slice none 0 0], .int .i64 (w64 (a0_0 + (l0_1.length : Int)))]) (fun ((q_2, q_3) : (Option Addr) × Nat) => [row kStep 117 (.slice q_2 r_1.length q_3) r_1, row (Kd.int .i64) 3 (.slice none 0 0) []])) := by
  unfold spec_meTimes.f at h
  obtain rfl := (R0_1 ws (KeptB.refl _ _)).1
  obtain rfl := (R0_2 ws (KeptB.refl _ _)).1
  refine enter Try.func80 rfl Try.ntmps80 rfl hF ?_
  refine c_seq ?_
  refine za0 ?_
  refine o_e rfl (e_box rfl) (fun g1 => ?_)
  refine o_e rfl (e_alloc V36 rfl) (fun g3 => ?_)
  refine o_q rfl rfl (q_asg rfl) ?_
  refine o_end ?_
  refine za1 ?_
  refine za7 h (fun o910 hl911 hR912 => ?_) rfl
  clear h
  refine c_cutJ (σ := (List SStep) × Nat × (Option Addr) × Nat) (fun (l907, g906, A908, c909) => some l907 = some o910) [8, 9, 10, 11, 12, 13, 14, 15, 16, 17, 18, 19, 20] (fun (l907, g906, A908, c909) => [(8, .pointer (some ⟨g906, 0, none⟩))]) (fun (l907, g906, A908, c909) => [box g1 36 #[.int .i64 a0_0, .slice A0_1 l0_1.length c0_1, .slice A0_2 l0_2.length c0_2], box g3 36 #[.int .i64 0, .slice none 0 0, .slice none 0 0], box g906 36 #[.int .i64 a0_0, .slice A908 l907.length c909, .slice none 0 0], row kStep 117 (.slice A908 l907.length c909) l907]) ?_ ?_
  · skip
    have h := hl911; clear hl911
    clear hR912
    refine za7 h (fun l1216 ha1217 h => ?_) rfl
    refine za7 h (fun z1397 hx1396 h => ?_) rfl
    refine za7 h (fun l1516 ha1517 h => ?_) rfl
    refine a_start (ds := []) MO rfl ?_
    refine za8 0 rfl rfl rfl (by kernel_rfl) (fun _ _ _ h => h) (q_f F36_0 rfl) ?_
    refine a_take 1 rfl rfl rfl (by kernel_rfl) (fun _ _ _ h => h) (fun w h => h) (q_ldb Y3 rfl (fun w h => h.zaa (i := 1) rfl) rfl) ?_
    refine za8 3 rfl rfl rfl (by kernel_rfl) (fun _ _ _ h => h) (q_f F36_1 rfl) ?_
    refine a_take 4 rfl rfl rfl (by kernel_rfl) (fun _ _ _ h => h) (fun w h => h) (q_ldb Y34 rfl (fun w h => h.zaa (i := 1) rfl) rfl) ?_
    refine za8 6 rfl rfl rfl (by kernel_rfl) (fun _ _ _ h => h) (za2 rfl) ?_
    refine za8 7 rfl rfl rfl (by kernel_rfl) (fun _ _ _ h => h) (za2 rfl) ?_
    refine a_two 2 12 rfl rfl rfl rfl (by kernel_rfl) rfl rfl (e_lit0 kStep Try.underlying34 I117) (fun s w h => zac [some 1, some 2] (by decide) w h rfl) (e_alloc V36 rfl) (fun s w h => zac [some 1, some 2] (by decide) w h rfl) (cur2 (fun A1036 c1037 => ?_)) (fun g1636 => ?_)
    · skip
      refine a_two 5 12 rfl rfl rfl rfl (by kernel_rfl) rfl rfl (e_appr (i := 0) Try.underlying34 I117 rfl (by decide) (by decide) (fun _ _ _ _ h => h) rfl (fun w h => R0_1.now Z h) rfl rfl ha1217) (fun s w h => zac [some 1, some 2] (by decide) w h rfl) (e_alloc V36 rfl) (fun s w h => zac [some 2, some 3] (by decide) w h rfl) (cur2 (fun A1218 c1219 => ?_)) (fun g1636 => ?_)
      · skip
        refine a_two 8 12 rfl rfl rfl rfl (by kernel_rfl) rfl rfl (zab 0 Z Try.func147 N147 rfl rfl rfl (fun w P1 hF hB hS hT => spec_plStep.calls a1 a2 hB hF _ hx1396)) (fun s w h => zac [some 1, some 2] (by decide) w h rfl) (e_alloc V36 rfl) (fun s w h => zac [some 2, some 3] (by decide) w h rfl) (fun _ => ?_) (fun g1636 => ?_)
        · skip
          refine a_two 9 12 rfl rfl rfl rfl (by kernel_rfl) rfl rfl (e_lit (vs := [(0, .agg #[.int .i64 z1397.f0, .int .i64 z1397.f1])]) (cs := [.int .i64 z1397.f0, .int .i64 z1397.f1]) kStep ([z1397] : List SStep) Try.underlying34 I117 (by decide) rfl (by decide) rfl rfl (fun _ _ => reps_flat _)) (fun s w h => zac [some 2, some 3] (by decide) w h rfl) (e_alloc V36 rfl) (fun s w h => zac [some 2, some 3] (by decide) w h rfl) (cur2 (fun A1456 c1457 => ?_)) (fun g1636 => ?_)
          · skip
            refine a_two 10 12 rfl rfl rfl rfl (by kernel_rfl) rfl rfl (e_app (i := 1) (j := 0) Try.underlying34 I117 rfl (by decide) (by decide) rfl rfl rfl rfl rfl ha1517) (fun s w h => zac [some 2, some 3] (by decide) w h rfl) (e_alloc V36 rfl) (fun s w h => zac [some 3, some 4] (by decide) w h rfl) (cur2 (fun A1518 c1519 => ?_)) (fun g1636 => ?_)
            · skip
              refine za8 11 rfl rfl rfl (by kernel_rfl) (fun _ _ _ h => h) (q_build (vs := [(0, .int .i64 a0_0), (1, .slice A1518 l1516.length c1519)]) (cs := [.int .i64 a0_0, .slice A1518 l1516.length c1519, .slice none 0 0]) rfl rfl) ?_
              refine a_one 12 rfl rfl (by kernel_rfl) rfl (e_alloc V36 rfl) (fun s w h => zac [some 3, some 4] (by decide) w h rfl) (fun g1636 => ?_)
              refine a_one 13 rfl rfl (by kernel_rfl) rfl (zaf (i := 0) rfl rfl rfl Z36 rfl rfl) (fun s w h => zac [some 3, some 4] (by decide) w h rfl) (fun _ => ?_)
              refine a_done (by kernel_rfl) ?_
              refine x_meetJ (l1516, g1636, A1518, c1519) h ⟨rfl, trivial⟩ (fun w h => za6 [4, 3, 0, 2] (by decide) rfl w h) ?_
              repeat (first | exact zah _ _ | refine zam rfl ?_ | refine zai rfl ?_ | refine zan rfl ?_)
            · skip
              refine a_one 10 rfl rfl (by kernel_rfl) rfl (e_app (i := 2) (j := 1) Try.underlying34 I117 rfl (by decide) (by decide) rfl rfl rfl rfl rfl ha1517) (fun s w h => zac [some 3, some 4] (by decide) w h rfl) (cur2 (fun A1518 c1519 => ?_))
              refine za8 11 rfl rfl rfl (by kernel_rfl) (fun _ _ _ h => h) (q_build (vs := [(0, .int .i64 a0_0), (1, .slice A1518 l1516.length c1519)]) (cs := [.int .i64 a0_0, .slice A1518 l1516.length c1519, .slice none 0 0]) rfl rfl) ?_
              refine a_one 13 rfl rfl (by kernel_rfl) rfl (zaf (i := 0) rfl rfl rfl Z36 rfl rfl) (fun s w h => zac [some 3, some 4] (by decide) w h rfl) (fun _ => ?_)
              refine a_done (by kernel_rfl) ?_
              refine x_meetJ (l1516, g1636, A1518, c1519) h ⟨rfl, trivial⟩ (fun w h => za6 [4, 3, 0, 2] (by decide) rfl w h) ?_
              repeat (first | exact zah _ _ | refine zam rfl ?_ | refine zai rfl ?_ | refine zan rfl ?_)
          · skip
            refine a_one 9 rfl rfl (by kernel_rfl) rfl (e_lit (vs := [(0, .agg #[.int .i64 z1397.f0, .int .i64 z1397.f1])]) (cs := [.int .i64 z1397.f0, .int .i64 z1397.f1]) kStep ([z1397] : List SStep) Try.underlying34 I117 (by decide) rfl (by decide) rfl rfl (fun _ _ => reps_flat _)) (fun s w h => zac [some 3, some 4] (by decide) w h rfl) (cur2 (fun A1456 c1457 => ?_))
            refine a_one 10 rfl rfl (by kernel_rfl) rfl (e_app (i := 2) (j := 0) Try.underlying34 I117 rfl (by decide) (by decide) rfl rfl rfl rfl rfl ha1517) (fun s w h => zac [some 3, some 4] (by decide) w h rfl) (cur2 (fun A1518 c1519 => ?_))
            refine za8 11 rfl rfl rfl (by kernel_rfl) (fun _ _ _ h => h) (q_build (vs := [(0, .int .i64 a0_0), (1, .slice A1518 l1516.length c1519)]) (cs := [.int .i64 a0_0, .slice A1518 l1516.length c1519, .slice none 0 0]) rfl rfl) ?_
            refine a_one 13 rfl rfl (by kernel_rfl) rfl (zaf (i := 1) rfl rfl rfl Z36 rfl rfl) (fun s w h => zac [some 3, some 4] (by decide) w h rfl) (fun _ => ?_)
            refine a_done (by kernel_rfl) ?_
            refine x_meetJ (l1516, g1636, A1518, c1519) h ⟨rfl, trivial⟩ (fun w h => za6 [4, 3, 1, 2] (by decide) rfl w h) ?_
            repeat (first | exact zah _ _ | refine zam rfl ?_ | refine zai rfl ?_ | refine zan rfl ?_)
        · skip
          refine a_one 8 rfl rfl (by kernel_rfl) rfl (zab 0 Z Try.func147 N147 rfl rfl rfl (fun w P1 hF hB hS hT => spec_plStep.calls a1 a2 hB hF _ hx1396)) (fun s w h => zac [some 2, some 3] (by decide) w h rfl) (fun _ => ?_)
          refine a_one 9 rfl rfl (by kernel_rfl) rfl (e_lit (vs := [(0, .agg #[.int .i64 z1397.f0, .int .i64 z1397.f1])]) (cs := [.int .i64 z1397.f0, .int .i64 z1397.f1]) kStep ([z1397] : List SStep) Try.underlying34 I117 (by decide) rfl (by decide) rfl rfl (fun _ _ => reps_flat _)) (fun s w h => zac [some 3, some 4] (by decide) w h rfl) (cur2 (fun A1456 c1457 => ?_))
          refine a_one 10 rfl rfl (by kernel_rfl) rfl (e_app (i := 2) (j := 0) Try.underlying34 I117 rfl (by decide) (by decide) rfl rfl rfl rfl rfl ha1517) (fun s w h => zac [some 3, some 4] (by decide) w h rfl) (cur2 (fun A1518 c1519 => ?_))
          refine za8 11 rfl rfl rfl (by kernel_rfl) (fun _ _ _ h => h) (q_build (vs := [(0, .int .i64 a0_0), (1, .slice A1518 l1516.length c1519)]) (cs := [.int .i64 a0_0, .slice A1518 l1516.length c1519, .slice none 0 0]) rfl rfl) ?_
          refine a_one 13 rfl rfl (by kernel_rfl) rfl (zaf (i := 1) rfl rfl rfl Z36 rfl rfl) (fun s w h => zac [some 3, some 4] (by decide) w h rfl) (fun _ => ?_)
          refine a_done (by kernel_rfl) ?_
          refine x_meetJ (l1516, g1636, A1518, c1519) h ⟨rfl, trivial⟩ (fun w h => za6 [4, 3, 1, 2] (by decide) rfl w h) ?_
          repeat (first | exact zah _ _ | refine zam rfl ?_ | refine zai rfl ?_ | refine zan rfl ?_)
      · skip
        refine a_one 5 rfl rfl (by kernel_rfl) rfl (e_appr (i := 1) Try.underlying34 I117 rfl (by decide) (by decide) (fun _ _ _ _ h => h) rfl (fun w h => R0_1.now Z h) rfl rfl ha1217) (fun s w h => zac [some 2, some 3] (by decide) w h rfl) (cur2 (fun A1218 c1219 => ?_))
        refine a_one 8 rfl rfl (by kernel_rfl) rfl (zab 0 Z Try.func147 N147 rfl rfl rfl (fun w P1 hF hB hS hT => spec_plStep.calls a1 a2 hB hF _ hx1396)) (fun s w h => zac [some 2, some 3] (by decide) w h rfl) (fun _ => ?_)
        refine a_one 9 rfl rfl (by kernel_rfl) rfl (e_lit (vs := [(0, .agg #[.int .i64 z1397.f0, .int .i64 z1397.f1])]) (cs := [.int .i64 z1397.f0, .int .i64 z1397.f1]) kStep ([z1397] : List SStep) Try.underlying34 I117 (by decide) rfl (by decide) rfl rfl (fun _ _ => reps_flat _)) (fun s w h => zac [some 3, some 4] (by decide) w h rfl) (cur2 (fun A1456 c1457 => ?_))
        refine a_one 10 rfl rfl (by kernel_rfl) rfl (e_app (i := 2) (j := 0) Try.underlying34 I117 rfl (by decide) (by decide) rfl rfl rfl rfl rfl ha1517) (fun s w h => zac [some 3, some 4] (by decide) w h rfl) (cur2 (fun A1518 c1519 => ?_))
        refine za8 11 rfl rfl rfl (by kernel_rfl) (fun _ _ _ h => h) (q_build (vs := [(0, .int .i64 a0_0), (1, .slice A1518 l1516.length c1519)]) (cs := [.int .i64 a0_0, .slice A1518 l1516.length c1519, .slice none 0 0]) rfl rfl) ?_
        refine a_one 13 rfl rfl (by kernel_rfl) rfl (zaf (i := 1) rfl rfl rfl Z36 rfl rfl) (fun s w h => zac [some 3, some 4] (by decide) w h rfl) (fun _ => ?_)
        refine a_done (by kernel_rfl) ?_
        refine x_meetJ (l1516, g1636, A1518, c1519) h ⟨rfl, trivial⟩ (fun w h => za6 [4, 3, 1, 2] (by decide) rfl w h) ?_
        repeat (first | exact zah _ _ | refine zam rfl ?_ | refine zai rfl ?_ | refine zan rfl ?_)
    · skip
      refine a_one 2 rfl rfl (by kernel_rfl) rfl (e_lit0 kStep Try.underlying34 I117) (fun s w h => zac [some 2, some 3] (by decide) w h rfl) (cur2 (fun A1036 c1037 => ?_))
      refine a_one 5 rfl rfl (by kernel_rfl) rfl (e_appr (i := 0) Try.underlying34 I117 rfl (by decide) (by decide) (fun _ _ _ _ h => h) rfl (fun w h => R0_1.now Z h) rfl rfl ha1217) (fun s w h => zac [some 2, some 3] (by decide) w h rfl) (cur2 (fun A1218 c1219 => ?_))
      refine a_one 8 rfl rfl (by kernel_rfl) rfl (zab 0 Z Try.func147 N147 rfl rfl rfl (fun w P1 hF hB hS hT => spec_plStep.calls a1 a2 hB hF _ hx1396)) (fun s w h => zac [some 2, some 3] (by decide) w h rfl) (fun _ => ?_)
      refine a_one 9 rfl rfl (by kernel_rfl) rfl (e_lit (vs := [(0, .agg #[.int .i64 z1397.f0, .int .i64 z1397.f1])]) (cs := [.int .i64 z1397.f0, .int .i64 z1397.f1]) kStep ([z1397] : List SStep) Try.underlying34 I117 (by decide) rfl (by decide) rfl rfl (fun _ _ => reps_flat _)) (fun s w h => zac [some 3, some 4] (by decide) w h rfl) (cur2 (fun A1456 c1457 => ?_))
      refine a_one 10 rfl rfl (by kernel_rfl) rfl (e_app (i := 1) (j := 0) Try.underlying34 I117 rfl (by decide) (by decide) rfl rfl rfl rfl rfl ha1517) (fun s w h => zac [some 3, some 4] (by decide) w h rfl) (cur2 (fun A1518 c1519 => ?_))
      refine za8 11 rfl rfl rfl (by kernel_rfl) (fun _ _ _ h => h) (q_build (vs := [(0, .int .i64 a0_0), (1, .slice A1518 l1516.length c1519)]) (cs := [.int .i64 a0_0, .slice A1518 l1516.length c1519, .slice none 0 0]) rfl rfl) ?_
      refine a_one 13 rfl rfl (by kernel_rfl) rfl (zaf (i := 2) rfl rfl rfl Z36 rfl rfl) (fun s w h => zac [some 3, some 4] (by decide) w h rfl) (fun _ => ?_)
      refine a_done (by kernel_rfl) ?_
      refine x_meetJ (l1516, g1636, A1518, c1519) h ⟨rfl, trivial⟩ (fun w h => za6 [4, 3, 2, 1] (by decide) rfl w h) ?_
      repeat (first | exact zah _ _ | refine zam rfl ?_ | refine zai rfl ?_ | refine zan rfl ?_)
  · skip
    refine (cur4 (fun l907 g906 A908 c909 => fun U913 hJ914 => ?_))
    have e_ := Option.some.inj hJ914; have h := hR912; rw [← e_] at h; clear e_ hJ914 hR912 hl911
    refine c_seq ?_
    refine a_startS (ds := []) [some 0, none, some 2, some 3] MO rfl ?_
    refine a_take 0 rfl rfl rfl (by kernel_rfl) (fun _ _ _ h => h) (fun w h => zac [some 0, none, some 2, some 3] (by decide) w h rfl) (q_ldB G36 Z36 rfl (fun w h => h.zaa (i := 2) rfl) rfl) ?_
    refine za8 1 rfl rfl rfl (by kernel_rfl) (fun _ _ _ h => h) (q_f F36_0 rfl) ?_
    refine a_take 2 rfl rfl rfl (by kernel_rfl) (fun _ _ _ h => h) (fun w h => zac [some 0, none, some 2, some 3] (by decide) w h rfl) (q_ldb Y3 rfl (fun w h => h.zaa (i := 0) rfl) rfl) ?_
    refine za8 3 rfl rfl rfl (by kernel_rfl) (fun _ _ _ h => h) (q_f F36_1 rfl) ?_
    refine a_take 4 rfl rfl rfl (by kernel_rfl) (fun _ _ _ h => h) (fun w h => zac [some 0, none, some 2, some 3] (by decide) w h rfl) (q_ldb Y34 rfl (fun w h => h.zaa (i := 0) rfl) rfl) ?_
    refine za8 5 rfl rfl rfl (by kernel_rfl) (fun _ _ _ h => h) (q_len Try.underlying34 rfl) ?_
    refine za8 6 rfl rfl rfl (by kernel_rfl) (fun _ _ _ h => h) (q_add64 rfl rfl) ?_
    refine a_one 7 rfl rfl (by kernel_rfl) rfl (zaf (i := 1) rfl rfl rfl Z36 rfl rfl) (fun s w h => zac [some 0, none, some 2, some 3] (by decide) w h rfl) (fun _ => ?_)
    refine za8 8 rfl rfl rfl (by kernel_rfl) (fun _ _ _ h => h) (q_asg rfl) ?_
    refine a_done (by kernel_rfl) ?_
    refine za1 ?_
    refine c_ret ?_
    refine x_nil (Kd.int .i64) 3 ?_
    have e0_ := Option.some.inj h; clear h
    subst e0_
    exact x_r2 (A908, c909) Try.results80 (rv_cell rfl G36 Z36 (fun w h => h.zaa (i := 2) rfl) rfl) (zad rfl) rfl (fun w h => za6 [4, 0] (by decide) rfl w h)

/-! ### loop.example/g01098/spec.l1Own: function 154 -/
def spec_l1Own.f (l0 : List Int) : Option (List Int) := (ap ([] : List Int) l0).bind fun l4 => some l4
set_option maxHeartbeats 600000 in
set_option maxRecDepth 100000 in
theorem spec_l1Own.calls {w0 ws : World} {P0 : Nat → Prop} (A0 : Option Addr) (c0 : Nat) (n0 : Nat) (l0 : List Int) (Z : Below w0.heap.size w0 ws) (hF : Fr w0 ws P0 [] ws) (R0 : Stable ws P0 (fun w => Kd.C (Kd.int .i64) w A0 n0 l0)) (hc0 : n0 ≤ c0) (r_1 : List Int) (h : spec_l1Own.f l0 = some r_1) :
    Calls Try.prog 154 #[.slice A0 n0 c0] ws (Post1 w0 ws P0 (fun ((q_2, q_3) : (Option Addr) × Nat) => .slice q_2 r_1.length q_3) (fun ((q_2, q_3) : (Option Addr) × Nat) => [row (Kd.int .i64) 3 (.slice q_2 r_1.length q_3) r_1])) := by
  unfold spec_l1Own.f at h
  obtain rfl := (R0 ws (KeptB.refl _ _)).1
  refine enter Try.func154 rfl Try.ntmps154 rfl hF ?_
  refine c_seq ?_
  refine za0 ?_
  refine o_q rfl rfl (q_asg rfl) ?_
  refine o_end ?_
  refine za1 ?_
  refine c_seq ?_
  refine za0 ?_
  refine o_e rfl (e_lit0 (Kd.int .i64) Try.underlying22 I3) (cur2 (fun A1 c2 => ?_))
  refine o_q rfl rfl (za2 rfl) ?_
  refine za7 h (fun l4 ha5 h => ?_) rfl
  refine o_e rfl (e_appr (i := 0) Try.underlying22 I3 rfl (by decide) (by decide) (fun _ _ _ _ h => h) rfl (fun w h => R0.now Z h) rfl rfl ha5) (cur2 (fun A6 c7 => ?_))
  refine o_q rfl rfl (q_asg rfl) ?_
  refine o_end ?_
  refine za1 ?_
  refine c_ret ?_
  have e0_ := Option.some.inj h; clear h
  subst e0_
  exact x_r1 (A6, c7) Try.results154 (zad rfl) rfl (fun w h => za6 [0] (by decide) rfl w h)

/-! ### loop.example/g01098/spec.plThen: function 160 -/
def spec_plThen.l1 (l14 : List Int) : (List Int) → (List Int) → Int → Option (List Int)
  | [], l32, i35 => some l32
  | y36 :: ys37, l32, i35 => (gt l14 y36).bind fun y49 => (ap l32 ([y49] : List Int)).bind fun l53 => spec_plThen.l1 l14 ys37 l53 (i35 + 1)
def spec_plThen.l0 (a1 : Int) : (List SStep) → (List Int) → (List SStep) → Int → Option ((List Int) × (List SStep))
  | [], l14, l17, i20 => some (l14, l17)
  | y21 :: ys22, l14, l17, i20 => (gt l14 y21.f0).bind fun y62 => (gt l14 y21.f1).bind fun y64 => (spec_plStep.f y62 y64).bind fun z66 => (ap l17 ([z66] : List SStep)).bind fun l70 => (ap l14 ([w64 (w64 (a1 + (l70.length : Int)) - 1)] : List Int)).bind fun l77 => spec_plThen.l0 a1 ys22 l77 l70 (i20 + 1)
def spec_plThen.f (l0 : List SStep) (a1 : Int) (a2_0 : Int) (l2_1 : List SStep) (l2_2 : List Int) (l3 : List Int) : Option ((List SStep) × (List Int)) := (spec_l1Own.f l3).bind fun l4 => (ap ([] : List SStep) l0).bind fun l10 => (spec_plThen.l0 a1 l2_1 l4 l10 0).bind fun (l14, l17) => (spec_plThen.l1 l14 l2_2 ([] : List Int) 0).bind fun l32 => some (l17, l32)
set_option maxHeartbeats 600000 in
set_option maxRecDepth 100000 in
theorem spec_plThen.calls {w0 ws : World} {P0 : Nat → Prop} (A0 : Option Addr) (c0 : Nat) (n0 : Nat) (l0 : List SStep) (a1 : Int) (a2_0 : Int) (A2_1 : Option Addr) (c2_1 : Nat) (n2_1 : Nat) (l2_1 : List SStep) (A2_2 : Option Addr) (c2_2 : Nat) (n2_2 : Nat) (l2_2 : List Int) (A3 : Option Addr) (c3 : Nat) (n3 : Nat) (l3 : List Int) (Z : Below w0.heap.size w0 ws) (hF : Fr w0 ws P0 [] ws) (R0 : Stable ws P0 (fun w => Kd.C kStep w A0 n0 l0)) (hc0 : n0 ≤ c0) (R2_1 : Stable ws P0 (fun w => Kd.C kStep w A2_1 n2_1 l2_1)) (hc2_1 : n2_1 ≤ c2_1) (R2_2 : Stable ws P0 (fun w => Kd.C (Kd.int .i64) w A2_2 n2_2 l2_2)) (hc2_2 : n2_2 ≤ c2_2) (R3 : Stable ws P0 (fun w => Kd.C (Kd.int .i64) w A3 n3 l3)) (hc3 : n3 ≤ c3) (r_1 : List SStep) (r_4 : List Int) (h : spec_plThen.f l0 a1 a2_0 l2_1 l2_2 l3 = some (r_1, r_4)) :
    Calls Try.prog 160 #[.slice A0 n0 c0, .int .i64 a1, .agg #[.int .i64 a2_0, .slice A2_1 n2_1 c2_1, .slice A2_2 n2_2 c2_2], .slice A3 n3 c3] ws (Post1 w0 ws P0 (fun ((q_2, q_3, q_5, q_6) : (Option Addr) × Nat × (Option Addr) × Nat) => .tuple #[.slice q_2 r_1.length q_3, .slice q_5 r_4.length q_6]) (fun ((q_2, q_3, q_5, q_6) : (Option Addr) × Nat × (Option Addr) × Nat) => [row kStep 117 (.slice q_2 r_1.length q_3) r_1, row (Kd.int .i64) 3 (.slice q_5 r_4.length q_6) r_4])) := by
  unfold spec_plThen.f at h
  obtain rfl := (R0 ws (KeptB.refl _ _)).1
  obtain rfl := (R2_1 ws (KeptB.refl _ _)).1
  obtain rfl := (R2_2 ws (KeptB.refl _ _)).1
  obtain rfl := (R3 ws (KeptB.refl _ _)).1
  refine enter Try.func160 rfl Try.ntmps160 rfl hF ?_
  refine c_seq ?_
  refine za0 ?_
  refine o_e rfl (e_box rfl) (fun g1 => ?_)
  refine o_q rfl rfl (q_asg rfl) ?_
  refine o_q rfl rfl (q_asg rfl) ?_
  refine o_end ?_
  refine za1 ?_
  refine c_seq ?_
  refine za0 ?_
  refine o_q rfl rfl (za2 rfl) ?_
  refine za7 h (fun l4 hx3 h => ?_) rfl
  refine o_e rfl (zab 0 Z Try.func154 N154 rfl rfl rfl (fun w P1 hF hB hS hT => spec_l1Own.calls A3 c3 l3.length l3 hB hF (hS _ R3) hc3 _ hx3)) (cur2 (fun A5 c6 => ?_))
  refine o_q rfl rfl (q_asg rfl) ?_
  refine o_end ?_
  refine za1 ?_
  refine c_seq ?_
  refine za0 ?_
  refine o_e rfl (e_lit0 kStep Try.underlying34 I117) (cur2 (fun A7 c8 => ?_))
  refine o_q rfl rfl (za2 rfl) ?_
  refine za7 h (fun l10 ha11 h => ?_) rfl
  refine o_e rfl (e_appr (i := 0) Try.underlying34 I117 rfl (by decide) (by decide) (fun _ _ _ _ h => h) rfl (fun w h => R0.now Z h) rfl rfl ha11) (cur2 (fun A12 c13 => ?_))
  refine o_q rfl rfl (q_asg rfl) ?_
  refine o_end ?_
  refine za1 ?_
  refine c_seq ?_
  refine c_seq ?_
  refine za0 ?_
  refine o_q rfl rfl (q_f F36_1 rfl) ?_
  refine o_q rfl rfl (q_ldb Y34 rfl (fun w h => h.zaa (i := 2) rfl) rfl) ?_
  refine o_q rfl rfl (q_len Try.underlying34 rfl) ?_
  refine o_q rfl rfl (za2 rfl) ?_
  refine o_end ?_
  refine za1 ?_
  refine zal ?_
  refine za7 h (fun o28 hl27 hR26 => ?_) rfl
  clear h
  refine c_fact (p := l2_1.length ≤ 9223372036854775807) (fun w h => (R2_1.now Z h).2.1) (fun hm25 => ?_)
  refine c_loopL (σ := (List SStep) × (List Int) × (List SStep) × Int × (Option Addr) × Nat × (Option Addr) × Nat) (fun k23 ((ys22, l14, l17, i20, A15, c16, A18, c19) : (List SStep) × (List Int) × (List SStep) × Int × (Option Addr) × Nat × (Option Addr) × Nat) => Rg l2_1 i20 ys22 ∧ ys22.length = k23 ∧ spec_plThen.l0 a1 ys22 l14 l17 i20 = some o28) [10, 11, 13, 25, 26, 27, 28, 29, 30, 31, 32, 33, 34, 35, 36, 37, 38, 39, 40, 41, 42, 43, 44, 45, 46, 47, 48, 49, 50, 51] (fun ((ys22, l14, l17, i20, A15, c16, A18, c19) : (List SStep) × (List Int) × (List SStep) × Int × (Option Addr) × Nat × (Option Addr) × Nat) => [(10, .slice A15 l14.length c16), (11, .slice A18 l17.length c19), (25, .int .i64 i20)]) (fun ((ys22, l14, l17, i20, A15, c16, A18, c19) : (List SStep) × (List Int) × (List SStep) × Int × (Option Addr) × Nat × (Option Addr) × Nat) => [row kStep 117 (.slice A18 l17.length c19) l17, row (Kd.int .i64) 3 (.slice A15 l14.length c16) l14, box g1 36 #[.int .i64 a2_0, .slice A2_1 l2_1.length c2_1, .slice A2_2 l2_2.length c2_2]]) l2_1.length (l2_1, l4, l10, 0, A5, c6, A12, c13) ⟨Rg.start _, rfl, hl27⟩ ⟨rfl, rfl, rfl, trivial⟩ (fun w h => h) ?_
  refine fun k23 => cur8 (listC (fun l14 l17 i20 A15 c16 A18 c19 U29 hJ_ => ?_) (fun y21 ys22 l14 l17 i20 A15 c16 A18 c19 U29 hJ_ => ?_))
  · skip
    clear hl27
    have hr24 := hJ_.1; have hk30 := hJ_.2.1; have h := hJ_.2.2; clear hJ_
    replace h : spec_plThen.l0 a1 [] l14 l17 i20 = some o28 := h
    rw [spec_plThen.l0] at h
    refine c_seq ?_
    refine za0 ?_
    refine o_q rfl rfl (q_lss rfl rfl) ?_
    refine o_end ?_
    refine za1 ?_
    refine c_seq ?_
    refine c_false (congrArg Value.bool hr24.ge) ?_
    refine c_exit ?_
    refine za9 ?_
    refine za9 ?_
    have e_ := Option.some.inj h; replace h := hR26; rw [← e_] at h; clear e_
    refine x_hit ?_
    refine za1 ?_
    refine c_seq ?_
    refine za0 ?_
    refine o_q rfl rfl (q_asg rfl) ?_
    refine o_end ?_
    refine za1 ?_
    refine c_seq ?_
    refine c_seq ?_
    refine za0 ?_
    refine o_q rfl rfl (q_f F36_2 rfl) ?_
    refine o_q rfl rfl (q_ldb Y22 rfl (fun w h => h.zaa (i := 2) rfl) rfl) ?_
    refine o_q rfl rfl (q_len Try.underlying22 rfl) ?_
    refine o_q rfl rfl (za2 rfl) ?_
    refine o_end ?_
    refine za1 ?_
    refine zal ?_
    refine c_nil (Kd.int .i64) 3 ?_
    refine za7 h (fun o43 hl42 hR41 => ?_) rfl
    clear h
    refine c_fact (p := l2_2.length ≤ 9223372036854775807) (fun w h => (R2_2.now Z h).2.1) (fun hm40 => ?_)
    refine c_loopL (σ := (List Int) × (List Int) × Int × (Option Addr) × Nat) (fun k38 ((ys37, l32, i35, A33, c34) : (List Int) × (List Int) × Int × (Option Addr) × Nat) => Rg l2_2 i35 ys37 ∧ ys37.length = k38 ∧ spec_plThen.l1 l14 ys37 l32 i35 = some o43) [14, 16, 55, 56, 57, 58, 59, 60, 61, 62, 63, 64, 65, 66] (fun ((ys37, l32, i35, A33, c34) : (List Int) × (List Int) × Int × (Option Addr) × Nat) => [(14, .slice A33 l32.length c34), (55, .int .i64 i35)]) (fun ((ys37, l32, i35, A33, c34) : (List Int) × (List Int) × Int × (Option Addr) × Nat) => [row (Kd.int .i64) 3 (.slice A33 l32.length c34) l32, row kStep 117 (.slice A18 l17.length c19) l17, row (Kd.int .i64) 3 (.slice A15 l14.length c16) l14, box g1 36 #[.int .i64 a2_0, .slice A2_1 l2_1.length c2_1, .slice A2_2 l2_2.length c2_2]]) l2_2.length (l2_2, ([] : List Int), 0, none, 0) ⟨Rg.start _, rfl, hl42⟩ ⟨rfl, rfl, trivial⟩ (fun w h => h) ?_
    refine fun k38 => cur5 (listC (fun l32 i35 A33 c34 U44 hJ_ => ?_) (fun y36 ys37 l32 i35 A33 c34 U44 hJ_ => ?_))
    · skip
      clear hl42
      have hr39 := hJ_.1; have hk45 := hJ_.2.1; have h := hJ_.2.2; clear hJ_
      replace h : spec_plThen.l1 l14 [] l32 i35 = some o43 := h
      rw [spec_plThen.l1] at h
      refine c_seq ?_
      refine za0 ?_
      refine o_q rfl rfl (q_lss rfl rfl) ?_
      refine o_end ?_
      refine za1 ?_
      refine c_seq ?_
      refine c_false (congrArg Value.bool hr39.ge) ?_
      refine c_exit ?_
      refine za9 ?_
      refine za9 ?_
      have e_ := Option.some.inj h; replace h := hR41; rw [← e_] at h; clear e_
      refine x_hit ?_
      refine za1 ?_
      refine c_seq ?_
      refine za0 ?_
      refine o_q rfl rfl (za2 rfl) ?_
      refine o_q rfl rfl (za2 rfl) ?_
      refine o_q rfl rfl (q_asg rfl) ?_
      refine o_q rfl rfl (q_asg rfl) ?_
      refine o_end ?_
      refine za1 ?_
      refine c_ret ?_
      have e0_ := Option.some.inj h; clear h
      have d0_ := (Prod.mk.inj e0_).1; have e1_ := (Prod.mk.inj e0_).2; clear e0_; subst d0_
      subst e1_
      exact x_r2 (A18, c19, A33, c34) Try.results160 (zad rfl) (zad rfl) rfl (fun w h => za6 [1, 0] (by decide) rfl w h)
    · skip
      clear hl42
      have hr39 := hJ_.1; have hk45 := hJ_.2.1; have h := hJ_.2.2; clear hJ_
      replace h : spec_plThen.l1 l14 (y36 :: ys37) l32 i35 = some o43 := h
      rw [spec_plThen.l1] at h
      refine c_seq ?_
      refine za0 ?_
      refine o_q rfl rfl (q_lss rfl rfl) ?_
      refine o_end ?_
      refine za1 ?_
      refine c_seq ?_
      refine c_true (congrArg Value.bool hr39.lt) ?_
      refine zaj ?_
      refine za1 ?_
      refine c_seq ?_
      refine zal ?_
      refine c_seq ?_
      refine za0 ?_
      refine o_fact (p := Sh A2_2 l2_2.length l2_2.length) (fun w h => f_sh (dk := (Kd.int .i64)) h (fun w h => R2_2.now Z h)) (fun hq46 => ?_)
      refine o_q rfl rfl (q_ix Try.underlying22 Z3 rfl rfl hq46 hr39.get) ?_
      refine o_q rfl rfl (q_lde (off := 0) Y3 rfl rfl (fun w h => R2_2.now Z h) hr39.get (fun _ _ h => h) rfl) ?_
      refine o_q rfl rfl (q_asg rfl) ?_
      refine o_end ?_
      refine za1 ?_
      refine za0 ?_
      refine o_q rfl rfl (za2 rfl) ?_
      refine o_q rfl rfl (za2 rfl) ?_
      refine o_q rfl rfl (za2 rfl) ?_
      refine o_fact (p := Sh A15 l14.length l14.length) (fun w h => f_sh (dk := (Kd.int .i64)) h (fun w h => h.row_Cn (i := 2) rfl)) (fun hq47 => ?_)
      refine za7 h (fun y49 hg48 h => ?_) rfl
      refine o_q rfl rfl (q_ix Try.underlying22 Z3 rfl rfl hq47 hg48) ?_
      refine o_q rfl rfl (q_lde (off := 0) Y3 rfl rfl (fun w h => h.row_Cn (i := 2) rfl) hg48 (fun _ _ h => h) rfl) ?_
      refine o_e rfl (e_lit (vs := [(0, .int .i64 y49)]) (cs := [.int .i64 y49]) (Kd.int .i64) ([y49] : List Int) Try.underlying22 I3 (by decide) rfl (by decide) rfl rfl (fun _ _ => Kd.reps_scalar _)) (cur2 (fun A50 c51 => ?_))
      refine za7 h (fun l53 ha54 h => ?_) rfl
      refine o_e rfl (e_app (i := 1) (j := 0) Try.underlying22 I3 rfl (by decide) (by decide) rfl rfl rfl rfl rfl ha54) (cur2 (fun A55 c56 => ?_))
      refine o_q rfl rfl (q_asg rfl) ?_
      refine o_end ?_
      refine x_block ?_
      refine za1 ?_
      refine za0 ?_
      refine o_q rfl rfl (q_up rfl rfl (hr39.up hm40)) ?_
      refine o_q rfl rfl (za2 rfl) ?_
      refine o_end ?_
      refine x_roundL ys37.length (ys37, l53, i35 + 1, A55, c56) (by rw [← hk45]; exact Nat.lt_succ_self _) ⟨hr39.step, rfl, h⟩ ⟨rfl, rfl, trivial⟩ (fun w h => za6 [1, 2, 3, 4] (by decide) rfl w h) ?_
      repeat (first | exact zah _ _ | refine zam rfl ?_ | refine zai rfl ?_ | refine zan rfl ?_)
  · skip
    clear hl27
    have hr24 := hJ_.1; have hk30 := hJ_.2.1; have h := hJ_.2.2; clear hJ_
    replace h : spec_plThen.l0 a1 (y21 :: ys22) l14 l17 i20 = some o28 := h
    rw [spec_plThen.l0] at h
    refine c_seq ?_
    refine za0 ?_
    refine o_q rfl rfl (q_lss rfl rfl) ?_
    refine o_end ?_
    refine za1 ?_
    refine c_seq ?_
    refine c_true (congrArg Value.bool hr24.lt) ?_
    refine zaj ?_
    refine za1 ?_
    refine c_seq ?_
    refine zal ?_
    refine c_seq ?_
    refine za0 ?_
    refine o_fact (p := Sh A2_1 l2_1.length l2_1.length) (fun w h => f_sh (dk := kStep) h (fun w h => R2_1.now Z h)) (fun hq57 => ?_)
    refine o_q rfl rfl (q_ix Try.underlying34 Z117 rfl rfl hq57 hr24.get) ?_
    refine o_q rfl rfl (q_ldE G117 Z117 rfl rfl (fun w h => R2_1.now Z h) hr24.get (fun _ _ h => h) rfl) ?_
    refine o_e rfl (e_alloc V117 rfl) (fun g58 => ?_)
    refine o_e rfl (zaf (i := 0) rfl rfl rfl Z117 rfl rfl) (fun _ => ?_)
    refine o_end ?_
    refine za1 ?_
    refine c_seq ?_
    refine a_startS (ds := []) [some 0, none, some 2, some 3] MO rfl ?_
    refine za8 0 rfl rfl rfl (by kernel_rfl) (fun _ _ _ h => h) (za2 rfl) ?_
    refine za8 1 rfl rfl rfl (by kernel_rfl) (fun _ _ _ h => h) (za2 rfl) ?_
    refine za8 2 rfl rfl rfl (by kernel_rfl) (fun _ _ _ h => h) (q_f F117_0 rfl) ?_
    refine a_take 3 rfl rfl rfl (by kernel_rfl) (fun _ _ _ h => h) (fun w h => zac [some 0, none, some 2, some 3] (by decide) w h rfl) (q_ldb Y3 rfl (fun w h => h.zaa (i := 0) rfl) rfl) ?_
    refine a_fact (p := Sh A15 l14.length l14.length) (fun w h => f_sh (dk := (Kd.int .i64)) h (fun w h => h.row_Cn (i := 2) rfl)) (fun hq60 => ?_)
    refine za7 h (fun y62 hg61 h => ?_) rfl
    refine za8 4 rfl rfl rfl (by kernel_rfl) (fun _ _ _ h => h) (q_ix Try.underlying22 Z3 rfl rfl hq60 hg61) ?_
    refine a_take 5 rfl rfl rfl (by kernel_rfl) (fun _ _ _ h => h) (fun w h => zac [some 0, none, some 2, some 3] (by decide) w h rfl) (q_lde (off := 0) Y3 rfl rfl (fun w h => h.row_Cn (i := 2) rfl) hg61 (fun _ _ h => h) rfl) ?_
    refine za8 6 rfl rfl rfl (by kernel_rfl) (fun _ _ _ h => h) (za2 rfl) ?_
    refine za8 7 rfl rfl rfl (by kernel_rfl) (fun _ _ _ h => h) (q_f F117_1 rfl) ?_
    refine a_take 8 rfl rfl rfl (by kernel_rfl) (fun _ _ _ h => h) (fun w h => zac [some 0, none, some 2, some 3] (by decide) w h rfl) (q_ldb Y3 rfl (fun w h => h.zaa (i := 0) rfl) rfl) ?_
    refine za7 h (fun y64 hg63 h => ?_) rfl
    refine za8 9 rfl rfl rfl (by kernel_rfl) (fun _ _ _ h => h) (q_ix Try.underlying22 Z3 rfl rfl hq60 hg63) ?_
    refine a_take 10 rfl rfl rfl (by kernel_rfl) (fun _ _ _ h => h) (fun w h => zac [some 0, none, some 2, some 3] (by decide) w h rfl) (q_lde (off := 0) Y3 rfl rfl (fun w h => h.row_Cn (i := 2) rfl) hg63 (fun _ _ h => h) rfl) ?_
    refine za7 h (fun z66 hx65 h => ?_) rfl
    refine a_one 11 rfl rfl (by kernel_rfl) rfl (zab 0 Z Try.func147 N147 rfl rfl rfl (fun w P1 hF hB hS hT => spec_plStep.calls y62 y64 hB hF _ hx65)) (fun s w h => zac [some 0, none, some 2, some 3] (by decide) w h rfl) (fun _ => ?_)
    refine a_one 12 rfl rfl (by kernel_rfl) rfl (e_lit (vs := [(0, .agg #[.int .i64 z66.f0, .int .i64 z66.f1])]) (cs := [.int .i64 z66.f0, .int .i64 z66.f1]) kStep ([z66] : List SStep) Try.underlying34 I117 (by decide) rfl (by decide) rfl rfl (fun _ _ => reps_flat _)) (fun s w h => zac [some 1, none, some 3, some 4] (by decide) w h rfl) (cur2 (fun A67 c68 => ?_))
    refine za7 h (fun l70 ha71 h => ?_) rfl
    refine a_one 13 rfl rfl (by kernel_rfl) rfl (e_app (i := 2) (j := 0) Try.underlying34 I117 rfl (by decide) (by decide) rfl rfl rfl rfl rfl ha71) (fun s w h => zac [some 1, none, some 3, some 4] (by decide) w h rfl) (cur2 (fun A72 c73 => ?_))
    refine za8 14 rfl rfl rfl (by kernel_rfl) (fun _ _ _ h => h) (q_asg rfl) ?_
    refine a_done (by kernel_rfl) ?_
    refine za1 ?_
    refine za0 ?_
    refine o_q rfl rfl (za2 rfl) ?_
    refine o_q rfl rfl (za2 rfl) ?_
    refine o_q rfl rfl (za2 rfl) ?_
    refine o_q rfl rfl (q_len Try.underlying34 rfl) ?_
    refine o_q rfl rfl (q_add64 rfl rfl) ?_
    refine o_q rfl rfl (q_sub64 rfl rfl) ?_
    refine o_e rfl (e_lit (vs := [(0, .int .i64 (w64 (w64 (a1 + (l70.length : Int)) - 1)))]) (cs := [.int .i64 (w64 (w64 (a1 + (l70.length : Int)) - 1))]) (Kd.int .i64) ([w64 (w64 (a1 + (l70.length : Int)) - 1)] : List Int) Try.underlying22 I3 (by decide) rfl (by decide) rfl rfl (fun _ _ => Kd.reps_scalar _)) (cur2 (fun A74 c75 => ?_))
    refine za7 h (fun l77 ha78 h => ?_) rfl
    refine o_e rfl (e_app (i := 4) (j := 0) Try.underlying22 I3 rfl (by decide) (by decide) rfl rfl rfl rfl rfl ha78) (cur2 (fun A79 c80 => ?_))
    refine o_q rfl rfl (q_asg rfl) ?_
    refine o_end ?_
    refine x_block ?_
    refine za1 ?_
    refine za0 ?_
    refine o_q rfl rfl (q_up rfl rfl (hr24.up hm25)) ?_
    refine o_q rfl rfl (za2 rfl) ?_
    refine o_end ?_
    refine x_roundL ys22.length (ys22, l77, l70, i20 + 1, A79, c80, A72, c73) (by rw [← hk30]; exact Nat.lt_succ_self _) ⟨hr24.step, rfl, h⟩ ⟨rfl, rfl, rfl, trivial⟩ (fun w h => za6 [3, 4, 5] (by decide) rfl w h) ?_
    repeat (first | exact zah _ _ | refine zam rfl ?_ | refine zai rfl ?_ | refine zan rfl ?_)

/-! ### loop.example/g01098/spec.meFactors: function 101 -/
def spec_meFactors.f : Nat → Int → Option ((List SStep) × (List Int))
  | 0, _ => none
  | k + 1, a0 => if a0 = 1 then ((spec_meEnd.f 1 ([] : List SStep) [] 0).bind fun _ => some (([] : List SStep), ([0] : List Int))) else ((spec_meFactor.f k a0).bind fun i9 => if i9 = a0 then (((spec_meFactors.f k) (w64 (a0 - 1))).bind fun (l12, l13) => ((gt l13 0).bind fun y993 => (spec_meTimes.f 1 l12 l13 y993 0).bind fun l1112 => some l1112).bind fun l802 => (spec_meEnd.f 1 l802 [] (w64 (1 + (l12.length : Int)))).bind fun _ => some (l802, ([(w64 (1 + (l12.length : Int)))] : List Int))) else (((spec_meFactors.f k) i9).bind fun (l1595, l1596) => (nz i9).bind fun _ => ((spec_meFactors.f k) (w64 (a0.tdiv i9))).bind fun (l1605, l1606) => (spec_plThen.f l1595 1 1 l1605 l1606 l1596).bind fun (l1612, l1613) => some (l1612, l1613)))
set_option maxHeartbeats 600000 in
set_option maxRecDepth 100000 in
theorem spec_meFactors.calls : ∀ (k : Nat) {w0 ws : World} {P0 : Nat → Prop} (a0 : Int) (Z : Below w0.heap.size w0 ws) (hF : Fr w0 ws P0 [] ws)  (r_1 : List SStep) (r_4 : List Int) (h : spec_meFactors.f k a0 = some (r_1, r_4)),
    Calls Try.prog 101 #[.int .i64 a0] ws (Post1 w0 ws P0 (fun ((q_2, q_3, q_5, q_6) : (Option Addr) × Nat × (Option Addr) × Nat) => .agg #[.int .i64 1, .slice q_2 r_1.length q_3, .slice q_5 r_4.length q_6]) (fun ((q_2, q_3, q_5, q_6) : (Option Addr) × Nat × (Option Addr) × Nat) => [row kStep 117 (.slice q_2 r_1.length q_3) r_1, row (Kd.int .i64) 3 (.slice q_5 r_4.length q_6) r_4])) := by
  intro k
  induction k with
  | zero =>
    intros
    rename_i h
    cases h
  | succ k ih =>
    intro w0 ws P0 a0 Z hF  r_1 r_4 h
    rw [spec_meFactors.f] at h
    refine enter Try.func101 rfl Try.ntmps101 rfl hF ?_
    refine c_seq ?_
    refine za0 ?_
    refine o_e rfl (e_alloc V36 rfl) (fun g1 => ?_)
    refine o_end ?_
    refine za1 ?_
    refine c_seq ?_
    refine c_seq ?_
    refine za0 ?_
    refine o_q rfl rfl (za2 rfl) ?_
    refine o_q rfl rfl (q_eql rfl rfl) ?_
    refine o_end ?_
    refine za1 ?_
    refine zao _ rfl (fun hb3 => ?_) (fun hb3 => ?_)
    · skip
      replace h := br_t hb3 h
      refine c_seq ?_
      refine za0 ?_
      refine o_q rfl rfl (q_build (vs := [(0, .int .i64 1)]) (cs := [.int .i64 1, .slice none 0 0, .slice none 0 0]) rfl rfl) ?_
      refine o_nil kStep 117 ?_
      refine za7 h (fun _ hx4 h => ?_) rfl
      refine o_e rfl (zab 1 Z Try.func157 N157 rfl rfl rfl (fun w P1 hF hB hS hT => spec_meEnd.calls 1 none 0 0 ([] : List SStep) none 0 0 [] 0 hB hF (stab_nil _) (Nat.le_refl 0) hx4)) (cur2 (fun A5 c6 => ?_))
      refine o_e rfl (zaf (i := 2) rfl rfl rfl Z36 rfl rfl) (fun _ => ?_)
      refine o_end ?_
      refine za1 ?_
      refine c_ret ?_
      refine za3 ?_
      refine x_fact (p := 0 = ([] : List SStep).length) (fun w h => (h.row_C (i := 0) rfl).2.1) (fun hn7 => ?_)
      have e0_ := Option.some.inj h; clear h
      have d0_ := (Prod.mk.inj e0_).1; have e1_ := (Prod.mk.inj e0_).2; clear e0_; subst d0_
      subst e1_
      exact x_r1 (none, 0, A5, c6) Try.results101 (rv_cell (cs := #[.int .i64 1, .slice none 0 0, .slice A5 (([0] : List Int).length) c6]) rfl G36 Z36 (fun w h => h.zaa (i := 2) rfl) rfl) (by (try rw [hn7]); first | done | rfl) (f_pickE (L1 := [row kStep 117 (.slice none 0 0) ([] : List SStep), row (Kd.int .i64) 3 (.slice A5 (([0] : List Int).length) c6) ([0] : List Int), box g1 36 #[.int .i64 1, .slice none 0 0, .slice A5 (([0] : List Int).length) c6]]) rfl [0, 1] (by decide) rfl (by (try rw [hn7]); first | done | rfl))
    · skip
      replace h := br_f hb3 h
      refine zaj ?_
      refine za1 ?_
      refine c_seq ?_
      refine za0 ?_
      refine o_q rfl rfl (za2 rfl) ?_
      refine za7 h (fun i9 hx8 h => ?_) rfl
      refine o_e rfl (zab 0 Z Try.func159 N159 rfl rfl rfl (fun w P1 hF hB hS hT => spec_meFactor.calls k a0 hB hF _ hx8)) (fun _ => ?_)
      refine o_q rfl rfl (q_asg rfl) ?_
      refine o_end ?_
      refine za1 ?_
      refine c_seq ?_
      refine c_seq ?_
      refine za0 ?_
      refine o_q rfl rfl (za2 rfl) ?_
      refine o_q rfl rfl (za2 rfl) ?_
      refine o_q rfl rfl (q_eql rfl rfl) ?_
      refine o_end ?_
      refine za1 ?_
      refine zao _ rfl (fun hb10 => ?_) (fun hb10 => ?_)
      · skip
        replace h := br_t hb10 h
        refine c_seq ?_
        refine za0 ?_
        refine o_q rfl rfl (za2 rfl) ?_
        refine o_q rfl rfl (q_sub64 rfl rfl) ?_
        refine bindE2 h (fun l12 l13 hx11 h => ?_) rfl
        refine o_e rfl (zab 0 Z Try.func101 N101 rfl rfl rfl (fun w P1 hF hB hS hT => ih (w64 (a0 - 1)) hB hF _ _ hx11)) (cur4 (fun A14 c15 A16 c17 => ?_))
        refine o_e rfl (e_alloc V36 rfl) (fun g18 => ?_)
        refine o_e rfl (zaf (i := 0) rfl rfl rfl Z36 rfl rfl) (fun _ => ?_)
        refine o_end ?_
        refine za1 ?_
        refine za7 h (fun o805 hl806 hR807 => ?_) rfl
        clear h
        refine c_cutJ (σ := (List SStep) × Nat × (Option Addr) × Nat) (fun (l802, g801, A803, c804) => some l802 = some o805) [5, 6, 22, 23, 24, 25, 26, 27, 28, 29, 30] (fun (l802, g801, A803, c804) => [(5, .pointer (some ⟨g801, 0, none⟩)), (6, .int .i64 (w64 (1 + (l12.length : Int))))]) (fun (l802, g801, A803, c804) => [box g1 36 #[.int .i64 0, .slice none 0 0, .slice none 0 0], box g801 36 #[.int .i64 1, .slice A803 l802.length c804, .slice none 0 0], row kStep 117 (.slice A803 l802.length c804) l802, row (Kd.int .i64) 3 (.slice none 0 0) [], box g18 36 #[.int .i64 1, .slice A14 l12.length c15, .slice A16 l13.length c17], row kStep 117 (.slice A14 l12.length c15) l12, row (Kd.int .i64) 3 (.slice A16 l13.length c17) l13]) ?_ ?_
        · skip
          have h := hl806; clear hl806
          clear hR807
          refine za7 h (fun y993 hg992 h => ?_) rfl
          refine za7 h (fun l1112 hx1111 h => ?_) rfl
          refine a_start (ds := []) MO rfl ?_
          refine a_take 0 rfl rfl rfl (by kernel_rfl) (fun _ _ _ h => h) (fun w h => h) (q_ldB G36 Z36 rfl (fun w h => h.zaa (i := 0) rfl) rfl) ?_
          refine za8 1 rfl rfl rfl (by kernel_rfl) (fun _ _ _ h => h) (q_f F36_2 rfl) ?_
          refine a_take 2 rfl rfl rfl (by kernel_rfl) (fun _ _ _ h => h) (fun w h => h) (q_ldb Y22 rfl (fun w h => h.zaa (i := 0) rfl) rfl) ?_
          refine a_fact (p := Sh A16 l13.length l13.length) (fun w h => f_sh (dk := (Kd.int .i64)) h (fun w h => h.row_Cn (i := 2) rfl)) (fun hq991 => ?_)
          refine za8 3 rfl rfl rfl (by kernel_rfl) (fun _ _ _ h => h) (q_ix Try.underlying22 Z3 rfl rfl hq991 hg992) ?_
          refine a_take 4 rfl rfl rfl (by kernel_rfl) (fun _ _ _ h => h) (fun w h => h) (q_lde (off := 0) Y3 rfl rfl (fun w h => h.row_Cn (i := 2) rfl) hg992 (fun _ _ h => h) rfl) ?_
          refine a_two 5 9 rfl rfl rfl rfl (by kernel_rfl) rfl rfl (zab 0 Z Try.func80 N80 rfl rfl rfl (fun w P1 hF hB hS hT => spec_meTimes.calls 1 A14 c15 l12.length l12 A16 c17 l13.length l13 y993 0 hB hF (hT 1 _ rfl).row (hT 1 _ rfl).cap (hT 2 _ rfl).row (hT 2 _ rfl).cap _ hx1111)) (fun s w h => zac [some 2, some 3, some 4, some 5] (by decide) w h rfl) (e_alloc V36 rfl) (fun s w h => zac [some 1, some 2, some 3, some 4] (by decide) w h rfl) (cur2 (fun A1113 c1114 => ?_)) (fun g1351 => ?_)
          · skip
            refine za8 6 rfl rfl rfl (by kernel_rfl) (fun _ _ _ h => h) (za2 rfl) ?_
            refine za8 7 rfl rfl rfl (by kernel_rfl) (fun _ _ _ h => h) (q_ext rfl rfl) ?_
            refine za8 8 rfl rfl rfl (by kernel_rfl) (fun _ _ _ h => h) (q_ext rfl rfl) ?_
            refine a_one 9 rfl rfl (by kernel_rfl) rfl (e_alloc V36 rfl) (fun s w h => zac [some 3, some 4, some 5, some 6] (by decide) w h rfl) (fun g1351 => ?_)
            refine a_one 10 rfl rfl (by kernel_rfl) rfl (zaf (i := 0) rfl rfl rfl Z36 rfl rfl) (fun s w h => zac [some 3, some 4, some 5, some 6] (by decide) w h rfl) (fun _ => ?_)
            refine za8 11 rfl rfl rfl (by kernel_rfl) (fun _ _ _ h => h) (q_asg rfl) ?_
            refine a_done (by kernel_rfl) ?_
            refine x_meetJ (l1112, g1351, A1113, c1114) h ⟨rfl, rfl, trivial⟩ (fun w h => za6 [6, 0, 1, 2, 3, 4, 5] (by decide) rfl w h) ?_
            repeat (first | exact zah _ _ | refine zam rfl ?_ | refine zai rfl ?_ | refine zan rfl ?_)
          · skip
            refine a_one 5 rfl rfl (by kernel_rfl) rfl (zab 0 Z Try.func80 N80 rfl rfl rfl (fun w P1 hF hB hS hT => spec_meTimes.calls 1 A14 c15 l12.length l12 A16 c17 l13.length l13 y993 0 hB hF (hT 2 _ rfl).row (hT 2 _ rfl).cap (hT 3 _ rfl).row (hT 3 _ rfl).cap _ hx1111)) (fun s w h => zac [some 3, some 4, some 5, some 6] (by decide) w h rfl) (cur2 (fun A1113 c1114 => ?_))
            refine za8 6 rfl rfl rfl (by kernel_rfl) (fun _ _ _ h => h) (za2 rfl) ?_
            refine za8 7 rfl rfl rfl (by kernel_rfl) (fun _ _ _ h => h) (q_ext rfl rfl) ?_
            refine za8 8 rfl rfl rfl (by kernel_rfl) (fun _ _ _ h => h) (q_ext rfl rfl) ?_
            refine a_one 10 rfl rfl (by kernel_rfl) rfl (zaf (i := 2) rfl rfl rfl Z36 rfl rfl) (fun s w h => zac [some 3, some 4, some 5, some 6] (by decide) w h rfl) (fun _ => ?_)
            refine za8 11 rfl rfl rfl (by kernel_rfl) (fun _ _ _ h => h) (q_asg rfl) ?_
            refine a_done (by kernel_rfl) ?_
            refine x_meetJ (l1112, g1351, A1113, c1114) h ⟨rfl, rfl, trivial⟩ (fun w h => za6 [6, 2, 0, 1, 3, 4, 5] (by decide) rfl w h) ?_
            repeat (first | exact zah _ _ | refine zam rfl ?_ | refine zai rfl ?_ | refine zan rfl ?_)
        · skip
          refine (cur4 (fun l802 g801 A803 c804 => fun U808 hJ809 => ?_))
          have e_ := Option.some.inj hJ809; have h := hR807; rw [← e_] at h; clear e_ hJ809 hR807 hl806
          refine c_seq ?_
          refine za0 ?_
          refine o_q rfl rfl (q_ldB G36 Z36 rfl (fun w h => h.zaa (i := 1) rfl) rfl) ?_
          refine o_q rfl rfl (za2 rfl) ?_
          refine o_pick [2, 0, 1, 3, 4, 5, 6] (by decide) rfl ?_
          refine za7 h (fun _ hx1591 h => ?_) rfl
          refine o_e rfl (zab 1 Z Try.func157 N157 rfl rfl rfl (fun w P1 hF hB hS hT => spec_meEnd.calls 1 A803 c804 l802.length l802 none 0 0 [] (w64 (1 + (l12.length : Int))) hB hF (hT 2 _ rfl).row (hT 2 _ rfl).cap hx1591)) (cur2 (fun A1592 c1593 => ?_))
          refine o_e rfl (zaf (i := 2) rfl rfl rfl Z36 rfl rfl) (fun _ => ?_)
          refine o_end ?_
          refine za1 ?_
          refine c_ret ?_
          refine za3 ?_
          have e0_ := Option.some.inj h; clear h
          have d0_ := (Prod.mk.inj e0_).1; have e1_ := (Prod.mk.inj e0_).2; clear e0_; subst d0_
          subst e1_
          exact x_r1 (A803, c804, A1592, c1593) Try.results101 (rv_cell rfl G36 Z36 (fun w h => h.zaa (i := 2) rfl) rfl) rfl (fun w h => za6 [0, 1] (by decide) rfl w h)
      · skip
        replace h := br_f hb10 h
        refine zaj ?_
        refine za1 ?_
        refine c_seq ?_
        refine za0 ?_
        refine o_q rfl rfl (za2 rfl) ?_
        refine bindE2 h (fun l1595 l1596 hx1594 h => ?_) rfl
        refine o_e rfl (zab 0 Z Try.func101 N101 rfl rfl rfl (fun w P1 hF hB hS hT => ih i9 hB hF _ _ hx1594)) (cur4 (fun A1597 c1598 A1599 c1600 => ?_))
        refine o_e rfl (e_alloc V36 rfl) (fun g1601 => ?_)
        refine o_e rfl (zaf (i := 0) rfl rfl rfl Z36 rfl rfl) (fun _ => ?_)
        refine o_end ?_
        refine za1 ?_
        refine c_seq ?_
        refine a_start (ds := []) MO rfl ?_
        refine za8 0 rfl rfl rfl (by kernel_rfl) (fun _ _ _ h => h) (q_f F36_1 rfl) ?_
        refine a_take 1 rfl rfl rfl (by kernel_rfl) (fun _ _ _ h => h) (fun w h => h) (q_ldb Y34 rfl (fun w h => h.zaa (i := 0) rfl) rfl) ?_
        refine za8 2 rfl rfl rfl (by kernel_rfl) (fun _ _ _ h => h) (za2 rfl) ?_
        refine za8 3 rfl rfl rfl (by kernel_rfl) (fun _ _ _ h => h) (za2 rfl) ?_
        refine za7 h (fun _ hz1603 h => ?_) rfl
        refine za8 4 rfl rfl rfl (by kernel_rfl) (fun _ _ _ h => h) (q_quo64 rfl rfl (nz_ne hz1603)) ?_
        refine za8 6 rfl rfl rfl (by kernel_rfl) (fun _ _ _ h => h) (q_f F36_2 rfl) ?_
        refine a_take 7 rfl rfl rfl (by kernel_rfl) (fun _ _ _ h => h) (fun w h => h) (q_ldb Y22 rfl (fun w h => h.zaa (i := 0) rfl) rfl) ?_
        refine bindE2 h (fun l1605 l1606 hx1604 h => ?_) rfl
        refine a_one 5 rfl rfl (by kernel_rfl) rfl (zab 0 Z Try.func101 N101 rfl rfl rfl (fun w P1 hF hB hS hT => ih (w64 (a0.tdiv i9)) hB hF _ _ hx1604)) (fun s w h => zac [some 2, some 3, some 4, some 5] (by decide) w h rfl) (cur4 (fun A1607 c1608 A1609 c1610 => ?_))
        refine bindE2 h (fun l1612 l1613 hx1611 h => ?_) rfl
        refine a_one 8 rfl rfl (by kernel_rfl) rfl (zab 0 Z Try.func160 N160 rfl rfl rfl (fun w P1 hF hB hS hT => spec_plThen.calls A1597 c1598 l1595.length l1595 1 1 A1607 c1608 l1605.length l1605 A1609 c1610 l1606.length l1606 A1599 c1600 l1596.length l1596 hB hF (hT 3 _ rfl).row (hT 3 _ rfl).cap (hT 0 _ rfl).row (hT 0 _ rfl).cap (hT 1 _ rfl).row (hT 1 _ rfl).cap (hT 4 _ rfl).row (hT 4 _ rfl).cap _ _ hx1611)) (fun s w h => zac [some 4, some 5, some 6, some 7] (by decide) w h rfl) (cur4 (fun A1614 c1615 A1616 c1617 => ?_))
        refine za8 9 rfl rfl rfl (by kernel_rfl) (fun _ _ _ h => h) (za2 rfl) ?_
        refine za8 10 rfl rfl rfl (by kernel_rfl) (fun _ _ _ h => h) (q_ext rfl rfl) ?_
        refine za8 11 rfl rfl rfl (by kernel_rfl) (fun _ _ _ h => h) (q_ext rfl rfl) ?_
        refine za8 12 rfl rfl rfl (by kernel_rfl) (fun _ _ _ h => h) (q_asg rfl) ?_
        refine za8 13 rfl rfl rfl (by kernel_rfl) (fun _ _ _ h => h) (q_asg rfl) ?_
        refine a_done (by kernel_rfl) ?_
        refine za1 ?_
        refine c_seq ?_
        refine za0 ?_
        refine o_q rfl rfl (za2 rfl) ?_
        refine o_q rfl rfl (za2 rfl) ?_
        refine o_q rfl rfl (q_build (vs := [(0, .int .i64 1), (1, .slice A1614 l1612.length c1615), (2, .slice A1616 l1613.length c1617)]) (cs := [.int .i64 1, .slice A1614 l1612.length c1615, .slice A1616 l1613.length c1617]) rfl rfl) ?_
        refine o_e rfl (zaf (i := 7) rfl rfl rfl Z36 rfl rfl) (fun _ => ?_)
        refine o_end ?_
        refine za1 ?_
        refine c_ret ?_
        have e0_ := Option.some.inj h; clear h
        have d0_ := (Prod.mk.inj e0_).1; have e1_ := (Prod.mk.inj e0_).2; clear e0_; subst d0_
        subst e1_
        exact x_r1 (A1614, c1615, A1616, c1617) Try.results101 (rv_cell rfl G36 Z36 (fun w h => h.zaa (i := 7) rfl) rfl) rfl (fun w h => za6 [0, 1] (by decide) rfl w h)

/-! ### loop.example/g01098/spec.plSum: function 173 -/
def spec_plSum.l0 (l1 : List Int) : (List Int) → (List Int) → Int → Option (List Int)
  | [], l3, i6 => some l3
  | y7 :: ys8, l3, i6 => (gt l1 i6).bind fun y20 => (spec_l1Least.f (w64 (y7 + y20)) 1000001).bind fun i22 => (ap l3 ([i22] : List Int)).bind fun l26 => spec_plSum.l0 l1 ys8 l26 (i6 + 1)
def spec_plSum.f (l0 : List Int) (l1 : List Int) : Option (List Int) := (spec_plSum.l0 l1 l0 ([] : List Int) 0).bind fun l3 => some l3
set_option maxHeartbeats 600000 in
set_option maxRecDepth 100000 in
theorem spec_plSum.calls {w0 ws : World} {P0 : Nat → Prop} (A0 : Option Addr) (c0 : Nat) (n0 : Nat) (l0 : List Int) (A1 : Option Addr) (c1 : Nat) (n1 : Nat) (l1 : List Int) (Z : Below w0.heap.size w0 ws) (hF : Fr w0 ws P0 [] ws) (R0 : Stable ws P0 (fun w => Kd.C (Kd.int .i64) w A0 n0 l0)) (hc0 : n0 ≤ c0) (R1 : Stable ws P0 (fun w => Kd.C (Kd.int .i64) w A1 n1 l1)) (hc1 : n1 ≤ c1) (r_1 : List Int) (h : spec_plSum.f l0 l1 = some r_1) :
    Calls Try.prog 173 #[.slice A0 n0 c0, .slice A1 n1 c1] ws (Post1 w0 ws P0 (fun ((q_2, q_3) : (Option Addr) × Nat) => .slice q_2 r_1.length q_3) (fun ((q_2, q_3) : (Option Addr) × Nat) => [row (Kd.int .i64) 3 (.slice q_2 r_1.length q_3) r_1])) := by
  unfold spec_plSum.f at h
  obtain rfl := (R0 ws (KeptB.refl _ _)).1
  obtain rfl := (R1 ws (KeptB.refl _ _)).1
  refine enter Try.func173 rfl Try.ntmps173 rfl hF ?_
  refine c_seq ?_
  refine za0 ?_
  refine o_q rfl rfl (q_asg rfl) ?_
  refine o_end ?_
  refine za1 ?_
  refine c_seq ?_
  refine za0 ?_
  refine o_q rfl rfl (q_asg rfl) ?_
  refine o_end ?_
  refine za1 ?_
  refine c_seq ?_
  refine c_seq ?_
  refine za0 ?_
  refine o_q rfl rfl (za2 rfl) ?_
  refine o_q rfl rfl (q_len Try.underlying22 rfl) ?_
  refine o_q rfl rfl (za2 rfl) ?_
  refine o_end ?_
  refine za1 ?_
  refine zal ?_
  refine c_nil (Kd.int .i64) 3 ?_
  refine za7 h (fun o14 hl13 hR12 => ?_) rfl
  clear h
  refine c_fact (p := l0.length ≤ 9223372036854775807) (fun w h => (R0.now Z h).2.1) (fun hm11 => ?_)
  refine c_loopL (σ := (List Int) × (List Int) × Int × (Option Addr) × Nat) (fun k9 ((ys8, l3, i6, A4, c5) : (List Int) × (List Int) × Int × (Option Addr) × Nat) => Rg l0 i6 ys8 ∧ ys8.length = k9 ∧ spec_plSum.l0 l1 ys8 l3 i6 = some o14) [5, 6, 9, 10, 11, 12, 13, 14, 15, 16, 17, 18, 19, 20, 21, 22, 23, 24, 25] (fun ((ys8, l3, i6, A4, c5) : (List Int) × (List Int) × Int × (Option Addr) × Nat) => [(5, .slice A4 l3.length c5), (9, .int .i64 i6)]) (fun ((ys8, l3, i6, A4, c5) : (List Int) × (List Int) × Int × (Option Addr) × Nat) => [row (Kd.int .i64) 3 (.slice A4 l3.length c5) l3]) l0.length (l0, ([] : List Int), 0, none, 0) ⟨Rg.start _, rfl, hl13⟩ ⟨rfl, rfl, trivial⟩ (fun w h => h) ?_
  refine fun k9 => cur5 (listC (fun l3 i6 A4 c5 U15 hJ_ => ?_) (fun y7 ys8 l3 i6 A4 c5 U15 hJ_ => ?_))
  · skip
    clear hl13
    have hr10 := hJ_.1; have hk16 := hJ_.2.1; have h := hJ_.2.2; clear hJ_
    replace h : spec_plSum.l0 l1 [] l3 i6 = some o14 := h
    rw [spec_plSum.l0] at h
    refine c_seq ?_
    refine za0 ?_
    refine o_q rfl rfl (q_lss rfl rfl) ?_
    refine o_end ?_
    refine za1 ?_
    refine c_seq ?_
    refine c_false (congrArg Value.bool hr10.ge) ?_
    refine c_exit ?_
    refine za9 ?_
    refine za9 ?_
    have e_ := Option.some.inj h; replace h := hR12; rw [← e_] at h; clear e_
    refine x_hit ?_
    refine za1 ?_
    refine c_seq ?_
    refine za0 ?_
    refine o_q rfl rfl (za2 rfl) ?_
    refine o_q rfl rfl (q_asg rfl) ?_
    refine o_end ?_
    refine za1 ?_
    refine c_ret ?_
    have e0_ := Option.some.inj h; clear h
    subst e0_
    exact x_r1 (A4, c5) Try.results173 (zad rfl) rfl (fun w h => za6 [0] (by decide) rfl w h)
  · skip
    clear hl13
    have hr10 := hJ_.1; have hk16 := hJ_.2.1; have h := hJ_.2.2; clear hJ_
    replace h : spec_plSum.l0 l1 (y7 :: ys8) l3 i6 = some o14 := h
    rw [spec_plSum.l0] at h
    refine c_seq ?_
    refine za0 ?_
    refine o_q rfl rfl (q_lss rfl rfl) ?_
    refine o_end ?_
    refine za1 ?_
    refine c_seq ?_
    refine c_true (congrArg Value.bool hr10.lt) ?_
    refine zaj ?_
    refine za1 ?_
    refine c_seq ?_
    refine zal ?_
    refine c_seq ?_
    refine za0 ?_
    refine o_q rfl rfl (za2 rfl) ?_
    refine o_q rfl rfl (q_asg rfl) ?_
    refine o_end ?_
    refine za1 ?_
    refine a_startS (ds := []) [none] MO rfl ?_
    refine za8 0 rfl rfl rfl (by kernel_rfl) (fun _ _ _ h => h) (za2 rfl) ?_
    refine za8 1 rfl rfl rfl (by kernel_rfl) (fun _ _ _ h => h) (za2 rfl) ?_
    refine za8 2 rfl rfl rfl (by kernel_rfl) (fun _ _ _ h => h) (za2 rfl) ?_
    refine a_fact (p := Sh A0 l0.length l0.length) (fun w h => f_sh (dk := (Kd.int .i64)) h (fun w h => R0.now Z h)) (fun hq17 => ?_)
    refine za8 3 rfl rfl rfl (by kernel_rfl) (fun _ _ _ h => h) (q_ix Try.underlying22 Z3 rfl rfl hq17 hr10.get) ?_
    refine a_take 4 rfl rfl rfl (by kernel_rfl) (fun _ _ _ h => h) (fun w h => zac [none] (by decide) w h rfl) (q_lde (off := 0) Y3 rfl rfl (fun w h => R0.now Z h) hr10.get (fun _ _ h => h) rfl) ?_
    refine za8 5 rfl rfl rfl (by kernel_rfl) (fun _ _ _ h => h) (za2 rfl) ?_
    refine za8 6 rfl rfl rfl (by kernel_rfl) (fun _ _ _ h => h) (za2 rfl) ?_
    refine a_fact (p := Sh A1 l1.length l1.length) (fun w h => f_sh (dk := (Kd.int .i64)) h (fun w h => R1.now Z h)) (fun hq18 => ?_)
    refine za7 h (fun y20 hg19 h => ?_) rfl
    refine za8 7 rfl rfl rfl (by kernel_rfl) (fun _ _ _ h => h) (q_ix Try.underlying22 Z3 rfl rfl hq18 hg19) ?_
    refine a_take 8 rfl rfl rfl (by kernel_rfl) (fun _ _ _ h => h) (fun w h => zac [none] (by decide) w h rfl) (q_lde (off := 0) Y3 rfl rfl (fun w h => R1.now Z h) hg19 (fun _ _ h => h) rfl) ?_
    refine za8 9 rfl rfl rfl (by kernel_rfl) (fun _ _ _ h => h) (q_add64 rfl rfl) ?_
    refine za7 h (fun i22 hx21 h => ?_) rfl
    refine a_one 10 rfl rfl (by kernel_rfl) rfl (zab 0 Z Try.func177 N177 rfl rfl rfl (fun w P1 hF hB hS hT => spec_l1Least.calls (w64 (y7 + y20)) 1000001 hB hF _ hx21)) (fun s w h => zac [none] (by decide) w h rfl) (fun _ => ?_)
    refine a_one 11 rfl rfl (by kernel_rfl) rfl (e_lit (vs := [(0, .int .i64 i22)]) (cs := [.int .i64 i22]) (Kd.int .i64) ([i22] : List Int) Try.underlying22 I3 (by decide) rfl (by decide) rfl rfl (fun _ _ => Kd.reps_scalar _)) (fun s w h => zac [none] (by decide) w h rfl) (cur2 (fun A23 c24 => ?_))
    refine za7 h (fun l26 ha27 h => ?_) rfl
    refine a_one 12 rfl rfl (by kernel_rfl) rfl (e_app (i := 1) (j := 0) Try.underlying22 I3 rfl (by decide) (by decide) rfl rfl rfl rfl rfl ha27) (fun s w h => zac [none] (by decide) w h rfl) (cur2 (fun A28 c29 => ?_))
    refine za8 13 rfl rfl rfl (by kernel_rfl) (fun _ _ _ h => h) (q_asg rfl) ?_
    refine a_done (by kernel_rfl) ?_
    refine x_block ?_
    refine za1 ?_
    refine za0 ?_
    refine o_q rfl rfl (q_up rfl rfl (hr10.up hm11)) ?_
    refine o_q rfl rfl (za2 rfl) ?_
    refine o_end ?_
    refine x_roundL ys8.length (ys8, l26, i6 + 1, A28, c29) (by rw [← hk16]; exact Nat.lt_succ_self _) ⟨hr10.step, rfl, h⟩ ⟨rfl, rfl, trivial⟩ (fun w h => za6 [1] (by decide) rfl w h) ?_
    repeat (first | exact zah _ _ | refine zam rfl ?_ | refine zai rfl ?_ | refine zan rfl ?_)

/-! ### loop.example/g01098/spec.plExponents: function 135 -/
def spec_plExponents.l1 : (List SStep) → (List (List Int)) → Int → Option (List (List Int))
  | [], l39, i43 => some l39
  | y44 :: ys45, l39, i43 => (gt l39 y44.f0).bind fun y300 => (gt l39 y44.f1).bind fun y599 => (spec_plSum.f y300 y599).bind fun l719 => (ap l39 ([l719] : List (List Int))).bind fun l838 => spec_plExponents.l1 ys45 l838 (i43 + 1)
def spec_plExponents.l0 (a0_0 : Int) : Nat → (List (List Int)) → Int → Option (List (List Int))
  | 0, _, _ => none
  | k11 + 1, l4, i8 => if i8 < a0_0 then ((mk0 a0_0 (0 : Int)).bind fun l20 => (gt l20 i8).bind fun y27 => (st l20 i8 1).bind fun l28 => (ap l4 ([l28] : List (List Int))).bind fun l34 => spec_plExponents.l0 a0_0 k11 l34 (w64 (i8 + 1))) else (some l4)
def spec_plExponents.f (k : Nat) (a0_0 : Int) (l0_1 : List SStep) (l0_2 : List Int) : Option (List (List Int)) := (spec_plExponents.l0 a0_0 k ([] : List (List Int)) 0).bind fun l4 => (spec_plExponents.l1 l0_1 l4 0).bind fun l39 => some l39
set_option maxHeartbeats 600000 in
set_option maxRecDepth 100000 in
theorem spec_plExponents.calls (k : Nat) {w0 ws : World} {P0 : Nat → Prop} (a0_0 : Int) (A0_1 : Option Addr) (c0_1 : Nat) (n0_1 : Nat) (l0_1 : List SStep) (A0_2 : Option Addr) (c0_2 : Nat) (n0_2 : Nat) (l0_2 : List Int) (Z : Below w0.heap.size w0 ws) (hF : Fr w0 ws P0 [] ws) (R0_1 : Stable ws P0 (fun w => Kd.C kStep w A0_1 n0_1 l0_1)) (hc0_1 : n0_1 ≤ c0_1) (R0_2 : Stable ws P0 (fun w => Kd.C (Kd.int .i64) w A0_2 n0_2 l0_2)) (hc0_2 : n0_2 ≤ c0_2) (r_1 : List (List Int)) (h : spec_plExponents.f k a0_0 l0_1 l0_2 = some r_1) :
    Calls Try.prog 135 #[.agg #[.int .i64 a0_0, .slice A0_1 n0_1 c0_1, .slice A0_2 n0_2 c0_2]] ws (Post1 w0 ws P0 (fun ((q_2, q_3, q_4) : (Option Addr) × Nat × Hd) => .slice q_2 r_1.length q_3) (fun ((q_2, q_3, q_4) : (Option Addr) × Nat × Hd) => [row (gk 3 (Kd.int .i64)) 22 (.slice q_2 r_1.length q_3) (zp q_4 r_1)])) := by
  unfold spec_plExponents.f at h
  obtain rfl := (R0_1 ws (KeptB.refl _ _)).1
  obtain rfl := (R0_2 ws (KeptB.refl _ _)).1
  refine enter Try.func135 rfl Try.ntmps135 rfl hF ?_
  refine c_seq ?_
  refine za0 ?_
  refine o_e rfl (e_box rfl) (fun g1 => ?_)
  refine o_q rfl rfl (q_asg rfl) ?_
  refine o_end ?_
  refine za1 ?_
  refine c_seq ?_
  refine za0 ?_
  refine o_q rfl rfl (q_asg rfl) ?_
  refine o_end ?_
  refine za1 ?_
  refine c_seq ?_
  refine c_seq ?_
  refine za0 ?_
  refine o_q rfl rfl (q_asg rfl) ?_
  refine o_end ?_
  refine za1 ?_
  refine zal ?_
  refine c_nil (gk 3 (Kd.int .i64)) 22 ?_
  refine za7 h (fun o16 hl15 hR14 => ?_) rfl
  clear h
  refine c_loopL (σ := (List (List Int)) × Int × (Option Addr) × Nat × Hd) (fun k11 ((l4, i8, A5, c6, H7) : (List (List Int)) × Int × (Option Addr) × Nat × Hd) => spec_plExponents.l0 a0_0 k11 l4 i8 = some o16) [3, 4, 5, 8, 9, 10, 11, 12, 13, 14, 15, 16, 17, 18, 19, 20, 21, 22, 23] (fun ((l4, i8, A5, c6, H7) : (List (List Int)) × Int × (Option Addr) × Nat × Hd) => [(3, .slice A5 l4.length c6), (4, .int .i64 i8)]) (fun ((l4, i8, A5, c6, H7) : (List (List Int)) × Int × (Option Addr) × Nat × Hd) => [row (gk 3 (Kd.int .i64)) 22 (.slice A5 l4.length c6) (zp H7 l4), box g1 36 #[.int .i64 a0_0, .slice A0_1 l0_1.length c0_1, .slice A0_2 l0_2.length c0_2]]) k (([] : List (List Int)), 0, none, 0, ([] : Hd)) hl15 ⟨rfl, rfl, trivial⟩ (fun w h => h) ?_
  refine natC (cur5 (fun l4 i8 A5 c6 H7 => fun U17 hJ_ => ?_)) (fun k11 => (cur5 (fun l4 i8 A5 c6 H7 => fun U17 hJ_ => ?_)))
  · skip
    replace hJ_ : spec_plExponents.l0 a0_0 0 l4 i8 = some o16 := hJ_
    rw [spec_plExponents.l0] at hJ_
    exact noneE hJ_
  · skip
    clear hl15
    have h := hJ_; clear hJ_
    replace h : spec_plExponents.l0 a0_0 (k11 + 1) l4 i8 = some o16 := h
    rw [spec_plExponents.l0] at h
    refine c_seq ?_
    refine c_seq ?_
    refine za0 ?_
    refine o_q rfl rfl (za2 rfl) ?_
    refine o_q rfl rfl (q_f F36_0 rfl) ?_
    refine o_q rfl rfl (q_ldb Y3 rfl (fun w h => h.zaa (i := 1) rfl) rfl) ?_
    refine o_q rfl rfl (q_lss rfl rfl) ?_
    refine o_end ?_
    refine za1 ?_
    refine zao _ rfl (fun hb19 => ?_) (fun hb19 => ?_)
    · skip
      replace h := br_t hb19 h
      refine zaj ?_
      refine za1 ?_
      refine c_seq ?_
      refine zal ?_
      refine c_seq ?_
      refine za0 ?_
      refine o_q rfl rfl (q_f F36_0 rfl) ?_
      refine o_q rfl rfl (q_ldb Y3 rfl (fun w h => h.zaa (i := 1) rfl) rfl) ?_
      refine za7 h (fun l20 hm21 h => ?_) rfl
      refine o_e rfl (e_make (Kd.int .i64) (0 : Int) Try.underlying22 I3 rfl (by decide) (by decide) (fun _ _ => rfl) rfl rfl hm21) (cur2 (fun A22 c23 => ?_))
      refine o_q rfl rfl (q_asg rfl) ?_
      refine o_end ?_
      refine za1 ?_
      refine c_seq ?_
      refine za0 ?_
      refine o_q rfl rfl (za2 rfl) ?_
      refine o_q rfl rfl (za2 rfl) ?_
      refine o_fact (p := Sh A22 l20.length l20.length) (fun w h => f_sh (dk := (Kd.int .i64)) h (fun w h => h.row_Cn (i := 0) rfl)) (fun hq25 => ?_)
      refine za7 h (fun y27 hg26 h => ?_) rfl
      refine o_q rfl rfl (q_ix Try.underlying22 Z3 rfl rfl hq25 hg26) ?_
      refine za7 h (fun l28 hs29 h => ?_) rfl
      refine o_e rfl (e_set (i := 0) rfl rfl rfl Z3 hs29) (fun _ => ?_)
      refine o_end ?_
      refine za1 ?_
      refine za0 ?_
      refine o_q rfl rfl (za2 rfl) ?_
      refine o_q rfl rfl (za2 rfl) ?_
      refine o_e rfl (e_litG (j := 0) (ue := 3) (dk := (Kd.int .i64)) (ys := l28) Try.underlying109 I22 rfl rfl rfl) (cur3 (fun A30 c31 H33 => ?_))
      refine za7 h (fun l34 ha35 h => ?_) rfl
      refine o_e rfl (e_appG (i := 2) (j := 0) Try.underlying109 I22 rfl (by decide) rfl rfl rfl rfl rfl ha35) (cur3 (fun A36 c37 H38 => ?_))
      refine o_q rfl rfl (q_asg rfl) ?_
      refine o_end ?_
      refine x_block ?_
      refine za1 ?_
      refine za0 ?_
      refine o_q rfl rfl (za2 rfl) ?_
      refine o_q rfl rfl (q_add64 rfl rfl) ?_
      refine o_q rfl rfl (q_asg rfl) ?_
      refine o_end ?_
      refine x_roundL k11 (l34, w64 (i8 + 1), A36, c37, H38) (Nat.lt_succ_self _) h ⟨rfl, rfl, trivial⟩ (fun w h => za6 [2, 3] (by decide) rfl w h) ?_
      repeat (first | exact zah _ _ | refine zam rfl ?_ | refine zai rfl ?_ | refine zan rfl ?_)
    · skip
      replace h := br_f hb19 h
      refine c_exit ?_
      refine za9 ?_
      refine za9 ?_
      have e_ := Option.some.inj h; replace h := hR14; rw [← e_] at h; clear e_
      refine x_hit ?_
      refine za1 ?_
      refine c_seq ?_
      refine c_seq ?_
      refine za0 ?_
      refine o_q rfl rfl (q_f F36_1 rfl) ?_
      refine o_q rfl rfl (q_ldb Y34 rfl (fun w h => h.zaa (i := 1) rfl) rfl) ?_
      refine o_q rfl rfl (q_len Try.underlying34 rfl) ?_
      refine o_q rfl rfl (za2 rfl) ?_
      refine o_end ?_
      refine za1 ?_
      refine zal ?_
      refine za7 h (fun o51 hl50 hR49 => ?_) rfl
      clear h
      refine c_fact (p := l0_1.length ≤ 9223372036854775807) (fun w h => (R0_1.now Z h).2.1) (fun hm48 => ?_)
      refine c_loopL (σ := (List SStep) × (List (List Int)) × Int × (Option Addr) × Nat × Hd) (fun k46 ((ys45, l39, i43, A40, c41, H42) : (List SStep) × (List (List Int)) × Int × (Option Addr) × Nat × Hd) => Rg l0_1 i43 ys45 ∧ ys45.length = k46 ∧ spec_plExponents.l1 ys45 l39 i43 = some o51) [3, 7, 27, 28, 29, 30, 31, 32, 33, 34, 35, 36, 37, 38, 39, 40, 41, 42, 43, 44, 45] (fun ((ys45, l39, i43, A40, c41, H42) : (List SStep) × (List (List Int)) × Int × (Option Addr) × Nat × Hd) => [(3, .slice A40 l39.length c41), (27, .int .i64 i43)]) (fun ((ys45, l39, i43, A40, c41, H42) : (List SStep) × (List (List Int)) × Int × (Option Addr) × Nat × Hd) => [row (gk 3 (Kd.int .i64)) 22 (.slice A40 l39.length c41) (zp H42 l39), box g1 36 #[.int .i64 a0_0, .slice A0_1 l0_1.length c0_1, .slice A0_2 l0_2.length c0_2]]) l0_1.length (l0_1, l4, 0, A5, c6, H7) ⟨Rg.start _, rfl, hl50⟩ ⟨rfl, rfl, trivial⟩ (fun w h => h) ?_
      refine fun k46 => cur6 (listC (fun l39 i43 A40 c41 H42 U52 hJ_ => ?_) (fun y44 ys45 l39 i43 A40 c41 H42 U52 hJ_ => ?_))
      · skip
        clear hl50
        have hr47 := hJ_.1; have hk53 := hJ_.2.1; have h := hJ_.2.2; clear hJ_
        replace h : spec_plExponents.l1 [] l39 i43 = some o51 := h
        rw [spec_plExponents.l1] at h
        refine c_seq ?_
        refine za0 ?_
        refine o_q rfl rfl (q_lss rfl rfl) ?_
        refine o_end ?_
        refine za1 ?_
        refine c_seq ?_
        refine c_false (congrArg Value.bool hr47.ge) ?_
        refine c_exit ?_
        refine za9 ?_
        refine za9 ?_
        have e_ := Option.some.inj h; replace h := hR49; rw [← e_] at h; clear e_
        refine x_hit ?_
        refine za1 ?_
        refine c_seq ?_
        refine za0 ?_
        refine o_q rfl rfl (za2 rfl) ?_
        refine o_q rfl rfl (q_asg rfl) ?_
        refine o_end ?_
        refine za1 ?_
        refine c_ret ?_
        have e0_ := Option.some.inj h; clear h
        subst e0_
        exact x_r1 (A40, c41, H42) Try.results135 (zad rfl) rfl (fun w h => za6 [0] (by decide) rfl w h)
      · skip
        clear hl50
        have hr47 := hJ_.1; have hk53 := hJ_.2.1; have h := hJ_.2.2; clear hJ_
        replace h : spec_plExponents.l1 (y44 :: ys45) l39 i43 = some o51 := h
        rw [spec_plExponents.l1] at h
        refine c_seq ?_
        refine za0 ?_
        refine o_q rfl rfl (q_lss rfl rfl) ?_
        refine o_end ?_
        refine za1 ?_
        refine c_seq ?_
        refine c_true (congrArg Value.bool hr47.lt) ?_
        refine zaj ?_
        refine za1 ?_
        refine c_seq ?_
        refine zal ?_
        refine c_seq ?_
        refine za0 ?_
        refine o_fact (p := Sh A0_1 l0_1.length l0_1.length) (fun w h => f_sh (dk := kStep) h (fun w h => R0_1.now Z h)) (fun hq54 => ?_)
        refine o_q rfl rfl (q_ix Try.underlying34 Z117 rfl rfl hq54 hr47.get) ?_
        refine o_q rfl rfl (q_ldE G117 Z117 rfl rfl (fun w h => R0_1.now Z h) hr47.get (fun _ _ h => h) rfl) ?_
        refine o_e rfl (e_alloc V117 rfl) (fun g55 => ?_)
        refine o_e rfl (zaf (i := 0) rfl rfl rfl Z117 rfl rfl) (fun _ => ?_)
        refine o_end ?_
        refine za1 ?_
        refine za7 h (fun y300 hg299 h => ?_) rfl
        refine za7 h (fun y599 hg598 h => ?_) rfl
        refine za7 h (fun l719 hx718 h => ?_) rfl
        refine za7 h (fun l838 ha839 h => ?_) rfl
        refine a_startS (ds := []) [some 0, none, some 2] MO rfl ?_
        refine za8 0 rfl rfl rfl (by kernel_rfl) (fun _ _ _ h => h) (za2 rfl) ?_
        refine za8 1 rfl rfl rfl (by kernel_rfl) (fun _ _ _ h => h) (za2 rfl) ?_
        refine za8 2 rfl rfl rfl (by kernel_rfl) (fun _ _ _ h => h) (q_f F117_0 rfl) ?_
        refine a_take 3 rfl rfl rfl (by kernel_rfl) (fun _ _ _ h => h) (fun w h => zac [some 0, none, some 2] (by decide) w h rfl) (q_ldb Y3 rfl (fun w h => h.zaa (i := 0) rfl) rfl) ?_
        refine a_fact (p := Sh A40 l39.length (zp H42 l39).length) (fun w h => f_sh (dk := (gk 3 (Kd.int .i64))) h (fun w h => h.row_Cn (i := 1) rfl)) (fun hq298 => ?_)
        refine za8 4 rfl rfl rfl (by kernel_rfl) (fun _ _ _ h => h) (q_ix Try.underlying109 Z22 rfl rfl hq298 (gt_zp hg299)) ?_
        refine za8 6 rfl rfl rfl (by kernel_rfl) (fun _ _ _ h => h) (za2 rfl) ?_
        refine za8 7 rfl rfl rfl (by kernel_rfl) (fun _ _ _ h => h) (q_f F117_1 rfl) ?_
        refine a_take 8 rfl rfl rfl (by kernel_rfl) (fun _ _ _ h => h) (fun w h => zac [some 0, none, some 2] (by decide) w h rfl) (q_ldb Y3 rfl (fun w h => h.zaa (i := 0) rfl) rfl) ?_
        refine za8 9 rfl rfl rfl (by kernel_rfl) (fun _ _ _ h => h) (q_ix Try.underlying109 Z22 rfl rfl hq298 (gt_zp hg598)) ?_
        refine a_fact (p := y300.length ≤ hC H42 y44.f0) (fun w h => (K_in (h.row_Cn (i := 1) rfl) hg299).1) (fun hc358 => ?_)
        refine a_fact (p := y599.length ≤ hC H42 y44.f1) (fun w h => (K_in (h.row_Cn (i := 1) rfl) hg598).1) (fun hc658 => ?_)
        refine a_two 5 10 rfl rfl rfl rfl (by kernel_rfl) rfl rfl (ev_q rfl (q_lde (off := 0) Y22 rfl rfl (fun w h => h.row_Cn (i := 1) rfl) (gt_zp hg299) (fun _ _ h => h.1) rfl)) (fun s w h => zac [some 0, none, some 2] (by decide) w h rfl) (ev_q rfl (q_lde (off := 0) Y22 rfl rfl (fun w h => h.row_Cn (i := 1) rfl) (gt_zp hg598) (fun _ _ h => h.1) rfl)) (fun s w h => zac [some 0, none, some 2] (by decide) w h rfl) (fun _ => ?_) (fun _ => ?_)
        · skip
          refine a_fact (p := y599.length ≤ hC H42 y44.f1) (fun w h => (K_in (h.row_Cn (i := 1) rfl) hg598).1) (fun hc658 => ?_)
          refine a_one 10 rfl rfl (by kernel_rfl) rfl (ev_q rfl (q_lde (off := 0) Y22 rfl rfl (fun w h => h.row_Cn (i := 1) rfl) (gt_zp hg598) (fun _ _ h => h.1) rfl)) (fun s w h => zac [some 0, none, some 2] (by decide) w h rfl) (fun _ => ?_)
          refine a_one 11 rfl rfl (by kernel_rfl) rfl (zab 0 Z Try.func173 N173 rfl rfl rfl (fun w P1 hF hB hS hT => spec_plSum.calls (hA H42 y44.f0) (hC H42 y44.f0) y300.length y300 (hA H42 y44.f1) (hC H42 y44.f1) y599.length y599 hB hF (stab_in (hT 1 _ rfl).row hg299) hc358 (stab_in (hT 1 _ rfl).row hg598) hc658 _ hx718)) (fun s w h => zac [some 1, none, some 3] (by decide) w h rfl) (cur2 (fun A720 c721 => ?_))
          refine a_one 12 rfl rfl (by kernel_rfl) rfl (e_litG (j := 0) (ue := 3) (dk := (Kd.int .i64)) (ys := l719) Try.underlying109 I22 rfl rfl rfl) (fun s w h => zac [some 2, none, some 4] (by decide) w h rfl) (cur3 (fun A778 c779 H781 => ?_))
          refine a_one 13 rfl rfl (by kernel_rfl) rfl (e_appG (i := 3) (j := 0) Try.underlying109 I22 rfl (by decide) rfl rfl rfl rfl rfl ha839) (fun s w h => zac [some 2, none, some 4] (by decide) w h rfl) (cur3 (fun A840 c841 H842 => ?_))
          refine za8 14 rfl rfl rfl (by kernel_rfl) (fun _ _ _ h => h) (q_asg rfl) ?_
          refine a_done (by kernel_rfl) ?_
          refine x_block ?_
          refine za1 ?_
          refine za0 ?_
          refine o_q rfl rfl (q_up rfl rfl (hr47.up hm48)) ?_
          refine o_q rfl rfl (za2 rfl) ?_
          refine o_end ?_
          refine x_roundL ys45.length (ys45, l838, i43 + 1, A840, c841, H842) (by rw [← hk53]; exact Nat.lt_succ_self _) ⟨hr47.step, rfl, h⟩ ⟨rfl, rfl, trivial⟩ (fun w h => za6 [3, 4] (by decide) rfl w h) ?_
          repeat (first | exact zah _ _ | refine zam rfl ?_ | refine zai rfl ?_ | refine zan rfl ?_)
        · skip
          refine a_fact (p := y300.length ≤ hC H42 y44.f0) (fun w h => (K_in (h.row_Cn (i := 1) rfl) hg299).1) (fun hc358 => ?_)
          refine a_one 5 rfl rfl (by kernel_rfl) rfl (ev_q rfl (q_lde (off := 0) Y22 rfl rfl (fun w h => h.row_Cn (i := 1) rfl) (gt_zp hg299) (fun _ _ h => h.1) rfl)) (fun s w h => zac [some 0, none, some 2] (by decide) w h rfl) (fun _ => ?_)
          refine a_one 11 rfl rfl (by kernel_rfl) rfl (zab 0 Z Try.func173 N173 rfl rfl rfl (fun w P1 hF hB hS hT => spec_plSum.calls (hA H42 y44.f0) (hC H42 y44.f0) y300.length y300 (hA H42 y44.f1) (hC H42 y44.f1) y599.length y599 hB hF (stab_in (hT 1 _ rfl).row hg299) hc358 (stab_in (hT 1 _ rfl).row hg598) hc658 _ hx718)) (fun s w h => zac [some 1, none, some 3] (by decide) w h rfl) (cur2 (fun A720 c721 => ?_))
          refine a_one 12 rfl rfl (by kernel_rfl) rfl (e_litG (j := 0) (ue := 3) (dk := (Kd.int .i64)) (ys := l719) Try.underlying109 I22 rfl rfl rfl) (fun s w h => zac [some 2, none, some 4] (by decide) w h rfl) (cur3 (fun A778 c779 H781 => ?_))
          refine a_one 13 rfl rfl (by kernel_rfl) rfl (e_appG (i := 3) (j := 0) Try.underlying109 I22 rfl (by decide) rfl rfl rfl rfl rfl ha839) (fun s w h => zac [some 2, none, some 4] (by decide) w h rfl) (cur3 (fun A840 c841 H842 => ?_))
          refine za8 14 rfl rfl rfl (by kernel_rfl) (fun _ _ _ h => h) (q_asg rfl) ?_
          refine a_done (by kernel_rfl) ?_
          refine x_block ?_
          refine za1 ?_
          refine za0 ?_
          refine o_q rfl rfl (q_up rfl rfl (hr47.up hm48)) ?_
          refine o_q rfl rfl (za2 rfl) ?_
          refine o_end ?_
          refine x_roundL ys45.length (ys45, l838, i43 + 1, A840, c841, H842) (by rw [← hk53]; exact Nat.lt_succ_self _) ⟨hr47.step, rfl, h⟩ ⟨rfl, rfl, trivial⟩ (fun w h => za6 [3, 4] (by decide) rfl w h) ?_
          repeat (first | exact zah _ _ | refine zam rfl ?_ | refine zai rfl ?_ | refine zan rfl ?_)

/-! ### loop.example/g01098/spec.l1All: function 68 -/
def spec_l1All.l0 (a1 : Int) (a2 : Int) : (List Int) → Int → Option ((Bool) ⊕ (Unit))
  | [], i1 => some (.inr ())
  | y2 :: ys3, i1 => (spec_l1In.f y2 a1 a2).bind fun b14 => if b14 = true then (spec_l1All.l0 a1 a2 ys3 (i1 + 1)) else (some (.inl false))
def spec_l1All.f (l0 : List Int) (a1 : Int) (a2 : Int) : Option Bool := (spec_l1All.l0 a1 a2 l0 0).bind fun o_ => match o_ with | .inl r_ => some r_ | .inr _ => some true
set_option maxHeartbeats 600000 in
set_option maxRecDepth 100000 in
theorem spec_l1All.calls {w0 ws : World} {P0 : Nat → Prop} (A0 : Option Addr) (c0 : Nat) (n0 : Nat) (l0 : List Int) (a1 : Int) (a2 : Int) (Z : Below w0.heap.size w0 ws) (hF : Fr w0 ws P0 [] ws) (R0 : Stable ws P0 (fun w => Kd.C (Kd.int .i64) w A0 n0 l0)) (hc0 : n0 ≤ c0) (r_1 : Bool) (h : spec_l1All.f l0 a1 a2 = some r_1) :
    Calls Try.prog 68 #[.slice A0 n0 c0, .int .i64 a1, .int .i64 a2] ws (Post1 w0 ws P0 (fun (_ : Unit) => .bool r_1) (fun (_ : Unit) => [])) := by
  unfold spec_l1All.f at h
  obtain rfl := (R0 ws (KeptB.refl _ _)).1
  refine enter Try.func68 rfl Try.ntmps68 rfl hF ?_
  refine c_seq ?_
  refine za0 ?_
  refine o_q rfl rfl (q_asg rfl) ?_
  refine o_end ?_
  refine za1 ?_
  refine c_seq ?_
  refine c_seq ?_
  refine za0 ?_
  refine o_q rfl rfl (za2 rfl) ?_
  refine o_q rfl rfl (q_len Try.underlying22 rfl) ?_
  refine o_q rfl rfl (za2 rfl) ?_
  refine o_end ?_
  refine za1 ?_
  refine zal ?_
  refine za7 h (fun o9 hl8 hR7 => ?_) rfl
  clear h
  refine c_fact (p := l0.length ≤ 9223372036854775807) (fun w h => (R0.now Z h).2.1) (fun hm6 => ?_)
  refine c_loopL (σ := (List Int) × Int) (fun k4 ((ys3, i1) : (List Int) × Int) => Rg l0 i1 ys3 ∧ ys3.length = k4 ∧ spec_l1All.l0 a1 a2 ys3 i1 = some o9) [6, 8, 11, 12, 13, 14, 15, 16, 17, 18, 19, 20] (fun ((ys3, i1) : (List Int) × Int) => [(11, .int .i64 i1)]) (fun ((ys3, i1) : (List Int) × Int) => []) l0.length (l0, 0) ⟨Rg.start _, rfl, hl8⟩ ⟨rfl, trivial⟩ (fun w h => h) ?_
  refine fun k4 => cur2 (listC (fun i1 U10 hJ_ => ?_) (fun y2 ys3 i1 U10 hJ_ => ?_))
  · skip
    clear hl8
    have hr5 := hJ_.1; have hk11 := hJ_.2.1; have h := hJ_.2.2; clear hJ_
    replace h : spec_l1All.l0 a1 a2 [] i1 = some o9 := h
    rw [spec_l1All.l0] at h
    refine c_seq ?_
    refine za0 ?_
    refine o_q rfl rfl (q_lss rfl rfl) ?_
    refine o_end ?_
    refine za1 ?_
    refine c_seq ?_
    refine c_false (congrArg Value.bool hr5.ge) ?_
    refine c_exit ?_
    refine za9 ?_
    refine za9 ?_
    have e_ := Option.some.inj h; replace h := hR7; rw [← e_] at h; clear e_
    refine x_hit ?_
    refine za1 ?_
    refine c_seq ?_
    refine za0 ?_
    refine o_q rfl rfl (q_asg rfl) ?_
    refine o_end ?_
    refine za1 ?_
    refine c_ret ?_
    have e0_ := Option.some.inj h; clear h
    subst e0_
    exact x_r1 () Try.results68 (zad rfl) rfl (fun w h => za6 [] (by decide) rfl w h)
  · skip
    clear hl8
    have hr5 := hJ_.1; have hk11 := hJ_.2.1; have h := hJ_.2.2; clear hJ_
    replace h : spec_l1All.l0 a1 a2 (y2 :: ys3) i1 = some o9 := h
    rw [spec_l1All.l0] at h
    refine c_seq ?_
    refine za0 ?_
    refine o_q rfl rfl (q_lss rfl rfl) ?_
    refine o_end ?_
    refine za1 ?_
    refine c_seq ?_
    refine c_true (congrArg Value.bool hr5.lt) ?_
    refine zaj ?_
    refine za1 ?_
    refine c_seq ?_
    refine zal ?_
    refine c_seq ?_
    refine za0 ?_
    refine o_fact (p := Sh A0 l0.length l0.length) (fun w h => f_sh (dk := (Kd.int .i64)) h (fun w h => R0.now Z h)) (fun hq12 => ?_)
    refine o_q rfl rfl (q_ix Try.underlying22 Z3 rfl rfl hq12 hr5.get) ?_
    refine o_q rfl rfl (q_lde (off := 0) Y3 rfl rfl (fun w h => R0.now Z h) hr5.get (fun _ _ h => h) rfl) ?_
    refine o_q rfl rfl (q_asg rfl) ?_
    refine o_end ?_
    refine za1 ?_
    refine c_seq ?_
    refine za0 ?_
    refine o_q rfl rfl (za2 rfl) ?_
    refine o_q rfl rfl (za2 rfl) ?_
    refine o_q rfl rfl (za2 rfl) ?_
    refine za7 h (fun b14 hx13 h => ?_) rfl
    refine o_e rfl (zab 0 Z Try.func77 N77 rfl rfl rfl (fun w P1 hF hB hS hT => spec_l1In.calls y2 a1 a2 hB hF _ hx13)) (fun _ => ?_)
    refine o_q rfl rfl (q_not rfl) ?_
    refine o_end ?_
    refine za1 ?_
    refine zao _ rfl (fun hb15 => ?_) (fun hb15 => ?_)
    · replace hb15 := nt_t hb15
      replace h := bb_f hb15 h
      refine c_seq ?_
      refine za0 ?_
      refine o_q rfl rfl (q_asg rfl) ?_
      refine o_end ?_
      refine za1 ?_
      refine c_ret ?_
      refine zae ?_
      refine za3 ?_
      refine za3 ?_
      have e_ := Option.some.inj h; replace h := hR7; rw [← e_] at h; clear e_
      refine zae ?_
      refine za3 ?_
      have e0_ := Option.some.inj h; clear h
      subst e0_
      exact x_r1 () Try.results68 (zad rfl) rfl (fun w h => za6 [] (by decide) rfl w h)
    · replace hb15 := nt_f hb15
      replace h := bb_t hb15 h
      refine zaj ?_
      refine x_block ?_
      refine za1 ?_
      refine za0 ?_
      refine o_q rfl rfl (q_up rfl rfl (hr5.up hm6)) ?_
      refine o_q rfl rfl (za2 rfl) ?_
      refine o_end ?_
      refine x_roundL ys3.length (ys3, i1 + 1) (by rw [← hk11]; exact Nat.lt_succ_self _) ⟨hr5.step, rfl, h⟩ ⟨rfl, trivial⟩ (fun w h => za6 [] (by decide) rfl w h) ?_
      repeat (first | exact zah _ _ | refine zam rfl ?_ | refine zai rfl ?_ | refine zan rfl ?_)

/-! ### loop.example/g01098/spec.plGood: function 72 -/
def spec_plGood.l1 : (List (List Int)) → Int → Option ((Bool) ⊕ (Unit))
  | [], i24 => some (.inr ())
  | y25 :: ys26, i24 => (spec_l1All.f y25 0 1000000).bind fun b40 => if b40 = true then (spec_plGood.l1 ys26 (i24 + 1)) else (some (.inl false))
def spec_plGood.l0 (a0_0 : Int) : (List SStep) → Int → Option ((Bool) ⊕ (Unit))
  | [], i8 => some (.inr ())
  | y9 :: ys10, i8 => (spec_l1In.f y9.f0 0 y9.f1).bind fun b46 => if b46 = true then (if w64 (a0_0 + i8) ≤ y9.f1 then (some (.inl false)) else (spec_plGood.l0 a0_0 ys10 (i8 + 1))) else (some (.inl false))
def spec_plGood.f (k : Nat) (a0_0 : Int) (l0_1 : List SStep) (l0_2 : List Int) : Option Bool := (spec_l1In.f a0_0 1 6).bind fun b4 => if b4 = true then (if 40 < (l0_1.length : Int) then (some false) else (if 6 < (l0_2.length : Int) then (some false) else ((spec_plGood.l0 a0_0 l0_1 0).bind fun o_ => match o_ with | .inl r_ => some r_ | .inr _ => (spec_plExponents.f k a0_0 l0_1 l0_2).bind fun l20 => (spec_plGood.l1 l20 0).bind fun o_ => match o_ with | .inl r_ => some r_ | .inr _ => (spec_l1All.f l0_2 0 (w64 (w64 (a0_0 + (l0_1.length : Int)) - 1))).bind fun b36 => some b36))) else (some false)
set_option maxHeartbeats 600000 in
set_option maxRecDepth 100000 in
theorem spec_plGood.calls (k : Nat) {w0 ws : World} {P0 : Nat → Prop} (a0_0 : Int) (A0_1 : Option Addr) (c0_1 : Nat) (n0_1 : Nat) (l0_1 : List SStep) (A0_2 : Option Addr) (c0_2 : Nat) (n0_2 : Nat) (l0_2 : List Int) (Z : Below w0.heap.size w0 ws) (hF : Fr w0 ws P0 [] ws) (R0_1 : Stable ws P0 (fun w => Kd.C kStep w A0_1 n0_1 l0_1)) (hc0_1 : n0_1 ≤ c0_1) (R0_2 : Stable ws P0 (fun w => Kd.C (Kd.int .i64) w A0_2 n0_2 l0_2)) (hc0_2 : n0_2 ≤ c0_2) (r_1 : Bool) (h : spec_plGood.f k a0_0 l0_1 l0_2 = some r_1) :
    Calls Try.prog 72 #[.agg #[.int .i64 a0_0, .slice A0_1 n0_1 c0_1, .slice A0_2 n0_2 c0_2]] ws (Post1 w0 ws P0 (fun (_ : Unit) => .bool r_1) (fun (_ : Unit) => [])) := by
  unfold spec_plGood.f at h
  obtain rfl := (R0_1 ws (KeptB.refl _ _)).1
  obtain rfl := (R0_2 ws (KeptB.refl _ _)).1
  refine enter Try.func72 rfl Try.ntmps72 rfl hF ?_
  refine c_seq ?_
  refine za0 ?_
  refine o_e rfl (e_box rfl) (fun g1 => ?_)
  refine o_q rfl rfl (q_asg rfl) ?_
  refine o_end ?_
  refine za1 ?_
  refine c_seq ?_
  refine c_seq ?_
  refine za0 ?_
  refine o_q rfl rfl (q_f F36_0 rfl) ?_
  refine o_q rfl rfl (q_ldb Y3 rfl (fun w h => h.zaa (i := 0) rfl) rfl) ?_
  refine za7 h (fun b4 hx3 h => ?_) rfl
  refine o_e rfl (zab 0 Z Try.func77 N77 rfl rfl rfl (fun w P1 hF hB hS hT => spec_l1In.calls a0_0 1 6 hB hF _ hx3)) (fun _ => ?_)
  refine o_q rfl rfl (q_not rfl) ?_
  refine o_q rfl rfl (za2 rfl) ?_
  refine byB b4 (fun hb5 => ?_) (fun hb5 => ?_)
  · replace h := bb_t hb5 h
    refine o_w (za5 rfl rfl rfl (congrArg (fun b => Value.bool (!(b))) hb5)) rfl (q_f F36_1 rfl) ?_
    refine o_w (za5 rfl rfl rfl (congrArg (fun b => Value.bool (!(b))) hb5)) rfl (q_ldb Y34 rfl (fun w h => h.zaa (i := 0) rfl) rfl) ?_
    refine o_w (za5 rfl rfl rfl (congrArg (fun b => Value.bool (!(b))) hb5)) rfl (q_len Try.underlying34 rfl) ?_
    refine o_w (za5 rfl rfl rfl (congrArg (fun b => Value.bool (!(b))) hb5)) rfl (q_gtr rfl rfl) ?_
    refine o_q rfl rfl (q_pick false (congrArg (fun b => Value.bool (!(b))) hb5) rfl) ?_
    refine o_q rfl rfl (za2 rfl) ?_
    refine byB (decide (40 < (l0_1.length : Int))) (fun hb6 => ?_) (fun hb6 => ?_)
    · replace h := br_t hb6 h
      refine @o_n _ _ _ _ _ _ _ _ _ _ _ 18 (za4 rfl rfl rfl (congrArg Value.bool hb6) rfl) (Eq.refl (some 18)) ?_
      refine @o_n _ _ _ _ _ _ _ _ _ _ _ 19 (za4 rfl rfl rfl (congrArg Value.bool hb6) rfl) (Eq.refl (some 19)) ?_
      refine @o_n _ _ _ _ _ _ _ _ _ _ _ 20 (za4 rfl rfl rfl (congrArg Value.bool hb6) rfl) (Eq.refl (some 20)) ?_
      refine @o_n _ _ _ _ _ _ _ _ _ _ _ 21 (za4 rfl rfl rfl (congrArg Value.bool hb6) rfl) (Eq.refl (some 21)) ?_
      refine o_q rfl rfl (q_pick true (congrArg Value.bool hb6) rfl) ?_
      refine o_end ?_
      refine za1 ?_
      refine c_true rfl ?_
      refine c_seq ?_
      refine za0 ?_
      refine o_q rfl rfl (q_asg rfl) ?_
      refine o_end ?_
      refine za1 ?_
      refine c_ret ?_
      refine za3 ?_
      have e0_ := Option.some.inj h; clear h
      subst e0_
      exact x_r1 () Try.results72 (zad rfl) rfl (fun w h => za6 [] (by decide) rfl w h)
    · replace h := br_f hb6 h
      refine o_w (za5 rfl rfl rfl (congrArg Value.bool hb6)) rfl (q_f F36_2 rfl) ?_
      refine o_w (za5 rfl rfl rfl (congrArg Value.bool hb6)) rfl (q_ldb Y22 rfl (fun w h => h.zaa (i := 0) rfl) rfl) ?_
      refine o_w (za5 rfl rfl rfl (congrArg Value.bool hb6)) rfl (q_len Try.underlying22 rfl) ?_
      refine o_w (za5 rfl rfl rfl (congrArg Value.bool hb6)) rfl (q_gtr rfl rfl) ?_
      refine o_q rfl rfl (q_pick false (congrArg Value.bool hb6) rfl) ?_
      refine o_end ?_
      refine za1 ?_
      refine zao _ rfl (fun hb7 => ?_) (fun hb7 => ?_)
      · skip
        replace h := br_t hb7 h
        refine c_seq ?_
        refine za0 ?_
        refine o_q rfl rfl (q_asg rfl) ?_
        refine o_end ?_
        refine za1 ?_
        refine c_ret ?_
        refine za3 ?_
        have e0_ := Option.some.inj h; clear h
        subst e0_
        exact x_r1 () Try.results72 (zad rfl) rfl (fun w h => za6 [] (by decide) rfl w h)
      · skip
        replace h := br_f hb7 h
        refine zaj ?_
        refine za1 ?_
        refine c_seq ?_
        refine c_seq ?_
        refine za0 ?_
        refine o_q rfl rfl (q_f F36_1 rfl) ?_
        refine o_q rfl rfl (q_ldb Y34 rfl (fun w h => h.zaa (i := 0) rfl) rfl) ?_
        refine o_q rfl rfl (q_len Try.underlying34 rfl) ?_
        refine o_q rfl rfl (za2 rfl) ?_
        refine o_end ?_
        refine za1 ?_
        refine zal ?_
        refine za7 h (fun o16 hl15 hR14 => ?_) rfl
        clear h
        refine c_fact (p := l0_1.length ≤ 9223372036854775807) (fun w h => (R0_1.now Z h).2.1) (fun hm13 => ?_)
        refine c_loopL (σ := (List SStep) × Int) (fun k11 ((ys10, i8) : (List SStep) × Int) => Rg l0_1 i8 ys10 ∧ ys10.length = k11 ∧ spec_plGood.l0 a0_0 ys10 i8 = some o16) [2, 3, 4, 26, 27, 28, 29, 30, 31, 32, 33, 34, 35, 36, 37, 38, 39, 40, 41, 42, 43, 44, 45, 46] (fun ((ys10, i8) : (List SStep) × Int) => [(26, .int .i64 i8)]) (fun ((ys10, i8) : (List SStep) × Int) => [box g1 36 #[.int .i64 a0_0, .slice A0_1 l0_1.length c0_1, .slice A0_2 l0_2.length c0_2]]) l0_1.length (l0_1, 0) ⟨Rg.start _, rfl, hl15⟩ ⟨rfl, trivial⟩ (fun w h => h) ?_
        refine fun k11 => cur2 (listC (fun i8 U17 hJ_ => ?_) (fun y9 ys10 i8 U17 hJ_ => ?_))
        · skip
          clear hl15
          have hr12 := hJ_.1; have hk18 := hJ_.2.1; have h := hJ_.2.2; clear hJ_
          replace h : spec_plGood.l0 a0_0 [] i8 = some o16 := h
          rw [spec_plGood.l0] at h
          refine c_seq ?_
          refine za0 ?_
          refine o_q rfl rfl (q_lss rfl rfl) ?_
          refine o_end ?_
          refine za1 ?_
          refine c_seq ?_
          refine c_false (congrArg Value.bool hr12.ge) ?_
          refine c_exit ?_
          refine za9 ?_
          refine za9 ?_
          have e_ := Option.some.inj h; replace h := hR14; rw [← e_] at h; clear e_
          refine x_hit ?_
          refine za1 ?_
          refine c_seq ?_
          refine c_seq ?_
          refine za0 ?_
          refine o_q rfl rfl (q_ldB G36 Z36 rfl (fun w h => h.zaa (i := 0) rfl) rfl) ?_
          refine za7 h (fun l20 hx19 h => ?_) rfl
          refine o_e rfl (zab 0 Z Try.func135 N135 rfl rfl rfl (fun w P1 hF hB hS hT => spec_plExponents.calls k a0_0 A0_1 c0_1 l0_1.length l0_1 A0_2 c0_2 l0_2.length l0_2 hB hF (hS _ R0_1) hc0_1 (hS _ R0_2) hc0_2 _ hx19)) (cur3 (fun A21 c22 H23 => ?_))
          refine o_q rfl rfl (q_len Try.underlying109 rfl) ?_
          refine o_q rfl rfl (za2 rfl) ?_
          refine o_end ?_
          refine za1 ?_
          refine zal ?_
          refine za7 h (fun o32 hl31 hR30 => ?_) rfl
          clear h
          refine c_fact (p := l20.length ≤ 9223372036854775807) (fun w h => (h.row_Cn (i := 0) rfl).2.1) (fun hm29 => ?_)
          refine c_loopL (σ := (List (List Int)) × Int) (fun k27 ((ys26, i24) : (List (List Int)) × Int) => Rg l20 i24 ys26 ∧ ys26.length = k27 ∧ spec_plGood.l1 ys26 i24 = some o32) [2, 6, 50, 51, 52, 53, 54, 55, 56, 57] (fun ((ys26, i24) : (List (List Int)) × Int) => [(50, .int .i64 i24)]) (fun ((ys26, i24) : (List (List Int)) × Int) => [row (gk 3 (Kd.int .i64)) 22 (.slice A21 l20.length c22) (zp H23 l20), box g1 36 #[.int .i64 a0_0, .slice A0_1 l0_1.length c0_1, .slice A0_2 l0_2.length c0_2]]) l20.length (l20, 0) ⟨Rg.start _, rfl, hl31⟩ ⟨rfl, trivial⟩ (fun w h => h) ?_
          refine fun k27 => cur2 (listC (fun i24 U33 hJ_ => ?_) (fun y25 ys26 i24 U33 hJ_ => ?_))
          · skip
            clear hl31
            have hr28 := hJ_.1; have hk34 := hJ_.2.1; have h := hJ_.2.2; clear hJ_
            replace h : spec_plGood.l1 [] i24 = some o32 := h
            rw [spec_plGood.l1] at h
            refine c_seq ?_
            refine za0 ?_
            refine o_q rfl rfl (q_lss rfl rfl) ?_
            refine o_end ?_
            refine za1 ?_
            refine c_seq ?_
            refine c_false (congrArg Value.bool hr28.ge) ?_
            refine c_exit ?_
            refine za9 ?_
            refine za9 ?_
            have e_ := Option.some.inj h; replace h := hR30; rw [← e_] at h; clear e_
            refine x_hit ?_
            refine za1 ?_
            refine c_seq ?_
            refine za0 ?_
            refine o_q rfl rfl (q_f F36_2 rfl) ?_
            refine o_q rfl rfl (q_ldb Y22 rfl (fun w h => h.zaa (i := 1) rfl) rfl) ?_
            refine o_q rfl rfl (q_f F36_0 rfl) ?_
            refine o_q rfl rfl (q_ldb Y3 rfl (fun w h => h.zaa (i := 1) rfl) rfl) ?_
            refine o_q rfl rfl (q_f F36_1 rfl) ?_
            refine o_q rfl rfl (q_ldb Y34 rfl (fun w h => h.zaa (i := 1) rfl) rfl) ?_
            refine o_q rfl rfl (q_len Try.underlying34 rfl) ?_
            refine o_q rfl rfl (q_add64 rfl rfl) ?_
            refine o_q rfl rfl (q_sub64 rfl rfl) ?_
            refine za7 h (fun b36 hx35 h => ?_) rfl
            refine o_e rfl (zab 0 Z Try.func68 N68 rfl rfl rfl (fun w P1 hF hB hS hT => spec_l1All.calls A0_2 c0_2 l0_2.length l0_2 0 (w64 (w64 (a0_0 + (l0_1.length : Int)) - 1)) hB hF (hS _ R0_2) hc0_2 _ hx35)) (fun _ => ?_)
            refine o_q rfl rfl (q_asg rfl) ?_
            refine o_end ?_
            refine za1 ?_
            refine c_ret ?_
            have e0_ := Option.some.inj h; clear h
            subst e0_
            exact x_r1 () Try.results72 (zad rfl) rfl (fun w h => za6 [] (by decide) rfl w h)
          · skip
            clear hl31
            have hr28 := hJ_.1; have hk34 := hJ_.2.1; have h := hJ_.2.2; clear hJ_
            replace h : spec_plGood.l1 (y25 :: ys26) i24 = some o32 := h
            rw [spec_plGood.l1] at h
            refine c_seq ?_
            refine za0 ?_
            refine o_q rfl rfl (q_lss rfl rfl) ?_
            refine o_end ?_
            refine za1 ?_
            refine c_seq ?_
            refine c_true (congrArg Value.bool hr28.lt) ?_
            refine zaj ?_
            refine za1 ?_
            refine c_seq ?_
            refine zal ?_
            refine c_seq ?_
            refine za0 ?_
            refine o_fact (p := Sh A21 l20.length (zp H23 l20).length) (fun w h => f_sh (dk := (gk 3 (Kd.int .i64))) h (fun w h => h.row_Cn (i := 0) rfl)) (fun hq37 => ?_)
            refine o_q rfl rfl (q_ix Try.underlying109 Z22 rfl rfl hq37 (gt_zp hr28.get)) ?_
            refine o_fact (p := y25.length ≤ hC H23 i24) (fun w h => (K_in (h.row_Cn (i := 0) rfl) hr28.get).1) (fun hc38 => ?_)
            refine o_q rfl rfl (q_lde (off := 0) Y22 rfl rfl (fun w h => h.row_Cn (i := 0) rfl) (gt_zp hr28.get) (fun _ _ h => h.1) rfl) ?_
            refine o_q rfl rfl (q_asg rfl) ?_
            refine o_end ?_
            refine za1 ?_
            refine c_seq ?_
            refine za0 ?_
            refine o_q rfl rfl (za2 rfl) ?_
            refine za7 h (fun b40 hx39 h => ?_) rfl
            refine o_e rfl (zab 0 Z Try.func68 N68 rfl rfl rfl (fun w P1 hF hB hS hT => spec_l1All.calls (hA H23 i24) (hC H23 i24) y25.length y25 0 1000000 hB hF (stab_in (hT 0 _ rfl).row hr28.get) hc38 _ hx39)) (fun _ => ?_)
            refine o_q rfl rfl (q_not rfl) ?_
            refine o_end ?_
            refine za1 ?_
            refine zao _ rfl (fun hb41 => ?_) (fun hb41 => ?_)
            · replace hb41 := nt_t hb41
              replace h := bb_f hb41 h
              refine c_seq ?_
              refine za0 ?_
              refine o_q rfl rfl (q_asg rfl) ?_
              refine o_end ?_
              refine za1 ?_
              refine c_ret ?_
              refine zae ?_
              refine za3 ?_
              refine za3 ?_
              have e_ := Option.some.inj h; replace h := hR30; rw [← e_] at h; clear e_
              refine zae ?_
              refine za3 ?_
              have e0_ := Option.some.inj h; clear h
              subst e0_
              exact x_r1 () Try.results72 (zad rfl) rfl (fun w h => za6 [] (by decide) rfl w h)
            · replace hb41 := nt_f hb41
              replace h := bb_t hb41 h
              refine zaj ?_
              refine x_block ?_
              refine za1 ?_
              refine za0 ?_
              refine o_q rfl rfl (q_up rfl rfl (hr28.up hm29)) ?_
              refine o_q rfl rfl (za2 rfl) ?_
              refine o_end ?_
              refine x_roundL ys26.length (ys26, i24 + 1) (by rw [← hk34]; exact Nat.lt_succ_self _) ⟨hr28.step, rfl, h⟩ ⟨rfl, trivial⟩ (fun w h => za6 [0, 1] (by decide) rfl w h) ?_
              repeat (first | exact zah _ _ | refine zam rfl ?_ | refine zai rfl ?_ | refine zan rfl ?_)
        · skip
          clear hl15
          have hr12 := hJ_.1; have hk18 := hJ_.2.1; have h := hJ_.2.2; clear hJ_
          replace h : spec_plGood.l0 a0_0 (y9 :: ys10) i8 = some o16 := h
          rw [spec_plGood.l0] at h
          refine c_seq ?_
          refine za0 ?_
          refine o_q rfl rfl (q_lss rfl rfl) ?_
          refine o_end ?_
          refine za1 ?_
          refine c_seq ?_
          refine c_true (congrArg Value.bool hr12.lt) ?_
          refine zaj ?_
          refine za1 ?_
          refine c_seq ?_
          refine zal ?_
          refine c_seq ?_
          refine za0 ?_
          refine o_q rfl rfl (za2 rfl) ?_
          refine o_fact (p := Sh A0_1 l0_1.length l0_1.length) (fun w h => f_sh (dk := kStep) h (fun w h => R0_1.now Z h)) (fun hq42 => ?_)
          refine o_q rfl rfl (q_ix Try.underlying34 Z117 rfl rfl hq42 hr12.get) ?_
          refine o_q rfl rfl (q_ldE G117 Z117 rfl rfl (fun w h => R0_1.now Z h) hr12.get (fun _ _ h => h) rfl) ?_
          refine o_e rfl (e_alloc V117 rfl) (fun g43 => ?_)
          refine o_q rfl rfl (q_asg rfl) ?_
          refine o_e rfl (zaf (i := 0) rfl rfl rfl Z117 rfl rfl) (fun _ => ?_)
          refine o_end ?_
          refine za1 ?_
          refine c_seq ?_
          refine za0 ?_
          refine o_q rfl rfl (q_f F117_0 rfl) ?_
          refine o_q rfl rfl (q_ldb Y3 rfl (fun w h => h.zaa (i := 0) rfl) rfl) ?_
          refine o_q rfl rfl (q_f F117_1 rfl) ?_
          refine o_q rfl rfl (q_ldb Y3 rfl (fun w h => h.zaa (i := 0) rfl) rfl) ?_
          refine za7 h (fun b46 hx45 h => ?_) rfl
          refine o_e rfl (zab 0 Z Try.func77 N77 rfl rfl rfl (fun w P1 hF hB hS hT => spec_l1In.calls y9.f0 0 y9.f1 hB hF _ hx45)) (fun _ => ?_)
          refine o_q rfl rfl (q_not rfl) ?_
          refine o_q rfl rfl (za2 rfl) ?_
          refine byB b46 (fun hb47 => ?_) (fun hb47 => ?_)
          · replace h := bb_t hb47 h
            refine o_w (za5 rfl rfl rfl (congrArg (fun b => Value.bool (!(b))) hb47)) rfl (q_f F117_1 rfl) ?_
            refine o_w (za5 rfl rfl rfl (congrArg (fun b => Value.bool (!(b))) hb47)) rfl (q_ldb Y3 rfl (fun w h => h.zaa (i := 0) rfl) rfl) ?_
            refine o_w (za5 rfl rfl rfl (congrArg (fun b => Value.bool (!(b))) hb47)) rfl (q_f F36_0 rfl) ?_
            refine o_w (za5 rfl rfl rfl (congrArg (fun b => Value.bool (!(b))) hb47)) rfl (q_ldb Y3 rfl (fun w h => h.zaa (i := 1) rfl) rfl) ?_
            refine o_w (za5 rfl rfl rfl (congrArg (fun b => Value.bool (!(b))) hb47)) rfl (za2 rfl) ?_
            refine o_w (za5 rfl rfl rfl (congrArg (fun b => Value.bool (!(b))) hb47)) rfl (q_add64 rfl rfl) ?_
            refine o_w (za5 rfl rfl rfl (congrArg (fun b => Value.bool (!(b))) hb47)) rfl (q_geq rfl rfl) ?_
            refine o_q rfl rfl (q_pick false (congrArg (fun b => Value.bool (!(b))) hb47) rfl) ?_
            refine o_end ?_
            refine za1 ?_
            refine zao _ rfl (fun hb48 => ?_) (fun hb48 => ?_)
            · skip
              replace h := br_t hb48 h
              refine c_seq ?_
              refine za0 ?_
              refine o_q rfl rfl (q_asg rfl) ?_
              refine o_end ?_
              refine za1 ?_
              refine c_ret ?_
              refine zae ?_
              refine za3 ?_
              refine za3 ?_
              have e_ := Option.some.inj h; replace h := hR14; rw [← e_] at h; clear e_
              refine zae ?_
              refine za3 ?_
              have e0_ := Option.some.inj h; clear h
              subst e0_
              exact x_r1 () Try.results72 (zad rfl) rfl (fun w h => za6 [] (by decide) rfl w h)
            · skip
              replace h := br_f hb48 h
              refine zaj ?_
              refine x_block ?_
              refine za1 ?_
              refine za0 ?_
              refine o_q rfl rfl (q_up rfl rfl (hr12.up hm13)) ?_
              refine o_q rfl rfl (za2 rfl) ?_
              refine o_end ?_
              refine x_roundL ys10.length (ys10, i8 + 1) (by rw [← hk18]; exact Nat.lt_succ_self _) ⟨hr12.step, rfl, h⟩ ⟨rfl, trivial⟩ (fun w h => za6 [1] (by decide) rfl w h) ?_
              repeat (first | exact zah _ _ | refine zam rfl ?_ | refine zai rfl ?_ | refine zan rfl ?_)
          · replace h := bb_f hb47 h
            refine @o_n _ _ _ _ _ _ _ _ _ _ _ 38 (za4 rfl rfl rfl (congrArg (fun b => Value.bool (!(b))) hb47) rfl) (Eq.refl (some 38)) ?_
            refine @o_n _ _ _ _ _ _ _ _ _ _ _ 39 (za4 rfl rfl rfl (congrArg (fun b => Value.bool (!(b))) hb47) rfl) (Eq.refl (some 39)) ?_
            refine @o_n _ _ _ _ _ _ _ _ _ _ _ 40 (za4 rfl rfl rfl (congrArg (fun b => Value.bool (!(b))) hb47) rfl) (Eq.refl (some 40)) ?_
            refine @o_n _ _ _ _ _ _ _ _ _ _ _ 41 (za4 rfl rfl rfl (congrArg (fun b => Value.bool (!(b))) hb47) rfl) (Eq.refl (some 41)) ?_
            refine @o_n _ _ _ _ _ _ _ _ _ _ _ 42 (za4 rfl rfl rfl (congrArg (fun b => Value.bool (!(b))) hb47) rfl) (Eq.refl (some 42)) ?_
            refine @o_n _ _ _ _ _ _ _ _ _ _ _ 43 (za4 rfl rfl rfl (congrArg (fun b => Value.bool (!(b))) hb47) rfl) (Eq.refl (some 43)) ?_
            refine @o_n _ _ _ _ _ _ _ _ _ _ _ 44 (za4 rfl rfl rfl (congrArg (fun b => Value.bool (!(b))) hb47) rfl) (Eq.refl (some 44)) ?_
            refine o_q rfl rfl (q_pick true (congrArg (fun b => Value.bool (!(b))) hb47) rfl) ?_
            refine o_end ?_
            refine za1 ?_
            refine c_true rfl ?_
            refine c_seq ?_
            refine za0 ?_
            refine o_q rfl rfl (q_asg rfl) ?_
            refine o_end ?_
            refine za1 ?_
            refine c_ret ?_
            refine zae ?_
            refine za3 ?_
            refine za3 ?_
            have e_ := Option.some.inj h; replace h := hR14; rw [← e_] at h; clear e_
            refine zae ?_
            refine za3 ?_
            have e0_ := Option.some.inj h; clear h
            subst e0_
            exact x_r1 () Try.results72 (zad rfl) rfl (fun w h => za6 [] (by decide) rfl w h)
  · replace h := bb_f hb5 h
    refine @o_n _ _ _ _ _ _ _ _ _ _ _ 12 (za4 rfl rfl rfl (congrArg (fun b => Value.bool (!(b))) hb5) rfl) (Eq.refl (some 12)) ?_
    refine @o_n _ _ _ _ _ _ _ _ _ _ _ 13 (za4 rfl rfl rfl (congrArg (fun b => Value.bool (!(b))) hb5) rfl) (Eq.refl (some 13)) ?_
    refine @o_n _ _ _ _ _ _ _ _ _ _ _ 14 (za4 rfl rfl rfl (congrArg (fun b => Value.bool (!(b))) hb5) rfl) (Eq.refl (some 14)) ?_
    refine @o_n _ _ _ _ _ _ _ _ _ _ _ 15 (za4 rfl rfl rfl (congrArg (fun b => Value.bool (!(b))) hb5) rfl) (Eq.refl (some 15)) ?_
    refine o_q rfl rfl (q_pick true (congrArg (fun b => Value.bool (!(b))) hb5) rfl) ?_
    refine o_q rfl rfl (za2 rfl) ?_
    refine @o_n _ _ _ _ _ _ _ _ _ _ _ 18 (za4 rfl rfl rfl rfl rfl) (Eq.refl (some 18)) ?_
    refine @o_n _ _ _ _ _ _ _ _ _ _ _ 19 (za4 rfl rfl rfl rfl rfl) (Eq.refl (some 19)) ?_
    refine @o_n _ _ _ _ _ _ _ _ _ _ _ 20 (za4 rfl rfl rfl rfl rfl) (Eq.refl (some 20)) ?_
    refine @o_n _ _ _ _ _ _ _ _ _ _ _ 21 (za4 rfl rfl rfl rfl rfl) (Eq.refl (some 21)) ?_
    refine o_q rfl rfl (q_pick true rfl rfl) ?_
    refine o_end ?_
    refine za1 ?_
    refine c_true rfl ?_
    refine c_seq ?_
    refine za0 ?_
    refine o_q rfl rfl (q_asg rfl) ?_
    refine o_end ?_
    refine za1 ?_
    refine c_ret ?_
    refine za3 ?_
    have e0_ := Option.some.inj h; clear h
    subst e0_
    exact x_r1 () Try.results72 (zad rfl) rfl (fun w h => za6 [] (by decide) rfl w h)

/-! ### loop.example/g01098/spec.plIf: function 82 -/
def spec_plIf.f (k : Nat) (a0_0 : Int) (l0_1 : List SStep) (l0_2 : List Int) : Option (Int × (List SStep) × (List Int) × Bool) := (spec_plGood.f k a0_0 l0_1 l0_2).bind fun b6 => if b6 = true then (some (a0_0, l0_1, l0_2, true)) else (some (0, ([] : List SStep), ([] : List Int), false))
set_option maxHeartbeats 600000 in
set_option maxRecDepth 100000 in
theorem spec_plIf.calls (k : Nat) {w0 ws : World} {P0 : Nat → Prop} (a0_0 : Int) (A0_1 : Option Addr) (c0_1 : Nat) (n0_1 : Nat) (l0_1 : List SStep) (A0_2 : Option Addr) (c0_2 : Nat) (n0_2 : Nat) (l0_2 : List Int) (Z : Below w0.heap.size w0 ws) (hF : Fr w0 ws P0 [row kStep 117 (.slice A0_1 n0_1 c0_1) l0_1, row (Kd.int .i64) 3 (.slice A0_2 n0_2 c0_2) l0_2] ws)  (r_1 : Int) (r_2 : List SStep) (r_5 : List Int) (r_8 : Bool) (h : spec_plIf.f k a0_0 l0_1 l0_2 = some (r_1, r_2, r_5, r_8)) :
    Calls Try.prog 82 #[.agg #[.int .i64 a0_0, .slice A0_1 n0_1 c0_1, .slice A0_2 n0_2 c0_2]] ws (Post1 w0 ws P0 (fun ((q_3, q_4, q_6, q_7) : (Option Addr) × Nat × (Option Addr) × Nat) => .tuple #[.agg #[.int .i64 r_1, .slice q_3 r_2.length q_4, .slice q_6 r_5.length q_7], .bool r_8]) (fun ((q_3, q_4, q_6, q_7) : (Option Addr) × Nat × (Option Addr) × Nat) => [row kStep 117 (.slice q_3 r_2.length q_4) r_2, row (Kd.int .i64) 3 (.slice q_6 r_5.length q_7) r_5])) := by
  unfold spec_plIf.f at h
  obtain rfl := (hF.row_C (i := 0) rfl).2.1
  obtain rfl := (hF.row_C (i := 1) rfl).2.1
  refine enter Try.func82 rfl Try.ntmps82 rfl hF ?_
  refine c_seq ?_
  refine za0 ?_
  refine o_e rfl (e_box rfl) (fun g1 => ?_)
  refine o_e rfl (e_alloc V36 rfl) (fun g3 => ?_)
  refine o_q rfl rfl (q_asg rfl) ?_
  refine o_end ?_
  refine za1 ?_
  refine c_seq ?_
  refine c_seq ?_
  refine za0 ?_
  refine o_q rfl rfl (q_ldB G36 Z36 rfl (fun w h => h.zaa (i := 1) rfl) rfl) ?_
  refine za7 h (fun b6 hx5 h => ?_) rfl
  refine o_e rfl (zab 0 Z Try.func72 N72 rfl rfl rfl (fun w P1 hF hB hS hT => spec_plGood.calls k a0_0 A0_1 c0_1 l0_1.length l0_1 A0_2 c0_2 l0_2.length l0_2 hB hF (hT 2 _ rfl).row (hT 2 _ rfl).cap (hT 3 _ rfl).row (hT 3 _ rfl).cap _ hx5)) (fun _ => ?_)
  refine o_q rfl rfl (q_not rfl) ?_
  refine o_end ?_
  refine za1 ?_
  refine zao _ rfl (fun hb7 => ?_) (fun hb7 => ?_)
  · replace hb7 := nt_t hb7
    replace h := bb_f hb7 h
    refine c_seq ?_
    refine za0 ?_
    refine o_q rfl rfl (q_build (vs := []) (cs := [.int .i64 0, .slice none 0 0, .slice none 0 0]) rfl rfl) ?_
    refine o_e rfl (zaf (i := 0) rfl rfl rfl Z36 rfl rfl) (fun _ => ?_)
    refine o_q rfl rfl (q_asg rfl) ?_
    refine o_end ?_
    refine za1 ?_
    refine c_ret ?_
    refine za3 ?_
    refine x_nil kStep 117 ?_
    refine x_nil (Kd.int .i64) 3 ?_
    have e0_ := Option.some.inj h; clear h
    have d0_ := (Prod.mk.inj e0_).1; have e1_ := (Prod.mk.inj e0_).2; clear e0_; subst d0_
    have d1_ := (Prod.mk.inj e1_).1; have e2_ := (Prod.mk.inj e1_).2; clear e1_; subst d1_
    have d2_ := (Prod.mk.inj e2_).1; have e3_ := (Prod.mk.inj e2_).2; clear e2_; subst d2_
    subst e3_
    exact x_r2 (none, 0, none, 0) Try.results82 (rv_cell rfl G36 Z36 (fun w h => h.zaa (i := 2) rfl) rfl) (zad rfl) rfl (fun w h => za6 [1, 0] (by decide) rfl w h)
  · replace hb7 := nt_f hb7
    replace h := bb_t hb7 h
    refine zaj ?_
    refine za1 ?_
    refine c_seq ?_
    refine za0 ?_
    refine o_q rfl rfl (q_ldB G36 Z36 rfl (fun w h => h.zaa (i := 1) rfl) rfl) ?_
    refine o_e rfl (zaf (i := 0) rfl rfl rfl Z36 rfl rfl) (fun _ => ?_)
    refine o_q rfl rfl (q_asg rfl) ?_
    refine o_end ?_
    refine za1 ?_
    refine c_ret ?_
    have e0_ := Option.some.inj h; clear h
    have d0_ := (Prod.mk.inj e0_).1; have e1_ := (Prod.mk.inj e0_).2; clear e0_; subst d0_
    have d1_ := (Prod.mk.inj e1_).1; have e2_ := (Prod.mk.inj e1_).2; clear e1_; subst d1_
    have d2_ := (Prod.mk.inj e2_).1; have e3_ := (Prod.mk.inj e2_).2; clear e2_; subst d2_
    subst e3_
    exact x_r2 (A0_1, c0_1, A0_2, c0_2) Try.results82 (rv_cell rfl G36 Z36 (fun w h => h.zaa (i := 0) rfl) rfl) (zad rfl) rfl (fun w h => za6 [2, 3] (by decide) rfl w h)

/-! ### loop.example/g01098/spec.FactorPlan: function 45 -/
def spec_FactorPlan.f (k : Nat) (a0 : Int) : Option (Int × (List SStep) × (List Int) × Bool) := (spec_chNumber.f a0).bind fun b4 => if b4 = true then ((spec_meFactors.f k a0).bind fun (l7, l8) => (spec_plIf.f k 1 l7 l8).bind fun (i14, l15, l16, b17) => some (i14, l15, l16, b17)) else (some (0, ([] : List SStep), ([] : List Int), false))
set_option maxHeartbeats 600000 in
set_option maxRecDepth 100000 in
theorem spec_FactorPlan.calls (k : Nat) {w0 ws : World} {P0 : Nat → Prop} (a0 : Int) (Z : Below w0.heap.size w0 ws) (hF : Fr w0 ws P0 [] ws)  (r_1 : Int) (r_2 : List SStep) (r_5 : List Int) (r_8 : Bool) (h : spec_FactorPlan.f k a0 = some (r_1, r_2, r_5, r_8)) :
    Calls Try.prog 45 #[.int .i64 a0] ws (Post1 w0 ws P0 (fun ((q_3, q_4, q_6, q_7) : (Option Addr) × Nat × (Option Addr) × Nat) => .tuple #[.agg #[.int .i64 r_1, .slice q_3 r_2.length q_4, .slice q_6 r_5.length q_7], .bool r_8]) (fun ((q_3, q_4, q_6, q_7) : (Option Addr) × Nat × (Option Addr) × Nat) => [row kStep 117 (.slice q_3 r_2.length q_4) r_2, row (Kd.int .i64) 3 (.slice q_6 r_5.length q_7) r_5])) := by
  unfold spec_FactorPlan.f at h
  refine enter Try.func45 rfl Try.ntmps45 rfl hF ?_
  refine c_seq ?_
  refine za0 ?_
  refine o_e rfl (e_alloc V36 rfl) (fun g1 => ?_)
  refine o_q rfl rfl (q_asg rfl) ?_
  refine o_end ?_
  refine za1 ?_
  refine c_seq ?_
  refine c_seq ?_
  refine za0 ?_
  refine o_q rfl rfl (za2 rfl) ?_
  refine za7 h (fun b4 hx3 h => ?_) rfl
  refine o_e rfl (zab 0 Z Try.func100 N100 rfl rfl rfl (fun w P1 hF hB hS hT => spec_chNumber.calls a0 hB hF _ hx3)) (fun _ => ?_)
  refine o_q rfl rfl (q_not rfl) ?_
  refine o_end ?_
  refine za1 ?_
  refine zao _ rfl (fun hb5 => ?_) (fun hb5 => ?_)
  · replace hb5 := nt_t hb5
    replace h := bb_f hb5 h
    refine c_seq ?_
    refine za0 ?_
    refine o_q rfl rfl (q_build (vs := []) (cs := [.int .i64 0, .slice none 0 0, .slice none 0 0]) rfl rfl) ?_
    refine o_e rfl (zaf (i := 0) rfl rfl rfl Z36 rfl rfl) (fun _ => ?_)
    refine o_q rfl rfl (q_asg rfl) ?_
    refine o_end ?_
    refine za1 ?_
    refine c_ret ?_
    refine za3 ?_
    refine x_nil kStep 117 ?_
    refine x_nil (Kd.int .i64) 3 ?_
    have e0_ := Option.some.inj h; clear h
    have d0_ := (Prod.mk.inj e0_).1; have e1_ := (Prod.mk.inj e0_).2; clear e0_; subst d0_
    have d1_ := (Prod.mk.inj e1_).1; have e2_ := (Prod.mk.inj e1_).2; clear e1_; subst d1_
    have d2_ := (Prod.mk.inj e2_).1; have e3_ := (Prod.mk.inj e2_).2; clear e2_; subst d2_
    subst e3_
    exact x_r2 (none, 0, none, 0) Try.results45 (rv_cell rfl G36 Z36 (fun w h => h.zaa (i := 2) rfl) rfl) (zad rfl) rfl (fun w h => za6 [1, 0] (by decide) rfl w h)
  · replace hb5 := nt_f hb5
    replace h := bb_t hb5 h
    refine zaj ?_
    refine za1 ?_
    refine c_seq ?_
    refine za0 ?_
    refine o_q rfl rfl (za2 rfl) ?_
    refine bindE2 h (fun l7 l8 hx6 h => ?_) rfl
    refine o_e rfl (zab 0 Z Try.func101 N101 rfl rfl rfl (fun w P1 hF hB hS hT => spec_meFactors.calls k a0 hB hF _ _ hx6)) (cur4 (fun A9 c10 A11 c12 => ?_))
    refine bindE4 h (fun i14 l15 l16 b17 hx13 h => ?_) rfl
    refine o_e rfl (zab 2 Z Try.func82 N82 rfl rfl rfl (fun w P1 hF hB hS hT => spec_plIf.calls k 1 A9 c10 l7.length l7 A11 c12 l8.length l8 hB hF _ _ _ _ hx13)) (cur4 (fun A18 c19 A20 c21 => ?_))
    refine o_q rfl rfl (q_ext rfl rfl) ?_
    refine o_q rfl rfl (q_ext rfl rfl) ?_
    refine o_e rfl (zaf (i := 2) rfl rfl rfl Z36 rfl rfl) (fun _ => ?_)
    refine o_q rfl rfl (q_asg rfl) ?_
    refine o_end ?_
    refine za1 ?_
    refine c_ret ?_
    have e0_ := Option.some.inj h; clear h
    have d0_ := (Prod.mk.inj e0_).1; have e1_ := (Prod.mk.inj e0_).2; clear e0_; subst d0_
    have d1_ := (Prod.mk.inj e1_).1; have e2_ := (Prod.mk.inj e1_).2; clear e1_; subst d1_
    have d2_ := (Prod.mk.inj e2_).1; have e3_ := (Prod.mk.inj e2_).2; clear e2_; subst d2_
    subst e3_
    exact x_r2 (A18, c19, A20, c21) Try.results45 (rv_cell rfl G36 Z36 (fun w h => h.zaa (i := 2) rfl) rfl) (zad rfl) rfl (fun w h => za6 [0, 1] (by decide) rfl w h)

/-! ### loop.example/g01098/impl.in: function 83 -/
def impl_in.f (a0 : Int) (a1 : Int) (a2 : Int) : Option Bool := if a1 ≤ a0 then (some (decide (a0 ≤ a2))) else (some false)
set_option maxHeartbeats 600000 in
set_option maxRecDepth 100000 in
theorem impl_in.calls {w0 ws : World} {P0 : Nat → Prop} (a0 : Int) (a1 : Int) (a2 : Int) (Z : Below w0.heap.size w0 ws) (hF : Fr w0 ws P0 [] ws)  (r_1 : Bool) (h : impl_in.f a0 a1 a2 = some r_1) :
    Calls Try.prog 83 #[.int .i64 a0, .int .i64 a1, .int .i64 a2] ws (Post1 w0 ws P0 (fun (_ : Unit) => .bool r_1) (fun (_ : Unit) => [])) := by
  unfold impl_in.f at h
  refine enter Try.func83 rfl Try.ntmps83 rfl hF ?_
  refine c_seq ?_
  refine za0 ?_
  refine o_q rfl rfl (q_asg rfl) ?_
  refine o_end ?_
  refine za1 ?_
  refine c_seq ?_
  refine za0 ?_
  refine o_q rfl rfl (za2 rfl) ?_
  refine o_q rfl rfl (za2 rfl) ?_
  refine o_q rfl rfl (q_geq rfl rfl) ?_
  refine o_q rfl rfl (za2 rfl) ?_
  refine byB (decide (a1 ≤ a0)) (fun hb1 => ?_) (fun hb1 => ?_)
  · replace h := br_t hb1 h
    refine o_w (za5 rfl rfl rfl (congrArg Value.bool hb1)) rfl (za2 rfl) ?_
    refine o_w (za5 rfl rfl rfl (congrArg Value.bool hb1)) rfl (za2 rfl) ?_
    refine o_w (za5 rfl rfl rfl (congrArg Value.bool hb1)) rfl (q_leq rfl rfl) ?_
    refine o_q rfl rfl (q_pick true (congrArg Value.bool hb1) rfl) ?_
    refine o_q rfl rfl (q_asg rfl) ?_
    refine o_end ?_
    refine za1 ?_
    refine c_ret ?_
    have e0_ := Option.some.inj h; clear h
    subst e0_
    exact x_r1 () Try.results83 (zad rfl) rfl (fun w h => za6 [] (by decide) rfl w h)
  · replace h := br_f hb1 h
    refine @o_n _ _ _ _ _ _ _ _ _ _ _ 11 (za4 rfl rfl rfl (congrArg Value.bool hb1) rfl) (Eq.refl (some 11)) ?_
    refine @o_n _ _ _ _ _ _ _ _ _ _ _ 12 (za4 rfl rfl rfl (congrArg Value.bool hb1) rfl) (Eq.refl (some 12)) ?_
    refine @o_n _ _ _ _ _ _ _ _ _ _ _ 13 (za4 rfl rfl rfl (congrArg Value.bool hb1) rfl) (Eq.refl (some 13)) ?_
    refine o_q rfl rfl (q_pick false (congrArg Value.bool hb1) rfl) ?_
    refine o_q rfl rfl (q_asg rfl) ?_
    refine o_end ?_
    refine za1 ?_
    refine c_ret ?_
    have e0_ := Option.some.inj h; clear h
    subst e0_
    exact x_r1 () Try.results83 (zad rfl) rfl (fun w h => za6 [] (by decide) rfl w h)

/-! ### loop.example/g01098/impl.isNumber: function 86 -/
def impl_isNumber.f (a0 : Int) : Option Bool := (impl_in.f a0 1 1000000).bind fun b2 => some b2
set_option maxHeartbeats 600000 in
set_option maxRecDepth 100000 in
theorem impl_isNumber.calls {w0 ws : World} {P0 : Nat → Prop} (a0 : Int) (Z : Below w0.heap.size w0 ws) (hF : Fr w0 ws P0 [] ws)  (r_1 : Bool) (h : impl_isNumber.f a0 = some r_1) :
    Calls Try.prog 86 #[.int .i64 a0] ws (Post1 w0 ws P0 (fun (_ : Unit) => .bool r_1) (fun (_ : Unit) => [])) := by
  unfold impl_isNumber.f at h
  refine enter Try.func86 rfl Try.ntmps86 rfl hF ?_
  refine c_seq ?_
  refine za0 ?_
  refine o_q rfl rfl (q_asg rfl) ?_
  refine o_end ?_
  refine za1 ?_
  refine c_seq ?_
  refine za0 ?_
  refine o_q rfl rfl (za2 rfl) ?_
  refine za7 h (fun b2 hx1 h => ?_) rfl
  refine o_e rfl (zab 0 Z Try.func83 N83 rfl rfl rfl (fun w P1 hF hB hS hT => impl_in.calls a0 1 1000000 hB hF _ hx1)) (fun _ => ?_)
  refine o_q rfl rfl (q_asg rfl) ?_
  refine o_end ?_
  refine za1 ?_
  refine c_ret ?_
  have e0_ := Option.some.inj h; clear h
  subst e0_
  exact x_r1 () Try.results86 (zad rfl) rfl (fun w h => za6 [] (by decide) rfl w h)

/-! ### loop.example/g01098/impl.leastFactor: function 102 -/
def impl_leastFactor.l0 (a0 : Int) : Nat → Int → Option ((Int) ⊕ (Unit))
  | 0, _ => none
  | k4 + 1, i1 => if w64 (i1 * i1) ≤ a0 then ((nz i1).bind fun _ => if a0.tmod i1 = 0 then (some (.inl i1)) else (impl_leastFactor.l0 a0 k4 (w64 (i1 + 1)))) else (some (.inr ()))
def impl_leastFactor.f (k : Nat) (a0 : Int) : Option Int := (impl_leastFactor.l0 a0 k 2).bind fun o_ => match o_ with | .inl r_ => some r_ | .inr _ => some a0
set_option maxHeartbeats 600000 in
set_option maxRecDepth 100000 in
theorem impl_leastFactor.calls (k : Nat) {w0 ws : World} {P0 : Nat → Prop} (a0 : Int) (Z : Below w0.heap.size w0 ws) (hF : Fr w0 ws P0 [] ws)  (r_1 : Int) (h : impl_leastFactor.f k a0 = some r_1) :
    Calls Try.prog 102 #[.int .i64 a0] ws (Post1 w0 ws P0 (fun (_ : Unit) => .int .i64 r_1) (fun (_ : Unit) => [])) := by
  unfold impl_leastFactor.f at h
  refine enter Try.func102 rfl Try.ntmps102 rfl hF ?_
  refine c_seq ?_
  refine za0 ?_
  refine o_q rfl rfl (q_asg rfl) ?_
  refine o_end ?_
  refine za1 ?_
  refine c_seq ?_
  refine c_seq ?_
  refine za0 ?_
  refine o_q rfl rfl (q_asg rfl) ?_
  refine o_end ?_
  refine za1 ?_
  refine zal ?_
  refine za7 h (fun o9 hl8 hR7 => ?_) rfl
  clear h
  refine c_loopL (σ := Int) (fun k4 (i1 : Int) => impl_leastFactor.l0 a0 k4 i1 = some o9) [2, 3, 4, 5, 6, 7, 8, 9, 10, 11, 12, 13, 14, 15] (fun (i1 : Int) => [(3, .int .i64 i1)]) (fun (i1 : Int) => []) k 2 hl8 ⟨rfl, trivial⟩ (fun w h => h) ?_
  refine natC (fun i1 => fun U10 hJ_ => ?_) (fun k4 => (fun i1 => fun U10 hJ_ => ?_))
  · skip
    replace hJ_ : impl_leastFactor.l0 a0 0 i1 = some o9 := hJ_
    rw [impl_leastFactor.l0] at hJ_
    exact noneE hJ_
  · skip
    clear hl8
    have h := hJ_; clear hJ_
    replace h : impl_leastFactor.l0 a0 (k4 + 1) i1 = some o9 := h
    rw [impl_leastFactor.l0] at h
    refine c_seq ?_
    refine c_seq ?_
    refine za0 ?_
    refine o_q rfl rfl (za2 rfl) ?_
    refine o_q rfl rfl (za2 rfl) ?_
    refine o_q rfl rfl (q_mul64 rfl rfl) ?_
    refine o_q rfl rfl (za2 rfl) ?_
    refine o_q rfl rfl (q_leq rfl rfl) ?_
    refine o_end ?_
    refine za1 ?_
    refine zao _ rfl (fun hb12 => ?_) (fun hb12 => ?_)
    · skip
      replace h := br_t hb12 h
      refine zaj ?_
      refine za1 ?_
      refine c_seq ?_
      refine zal ?_
      refine c_seq ?_
      refine za0 ?_
      refine o_q rfl rfl (za2 rfl) ?_
      refine o_q rfl rfl (za2 rfl) ?_
      refine za7 h (fun _ hz13 h => ?_) rfl
      refine o_q rfl rfl (q_rem rfl rfl (nz_ne hz13)) ?_
      refine o_q rfl rfl (q_eql rfl rfl) ?_
      refine o_end ?_
      refine za1 ?_
      refine zao _ rfl (fun hb14 => ?_) (fun hb14 => ?_)
      · skip
        replace h := br_t hb14 h
        refine c_seq ?_
        refine za0 ?_
        refine o_q rfl rfl (za2 rfl) ?_
        refine o_q rfl rfl (q_asg rfl) ?_
        refine o_end ?_
        refine za1 ?_
        refine c_ret ?_
        refine zae ?_
        refine za3 ?_
        refine za3 ?_
        have e_ := Option.some.inj h; replace h := hR7; rw [← e_] at h; clear e_
        refine zae ?_
        refine za3 ?_
        have e0_ := Option.some.inj h; clear h
        subst e0_
        exact x_r1 () Try.results102 (zad rfl) rfl (fun w h => za6 [] (by decide) rfl w h)
      · skip
        replace h := br_f hb14 h
        refine zaj ?_
        refine x_block ?_
        refine za1 ?_
        refine za0 ?_
        refine o_q rfl rfl (za2 rfl) ?_
        refine o_q rfl rfl (q_add64 rfl rfl) ?_
        refine o_q rfl rfl (q_asg rfl) ?_
        refine o_end ?_
        refine x_roundL k4 (w64 (i1 + 1)) (Nat.lt_succ_self _) h ⟨rfl, trivial⟩ (fun w h => za6 [] (by decide) rfl w h) ?_
        repeat (first | exact zah _ _ | refine zam rfl ?_ | refine zai rfl ?_ | refine zan rfl ?_)
    · skip
      replace h := br_f hb12 h
      refine c_exit ?_
      refine za9 ?_
      refine za9 ?_
      have e_ := Option.some.inj h; replace h := hR7; rw [← e_] at h; clear e_
      refine x_hit ?_
      refine za1 ?_
      refine c_seq ?_
      refine za0 ?_
      refine o_q rfl rfl (za2 rfl) ?_
      refine o_q rfl rfl (q_asg rfl) ?_
      refine o_end ?_
      refine za1 ?_
      refine c_ret ?_
      have e0_ := Option.some.inj h; clear h
      subst e0_
      exact x_r1 () Try.results102 (zad rfl) rfl (fun w h => za6 [] (by decide) rfl w h)

/-! ### (*loop.example/g01098/impl.Plan).many: function 119 -/
def impl_Plan_many.f (a0_0 : Int) (l0_1 : List SStep) (l0_2 : List Int) : Option Unit := some ()
set_option maxHeartbeats 600000 in
set_option maxRecDepth 100000 in
theorem impl_Plan_many.calls {w0 ws : World} {P0 : Nat → Prop} (g0 : Nat) (a0_0 : Int) (A0_1 : Option Addr) (c0_1 : Nat) (n0_1 : Nat) (l0_1 : List SStep) (A0_2 : Option Addr) (c0_2 : Nat) (n0_2 : Nat) (l0_2 : List Int) (Z : Below w0.heap.size w0 ws) (hF : Fr w0 ws P0 [] ws) (R0_1 : Stable ws P0 (fun w => Kd.C kStep w A0_1 n0_1 l0_1)) (hc0_1 : n0_1 ≤ c0_1) (R0_2 : Stable ws P0 (fun w => Kd.C (Kd.int .i64) w A0_2 n0_2 l0_2)) (hc0_2 : n0_2 ≤ c0_2) (B0 : Stable ws P0 (fun w => w.heap[g0]? = some (.cells #[.int .i64 a0_0, .slice A0_1 n0_1 c0_1, .slice A0_2 n0_2 c0_2] 36 (0, 0))))  (h : impl_Plan_many.f a0_0 l0_1 l0_2 = some ()) :
    Calls Try.prog 119 #[.pointer (some ⟨g0, 0, none⟩)] ws (Post1 w0 ws P0 (fun (_ : Unit) => .int .i64 (w64 (a0_0 + (l0_1.length : Int)))) (fun (_ : Unit) => [])) := by
  unfold impl_Plan_many.f at h
  obtain rfl := (R0_1 ws (KeptB.refl _ _)).1
  obtain rfl := (R0_2 ws (KeptB.refl _ _)).1
  refine enter Try.func119 rfl Try.ntmps119 rfl hF ?_
  refine c_seq ?_
  refine za0 ?_
  refine o_q rfl rfl (q_asg rfl) ?_
  refine o_end ?_
  refine za1 ?_
  refine c_seq ?_
  refine a_start (ds := []) MO rfl ?_
  refine za8 0 rfl rfl rfl (by kernel_rfl) (fun _ _ _ h => h) (za2 rfl) ?_
  refine za8 1 rfl rfl rfl (by kernel_rfl) (fun _ _ _ h => h) (q_nil rfl) ?_
  refine za8 2 rfl rfl rfl (by kernel_rfl) (fun _ _ _ h => h) (q_f F36_0 rfl) ?_
  refine a_take 3 rfl rfl rfl (by kernel_rfl) (fun _ _ _ h => h) (fun w h => h) (q_ldb Y3 rfl (fun w h => B0.now Z h) rfl) ?_
  refine za8 4 rfl rfl rfl (by kernel_rfl) (fun _ _ _ h => h) (za2 rfl) ?_
  refine za8 5 rfl rfl rfl (by kernel_rfl) (fun _ _ _ h => h) (q_nil rfl) ?_
  refine za8 6 rfl rfl rfl (by kernel_rfl) (fun _ _ _ h => h) (q_f F36_1 rfl) ?_
  refine a_take 7 rfl rfl rfl (by kernel_rfl) (fun _ _ _ h => h) (fun w h => h) (q_ldb Y34 rfl (fun w h => B0.now Z h) rfl) ?_
  refine za8 8 rfl rfl rfl (by kernel_rfl) (fun _ _ _ h => h) (q_len Try.underlying34 rfl) ?_
  refine za8 9 rfl rfl rfl (by kernel_rfl) (fun _ _ _ h => h) (q_add64 rfl rfl) ?_
  refine za8 10 rfl rfl rfl (by kernel_rfl) (fun _ _ _ h => h) (q_asg rfl) ?_
  refine a_done (by kernel_rfl) ?_
  refine za1 ?_
  refine c_ret ?_
  exact x_r1 () Try.results119 (zad rfl) rfl (fun w h => za6 [] (by decide) rfl w h)

/-! ### (*loop.example/g01098/impl.Plan).formed$1: function 175 -/
def impl_Plan_formed_1.f (a0 : Int) (a1_0_0 : Int) (l1_0_1 : List SStep) (l1_0_2 : List Int) : Option Bool := (impl_Plan_many.f a1_0_0 l1_0_1 l1_0_2).bind fun _ => (impl_in.f a0 0 (w64 (w64 (a1_0_0 + (l1_0_1.length : Int)) - 1))).bind fun b3 => some (!b3)
set_option maxHeartbeats 600000 in
set_option maxRecDepth 100000 in
theorem impl_Plan_formed_1.calls {w0 ws : World} {P0 : Nat → Prop} (a0 : Int) (g1 : Nat) (g1_0 : Nat) (a1_0_0 : Int) (A1_0_1 : Option Addr) (c1_0_1 : Nat) (n1_0_1 : Nat) (l1_0_1 : List SStep) (A1_0_2 : Option Addr) (c1_0_2 : Nat) (n1_0_2 : Nat) (l1_0_2 : List Int) (Z : Below w0.heap.size w0 ws) (hF : Fr w0 ws P0 [] ws) (R1_0_1 : Stable ws P0 (fun w => Kd.C kStep w A1_0_1 n1_0_1 l1_0_1)) (hc1_0_1 : n1_0_1 ≤ c1_0_1) (R1_0_2 : Stable ws P0 (fun w => Kd.C (Kd.int .i64) w A1_0_2 n1_0_2 l1_0_2)) (hc1_0_2 : n1_0_2 ≤ c1_0_2) (B1_0 : Stable ws P0 (fun w => w.heap[g1_0]? = some (.cells #[.int .i64 a1_0_0, .slice A1_0_1 n1_0_1 c1_0_1, .slice A1_0_2 n1_0_2 c1_0_2] 36 (0, 0)))) (B1 : Stable ws P0 (fun w => w.heap[g1]? = some (.cells #[.pointer (some ⟨g1_0, 0, none⟩)] 88 (0, 0)))) (r_1 : Bool) (h : impl_Plan_formed_1.f a0 a1_0_0 l1_0_1 l1_0_2 = some r_1) :
    Calls Try.prog 175 #[.int .i64 a0, .pointer (some ⟨g1, 0, none⟩)] ws (Post1 w0 ws P0 (fun (_ : Unit) => .bool r_1) (fun (_ : Unit) => [])) := by
  unfold impl_Plan_formed_1.f at h
  obtain rfl := (R1_0_1 ws (KeptB.refl _ _)).1
  obtain rfl := (R1_0_2 ws (KeptB.refl _ _)).1
  refine enter Try.func175 rfl Try.ntmps175 rfl hF ?_
  refine c_seq ?_
  refine za0 ?_
  refine o_q rfl rfl (q_asg rfl) ?_
  refine o_end ?_
  refine za1 ?_
  refine c_seq ?_
  refine za0 ?_
  refine o_q rfl rfl (za2 rfl) ?_
  refine o_q rfl rfl (q_ldb Y88 rfl (fun w h => B1.now Z h) rfl) ?_
  refine za7 h (fun _ hx1 h => ?_) rfl
  refine o_e rfl (zab 0 Z Try.func119 N119 rfl rfl rfl (fun w P1 hF hB hS hT => impl_Plan_many.calls g1_0 a1_0_0 A1_0_1 c1_0_1 l1_0_1.length l1_0_1 A1_0_2 c1_0_2 l1_0_2.length l1_0_2 hB hF (hS _ R1_0_1) hc1_0_1 (hS _ R1_0_2) hc1_0_2 (hS _ B1_0) hx1)) (fun _ => ?_)
  refine o_q rfl rfl (q_sub64 rfl rfl) ?_
  refine za7 h (fun b3 hx2 h => ?_) rfl
  refine o_e rfl (zab 0 Z Try.func83 N83 rfl rfl rfl (fun w P1 hF hB hS hT => impl_in.calls a0 0 (w64 (w64 (a1_0_0 + (l1_0_1.length : Int)) - 1)) hB hF _ hx2)) (fun _ => ?_)
  refine o_q rfl rfl (q_not rfl) ?_
  refine o_q rfl rfl (q_asg rfl) ?_
  refine o_end ?_
  refine za1 ?_
  refine c_ret ?_
  have e0_ := Option.some.inj h; clear h
  subst e0_
  exact x_r1 () Try.results175 (zad rfl) rfl (fun w h => za6 [] (by decide) rfl w h)

/-! ### slices.IndexFunc[[]int,int]: function 148 -/
def slices_IndexFunc_int_int.l0 (a1_c0_0_0 : Int) (l1_c0_0_1 : List SStep) (l1_c0_0_2 : List Int) : (List Int) → Int → Option ((Int) ⊕ (Unit))
  | [], i1 => some (.inr ())
  | y2 :: ys3, i1 => (impl_Plan_formed_1.f y2 a1_c0_0_0 l1_c0_0_1 l1_c0_0_2).bind fun b14 => if b14 = true then (some (.inl i1)) else (slices_IndexFunc_int_int.l0 a1_c0_0_0 l1_c0_0_1 l1_c0_0_2 ys3 (i1 + 1))
def slices_IndexFunc_int_int.f (l0 : List Int) (a1_c0_0_0 : Int) (l1_c0_0_1 : List SStep) (l1_c0_0_2 : List Int) : Option Int := (slices_IndexFunc_int_int.l0 a1_c0_0_0 l1_c0_0_1 l1_c0_0_2 l0 0).bind fun o_ => match o_ with | .inl r_ => some r_ | .inr _ => some (-1)
set_option maxHeartbeats 600000 in
set_option maxRecDepth 100000 in
theorem slices_IndexFunc_int_int.calls {w0 ws : World} {P0 : Nat → Prop} (A0 : Option Addr) (c0 : Nat) (n0 : Nat) (l0 : List Int) (g1_c0 : Nat) (g1_c0_0 : Nat) (a1_c0_0_0 : Int) (A1_c0_0_1 : Option Addr) (c1_c0_0_1 : Nat) (n1_c0_0_1 : Nat) (l1_c0_0_1 : List SStep) (A1_c0_0_2 : Option Addr) (c1_c0_0_2 : Nat) (n1_c0_0_2 : Nat) (l1_c0_0_2 : List Int) (Z : Below w0.heap.size w0 ws) (hF : Fr w0 ws P0 [] ws) (R0 : Stable ws P0 (fun w => Kd.C (Kd.int .i64) w A0 n0 l0)) (hc0 : n0 ≤ c0) (R1_c0_0_1 : Stable ws P0 (fun w => Kd.C kStep w A1_c0_0_1 n1_c0_0_1 l1_c0_0_1)) (hc1_c0_0_1 : n1_c0_0_1 ≤ c1_c0_0_1) (R1_c0_0_2 : Stable ws P0 (fun w => Kd.C (Kd.int .i64) w A1_c0_0_2 n1_c0_0_2 l1_c0_0_2)) (hc1_c0_0_2 : n1_c0_0_2 ≤ c1_c0_0_2) (B1_c0_0 : Stable ws P0 (fun w => w.heap[g1_c0_0]? = some (.cells #[.int .i64 a1_c0_0_0, .slice A1_c0_0_1 n1_c0_0_1 c1_c0_0_1, .slice A1_c0_0_2 n1_c0_0_2 c1_c0_0_2] 36 (0, 0)))) (B1_c0 : Stable ws P0 (fun w => w.heap[g1_c0]? = some (.cells #[.pointer (some ⟨g1_c0_0, 0, none⟩)] 88 (0, 0)))) (r_1 : Int) (h : slices_IndexFunc_int_int.f l0 a1_c0_0_0 l1_c0_0_1 l1_c0_0_2 = some r_1) :
    Calls Try.prog 148 #[.slice A0 n0 c0, .func (.func 175) #[] #[.pointer (some ⟨g1_c0, 0, none⟩)]] ws (Post1 w0 ws P0 (fun (_ : Unit) => .int .i64 r_1) (fun (_ : Unit) => [])) := by
  unfold slices_IndexFunc_int_int.f at h
  obtain rfl := (R0 ws (KeptB.refl _ _)).1
  obtain rfl := (R1_c0_0_1 ws (KeptB.refl _ _)).1
  obtain rfl := (R1_c0_0_2 ws (KeptB.refl _ _)).1
  refine enter Try.func148 rfl Try.ntmps148 rfl hF ?_
  refine c_seq ?_
  refine za0 ?_
  refine o_q rfl rfl (q_asg rfl) ?_
  refine o_end ?_
  refine za1 ?_
  refine c_seq ?_
  refine c_seq ?_
  refine za0 ?_
  refine o_q rfl rfl (za2 rfl) ?_
  refine o_q rfl rfl (q_len Try.underlying22 rfl) ?_
  refine o_q rfl rfl (za2 rfl) ?_
  refine o_end ?_
  refine za1 ?_
  refine zal ?_
  refine za7 h (fun o9 hl8 hR7 => ?_) rfl
  clear h
  refine c_fact (p := l0.length ≤ 9223372036854775807) (fun w h => (R0.now Z h).2.1) (fun hm6 => ?_)
  refine c_loopL (σ := (List Int) × Int) (fun k4 ((ys3, i1) : (List Int) × Int) => Rg l0 i1 ys3 ∧ ys3.length = k4 ∧ slices_IndexFunc_int_int.l0 a1_c0_0_0 l1_c0_0_1 l1_c0_0_2 ys3 i1 = some o9) [4, 5, 8, 9, 10, 11, 12, 13, 14, 15, 16, 17, 18] (fun ((ys3, i1) : (List Int) × Int) => [(8, .int .i64 i1)]) (fun ((ys3, i1) : (List Int) × Int) => []) l0.length (l0, 0) ⟨Rg.start _, rfl, hl8⟩ ⟨rfl, trivial⟩ (fun w h => h) ?_
  refine fun k4 => cur2 (listC (fun i1 U10 hJ_ => ?_) (fun y2 ys3 i1 U10 hJ_ => ?_))
  · skip
    clear hl8
    have hr5 := hJ_.1; have hk11 := hJ_.2.1; have h := hJ_.2.2; clear hJ_
    replace h : slices_IndexFunc_int_int.l0 a1_c0_0_0 l1_c0_0_1 l1_c0_0_2 [] i1 = some o9 := h
    rw [slices_IndexFunc_int_int.l0] at h
    refine c_seq ?_
    refine za0 ?_
    refine o_q rfl rfl (q_lss rfl rfl) ?_
    refine o_end ?_
    refine za1 ?_
    refine c_seq ?_
    refine c_false (congrArg Value.bool hr5.ge) ?_
    refine c_exit ?_
    refine za9 ?_
    refine za9 ?_
    have e_ := Option.some.inj h; replace h := hR7; rw [← e_] at h; clear e_
    refine x_hit ?_
    refine za1 ?_
    refine c_seq ?_
    refine za0 ?_
    refine o_q rfl rfl (q_asg rfl) ?_
    refine o_end ?_
    refine za1 ?_
    refine c_ret ?_
    have e0_ := Option.some.inj h; clear h
    subst e0_
    exact x_r1 () Try.results148 (zad rfl) rfl (fun w h => za6 [] (by decide) rfl w h)
  · skip
    clear hl8
    have hr5 := hJ_.1; have hk11 := hJ_.2.1; have h := hJ_.2.2; clear hJ_
    replace h : slices_IndexFunc_int_int.l0 a1_c0_0_0 l1_c0_0_1 l1_c0_0_2 (y2 :: ys3) i1 = some o9 := h
    rw [slices_IndexFunc_int_int.l0] at h
    refine c_seq ?_
    refine za0 ?_
    refine o_q rfl rfl (q_lss rfl rfl) ?_
    refine o_end ?_
    refine za1 ?_
    refine c_seq ?_
    refine c_true (congrArg Value.bool hr5.lt) ?_
    refine zaj ?_
    refine za1 ?_
    refine c_seq ?_
    refine zal ?_
    refine c_seq ?_
    refine za0 ?_
    refine o_q rfl rfl (za2 rfl) ?_
    refine o_q rfl rfl (q_asg rfl) ?_
    refine o_end ?_
    refine za1 ?_
    refine c_seq ?_
    refine za0 ?_
    refine o_q rfl rfl (za2 rfl) ?_
    refine o_q rfl rfl (za2 rfl) ?_
    refine o_q rfl rfl (za2 rfl) ?_
    refine o_fact (p := Sh A0 l0.length l0.length) (fun w h => f_sh (dk := (Kd.int .i64)) h (fun w h => R0.now Z h)) (fun hq12 => ?_)
    refine o_q rfl rfl (q_ix Try.underlying22 Z3 rfl rfl hq12 hr5.get) ?_
    refine o_q rfl rfl (q_lde (off := 0) Y3 rfl rfl (fun w h => R0.now Z h) hr5.get (fun _ _ h => h) rfl) ?_
    refine za7 h (fun b14 hx13 h => ?_) rfl
    refine o_e rfl (zab 0 Z Try.func175 N175 rfl rfl rfl (fun w P1 hF hB hS hT => impl_Plan_formed_1.calls y2 g1_c0 g1_c0_0 a1_c0_0_0 A1_c0_0_1 c1_c0_0_1 l1_c0_0_1.length l1_c0_0_1 A1_c0_0_2 c1_c0_0_2 l1_c0_0_2.length l1_c0_0_2 hB hF (hS _ R1_c0_0_1) hc1_c0_0_1 (hS _ R1_c0_0_2) hc1_c0_0_2 (hS _ B1_c0_0) (hS _ B1_c0) _ hx13)) (fun _ => ?_)
    refine o_end ?_
    refine za1 ?_
    refine zao _ rfl (fun hb15 => ?_) (fun hb15 => ?_)
    · skip
      replace h := bb_t hb15 h
      refine c_seq ?_
      refine za0 ?_
      refine o_q rfl rfl (za2 rfl) ?_
      refine o_q rfl rfl (q_asg rfl) ?_
      refine o_end ?_
      refine za1 ?_
      refine c_ret ?_
      refine zae ?_
      refine za3 ?_
      refine za3 ?_
      have e_ := Option.some.inj h; replace h := hR7; rw [← e_] at h; clear e_
      refine zae ?_
      refine za3 ?_
      have e0_ := Option.some.inj h; clear h
      subst e0_
      exact x_r1 () Try.results148 (zad rfl) rfl (fun w h => za6 [] (by decide) rfl w h)
    · skip
      replace h := bb_f hb15 h
      refine zaj ?_
      refine x_block ?_
      refine za1 ?_
      refine za0 ?_
      refine o_q rfl rfl (q_up rfl rfl (hr5.up hm6)) ?_
      refine o_q rfl rfl (za2 rfl) ?_
      refine o_end ?_
      refine x_roundL ys3.length (ys3, i1 + 1) (by rw [← hk11]; exact Nat.lt_succ_self _) ⟨hr5.step, rfl, h⟩ ⟨rfl, trivial⟩ (fun w h => za6 [] (by decide) rfl w h) ?_
      repeat (first | exact zah _ _ | refine zam rfl ?_ | refine zai rfl ?_ | refine zan rfl ?_)

end Go.Proofs.Ytpdpomjgfmdjfaa.E2
