import Derived.Test.YtpdpomjgfmdjfaaKFnExactBestOrderOpg
import Derived.Test.YtpdpomjgfmdjfaaProg
import Derived.KernelRfl
namespace Go.Proofs.Ytpdpomjgfmdjfaa.G1
open Go.RowKit Go.Proofs.Ytpdpomjgfmdjfaa.Frame Go.Proofs.YtpdpomjgfmdjfaaW.PrintWords Go.Proofs.YtpdpomjgfmdjfaaW.PrintLast
set_option linter.unusedVariables false
structure SStep where
  f0 : Int
  f1 : Int
def kStep : Kd SStep := flat (fun x => [.int .i64 x.f0, .int .i64 x.f1]) 2 (fun _ => rfl) (fun x u hu => by
  simp only [List.mem_cons, List.not_mem_nil, or_false] at hu
  rcases hu with rfl | rfl <;> rfl)
theorem F117_0 : fldOff Try.prog 117 0 = some 0 := by kernel_rfl
theorem F117_1 : fldOff Try.prog 117 1 = some 1 := by kernel_rfl
theorem F137_0 : fldOff Try.prog 137 0 = some 0 := by kernel_rfl
theorem F137_1 : fldOff Try.prog 137 1 = some 1 := by kernel_rfl
theorem F36_0 : fldOff Try.prog 36 0 = some 0 := by kernel_rfl
theorem F36_1 : fldOff Try.prog 36 1 = some 1 := by kernel_rfl
theorem F36_2 : fldOff Try.prog 36 2 = some 2 := by kernel_rfl
theorem F50_0 : fldOff Try.prog 50 0 = some 0 := by kernel_rfl
theorem F50_1 : fldOff Try.prog 50 1 = some 1 := by kernel_rfl
theorem F50_2 : fldOff Try.prog 50 2 = some 2 := by kernel_rfl
theorem G117 : aggTy (Try.prog.underlying 117) = true := by kernel_rfl
theorem G137 : aggTy (Try.prog.underlying 137) = true := by kernel_rfl
theorem G36 : aggTy (Try.prog.underlying 36) = true := by kernel_rfl
theorem G50 : aggTy (Try.prog.underlying 50) = true := by kernel_rfl
theorem I117 : (Try.prog.info? 117).map (fun i => (i.zero, i.size, i.bytes)) = some (some (.agg #[.int .i64 0, .int .i64 0]), 2, 16) := by kernel_rfl
theorem I22 : (Try.prog.info? 22).map (fun i => (i.zero, i.size, i.bytes)) = some (some (.slice none 0 0), 1, 24) := by kernel_rfl
theorem I3 : (Try.prog.info? 3).map (fun i => (i.zero, i.size, i.bytes)) = some (some (.int .i64 0), 1, 8) := by kernel_rfl
theorem I4 : (Try.prog.info? 4).map (fun i => (i.zero, i.size, i.bytes)) = some (some (.bool false), 1, 1) := by kernel_rfl
theorem MO : Try.prog.follows .mixedOrders = true := by kernel_rfl
theorem N105 : (Try.f105.name == "runtime.NumGoroutine") = false := by kernel_rfl
theorem N106 : (Try.f106.name == "runtime.NumGoroutine") = false := by kernel_rfl
theorem N107 : (Try.f107.name == "runtime.NumGoroutine") = false := by kernel_rfl
theorem N108 : (Try.f108.name == "runtime.NumGoroutine") = false := by kernel_rfl
theorem N109 : (Try.f109.name == "runtime.NumGoroutine") = false := by kernel_rfl
theorem N110 : (Try.f110.name == "runtime.NumGoroutine") = false := by kernel_rfl
theorem N111 : (Try.f111.name == "runtime.NumGoroutine") = false := by kernel_rfl
theorem N114 : (Try.f114.name == "runtime.NumGoroutine") = false := by kernel_rfl
theorem N115 : (Try.f115.name == "runtime.NumGoroutine") = false := by kernel_rfl
theorem N116 : (Try.f116.name == "runtime.NumGoroutine") = false := by kernel_rfl
theorem N119 : (Try.f119.name == "runtime.NumGoroutine") = false := by kernel_rfl
theorem N120 : (Try.f120.name == "runtime.NumGoroutine") = false := by kernel_rfl
theorem N122 : (Try.f122.name == "runtime.NumGoroutine") = false := by kernel_rfl
theorem N130 : (Try.f130.name == "runtime.NumGoroutine") = false := by kernel_rfl
theorem N135 : (Try.f135.name == "runtime.NumGoroutine") = false := by kernel_rfl
theorem N138 : (Try.f138.name == "runtime.NumGoroutine") = false := by kernel_rfl
theorem N139 : (Try.f139.name == "runtime.NumGoroutine") = false := by kernel_rfl
theorem N140 : (Try.f140.name == "runtime.NumGoroutine") = false := by kernel_rfl
theorem N141 : (Try.f141.name == "runtime.NumGoroutine") = false := by kernel_rfl
theorem N142 : (Try.f142.name == "runtime.NumGoroutine") = false := by kernel_rfl
theorem N146 : (Try.f146.name == "runtime.NumGoroutine") = false := by kernel_rfl
theorem N148 : (Try.f148.name == "runtime.NumGoroutine") = false := by kernel_rfl
theorem N154 : (Try.f154.name == "runtime.NumGoroutine") = false := by kernel_rfl
theorem N155 : (Try.f155.name == "runtime.NumGoroutine") = false := by kernel_rfl
theorem N163 : (Try.f163.name == "runtime.NumGoroutine") = false := by kernel_rfl
theorem N164 : (Try.f164.name == "runtime.NumGoroutine") = false := by kernel_rfl
theorem N165 : (Try.f165.name == "runtime.NumGoroutine") = false := by kernel_rfl
theorem N166 : (Try.f166.name == "runtime.NumGoroutine") = false := by kernel_rfl
theorem N167 : (Try.f167.name == "runtime.NumGoroutine") = false := by kernel_rfl
theorem N168 : (Try.f168.name == "runtime.NumGoroutine") = false := by kernel_rfl
theorem N173 : (Try.f173.name == "runtime.NumGoroutine") = false := by kernel_rfl
theorem N175 : (Try.f175.name == "runtime.NumGoroutine") = false := by kernel_rfl
theorem N176 : (Try.f176.name == "runtime.NumGoroutine") = false := by kernel_rfl
theorem N177 : (Try.f177.name == "runtime.NumGoroutine") = false := by kernel_rfl
theorem N178 : (Try.f178.name == "runtime.NumGoroutine") = false := by kernel_rfl
theorem N179 : (Try.f179.name == "runtime.NumGoroutine") = false := by kernel_rfl
theorem N23 : (Try.f23.name == "runtime.NumGoroutine") = false := by kernel_rfl
theorem N25 : (Try.f25.name == "runtime.NumGoroutine") = false := by kernel_rfl
theorem N28 : (Try.f28.name == "runtime.NumGoroutine") = false := by kernel_rfl
theorem N30 : (Try.f30.name == "runtime.NumGoroutine") = false := by kernel_rfl
theorem N31 : (Try.f31.name == "runtime.NumGoroutine") = false := by kernel_rfl
theorem N32 : (Try.f32.name == "runtime.NumGoroutine") = false := by kernel_rfl
theorem N33 : (Try.f33.name == "runtime.NumGoroutine") = false := by kernel_rfl
theorem N35 : (Try.f35.name == "runtime.NumGoroutine") = false := by kernel_rfl
theorem N47 : (Try.f47.name == "runtime.NumGoroutine") = false := by kernel_rfl
theorem N48 : (Try.f48.name == "runtime.NumGoroutine") = false := by kernel_rfl
theorem N49 : (Try.f49.name == "runtime.NumGoroutine") = false := by kernel_rfl
theorem N50 : (Try.f50.name == "runtime.NumGoroutine") = false := by kernel_rfl
theorem N51 : (Try.f51.name == "runtime.NumGoroutine") = false := by kernel_rfl
theorem N52 : (Try.f52.name == "runtime.NumGoroutine") = false := by kernel_rfl
theorem N56 : (Try.f56.name == "runtime.NumGoroutine") = false := by kernel_rfl
theorem N63 : (Try.f63.name == "runtime.NumGoroutine") = false := by kernel_rfl
theorem N65 : (Try.f65.name == "runtime.NumGoroutine") = false := by kernel_rfl
theorem N68 : (Try.f68.name == "runtime.NumGoroutine") = false := by kernel_rfl
theorem N71 : (Try.f71.name == "runtime.NumGoroutine") = false := by kernel_rfl
theorem N72 : (Try.f72.name == "runtime.NumGoroutine") = false := by kernel_rfl
theorem N74 : (Try.f74.name == "runtime.NumGoroutine") = false := by kernel_rfl
theorem N75 : (Try.f75.name == "runtime.NumGoroutine") = false := by kernel_rfl
theorem N77 : (Try.f77.name == "runtime.NumGoroutine") = false := by kernel_rfl
theorem N83 : (Try.f83.name == "runtime.NumGoroutine") = false := by kernel_rfl
theorem N84 : (Try.f84.name == "runtime.NumGoroutine") = false := by kernel_rfl
theorem N89 : (Try.f89.name == "runtime.NumGoroutine") = false := by kernel_rfl
theorem V117 : (Try.prog.info? 117).bind (·.zero) = some (.agg #[.int .i64 0, .int .i64 0]) := by kernel_rfl
theorem V22 : (Try.prog.info? 22).bind (·.zero) = some (.slice none 0 0) := by kernel_rfl
theorem V3 : (Try.prog.info? 3).bind (·.zero) = some (.int .i64 0) := by kernel_rfl
theorem V36 : (Try.prog.info? 36).bind (·.zero) = some (.agg #[.int .i64 0, .slice none 0 0, .slice none 0 0]) := by kernel_rfl
theorem Y22 : cellTy (Try.prog.underlying 22) = true := by kernel_rfl
theorem Y3 : cellTy (Try.prog.underlying 3) = true := by kernel_rfl
theorem Y34 : cellTy (Try.prog.underlying 34) = true := by kernel_rfl
theorem Y4 : cellTy (Try.prog.underlying 4) = true := by kernel_rfl
theorem Y48 : cellTy (Try.prog.underlying 48) = true := by kernel_rfl
theorem Y88 : cellTy (Try.prog.underlying 88) = true := by kernel_rfl
theorem Z117 : (Try.prog.info? 117).map (·.size) = some 2 := by kernel_rfl
theorem Z137 : (Try.prog.info? 137).map (·.size) = some 2 := by kernel_rfl
theorem Z22 : (Try.prog.info? 22).map (·.size) = some 1 := by kernel_rfl
theorem Z3 : (Try.prog.info? 3).map (·.size) = some 1 := by kernel_rfl
theorem Z34 : (Try.prog.info? 34).map (·.size) = some 1 := by kernel_rfl
theorem Z36 : (Try.prog.info? 36).map (·.size) = some 3 := by kernel_rfl
theorem Z4 : (Try.prog.info? 4).map (·.size) = some 1 := by kernel_rfl
theorem Z50 : (Try.prog.info? 50).map (·.size) = some 3 := by kernel_rfl
/-! ### loop.example/g01098/laws.szStepS: function 71 -/
def laws_szStepS.f (l0 : List SStep) (a1 : Int) : Option Int := if w64 (a1 - (l0.length : Int)) < 0 then (some (-1)) else (some (w64 (a1 - (l0.length : Int))))
set_option maxHeartbeats 600000 in
set_option maxRecDepth 100000 in
theorem laws_szStepS.calls {w0 ws : World} {P0 : Nat → Prop} (A0 : Option Addr) (c0 : Nat) (n0 : Nat) (l0 : List SStep) (a1 : Int) (Z : Below w0.heap.size w0 ws) (hF : Fr w0 ws P0 [] ws) (R0 : Stable ws P0 (fun w => Kd.C kStep w A0 n0 l0)) (hc0 : n0 ≤ c0) (r_1 : Int) (h : laws_szStepS.f l0 a1 = some r_1) :
    Calls Try.prog 71 #[.slice A0 n0 c0, .int .i64 a1] ws (Post1 w0 ws P0 (fun (_ : Unit) => .int .i64 r_1) (fun (_ : Unit) => [])) := by
  unfold laws_szStepS.f at h
  obtain rfl := (R0 ws (KeptB.refl _ _)).1
  refine enter Try.func71 rfl Try.ntmps71 rfl hF ?_
  refine c_seq ?_
  refine za0 ?_
  refine o_q rfl rfl (q_asg rfl) ?_
  refine o_end ?_
  refine za1 ?_
  refine c_seq ?_
  refine za0 ?_
  refine o_q rfl rfl (za2 rfl) ?_
  refine o_q rfl rfl (za2 rfl) ?_
  refine o_q rfl rfl (q_len Try.underlying48 rfl) ?_
  refine o_q rfl rfl (q_sub64 rfl rfl) ?_
  refine o_q rfl rfl (q_asg rfl) ?_
  refine o_end ?_
  refine za1 ?_
  refine c_seq ?_
  refine c_seq ?_
  refine za0 ?_
  refine o_q rfl rfl (za2 rfl) ?_
  refine o_q rfl rfl (q_lss rfl rfl) ?_
  refine o_end ?_
  refine za1 ?_
  refine zar _ rfl (fun hb1 => ?_) (fun hb1 => ?_)
  · skip
    replace h := br_t hb1 h
    refine c_seq ?_
    refine za0 ?_
    refine o_q rfl rfl (q_asg rfl) ?_
    refine o_end ?_
    refine za1 ?_
    refine c_ret ?_
    refine za5 ?_
    have e0_ := Option.some.inj h; clear h
    subst e0_
    exact x_r1 () Try.results71 (zab rfl) rfl (fun w h => za6 [] (by decide) rfl w h)
  · skip
    replace h := br_f hb1 h
    refine zaj ?_
    refine za1 ?_
    refine c_seq ?_
    refine za0 ?_
    refine o_q rfl rfl (za2 rfl) ?_
    refine o_q rfl rfl (q_asg rfl) ?_
    refine o_end ?_
    refine za1 ?_
    refine c_ret ?_
    have e0_ := Option.some.inj h; clear h
    subst e0_
    exact x_r1 () Try.results71 (zab rfl) rfl (fun w h => za6 [] (by decide) rfl w h)

/-! ### loop.example/g01098/laws.szIntS: function 56 -/
def laws_szIntS.f (l0 : List Int) (a1 : Int) : Option Int := if w64 (a1 - (l0.length : Int)) < 0 then (some (-1)) else (some (w64 (a1 - (l0.length : Int))))
set_option maxHeartbeats 600000 in
set_option maxRecDepth 100000 in
theorem laws_szIntS.calls {w0 ws : World} {P0 : Nat → Prop} (A0 : Option Addr) (c0 : Nat) (n0 : Nat) (l0 : List Int) (a1 : Int) (Z : Below w0.heap.size w0 ws) (hF : Fr w0 ws P0 [] ws) (R0 : Stable ws P0 (fun w => Kd.C (Kd.int .i64) w A0 n0 l0)) (hc0 : n0 ≤ c0) (r_1 : Int) (h : laws_szIntS.f l0 a1 = some r_1) :
    Calls Try.prog 56 #[.slice A0 n0 c0, .int .i64 a1] ws (Post1 w0 ws P0 (fun (_ : Unit) => .int .i64 r_1) (fun (_ : Unit) => [])) := by
  unfold laws_szIntS.f at h
  obtain rfl := (R0 ws (KeptB.refl _ _)).1
  refine enter Try.func56 rfl Try.ntmps56 rfl hF ?_
  refine c_seq ?_
  refine za0 ?_
  refine o_q rfl rfl (q_asg rfl) ?_
  refine o_end ?_
  refine za1 ?_
  refine c_seq ?_
  refine za0 ?_
  refine o_q rfl rfl (za2 rfl) ?_
  refine o_q rfl rfl (za2 rfl) ?_
  refine o_q rfl rfl (q_len Try.underlying22 rfl) ?_
  refine o_q rfl rfl (q_sub64 rfl rfl) ?_
  refine o_q rfl rfl (q_asg rfl) ?_
  refine o_end ?_
  refine za1 ?_
  refine c_seq ?_
  refine c_seq ?_
  refine za0 ?_
  refine o_q rfl rfl (za2 rfl) ?_
  refine o_q rfl rfl (q_lss rfl rfl) ?_
  refine o_end ?_
  refine za1 ?_
  refine zar _ rfl (fun hb1 => ?_) (fun hb1 => ?_)
  · skip
    replace h := br_t hb1 h
    refine c_seq ?_
    refine za0 ?_
    refine o_q rfl rfl (q_asg rfl) ?_
    refine o_end ?_
    refine za1 ?_
    refine c_ret ?_
    refine za5 ?_
    have e0_ := Option.some.inj h; clear h
    subst e0_
    exact x_r1 () Try.results56 (zab rfl) rfl (fun w h => za6 [] (by decide) rfl w h)
  · skip
    replace h := br_f hb1 h
    refine zaj ?_
    refine za1 ?_
    refine c_seq ?_
    refine za0 ?_
    refine o_q rfl rfl (za2 rfl) ?_
    refine o_q rfl rfl (q_asg rfl) ?_
    refine o_end ?_
    refine za1 ?_
    refine c_ret ?_
    have e0_ := Option.some.inj h; clear h
    subst e0_
    exact x_r1 () Try.results56 (zab rfl) rfl (fun w h => za6 [] (by decide) rfl w h)

/-! ### loop.example/g01098/laws.szPlan: function 33 -/
def laws_szPlan.f (a0_0 : Int) (l0_1 : List SStep) (l0_2 : List Int) (a1 : Int) : Option Int := (laws_szStepS.f l0_1 a1).bind fun i4 => if i4 < 0 then (some (-1)) else ((laws_szIntS.f l0_2 i4).bind fun i7 => if i7 < 0 then (some (-1)) else (some i7))
set_option maxHeartbeats 600000 in
set_option maxRecDepth 100000 in
theorem laws_szPlan.calls {w0 ws : World} {P0 : Nat → Prop} (a0_0 : Int) (A0_1 : Option Addr) (c0_1 : Nat) (n0_1 : Nat) (l0_1 : List SStep) (A0_2 : Option Addr) (c0_2 : Nat) (n0_2 : Nat) (l0_2 : List Int) (a1 : Int) (Z : Below w0.heap.size w0 ws) (hF : Fr w0 ws P0 [] ws) (R0_1 : Stable ws P0 (fun w => Kd.C kStep w A0_1 n0_1 l0_1)) (hc0_1 : n0_1 ≤ c0_1) (R0_2 : Stable ws P0 (fun w => Kd.C (Kd.int .i64) w A0_2 n0_2 l0_2)) (hc0_2 : n0_2 ≤ c0_2) (r_1 : Int) (h : laws_szPlan.f a0_0 l0_1 l0_2 a1 = some r_1) :
    Calls Try.prog 33 #[.agg #[.int .i64 a0_0, .slice A0_1 n0_1 c0_1, .slice A0_2 n0_2 c0_2], .int .i64 a1] ws (Post1 w0 ws P0 (fun (_ : Unit) => .int .i64 r_1) (fun (_ : Unit) => [])) := by
  unfold laws_szPlan.f at h
  obtain rfl := (R0_1 ws (KeptB.refl _ _)).1
  obtain rfl := (R0_2 ws (KeptB.refl _ _)).1
  refine enter Try.func33 rfl Try.ntmps33 rfl hF ?_
  refine c_seq ?_
  refine za0 ?_
  refine o_e rfl (e_box rfl) (fun g1 => ?_)
  refine o_q rfl rfl (q_asg rfl) ?_
  refine o_end ?_
  refine za1 ?_
  refine c_seq ?_
  refine za0 ?_
  refine o_q rfl rfl (q_f F50_1 rfl) ?_
  refine o_q rfl rfl (q_ldb Y48 rfl (fun w h => h.zaa (i := 0) rfl) rfl) ?_
  refine o_q rfl rfl (za2 rfl) ?_
  refine za8 h (fun i4 hx3 h => ?_) rfl
  refine o_e rfl (za9 0 Z Try.func71 N71 rfl rfl rfl (fun w P1 hF hB hS hT => laws_szStepS.calls A0_1 c0_1 l0_1.length l0_1 a1 hB hF (hS _ R0_1) hc0_1 _ hx3)) (fun _ => ?_)
  refine o_q rfl rfl (q_asg rfl) ?_
  refine o_end ?_
  refine za1 ?_
  refine c_seq ?_
  refine c_seq ?_
  refine za0 ?_
  refine o_q rfl rfl (za2 rfl) ?_
  refine o_q rfl rfl (q_lss rfl rfl) ?_
  refine o_end ?_
  refine za1 ?_
  refine zar _ rfl (fun hb5 => ?_) (fun hb5 => ?_)
  · skip
    replace h := br_t hb5 h
    refine c_seq ?_
    refine za0 ?_
    refine o_q rfl rfl (q_asg rfl) ?_
    refine o_end ?_
    refine za1 ?_
    refine c_ret ?_
    refine za5 ?_
    have e0_ := Option.some.inj h; clear h
    subst e0_
    exact x_r1 () Try.results33 (zab rfl) rfl (fun w h => za6 [] (by decide) rfl w h)
  · skip
    replace h := br_f hb5 h
    refine zaj ?_
    refine za1 ?_
    refine c_seq ?_
    refine za0 ?_
    refine o_q rfl rfl (q_f F50_2 rfl) ?_
    refine o_q rfl rfl (q_ldb Y22 rfl (fun w h => h.zaa (i := 0) rfl) rfl) ?_
    refine o_q rfl rfl (za2 rfl) ?_
    refine za8 h (fun i7 hx6 h => ?_) rfl
    refine o_e rfl (za9 0 Z Try.func56 N56 rfl rfl rfl (fun w P1 hF hB hS hT => laws_szIntS.calls A0_2 c0_2 l0_2.length l0_2 i4 hB hF (hS _ R0_2) hc0_2 _ hx6)) (fun _ => ?_)
    refine o_q rfl rfl (q_asg rfl) ?_
    refine o_end ?_
    refine za1 ?_
    refine c_seq ?_
    refine c_seq ?_
    refine za0 ?_
    refine o_q rfl rfl (za2 rfl) ?_
    refine o_q rfl rfl (q_lss rfl rfl) ?_
    refine o_end ?_
    refine za1 ?_
    refine zar _ rfl (fun hb8 => ?_) (fun hb8 => ?_)
    · skip
      replace h := br_t hb8 h
      refine c_seq ?_
      refine za0 ?_
      refine o_q rfl rfl (q_asg rfl) ?_
      refine o_end ?_
      refine za1 ?_
      refine c_ret ?_
      refine za5 ?_
      have e0_ := Option.some.inj h; clear h
      subst e0_
      exact x_r1 () Try.results33 (zab rfl) rfl (fun w h => za6 [] (by decide) rfl w h)
    · skip
      replace h := br_f hb8 h
      refine zaj ?_
      refine za1 ?_
      refine c_seq ?_
      refine za0 ?_
      refine o_q rfl rfl (za2 rfl) ?_
      refine o_q rfl rfl (q_asg rfl) ?_
      refine o_end ?_
      refine za1 ?_
      refine c_ret ?_
      have e0_ := Option.some.inj h; clear h
      subst e0_
      exact x_r1 () Try.results33 (zab rfl) rfl (fun w h => za6 [] (by decide) rfl w h)

/-! ### loop.example/g01098/laws.toStep: function 138 -/
def laws_toStep.f (a0 : SStep) : Option Unit := some ()
set_option maxHeartbeats 600000 in
set_option maxRecDepth 100000 in
theorem laws_toStep.calls {w0 ws : World} {P0 : Nat → Prop} (a0 : SStep) (Z : Below w0.heap.size w0 ws) (hF : Fr w0 ws P0 [] ws)   (h : laws_toStep.f a0 = some ()) :
    Calls Try.prog 138 #[.agg #[.int .i64 a0.f0, .int .i64 a0.f1]] ws (Post1 w0 ws P0 (fun (_ : Unit) => .agg #[.int .i64 a0.f0, .int .i64 a0.f1]) (fun (_ : Unit) => [])) := by
  unfold laws_toStep.f at h
  refine enter Try.func138 rfl Try.ntmps138 rfl hF ?_
  refine c_seq ?_
  refine za0 ?_
  refine o_e rfl (e_box rfl) (fun g1 => ?_)
  refine o_e rfl (e_alloc V117 rfl) (fun g3 => ?_)
  refine o_end ?_
  refine za1 ?_
  refine c_seq ?_
  refine za0 ?_
  refine o_e rfl (e_alloc V117 rfl) (fun g5 => ?_)
  refine o_end ?_
  refine za1 ?_
  refine c_seq ?_
  refine za0 ?_
  refine o_q rfl rfl (q_f F137_0 rfl) ?_
  refine o_q rfl rfl (q_ldb Y3 rfl (fun w h => h.zaa (i := 2) rfl) rfl) ?_
  refine o_q rfl rfl (q_f F117_0 rfl) ?_
  refine o_e rfl (e_store (i := 0) rfl rfl rfl rfl Z3 rfl rfl) (fun _ => ?_)
  refine o_end ?_
  refine za1 ?_
  refine c_seq ?_
  refine za0 ?_
  refine o_q rfl rfl (q_f F137_1 rfl) ?_
  refine o_q rfl rfl (q_ldb Y3 rfl (fun w h => h.zaa (i := 2) rfl) rfl) ?_
  refine o_q rfl rfl (q_f F117_1 rfl) ?_
  refine o_e rfl (e_store (i := 0) rfl rfl rfl rfl Z3 rfl rfl) (fun _ => ?_)
  refine o_end ?_
  refine za1 ?_
  refine c_seq ?_
  refine za0 ?_
  refine o_q rfl rfl (q_ldB G117 Z117 rfl (fun w h => h.zaa (i := 0) rfl) rfl) ?_
  refine o_e rfl (e_storeA (i := 1) rfl rfl rfl Z117 rfl rfl) (fun _ => ?_)
  refine o_end ?_
  refine za1 ?_
  refine c_ret ?_
  exact x_r1 () Try.results138 (rv_cell rfl G117 Z117 (fun w h => h.zaa (i := 1) rfl) rfl) rfl (fun w h => za6 [] (by decide) rfl w h)

/-! ### loop.example/g01098/laws.toStepS: function 74 -/
def laws_toStepS.l0 (l0 : List SStep) : Nat → (List SStep) → Int → Option (List SStep)
  | 0, _, _ => none
  | k10 + 1, l6, i7 => if i7 < (l0.length : Int) then ((gt l0 i7).bind fun y21 => (laws_toStep.f y21).bind fun _ => (gt l6 i7).bind fun y25 => (st l6 i7 (⟨y21.f0, y21.f1⟩ : SStep)).bind fun l26 => laws_toStepS.l0 l0 k10 l26 (w64 (i7 + 1))) else (some l6)
def laws_toStepS.f (k : Nat) (l0 : List SStep) : Option (List SStep) := (mk0 (l0.length : Int) (⟨0, 0⟩ : SStep)).bind fun l1 => (laws_toStepS.l0 l0 k l1 0).bind fun l6 => some l6
set_option maxHeartbeats 600000 in
set_option maxRecDepth 100000 in
theorem laws_toStepS.calls (k : Nat) {w0 ws : World} {P0 : Nat → Prop} (A0 : Option Addr) (c0 : Nat) (n0 : Nat) (l0 : List SStep) (Z : Below w0.heap.size w0 ws) (hF : Fr w0 ws P0 [] ws) (R0 : Stable ws P0 (fun w => Kd.C kStep w A0 n0 l0)) (hc0 : n0 ≤ c0) (r_1 : List SStep) (h : laws_toStepS.f k l0 = some r_1) :
    Calls Try.prog 74 #[.slice A0 n0 c0] ws (Post1 w0 ws P0 (fun ((q_2, q_3) : (Option Addr) × Nat) => .slice q_2 r_1.length q_3) (fun ((q_2, q_3) : (Option Addr) × Nat) => [row kStep 117 (.slice q_2 r_1.length q_3) r_1])) := by
  unfold laws_toStepS.f at h
  obtain rfl := (R0 ws (KeptB.refl _ _)).1
  refine enter Try.func74 rfl Try.ntmps74 rfl hF ?_
  refine c_seq ?_
  refine za0 ?_
  refine o_q rfl rfl (q_asg rfl) ?_
  refine o_end ?_
  refine za1 ?_
  refine c_seq ?_
  refine za0 ?_
  refine o_q rfl rfl (za2 rfl) ?_
  refine o_q rfl rfl (q_len Try.underlying48 rfl) ?_
  refine za8 h (fun l1 hm2 h => ?_) rfl
  refine o_e rfl (e_make kStep (⟨0, 0⟩ : SStep) Try.underlying34 I117 rfl (by decide) (by decide) (fun _ _ => rfl) rfl rfl hm2) (cur2 (fun A3 c4 => ?_))
  refine o_q rfl rfl (q_asg rfl) ?_
  refine o_end ?_
  refine za1 ?_
  refine c_seq ?_
  refine c_seq ?_
  refine za0 ?_
  refine o_q rfl rfl (q_asg rfl) ?_
  refine o_end ?_
  refine za1 ?_
  refine zan ?_
  refine za8 h (fun o15 hl14 hR13 => ?_) rfl
  clear h
  refine zaw (σ := (List SStep) × Int) (fun k10 ((l6, i7) : (List SStep) × Int) => laws_toStepS.l0 l0 k10 l6 i7 = some o15) [4, 8, 9, 10, 11, 12, 13, 14, 15, 16, 17, 18, 19, 20, 21] (fun ((l6, i7) : (List SStep) × Int) => [(4, .int .i64 i7)]) (fun ((l6, i7) : (List SStep) × Int) => [row kStep 117 (.slice A3 l1.length c4) l6]) k (l1, 0) hl14 ⟨rfl, trivial⟩ (fun w h => h) ?_
  refine natC (cur2 (fun l6 i7 => fun U16 hJ_ => ?_)) (fun k10 => (cur2 (fun l6 i7 => fun U16 hJ_ => ?_)))
  · skip
    replace hJ_ : laws_toStepS.l0 l0 0 l6 i7 = some o15 := hJ_
    rw [laws_toStepS.l0] at hJ_
    exact noneE hJ_
  · skip
    clear hl14
    have h := hJ_; clear hJ_
    replace h : laws_toStepS.l0 l0 (k10 + 1) l6 i7 = some o15 := h
    rw [laws_toStepS.l0] at h
    refine c_seq ?_
    refine c_seq ?_
    refine za0 ?_
    refine o_q rfl rfl (za2 rfl) ?_
    refine o_q rfl rfl (za2 rfl) ?_
    refine o_q rfl rfl (q_len Try.underlying48 rfl) ?_
    refine o_q rfl rfl (q_lss rfl rfl) ?_
    refine o_end ?_
    refine za1 ?_
    refine zar _ rfl (fun hb18 => ?_) (fun hb18 => ?_)
    · skip
      replace h := br_t hb18 h
      refine zaj ?_
      refine za1 ?_
      refine c_seq ?_
      refine zan ?_
      refine za0 ?_
      refine o_q rfl rfl (za2 rfl) ?_
      refine o_q rfl rfl (za2 rfl) ?_
      refine o_q rfl rfl (za2 rfl) ?_
      refine o_q rfl rfl (za2 rfl) ?_
      refine zav (p := Sh A0 l0.length l0.length) (fun w h => f_sh (dk := kStep) h (fun w h => R0.now Z h)) (fun hq19 => ?_)
      refine za8 h (fun y21 hg20 h => ?_) rfl
      refine o_q rfl rfl (q_ix Try.underlying48 Z137 rfl rfl hq19 hg20) ?_
      refine o_q rfl rfl (q_ldE G137 Z137 rfl rfl (fun w h => R0.now Z h) hg20 (fun _ _ h => h) rfl) ?_
      refine za8 h (fun _ hx22 h => ?_) rfl
      refine o_e rfl (za9 0 Z Try.func138 N138 rfl rfl rfl (fun w P1 hF hB hS hT => laws_toStep.calls y21 hB hF hx22)) (fun _ => ?_)
      refine zav (p := Sh A3 l1.length l6.length) (fun w h => f_sh (dk := kStep) h (fun w h => h.zat (i := 0) rfl)) (fun hq23 => ?_)
      refine za8 h (fun y25 hg24 h => ?_) rfl
      refine o_q rfl rfl (q_ix Try.underlying34 Z117 rfl rfl hq23 hg24) ?_
      refine za8 h (fun l26 hs27 h => ?_) rfl
      refine o_e rfl (e_setF (i := 0) (off := 0) (vs := [.int .i64 y21.f0, .int .i64 y21.f1]) (q' := (⟨y21.f0, y21.f1⟩ : SStep)) rfl rfl rfl rfl rfl rfl Z117 hg24 rfl rfl hs27) (fun _ => ?_)
      refine o_end ?_
      refine zao ?_
      refine za1 ?_
      refine za0 ?_
      refine o_q rfl rfl (za2 rfl) ?_
      refine o_q rfl rfl (q_add64 rfl rfl) ?_
      refine o_q rfl rfl (q_asg rfl) ?_
      refine o_end ?_
      refine zaf k10 (l26, w64 (i7 + 1)) (Nat.lt_succ_self _) h ⟨rfl, trivial⟩ (fun w h => za6 [0] (by decide) rfl w h) ?_
      repeat (first | exact zad _ _ | refine zah rfl ?_ | refine zae rfl ?_ | refine zai rfl ?_)
    · skip
      replace h := br_f hb18 h
      refine c_exit ?_
      refine za7 ?_
      refine za7 ?_
      have e_ := Option.some.inj h; replace h := hR13; rw [← e_] at h; clear e_
      refine x_hit ?_
      refine za1 ?_
      refine c_seq ?_
      refine za0 ?_
      refine o_q rfl rfl (za2 rfl) ?_
      refine o_q rfl rfl (q_asg rfl) ?_
      refine o_end ?_
      refine za1 ?_
      refine c_ret ?_
      refine x_fact (p := l1.length = l6.length) (fun w h => (h.row_C (i := 0) rfl).2.1) (fun hn28 => ?_)
      have e0_ := Option.some.inj h; clear h
      subst e0_
      exact x_r1 (A3, c4) Try.results74 (zab (v := .slice A3 l1.length c4) rfl) (by (try rw [hn28]); first | done | rfl) (f_pickE (L1 := [row kStep 117 (.slice A3 l1.length c4) l6]) rfl [0] (by decide) rfl (by (try rw [hn28]); first | done | rfl))

/-! ### loop.example/g01098/laws.toIntS: function 28 -/
def laws_toIntS.l0 (l0 : List Int) : Nat → (List Int) → Int → Option (List Int)
  | 0, _, _ => none
  | k10 + 1, l6, i7 => if i7 < (l0.length : Int) then ((gt l0 i7).bind fun y21 => (gt l6 i7).bind fun y24 => (st l6 i7 y21).bind fun l25 => laws_toIntS.l0 l0 k10 l25 (w64 (i7 + 1))) else (some l6)
def laws_toIntS.f (k : Nat) (l0 : List Int) : Option (List Int) := (mk0 (l0.length : Int) (0 : Int)).bind fun l1 => (laws_toIntS.l0 l0 k l1 0).bind fun l6 => some l6
set_option maxHeartbeats 600000 in
set_option maxRecDepth 100000 in
theorem laws_toIntS.calls (k : Nat) {w0 ws : World} {P0 : Nat → Prop} (A0 : Option Addr) (c0 : Nat) (n0 : Nat) (l0 : List Int) (Z : Below w0.heap.size w0 ws) (hF : Fr w0 ws P0 [] ws) (R0 : Stable ws P0 (fun w => Kd.C (Kd.int .i64) w A0 n0 l0)) (hc0 : n0 ≤ c0) (r_1 : List Int) (h : laws_toIntS.f k l0 = some r_1) :
    Calls Try.prog 28 #[.slice A0 n0 c0] ws (Post1 w0 ws P0 (fun ((q_2, q_3) : (Option Addr) × Nat) => .slice q_2 r_1.length q_3) (fun ((q_2, q_3) : (Option Addr) × Nat) => [row (Kd.int .i64) 3 (.slice q_2 r_1.length q_3) r_1])) := by
  unfold laws_toIntS.f at h
  obtain rfl := (R0 ws (KeptB.refl _ _)).1
  refine enter Try.func28 rfl Try.ntmps28 rfl hF ?_
  refine c_seq ?_
  refine za0 ?_
  refine o_q rfl rfl (q_asg rfl) ?_
  refine o_end ?_
  refine za1 ?_
  refine c_seq ?_
  refine za0 ?_
  refine o_q rfl rfl (za2 rfl) ?_
  refine o_q rfl rfl (q_len Try.underlying22 rfl) ?_
  refine za8 h (fun l1 hm2 h => ?_) rfl
  refine o_e rfl (e_make (Kd.int .i64) (0 : Int) Try.underlying22 I3 rfl (by decide) (by decide) (fun _ _ => rfl) rfl rfl hm2) (cur2 (fun A3 c4 => ?_))
  refine o_q rfl rfl (q_asg rfl) ?_
  refine o_end ?_
  refine za1 ?_
  refine c_seq ?_
  refine c_seq ?_
  refine za0 ?_
  refine o_q rfl rfl (q_asg rfl) ?_
  refine o_end ?_
  refine za1 ?_
  refine zan ?_
  refine za8 h (fun o15 hl14 hR13 => ?_) rfl
  clear h
  refine zaw (σ := (List Int) × Int) (fun k10 ((l6, i7) : (List Int) × Int) => laws_toIntS.l0 l0 k10 l6 i7 = some o15) [4, 8, 9, 10, 11, 12, 13, 14, 15, 16, 17, 18, 19, 20] (fun ((l6, i7) : (List Int) × Int) => [(4, .int .i64 i7)]) (fun ((l6, i7) : (List Int) × Int) => [row (Kd.int .i64) 3 (.slice A3 l1.length c4) l6]) k (l1, 0) hl14 ⟨rfl, trivial⟩ (fun w h => h) ?_
  refine natC (cur2 (fun l6 i7 => fun U16 hJ_ => ?_)) (fun k10 => (cur2 (fun l6 i7 => fun U16 hJ_ => ?_)))
  · skip
    replace hJ_ : laws_toIntS.l0 l0 0 l6 i7 = some o15 := hJ_
    rw [laws_toIntS.l0] at hJ_
    exact noneE hJ_
  · skip
    clear hl14
    have h := hJ_; clear hJ_
    replace h : laws_toIntS.l0 l0 (k10 + 1) l6 i7 = some o15 := h
    rw [laws_toIntS.l0] at h
    refine c_seq ?_
    refine c_seq ?_
    refine za0 ?_
    refine o_q rfl rfl (za2 rfl) ?_
    refine o_q rfl rfl (za2 rfl) ?_
    refine o_q rfl rfl (q_len Try.underlying22 rfl) ?_
    refine o_q rfl rfl (q_lss rfl rfl) ?_
    refine o_end ?_
    refine za1 ?_
    refine zar _ rfl (fun hb18 => ?_) (fun hb18 => ?_)
    · skip
      replace h := br_t hb18 h
      refine zaj ?_
      refine za1 ?_
      refine c_seq ?_
      refine zan ?_
      refine za0 ?_
      refine o_q rfl rfl (za2 rfl) ?_
      refine o_q rfl rfl (za2 rfl) ?_
      refine o_q rfl rfl (za2 rfl) ?_
      refine o_q rfl rfl (za2 rfl) ?_
      refine zav (p := Sh A0 l0.length l0.length) (fun w h => f_sh (dk := (Kd.int .i64)) h (fun w h => R0.now Z h)) (fun hq19 => ?_)
      refine za8 h (fun y21 hg20 h => ?_) rfl
      refine o_q rfl rfl (q_ix Try.underlying22 Z3 rfl rfl hq19 hg20) ?_
      refine o_q rfl rfl (q_lde (off := 0) Y3 rfl rfl (fun w h => R0.now Z h) hg20 (fun _ _ h => h) rfl) ?_
      refine zav (p := Sh A3 l1.length l6.length) (fun w h => f_sh (dk := (Kd.int .i64)) h (fun w h => h.zat (i := 0) rfl)) (fun hq22 => ?_)
      refine za8 h (fun y24 hg23 h => ?_) rfl
      refine o_q rfl rfl (q_ix Try.underlying22 Z3 rfl rfl hq22 hg23) ?_
      refine za8 h (fun l25 hs26 h => ?_) rfl
      refine o_e rfl (e_set (i := 0) rfl rfl rfl Z3 hs26) (fun _ => ?_)
      refine o_end ?_
      refine zao ?_
      refine za1 ?_
      refine za0 ?_
      refine o_q rfl rfl (za2 rfl) ?_
      refine o_q rfl rfl (q_add64 rfl rfl) ?_
      refine o_q rfl rfl (q_asg rfl) ?_
      refine o_end ?_
      refine zaf k10 (l25, w64 (i7 + 1)) (Nat.lt_succ_self _) h ⟨rfl, trivial⟩ (fun w h => za6 [0] (by decide) rfl w h) ?_
      repeat (first | exact zad _ _ | refine zah rfl ?_ | refine zae rfl ?_ | refine zai rfl ?_)
    · skip
      replace h := br_f hb18 h
      refine c_exit ?_
      refine za7 ?_
      refine za7 ?_
      have e_ := Option.some.inj h; replace h := hR13; rw [← e_] at h; clear e_
      refine x_hit ?_
      refine za1 ?_
      refine c_seq ?_
      refine za0 ?_
      refine o_q rfl rfl (za2 rfl) ?_
      refine o_q rfl rfl (q_asg rfl) ?_
      refine o_end ?_
      refine za1 ?_
      refine c_ret ?_
      refine x_fact (p := l1.length = l6.length) (fun w h => (h.row_C (i := 0) rfl).2.1) (fun hn27 => ?_)
      have e0_ := Option.some.inj h; clear h
      subst e0_
      exact x_r1 (A3, c4) Try.results28 (zab (v := .slice A3 l1.length c4) rfl) (by (try rw [hn27]); first | done | rfl) (f_pickE (L1 := [row (Kd.int .i64) 3 (.slice A3 l1.length c4) l6]) rfl [0] (by decide) rfl (by (try rw [hn27]); first | done | rfl))

/-! ### loop.example/g01098/laws.toPlan: function 35 -/
def laws_toPlan.f (k : Nat) (a0_0 : Int) (l0_1 : List SStep) (l0_2 : List Int) : Option ((List SStep) × (List Int)) := (laws_toStepS.f k l0_1).bind fun l8 => (laws_toIntS.f k l0_2).bind fun l12 => some (l8, l12)
set_option maxHeartbeats 600000 in
set_option maxRecDepth 100000 in
theorem laws_toPlan.calls (k : Nat) {w0 ws : World} {P0 : Nat → Prop} (a0_0 : Int) (A0_1 : Option Addr) (c0_1 : Nat) (n0_1 : Nat) (l0_1 : List SStep) (A0_2 : Option Addr) (c0_2 : Nat) (n0_2 : Nat) (l0_2 : List Int) (Z : Below w0.heap.size w0 ws) (hF : Fr w0 ws P0 [] ws) (R0_1 : Stable ws P0 (fun w => Kd.C kStep w A0_1 n0_1 l0_1)) (hc0_1 : n0_1 ≤ c0_1) (R0_2 : Stable ws P0 (fun w => Kd.C (Kd.int .i64) w A0_2 n0_2 l0_2)) (hc0_2 : n0_2 ≤ c0_2) (r_1 : List SStep) (r_4 : List Int) (h : laws_toPlan.f k a0_0 l0_1 l0_2 = some (r_1, r_4)) :
    Calls Try.prog 35 #[.agg #[.int .i64 a0_0, .slice A0_1 n0_1 c0_1, .slice A0_2 n0_2 c0_2]] ws (Post1 w0 ws P0 (fun ((q_2, q_3, q_5, q_6) : (Option Addr) × Nat × (Option Addr) × Nat) => .agg #[.int .i64 a0_0, .slice q_2 r_1.length q_3, .slice q_5 r_4.length q_6]) (fun ((q_2, q_3, q_5, q_6) : (Option Addr) × Nat × (Option Addr) × Nat) => [row kStep 117 (.slice q_2 r_1.length q_3) r_1, row (Kd.int .i64) 3 (.slice q_5 r_4.length q_6) r_4])) := by
  unfold laws_toPlan.f at h
  obtain rfl := (R0_1 ws (KeptB.refl _ _)).1
  obtain rfl := (R0_2 ws (KeptB.refl _ _)).1
  refine enter Try.func35 rfl Try.ntmps35 rfl hF ?_
  refine c_seq ?_
  refine za0 ?_
  refine o_e rfl (e_box rfl) (fun g1 => ?_)
  refine o_e rfl (e_alloc V36 rfl) (fun g3 => ?_)
  refine o_end ?_
  refine za1 ?_
  refine c_seq ?_
  refine za0 ?_
  refine o_e rfl (e_alloc V36 rfl) (fun g5 => ?_)
  refine o_end ?_
  refine za1 ?_
  refine c_seq ?_
  refine za0 ?_
  refine o_q rfl rfl (q_f F50_0 rfl) ?_
  refine o_q rfl rfl (q_ldb Y3 rfl (fun w h => h.zaa (i := 2) rfl) rfl) ?_
  refine o_q rfl rfl (q_f F36_0 rfl) ?_
  refine o_e rfl (e_store (i := 0) rfl rfl rfl rfl Z3 rfl rfl) (fun _ => ?_)
  refine o_end ?_
  refine za1 ?_
  refine c_seq ?_
  refine za0 ?_
  refine o_q rfl rfl (q_f F50_1 rfl) ?_
  refine o_q rfl rfl (q_ldb Y48 rfl (fun w h => h.zaa (i := 2) rfl) rfl) ?_
  refine za8 h (fun l8 hx7 h => ?_) rfl
  refine o_e rfl (za9 0 Z Try.func74 N74 rfl rfl rfl (fun w P1 hF hB hS hT => laws_toStepS.calls k A0_1 c0_1 l0_1.length l0_1 hB hF (hS _ R0_1) hc0_1 _ hx7)) (cur2 (fun A9 c10 => ?_))
  refine o_q rfl rfl (q_f F36_1 rfl) ?_
  refine o_e rfl (e_store (i := 1) rfl rfl rfl rfl Z34 rfl rfl) (fun _ => ?_)
  refine o_end ?_
  refine za1 ?_
  refine c_seq ?_
  refine za0 ?_
  refine o_q rfl rfl (q_f F50_2 rfl) ?_
  refine o_q rfl rfl (q_ldb Y22 rfl (fun w h => h.zaa (i := 3) rfl) rfl) ?_
  refine za8 h (fun l12 hx11 h => ?_) rfl
  refine o_e rfl (za9 0 Z Try.func28 N28 rfl rfl rfl (fun w P1 hF hB hS hT => laws_toIntS.calls k A0_2 c0_2 l0_2.length l0_2 hB hF (hS _ R0_2) hc0_2 _ hx11)) (cur2 (fun A13 c14 => ?_))
  refine o_q rfl rfl (q_f F36_2 rfl) ?_
  refine o_e rfl (e_store (i := 2) rfl rfl rfl rfl Z22 rfl rfl) (fun _ => ?_)
  refine o_end ?_
  refine za1 ?_
  refine c_seq ?_
  refine za0 ?_
  refine o_q rfl rfl (q_ldB G36 Z36 rfl (fun w h => h.zaa (i := 2) rfl) rfl) ?_
  refine o_e rfl (e_storeA (i := 3) rfl rfl rfl Z36 rfl rfl) (fun _ => ?_)
  refine o_end ?_
  refine za1 ?_
  refine c_ret ?_
  have e0_ := Option.some.inj h; clear h
  have d0_ := (Prod.mk.inj e0_).1; have e1_ := (Prod.mk.inj e0_).2; clear e0_; subst d0_
  subst e1_
  exact x_r1 (A9, c10, A13, c14) Try.results35 (rv_cell rfl G36 Z36 (fun w h => h.zaa (i := 3) rfl) rfl) rfl (fun w h => za6 [1, 0] (by decide) rfl w h)

/-! ### loop.example/g01098/spec.l1In: function 77 -/
def spec_l1In.f (a0 : Int) (a1 : Int) (a2 : Int) : Option Bool := if a1 ≤ a0 then (some (decide (a0 ≤ a2))) else (some false)
set_option maxHeartbeats 600000 in
set_option maxRecDepth 100000 in
theorem spec_l1In.calls {w0 ws : World} {P0 : Nat → Prop} (a0 : Int) (a1 : Int) (a2 : Int) (Z : Below w0.heap.size w0 ws) (hF : Fr w0 ws P0 [] ws)  (r_1 : Bool) (h : spec_l1In.f a0 a1 a2 = some r_1) :
    Calls Try.prog 77 #[.int .i64 a0, .int .i64 a1, .int .i64 a2] ws (Post1 w0 ws P0 (fun (_ : Unit) => .bool r_1) (fun (_ : Unit) => [])) := by
  unfold spec_l1In.f at h
  refine enter Try.func77 rfl Try.ntmps77 rfl hF ?_
  refine c_seq ?_
  refine za0 ?_
  refine o_q rfl rfl (q_asg rfl) ?_
  refine o_end ?_
  refine za1 ?_
  refine c_seq ?_
  refine za0 ?_
  refine o_q rfl rfl (za2 rfl) ?_
  refine o_q rfl rfl (za2 rfl) ?_
  refine o_q rfl rfl (q_geq rfl rfl) ?_
  refine o_q rfl rfl (za2 rfl) ?_
  refine byB (decide (a1 ≤ a0)) (fun hb1 => ?_) (fun hb1 => ?_)
  · replace h := br_t hb1 h
    refine o_w (za3 rfl rfl rfl (congrArg Value.bool hb1)) rfl (za2 rfl) ?_
    refine o_w (za3 rfl rfl rfl (congrArg Value.bool hb1)) rfl (za2 rfl) ?_
    refine o_w (za3 rfl rfl rfl (congrArg Value.bool hb1)) rfl (q_leq rfl rfl) ?_
    refine o_q rfl rfl (zam true (congrArg Value.bool hb1) rfl) ?_
    refine o_q rfl rfl (q_asg rfl) ?_
    refine o_end ?_
    refine za1 ?_
    refine c_ret ?_
    have e0_ := Option.some.inj h; clear h
    subst e0_
    exact x_r1 () Try.results77 (zab rfl) rfl (fun w h => za6 [] (by decide) rfl w h)
  · replace h := br_f hb1 h
    refine @o_n _ _ _ _ _ _ _ _ _ _ _ 11 (za4 rfl rfl rfl (congrArg Value.bool hb1) rfl) (Eq.refl (some 11)) ?_
    refine @o_n _ _ _ _ _ _ _ _ _ _ _ 12 (za4 rfl rfl rfl (congrArg Value.bool hb1) rfl) (Eq.refl (some 12)) ?_
    refine @o_n _ _ _ _ _ _ _ _ _ _ _ 13 (za4 rfl rfl rfl (congrArg Value.bool hb1) rfl) (Eq.refl (some 13)) ?_
    refine o_q rfl rfl (zam false (congrArg Value.bool hb1) rfl) ?_
    refine o_q rfl rfl (q_asg rfl) ?_
    refine o_end ?_
    refine za1 ?_
    refine c_ret ?_
    have e0_ := Option.some.inj h; clear h
    subst e0_
    exact x_r1 () Try.results77 (zab rfl) rfl (fun w h => za6 [] (by decide) rfl w h)

/-! ### loop.example/g01098/spec.l1Least: function 177 -/
def spec_l1Least.f (a0 : Int) (a1 : Int) : Option Int := if a0 < a1 then (some a0) else (some a1)
set_option maxHeartbeats 600000 in
set_option maxRecDepth 100000 in
theorem spec_l1Least.calls {w0 ws : World} {P0 : Nat → Prop} (a0 : Int) (a1 : Int) (Z : Below w0.heap.size w0 ws) (hF : Fr w0 ws P0 [] ws)  (r_1 : Int) (h : spec_l1Least.f a0 a1 = some r_1) :
    Calls Try.prog 177 #[.int .i64 a0, .int .i64 a1] ws (Post1 w0 ws P0 (fun (_ : Unit) => .int .i64 r_1) (fun (_ : Unit) => [])) := by
  unfold spec_l1Least.f at h
  refine enter Try.func177 rfl Try.ntmps177 rfl hF ?_
  refine c_seq ?_
  refine za0 ?_
  refine o_q rfl rfl (q_asg rfl) ?_
  refine o_end ?_
  refine za1 ?_
  refine c_seq ?_
  refine c_seq ?_
  refine za0 ?_
  refine o_q rfl rfl (za2 rfl) ?_
  refine o_q rfl rfl (za2 rfl) ?_
  refine o_q rfl rfl (q_lss rfl rfl) ?_
  refine o_end ?_
  refine za1 ?_
  refine zar _ rfl (fun hb1 => ?_) (fun hb1 => ?_)
  · skip
    replace h := br_t hb1 h
    refine c_seq ?_
    refine za0 ?_
    refine o_q rfl rfl (za2 rfl) ?_
    refine o_q rfl rfl (q_asg rfl) ?_
    refine o_end ?_
    refine za1 ?_
    refine c_ret ?_
    refine za5 ?_
    have e0_ := Option.some.inj h; clear h
    subst e0_
    exact x_r1 () Try.results177 (zab rfl) rfl (fun w h => za6 [] (by decide) rfl w h)
  · skip
    replace h := br_f hb1 h
    refine zaj ?_
    refine za1 ?_
    refine c_seq ?_
    refine za0 ?_
    refine o_q rfl rfl (za2 rfl) ?_
    refine o_q rfl rfl (q_asg rfl) ?_
    refine o_end ?_
    refine za1 ?_
    refine c_ret ?_
    have e0_ := Option.some.inj h; clear h
    subst e0_
    exact x_r1 () Try.results177 (zab rfl) rfl (fun w h => za6 [] (by decide) rfl w h)

/-! ### loop.example/g01098/spec.plSum: function 173 -/
def spec_plSum.l0 (l1 : List Int) : (List Int) → (List Int) → Int → Option (List Int)
  | [], l3, i6 => some l3
  | y7 :: ys8, l3, i6 => (gt l1 i6).bind fun y20 => (spec_l1Least.f (w64 (y7 + y20)) 1000001).bind fun i22 => (ap l3 ([i22] : List Int)).bind fun l26 => spec_plSum.l0 l1 ys8 l26 (i6 + 1)
def spec_plSum.f (l0 : List Int) (l1 : List Int) : Option (List Int) := (spec_plSum.l0 l1 l0 ([] : List Int) 0).bind fun l3 => some l3
set_option maxHeartbeats 600000 in
set_option maxRecDepth 100000 in
theorem spec_plSum.calls {w0 ws : World} {P0 : Nat → Prop} (A0 : Option Addr) (c0 : Nat) (n0 : Nat) (l0 : List Int) (A1 : Option Addr) (c1 : Nat) (n1 : Nat) (l1 : List Int) (Z : Below w0.heap.size w0 ws) (hF : Fr w0 ws P0 [] ws) (R0 : Stable ws P0 (fun w => Kd.C (Kd.int .i64) w A0 n0 l0)) (hc0 : n0 ≤ c0) (R1 : Stable ws P0 (fun w => Kd.C (Kd.int .i64) w A1 n1 l1)) (hc1 : n1 ≤ c1) (r_1 : List Int) (h : spec_plSum.f l0 l1 = some r_1) :
    Calls Try.prog 173 #[.slice A0 n0 c0, .slice A1 n1 c1] ws (Post1 w0 ws P0 (fun ((q_2, q_3) : (Option Addr) × Nat) => .slice q_2 r_1.length q_3) (fun ((q_2, q_3) : (Option Addr) × Nat) => [row (Kd.int .i64) 3 (.slice q_2 r_1.length q_3) r_1])) := by
  unfold spec_plSum.f at h
  obtain rfl := (R0 ws (KeptB.refl _ _)).1
  obtain rfl := (R1 ws (KeptB.refl _ _)).1
  refine enter Try.func173 rfl Try.ntmps173 rfl hF ?_
  refine c_seq ?_
  refine za0 ?_
  refine o_q rfl rfl (q_asg rfl) ?_
  refine o_end ?_
  refine za1 ?_
  refine c_seq ?_
  refine za0 ?_
  refine o_q rfl rfl (q_asg rfl) ?_
  refine o_end ?_
  refine za1 ?_
  refine c_seq ?_
  refine c_seq ?_
  refine za0 ?_
  refine o_q rfl rfl (za2 rfl) ?_
  refine o_q rfl rfl (q_len Try.underlying22 rfl) ?_
  refine o_q rfl rfl (za2 rfl) ?_
  refine o_end ?_
  refine za1 ?_
  refine zan ?_
  refine c_nil (Kd.int .i64) 3 ?_
  refine za8 h (fun o14 hl13 hR12 => ?_) rfl
  clear h
  refine c_fact (p := l0.length ≤ 9223372036854775807) (fun w h => (R0.now Z h).2.1) (fun hm11 => ?_)
  refine zaw (σ := (List Int) × (List Int) × Int × (Option Addr) × Nat) (fun k9 ((ys8, l3, i6, A4, c5) : (List Int) × (List Int) × Int × (Option Addr) × Nat) => Rg l0 i6 ys8 ∧ ys8.length = k9 ∧ spec_plSum.l0 l1 ys8 l3 i6 = some o14) [5, 6, 9, 10, 11, 12, 13, 14, 15, 16, 17, 18, 19, 20, 21, 22, 23, 24, 25] (fun ((ys8, l3, i6, A4, c5) : (List Int) × (List Int) × Int × (Option Addr) × Nat) => [(5, .slice A4 l3.length c5), (9, .int .i64 i6)]) (fun ((ys8, l3, i6, A4, c5) : (List Int) × (List Int) × Int × (Option Addr) × Nat) => [row (Kd.int .i64) 3 (.slice A4 l3.length c5) l3]) l0.length (l0, ([] : List Int), 0, none, 0) ⟨Rg.start _, rfl, hl13⟩ ⟨rfl, rfl, trivial⟩ (fun w h => h) ?_
  refine fun k9 => cur5 (listC (fun l3 i6 A4 c5 U15 hJ_ => ?_) (fun y7 ys8 l3 i6 A4 c5 U15 hJ_ => ?_))
  · skip
    clear hl13
    have hr10 := hJ_.1; have hk16 := hJ_.2.1; have h := hJ_.2.2; clear hJ_
    replace h : spec_plSum.l0 l1 [] l3 i6 = some o14 := h
    rw [spec_plSum.l0] at h
    refine c_seq ?_
    refine za0 ?_
    refine o_q rfl rfl (q_lss rfl rfl) ?_
    refine o_end ?_
    refine za1 ?_
    refine c_seq ?_
    refine c_false (congrArg Value.bool hr10.ge) ?_
    refine c_exit ?_
    refine za7 ?_
    refine za7 ?_
    have e_ := Option.some.inj h; replace h := hR12; rw [← e_] at h; clear e_
    refine x_hit ?_
    refine za1 ?_
    refine c_seq ?_
    refine za0 ?_
    refine o_q rfl rfl (za2 rfl) ?_
    refine o_q rfl rfl (q_asg rfl) ?_
    refine o_end ?_
    refine za1 ?_
    refine c_ret ?_
    have e0_ := Option.some.inj h; clear h
    subst e0_
    exact x_r1 (A4, c5) Try.results173 (zab rfl) rfl (fun w h => za6 [0] (by decide) rfl w h)
  · skip
    clear hl13
    have hr10 := hJ_.1; have hk16 := hJ_.2.1; have h := hJ_.2.2; clear hJ_
    replace h : spec_plSum.l0 l1 (y7 :: ys8) l3 i6 = some o14 := h
    rw [spec_plSum.l0] at h
    refine c_seq ?_
    refine za0 ?_
    refine o_q rfl rfl (q_lss rfl rfl) ?_
    refine o_end ?_
    refine za1 ?_
    refine c_seq ?_
    refine c_true (congrArg Value.bool hr10.lt) ?_
    refine zaj ?_
    refine za1 ?_
    refine c_seq ?_
    refine zan ?_
    refine c_seq ?_
    refine za0 ?_
    refine o_q rfl rfl (za2 rfl) ?_
    refine o_q rfl rfl (q_asg rfl) ?_
    refine o_end ?_
    refine za1 ?_
    refine a_startS (ds := []) [none] MO rfl ?_
    refine zac 0 rfl rfl rfl (by kernel_rfl) (fun _ _ _ h => h) (za2 rfl) ?_
    refine zac 1 rfl rfl rfl (by kernel_rfl) (fun _ _ _ h => h) (za2 rfl) ?_
    refine zac 2 rfl rfl rfl (by kernel_rfl) (fun _ _ _ h => h) (za2 rfl) ?_
    refine a_fact (p := Sh A0 l0.length l0.length) (fun w h => f_sh (dk := (Kd.int .i64)) h (fun w h => R0.now Z h)) (fun hq17 => ?_)
    refine zac 3 rfl rfl rfl (by kernel_rfl) (fun _ _ _ h => h) (q_ix Try.underlying22 Z3 rfl rfl hq17 hr10.get) ?_
    refine a_take 4 rfl rfl rfl (by kernel_rfl) (fun _ _ _ h => h) (fun w h => zal [none] (by decide) w h rfl) (q_lde (off := 0) Y3 rfl rfl (fun w h => R0.now Z h) hr10.get (fun _ _ h => h) rfl) ?_
    refine zac 5 rfl rfl rfl (by kernel_rfl) (fun _ _ _ h => h) (za2 rfl) ?_
    refine zac 6 rfl rfl rfl (by kernel_rfl) (fun _ _ _ h => h) (za2 rfl) ?_
    refine a_fact (p := Sh A1 l1.length l1.length) (fun w h => f_sh (dk := (Kd.int .i64)) h (fun w h => R1.now Z h)) (fun hq18 => ?_)
    refine za8 h (fun y20 hg19 h => ?_) rfl
    refine zac 7 rfl rfl rfl (by kernel_rfl) (fun _ _ _ h => h) (q_ix Try.underlying22 Z3 rfl rfl hq18 hg19) ?_
    refine a_take 8 rfl rfl rfl (by kernel_rfl) (fun _ _ _ h => h) (fun w h => zal [none] (by decide) w h rfl) (q_lde (off := 0) Y3 rfl rfl (fun w h => R1.now Z h) hg19 (fun _ _ h => h) rfl) ?_
    refine zac 9 rfl rfl rfl (by kernel_rfl) (fun _ _ _ h => h) (q_add64 rfl rfl) ?_
    refine za8 h (fun i22 hx21 h => ?_) rfl
    refine a_one 10 rfl rfl (by kernel_rfl) rfl (za9 0 Z Try.func177 N177 rfl rfl rfl (fun w P1 hF hB hS hT => spec_l1Least.calls (w64 (y7 + y20)) 1000001 hB hF _ hx21)) (fun s w h => zal [none] (by decide) w h rfl) (fun _ => ?_)
    refine a_one 11 rfl rfl (by kernel_rfl) rfl (e_lit (vs := [(0, .int .i64 i22)]) (cs := [.int .i64 i22]) (Kd.int .i64) ([i22] : List Int) Try.underlying22 I3 (by decide) rfl (by decide) rfl rfl (fun _ _ => Kd.zau _)) (fun s w h => zal [none] (by decide) w h rfl) (cur2 (fun A23 c24 => ?_))
    refine za8 h (fun l26 ha27 h => ?_) rfl
    refine a_one 12 rfl rfl (by kernel_rfl) rfl (e_app (i := 1) (j := 0) Try.underlying22 I3 rfl (by decide) (by decide) rfl rfl rfl rfl rfl ha27) (fun s w h => zal [none] (by decide) w h rfl) (cur2 (fun A28 c29 => ?_))
    refine zac 13 rfl rfl rfl (by kernel_rfl) (fun _ _ _ h => h) (q_asg rfl) ?_
    refine a_done (by kernel_rfl) ?_
    refine zao ?_
    refine za1 ?_
    refine za0 ?_
    refine o_q rfl rfl (q_up rfl rfl (hr10.up hm11)) ?_
    refine o_q rfl rfl (za2 rfl) ?_
    refine o_end ?_
    refine zaf ys8.length (ys8, l26, i6 + 1, A28, c29) (by rw [← hk16]; exact Nat.lt_succ_self _) ⟨hr10.step, rfl, h⟩ ⟨rfl, rfl, trivial⟩ (fun w h => za6 [1] (by decide) rfl w h) ?_
    repeat (first | exact zad _ _ | refine zah rfl ?_ | refine zae rfl ?_ | refine zai rfl ?_)

/-! ### loop.example/g01098/spec.plExponents: function 135 -/
def spec_plExponents.l1 : (List SStep) → (List (List Int)) → Int → Option (List (List Int))
  | [], l39, i43 => some l39
  | y44 :: ys45, l39, i43 => (gt l39 y44.f0).bind fun y300 => (gt l39 y44.f1).bind fun y599 => (spec_plSum.f y300 y599).bind fun l719 => (ap l39 ([l719] : List (List Int))).bind fun l838 => spec_plExponents.l1 ys45 l838 (i43 + 1)
def spec_plExponents.l0 (a0_0 : Int) : Nat → (List (List Int)) → Int → Option (List (List Int))
  | 0, _, _ => none
  | k11 + 1, l4, i8 => if i8 < a0_0 then ((mk0 a0_0 (0 : Int)).bind fun l20 => (gt l20 i8).bind fun y27 => (st l20 i8 1).bind fun l28 => (ap l4 ([l28] : List (List Int))).bind fun l34 => spec_plExponents.l0 a0_0 k11 l34 (w64 (i8 + 1))) else (some l4)
def spec_plExponents.f (k : Nat) (a0_0 : Int) (l0_1 : List SStep) (l0_2 : List Int) : Option (List (List Int)) := (spec_plExponents.l0 a0_0 k ([] : List (List Int)) 0).bind fun l4 => (spec_plExponents.l1 l0_1 l4 0).bind fun l39 => some l39
set_option maxHeartbeats 600000 in
set_option maxRecDepth 100000 in
theorem spec_plExponents.calls (k : Nat) {w0 ws : World} {P0 : Nat → Prop} (a0_0 : Int) (A0_1 : Option Addr) (c0_1 : Nat) (n0_1 : Nat) (l0_1 : List SStep) (A0_2 : Option Addr) (c0_2 : Nat) (n0_2 : Nat) (l0_2 : List Int) (Z : Below w0.heap.size w0 ws) (hF : Fr w0 ws P0 [] ws) (R0_1 : Stable ws P0 (fun w => Kd.C kStep w A0_1 n0_1 l0_1)) (hc0_1 : n0_1 ≤ c0_1) (R0_2 : Stable ws P0 (fun w => Kd.C (Kd.int .i64) w A0_2 n0_2 l0_2)) (hc0_2 : n0_2 ≤ c0_2) (r_1 : List (List Int)) (h : spec_plExponents.f k a0_0 l0_1 l0_2 = some r_1) :
    Calls Try.prog 135 #[.agg #[.int .i64 a0_0, .slice A0_1 n0_1 c0_1, .slice A0_2 n0_2 c0_2]] ws (Post1 w0 ws P0 (fun ((q_2, q_3, q_4) : (Option Addr) × Nat × Hd) => .slice q_2 r_1.length q_3) (fun ((q_2, q_3, q_4) : (Option Addr) × Nat × Hd) => [row (gk 3 (Kd.int .i64)) 22 (.slice q_2 r_1.length q_3) (zp q_4 r_1)])) := by
  unfold spec_plExponents.f at h
  obtain rfl := (R0_1 ws (KeptB.refl _ _)).1
  obtain rfl := (R0_2 ws (KeptB.refl _ _)).1
  refine enter Try.func135 rfl Try.ntmps135 rfl hF ?_
  refine c_seq ?_
  refine za0 ?_
  refine o_e rfl (e_box rfl) (fun g1 => ?_)
  refine o_q rfl rfl (q_asg rfl) ?_
  refine o_end ?_
  refine za1 ?_
  refine c_seq ?_
  refine za0 ?_
  refine o_q rfl rfl (q_asg rfl) ?_
  refine o_end ?_
  refine za1 ?_
  refine c_seq ?_
  refine c_seq ?_
  refine za0 ?_
  refine o_q rfl rfl (q_asg rfl) ?_
  refine o_end ?_
  refine za1 ?_
  refine zan ?_
  refine c_nil (gk 3 (Kd.int .i64)) 22 ?_
  refine za8 h (fun o16 hl15 hR14 => ?_) rfl
  clear h
  refine zaw (σ := (List (List Int)) × Int × (Option Addr) × Nat × Hd) (fun k11 ((l4, i8, A5, c6, H7) : (List (List Int)) × Int × (Option Addr) × Nat × Hd) => spec_plExponents.l0 a0_0 k11 l4 i8 = some o16) [3, 4, 5, 8, 9, 10, 11, 12, 13, 14, 15, 16, 17, 18, 19, 20, 21, 22, 23] (fun ((l4, i8, A5, c6, H7) : (List (List Int)) × Int × (Option Addr) × Nat × Hd) => [(3, .slice A5 l4.length c6), (4, .int .i64 i8)]) (fun ((l4, i8, A5, c6, H7) : (List (List Int)) × Int × (Option Addr) × Nat × Hd) => [row (gk 3 (Kd.int .i64)) 22 (.slice A5 l4.length c6) (zp H7 l4), box g1 36 #[.int .i64 a0_0, .slice A0_1 l0_1.length c0_1, .slice A0_2 l0_2.length c0_2]]) k (([] : List (List Int)), 0, none, 0, ([] : Hd)) hl15 ⟨rfl, rfl, trivial⟩ (fun w h => h) ?_
  refine natC (cur5 (fun l4 i8 A5 c6 H7 => fun U17 hJ_ => ?_)) (fun k11 => (cur5 (fun l4 i8 A5 c6 H7 => fun U17 hJ_ => ?_)))
  · skip
    replace hJ_ : spec_plExponents.l0 a0_0 0 l4 i8 = some o16 := hJ_
    rw [spec_plExponents.l0] at hJ_
    exact noneE hJ_
  · skip
    clear hl15
    have h := hJ_; clear hJ_
    replace h : spec_plExponents.l0 a0_0 (k11 + 1) l4 i8 = some o16 := h
    rw [spec_plExponents.l0] at h
    refine c_seq ?_
    refine c_seq ?_
    refine za0 ?_
    refine o_q rfl rfl (za2 rfl) ?_
    refine o_q rfl rfl (q_f F36_0 rfl) ?_
    refine o_q rfl rfl (q_ldb Y3 rfl (fun w h => h.zaa (i := 1) rfl) rfl) ?_
    refine o_q rfl rfl (q_lss rfl rfl) ?_
    refine o_end ?_
    refine za1 ?_
    refine zar _ rfl (fun hb19 => ?_) (fun hb19 => ?_)
    · skip
      replace h := br_t hb19 h
      refine zaj ?_
      refine za1 ?_
      refine c_seq ?_
      refine zan ?_
      refine c_seq ?_
      refine za0 ?_
      refine o_q rfl rfl (q_f F36_0 rfl) ?_
      refine o_q rfl rfl (q_ldb Y3 rfl (fun w h => h.zaa (i := 1) rfl) rfl) ?_
      refine za8 h (fun l20 hm21 h => ?_) rfl
      refine o_e rfl (e_make (Kd.int .i64) (0 : Int) Try.underlying22 I3 rfl (by decide) (by decide) (fun _ _ => rfl) rfl rfl hm21) (cur2 (fun A22 c23 => ?_))
      refine o_q rfl rfl (q_asg rfl) ?_
      refine o_end ?_
      refine za1 ?_
      refine c_seq ?_
      refine za0 ?_
      refine o_q rfl rfl (za2 rfl) ?_
      refine o_q rfl rfl (za2 rfl) ?_
      refine zav (p := Sh A22 l20.length l20.length) (fun w h => f_sh (dk := (Kd.int .i64)) h (fun w h => h.zat (i := 0) rfl)) (fun hq25 => ?_)
      refine za8 h (fun y27 hg26 h => ?_) rfl
      refine o_q rfl rfl (q_ix Try.underlying22 Z3 rfl rfl hq25 hg26) ?_
      refine za8 h (fun l28 hs29 h => ?_) rfl
      refine o_e rfl (e_set (i := 0) rfl rfl rfl Z3 hs29) (fun _ => ?_)
      refine o_end ?_
      refine za1 ?_
      refine za0 ?_
      refine o_q rfl rfl (za2 rfl) ?_
      refine o_q rfl rfl (za2 rfl) ?_
      refine o_e rfl (e_litG (j := 0) (ue := 3) (dk := (Kd.int .i64)) (ys := l28) Try.underlying109 I22 rfl rfl rfl) (cur3 (fun A30 c31 H33 => ?_))
      refine za8 h (fun l34 ha35 h => ?_) rfl
      refine o_e rfl (e_appG (i := 2) (j := 0) Try.underlying109 I22 rfl (by decide) rfl rfl rfl rfl rfl ha35) (cur3 (fun A36 c37 H38 => ?_))
      refine o_q rfl rfl (q_asg rfl) ?_
      refine o_end ?_
      refine zao ?_
      refine za1 ?_
      refine za0 ?_
      refine o_q rfl rfl (za2 rfl) ?_
      refine o_q rfl rfl (q_add64 rfl rfl) ?_
      refine o_q rfl rfl (q_asg rfl) ?_
      refine o_end ?_
      refine zaf k11 (l34, w64 (i8 + 1), A36, c37, H38) (Nat.lt_succ_self _) h ⟨rfl, rfl, trivial⟩ (fun w h => za6 [2, 3] (by decide) rfl w h) ?_
      repeat (first | exact zad _ _ | refine zah rfl ?_ | refine zae rfl ?_ | refine zai rfl ?_)
    · skip
      replace h := br_f hb19 h
      refine c_exit ?_
      refine za7 ?_
      refine za7 ?_
      have e_ := Option.some.inj h; replace h := hR14; rw [← e_] at h; clear e_
      refine x_hit ?_
      refine za1 ?_
      refine c_seq ?_
      refine c_seq ?_
      refine za0 ?_
      refine o_q rfl rfl (q_f F36_1 rfl) ?_
      refine o_q rfl rfl (q_ldb Y34 rfl (fun w h => h.zaa (i := 1) rfl) rfl) ?_
      refine o_q rfl rfl (q_len Try.underlying34 rfl) ?_
      refine o_q rfl rfl (za2 rfl) ?_
      refine o_end ?_
      refine za1 ?_
      refine zan ?_
      refine za8 h (fun o51 hl50 hR49 => ?_) rfl
      clear h
      refine c_fact (p := l0_1.length ≤ 9223372036854775807) (fun w h => (R0_1.now Z h).2.1) (fun hm48 => ?_)
      refine zaw (σ := (List SStep) × (List (List Int)) × Int × (Option Addr) × Nat × Hd) (fun k46 ((ys45, l39, i43, A40, c41, H42) : (List SStep) × (List (List Int)) × Int × (Option Addr) × Nat × Hd) => Rg l0_1 i43 ys45 ∧ ys45.length = k46 ∧ spec_plExponents.l1 ys45 l39 i43 = some o51) [3, 7, 27, 28, 29, 30, 31, 32, 33, 34, 35, 36, 37, 38, 39, 40, 41, 42, 43, 44, 45] (fun ((ys45, l39, i43, A40, c41, H42) : (List SStep) × (List (List Int)) × Int × (Option Addr) × Nat × Hd) => [(3, .slice A40 l39.length c41), (27, .int .i64 i43)]) (fun ((ys45, l39, i43, A40, c41, H42) : (List SStep) × (List (List Int)) × Int × (Option Addr) × Nat × Hd) => [row (gk 3 (Kd.int .i64)) 22 (.slice A40 l39.length c41) (zp H42 l39), box g1 36 #[.int .i64 a0_0, .slice A0_1 l0_1.length c0_1, .slice A0_2 l0_2.length c0_2]]) l0_1.length (l0_1, l4, 0, A5, c6, H7) ⟨Rg.start _, rfl, hl50⟩ ⟨rfl, rfl, trivial⟩ (fun w h => h) ?_
      refine fun k46 => cur6 (listC (fun l39 i43 A40 c41 H42 U52 hJ_ => ?_) (fun y44 ys45 l39 i43 A40 c41 H42 U52 hJ_ => ?_))
      · skip
        clear hl50
        have hr47 := hJ_.1; have hk53 := hJ_.2.1; have h := hJ_.2.2; clear hJ_
        replace h : spec_plExponents.l1 [] l39 i43 = some o51 := h
        rw [spec_plExponents.l1] at h
        refine c_seq ?_
        refine za0 ?_
        refine o_q rfl rfl (q_lss rfl rfl) ?_
        refine o_end ?_
        refine za1 ?_
        refine c_seq ?_
        refine c_false (congrArg Value.bool hr47.ge) ?_
        refine c_exit ?_
        refine za7 ?_
        refine za7 ?_
        have e_ := Option.some.inj h; replace h := hR49; rw [← e_] at h; clear e_
        refine x_hit ?_
        refine za1 ?_
        refine c_seq ?_
        refine za0 ?_
        refine o_q rfl rfl (za2 rfl) ?_
        refine o_q rfl rfl (q_asg rfl) ?_
        refine o_end ?_
        refine za1 ?_
        refine c_ret ?_
        have e0_ := Option.some.inj h; clear h
        subst e0_
        exact x_r1 (A40, c41, H42) Try.results135 (zab rfl) rfl (fun w h => za6 [0] (by decide) rfl w h)
      · skip
        clear hl50
        have hr47 := hJ_.1; have hk53 := hJ_.2.1; have h := hJ_.2.2; clear hJ_
        replace h : spec_plExponents.l1 (y44 :: ys45) l39 i43 = some o51 := h
        rw [spec_plExponents.l1] at h
        refine c_seq ?_
        refine za0 ?_
        refine o_q rfl rfl (q_lss rfl rfl) ?_
        refine o_end ?_
        refine za1 ?_
        refine c_seq ?_
        refine c_true (congrArg Value.bool hr47.lt) ?_
        refine zaj ?_
        refine za1 ?_
        refine c_seq ?_
        refine zan ?_
        refine c_seq ?_
        refine za0 ?_
        refine zav (p := Sh A0_1 l0_1.length l0_1.length) (fun w h => f_sh (dk := kStep) h (fun w h => R0_1.now Z h)) (fun hq54 => ?_)
        refine o_q rfl rfl (q_ix Try.underlying34 Z117 rfl rfl hq54 hr47.get) ?_
        refine o_q rfl rfl (q_ldE G117 Z117 rfl rfl (fun w h => R0_1.now Z h) hr47.get (fun _ _ h => h) rfl) ?_
        refine o_e rfl (e_alloc V117 rfl) (fun g55 => ?_)
        refine o_e rfl (e_storeA (i := 0) rfl rfl rfl Z117 rfl rfl) (fun _ => ?_)
        refine o_end ?_
        refine za1 ?_
        refine za8 h (fun y300 hg299 h => ?_) rfl
        refine za8 h (fun y599 hg598 h => ?_) rfl
        refine za8 h (fun l719 hx718 h => ?_) rfl
        refine za8 h (fun l838 ha839 h => ?_) rfl
        refine a_startS (ds := []) [some 0, none, some 2] MO rfl ?_
        refine zac 0 rfl rfl rfl (by kernel_rfl) (fun _ _ _ h => h) (za2 rfl) ?_
        refine zac 1 rfl rfl rfl (by kernel_rfl) (fun _ _ _ h => h) (za2 rfl) ?_
        refine zac 2 rfl rfl rfl (by kernel_rfl) (fun _ _ _ h => h) (q_f F117_0 rfl) ?_
        refine a_take 3 rfl rfl rfl (by kernel_rfl) (fun _ _ _ h => h) (fun w h => zal [some 0, none, some 2] (by decide) w h rfl) (q_ldb Y3 rfl (fun w h => h.zaa (i := 0) rfl) rfl) ?_
        refine a_fact (p := Sh A40 l39.length (zp H42 l39).length) (fun w h => f_sh (dk := (gk 3 (Kd.int .i64))) h (fun w h => h.zat (i := 1) rfl)) (fun hq298 => ?_)
        refine zac 4 rfl rfl rfl (by kernel_rfl) (fun _ _ _ h => h) (q_ix Try.underlying109 Z22 rfl rfl hq298 (gt_zp hg299)) ?_
        refine zac 6 rfl rfl rfl (by kernel_rfl) (fun _ _ _ h => h) (za2 rfl) ?_
        refine zac 7 rfl rfl rfl (by kernel_rfl) (fun _ _ _ h => h) (q_f F117_1 rfl) ?_
        refine a_take 8 rfl rfl rfl (by kernel_rfl) (fun _ _ _ h => h) (fun w h => zal [some 0, none, some 2] (by decide) w h rfl) (q_ldb Y3 rfl (fun w h => h.zaa (i := 0) rfl) rfl) ?_
        refine zac 9 rfl rfl rfl (by kernel_rfl) (fun _ _ _ h => h) (q_ix Try.underlying109 Z22 rfl rfl hq298 (gt_zp hg598)) ?_
        refine a_fact (p := y300.length ≤ hC H42 y44.f0) (fun w h => (K_in (h.zat (i := 1) rfl) hg299).1) (fun hc358 => ?_)
        refine a_fact (p := y599.length ≤ hC H42 y44.f1) (fun w h => (K_in (h.zat (i := 1) rfl) hg598).1) (fun hc658 => ?_)
        refine a_two 5 10 rfl rfl rfl rfl (by kernel_rfl) rfl rfl (ev_q rfl (q_lde (off := 0) Y22 rfl rfl (fun w h => h.zat (i := 1) rfl) (gt_zp hg299) (fun _ _ h => h.1) rfl)) (fun s w h => zal [some 0, none, some 2] (by decide) w h rfl) (ev_q rfl (q_lde (off := 0) Y22 rfl rfl (fun w h => h.zat (i := 1) rfl) (gt_zp hg598) (fun _ _ h => h.1) rfl)) (fun s w h => zal [some 0, none, some 2] (by decide) w h rfl) (fun _ => ?_) (fun _ => ?_)
        · skip
          refine a_fact (p := y599.length ≤ hC H42 y44.f1) (fun w h => (K_in (h.zat (i := 1) rfl) hg598).1) (fun hc658 => ?_)
          refine a_one 10 rfl rfl (by kernel_rfl) rfl (ev_q rfl (q_lde (off := 0) Y22 rfl rfl (fun w h => h.zat (i := 1) rfl) (gt_zp hg598) (fun _ _ h => h.1) rfl)) (fun s w h => zal [some 0, none, some 2] (by decide) w h rfl) (fun _ => ?_)
          refine a_one 11 rfl rfl (by kernel_rfl) rfl (za9 0 Z Try.func173 N173 rfl rfl rfl (fun w P1 hF hB hS hT => spec_plSum.calls (hA H42 y44.f0) (hC H42 y44.f0) y300.length y300 (hA H42 y44.f1) (hC H42 y44.f1) y599.length y599 hB hF (stab_in (hT 1 _ rfl).row hg299) hc358 (stab_in (hT 1 _ rfl).row hg598) hc658 _ hx718)) (fun s w h => zal [some 1, none, some 3] (by decide) w h rfl) (cur2 (fun A720 c721 => ?_))
          refine a_one 12 rfl rfl (by kernel_rfl) rfl (e_litG (j := 0) (ue := 3) (dk := (Kd.int .i64)) (ys := l719) Try.underlying109 I22 rfl rfl rfl) (fun s w h => zal [some 2, none, some 4] (by decide) w h rfl) (cur3 (fun A778 c779 H781 => ?_))
          refine a_one 13 rfl rfl (by kernel_rfl) rfl (e_appG (i := 3) (j := 0) Try.underlying109 I22 rfl (by decide) rfl rfl rfl rfl rfl ha839) (fun s w h => zal [some 2, none, some 4] (by decide) w h rfl) (cur3 (fun A840 c841 H842 => ?_))
          refine zac 14 rfl rfl rfl (by kernel_rfl) (fun _ _ _ h => h) (q_asg rfl) ?_
          refine a_done (by kernel_rfl) ?_
          refine zao ?_
          refine za1 ?_
          refine za0 ?_
          refine o_q rfl rfl (q_up rfl rfl (hr47.up hm48)) ?_
          refine o_q rfl rfl (za2 rfl) ?_
          refine o_end ?_
          refine zaf ys45.length (ys45, l838, i43 + 1, A840, c841, H842) (by rw [← hk53]; exact Nat.lt_succ_self _) ⟨hr47.step, rfl, h⟩ ⟨rfl, rfl, trivial⟩ (fun w h => za6 [3, 4] (by decide) rfl w h) ?_
          repeat (first | exact zad _ _ | refine zah rfl ?_ | refine zae rfl ?_ | refine zai rfl ?_)
        · skip
          refine a_fact (p := y300.length ≤ hC H42 y44.f0) (fun w h => (K_in (h.zat (i := 1) rfl) hg299).1) (fun hc358 => ?_)
          refine a_one 5 rfl rfl (by kernel_rfl) rfl (ev_q rfl (q_lde (off := 0) Y22 rfl rfl (fun w h => h.zat (i := 1) rfl) (gt_zp hg299) (fun _ _ h => h.1) rfl)) (fun s w h => zal [some 0, none, some 2] (by decide) w h rfl) (fun _ => ?_)
          refine a_one 11 rfl rfl (by kernel_rfl) rfl (za9 0 Z Try.func173 N173 rfl rfl rfl (fun w P1 hF hB hS hT => spec_plSum.calls (hA H42 y44.f0) (hC H42 y44.f0) y300.length y300 (hA H42 y44.f1) (hC H42 y44.f1) y599.length y599 hB hF (stab_in (hT 1 _ rfl).row hg299) hc358 (stab_in (hT 1 _ rfl).row hg598) hc658 _ hx718)) (fun s w h => zal [some 1, none, some 3] (by decide) w h rfl) (cur2 (fun A720 c721 => ?_))
          refine a_one 12 rfl rfl (by kernel_rfl) rfl (e_litG (j := 0) (ue := 3) (dk := (Kd.int .i64)) (ys := l719) Try.underlying109 I22 rfl rfl rfl) (fun s w h => zal [some 2, none, some 4] (by decide) w h rfl) (cur3 (fun A778 c779 H781 => ?_))
          refine a_one 13 rfl rfl (by kernel_rfl) rfl (e_appG (i := 3) (j := 0) Try.underlying109 I22 rfl (by decide) rfl rfl rfl rfl rfl ha839) (fun s w h => zal [some 2, none, some 4] (by decide) w h rfl) (cur3 (fun A840 c841 H842 => ?_))
          refine zac 14 rfl rfl rfl (by kernel_rfl) (fun _ _ _ h => h) (q_asg rfl) ?_
          refine a_done (by kernel_rfl) ?_
          refine zao ?_
          refine za1 ?_
          refine za0 ?_
          refine o_q rfl rfl (q_up rfl rfl (hr47.up hm48)) ?_
          refine o_q rfl rfl (za2 rfl) ?_
          refine o_end ?_
          refine zaf ys45.length (ys45, l838, i43 + 1, A840, c841, H842) (by rw [← hk53]; exact Nat.lt_succ_self _) ⟨hr47.step, rfl, h⟩ ⟨rfl, rfl, trivial⟩ (fun w h => za6 [3, 4] (by decide) rfl w h) ?_
          repeat (first | exact zad _ _ | refine zah rfl ?_ | refine zae rfl ?_ | refine zai rfl ?_)

/-! ### loop.example/g01098/spec.l1All: function 68 -/
def spec_l1All.l0 (a1 : Int) (a2 : Int) : (List Int) → Int → Option ((Bool) ⊕ (Unit))
  | [], i1 => some (.inr ())
  | y2 :: ys3, i1 => (spec_l1In.f y2 a1 a2).bind fun b14 => if b14 = true then (spec_l1All.l0 a1 a2 ys3 (i1 + 1)) else (some (.inl false))
def spec_l1All.f (l0 : List Int) (a1 : Int) (a2 : Int) : Option Bool := (spec_l1All.l0 a1 a2 l0 0).bind fun o_ => match o_ with | .inl r_ => some r_ | .inr _ => some true
set_option maxHeartbeats 600000 in
set_option maxRecDepth 100000 in
theorem spec_l1All.calls {w0 ws : World} {P0 : Nat → Prop} (A0 : Option Addr) (c0 : Nat) (n0 : Nat) (l0 : List Int) (a1 : Int) (a2 : Int) (Z : Below w0.heap.size w0 ws) (hF : Fr w0 ws P0 [] ws) (R0 : Stable ws P0 (fun w => Kd.C (Kd.int .i64) w A0 n0 l0)) (hc0 : n0 ≤ c0) (r_1 : Bool) (h : spec_l1All.f l0 a1 a2 = some r_1) :
    Calls Try.prog 68 #[.slice A0 n0 c0, .int .i64 a1, .int .i64 a2] ws (Post1 w0 ws P0 (fun (_ : Unit) => .bool r_1) (fun (_ : Unit) => [])) := by
  unfold spec_l1All.f at h
  obtain rfl := (R0 ws (KeptB.refl _ _)).1
  refine enter Try.func68 rfl Try.ntmps68 rfl hF ?_
  refine c_seq ?_
  refine za0 ?_
  refine o_q rfl rfl (q_asg rfl) ?_
  refine o_end ?_
  refine za1 ?_
  refine c_seq ?_
  refine c_seq ?_
  refine za0 ?_
  refine o_q rfl rfl (za2 rfl) ?_
  refine o_q rfl rfl (q_len Try.underlying22 rfl) ?_
  refine o_q rfl rfl (za2 rfl) ?_
  refine o_end ?_
  refine za1 ?_
  refine zan ?_
  refine za8 h (fun o9 hl8 hR7 => ?_) rfl
  clear h
  refine c_fact (p := l0.length ≤ 9223372036854775807) (fun w h => (R0.now Z h).2.1) (fun hm6 => ?_)
  refine zaw (σ := (List Int) × Int) (fun k4 ((ys3, i1) : (List Int) × Int) => Rg l0 i1 ys3 ∧ ys3.length = k4 ∧ spec_l1All.l0 a1 a2 ys3 i1 = some o9) [6, 8, 11, 12, 13, 14, 15, 16, 17, 18, 19, 20] (fun ((ys3, i1) : (List Int) × Int) => [(11, .int .i64 i1)]) (fun ((ys3, i1) : (List Int) × Int) => []) l0.length (l0, 0) ⟨Rg.start _, rfl, hl8⟩ ⟨rfl, trivial⟩ (fun w h => h) ?_
  refine fun k4 => cur2 (listC (fun i1 U10 hJ_ => ?_) (fun y2 ys3 i1 U10 hJ_ => ?_))
  · skip
    clear hl8
    have hr5 := hJ_.1; have hk11 := hJ_.2.1; have h := hJ_.2.2; clear hJ_
    replace h : spec_l1All.l0 a1 a2 [] i1 = some o9 := h
    rw [spec_l1All.l0] at h
    refine c_seq ?_
    refine za0 ?_
    refine o_q rfl rfl (q_lss rfl rfl) ?_
    refine o_end ?_
    refine za1 ?_
    refine c_seq ?_
    refine c_false (congrArg Value.bool hr5.ge) ?_
    refine c_exit ?_
    refine za7 ?_
    refine za7 ?_
    have e_ := Option.some.inj h; replace h := hR7; rw [← e_] at h; clear e_
    refine x_hit ?_
    refine za1 ?_
    refine c_seq ?_
    refine za0 ?_
    refine o_q rfl rfl (q_asg rfl) ?_
    refine o_end ?_
    refine za1 ?_
    refine c_ret ?_
    have e0_ := Option.some.inj h; clear h
    subst e0_
    exact x_r1 () Try.results68 (zab rfl) rfl (fun w h => za6 [] (by decide) rfl w h)
  · skip
    clear hl8
    have hr5 := hJ_.1; have hk11 := hJ_.2.1; have h := hJ_.2.2; clear hJ_
    replace h : spec_l1All.l0 a1 a2 (y2 :: ys3) i1 = some o9 := h
    rw [spec_l1All.l0] at h
    refine c_seq ?_
    refine za0 ?_
    refine o_q rfl rfl (q_lss rfl rfl) ?_
    refine o_end ?_
    refine za1 ?_
    refine c_seq ?_
    refine c_true (congrArg Value.bool hr5.lt) ?_
    refine zaj ?_
    refine za1 ?_
    refine c_seq ?_
    refine zan ?_
    refine c_seq ?_
    refine za0 ?_
    refine zav (p := Sh A0 l0.length l0.length) (fun w h => f_sh (dk := (Kd.int .i64)) h (fun w h => R0.now Z h)) (fun hq12 => ?_)
    refine o_q rfl rfl (q_ix Try.underlying22 Z3 rfl rfl hq12 hr5.get) ?_
    refine o_q rfl rfl (q_lde (off := 0) Y3 rfl rfl (fun w h => R0.now Z h) hr5.get (fun _ _ h => h) rfl) ?_
    refine o_q rfl rfl (q_asg rfl) ?_
    refine o_end ?_
    refine za1 ?_
    refine c_seq ?_
    refine za0 ?_
    refine o_q rfl rfl (za2 rfl) ?_
    refine o_q rfl rfl (za2 rfl) ?_
    refine o_q rfl rfl (za2 rfl) ?_
    refine za8 h (fun b14 hx13 h => ?_) rfl
    refine o_e rfl (za9 0 Z Try.func77 N77 rfl rfl rfl (fun w P1 hF hB hS hT => spec_l1In.calls y2 a1 a2 hB hF _ hx13)) (fun _ => ?_)
    refine o_q rfl rfl (q_not rfl) ?_
    refine o_end ?_
    refine za1 ?_
    refine zar _ rfl (fun hb15 => ?_) (fun hb15 => ?_)
    · replace hb15 := nt_t hb15
      replace h := bb_f hb15 h
      refine c_seq ?_
      refine za0 ?_
      refine o_q rfl rfl (q_asg rfl) ?_
      refine o_end ?_
      refine za1 ?_
      refine c_ret ?_
      refine zaq ?_
      refine za5 ?_
      refine za5 ?_
      have e_ := Option.some.inj h; replace h := hR7; rw [← e_] at h; clear e_
      refine zaq ?_
      refine za5 ?_
      have e0_ := Option.some.inj h; clear h
      subst e0_
      exact x_r1 () Try.results68 (zab rfl) rfl (fun w h => za6 [] (by decide) rfl w h)
    · replace hb15 := nt_f hb15
      replace h := bb_t hb15 h
      refine zaj ?_
      refine zao ?_
      refine za1 ?_
      refine za0 ?_
      refine o_q rfl rfl (q_up rfl rfl (hr5.up hm6)) ?_
      refine o_q rfl rfl (za2 rfl) ?_
      refine o_end ?_
      refine zaf ys3.length (ys3, i1 + 1) (by rw [← hk11]; exact Nat.lt_succ_self _) ⟨hr5.step, rfl, h⟩ ⟨rfl, trivial⟩ (fun w h => za6 [] (by decide) rfl w h) ?_
      repeat (first | exact zad _ _ | refine zah rfl ?_ | refine zae rfl ?_ | refine zai rfl ?_)

/-! ### loop.example/g01098/spec.plGood: function 72 -/
def spec_plGood.l1 : (List (List Int)) → Int → Option ((Bool) ⊕ (Unit))
  | [], i24 => some (.inr ())
  | y25 :: ys26, i24 => (spec_l1All.f y25 0 1000000).bind fun b40 => if b40 = true then (spec_plGood.l1 ys26 (i24 + 1)) else (some (.inl false))
def spec_plGood.l0 (a0_0 : Int) : (List SStep) → Int → Option ((Bool) ⊕ (Unit))
  | [], i8 => some (.inr ())
  | y9 :: ys10, i8 => (spec_l1In.f y9.f0 0 y9.f1).bind fun b46 => if b46 = true then (if w64 (a0_0 + i8) ≤ y9.f1 then (some (.inl false)) else (spec_plGood.l0 a0_0 ys10 (i8 + 1))) else (some (.inl false))
def spec_plGood.f (k : Nat) (a0_0 : Int) (l0_1 : List SStep) (l0_2 : List Int) : Option Bool := (spec_l1In.f a0_0 1 6).bind fun b4 => if b4 = true then (if 40 < (l0_1.length : Int) then (some false) else (if 6 < (l0_2.length : Int) then (some false) else ((spec_plGood.l0 a0_0 l0_1 0).bind fun o_ => match o_ with | .inl r_ => some r_ | .inr _ => (spec_plExponents.f k a0_0 l0_1 l0_2).bind fun l20 => (spec_plGood.l1 l20 0).bind fun o_ => match o_ with | .inl r_ => some r_ | .inr _ => (spec_l1All.f l0_2 0 (w64 (w64 (a0_0 + (l0_1.length : Int)) - 1))).bind fun b36 => some b36))) else (some false)
set_option maxHeartbeats 600000 in
set_option maxRecDepth 100000 in
theorem spec_plGood.calls (k : Nat) {w0 ws : World} {P0 : Nat → Prop} (a0_0 : Int) (A0_1 : Option Addr) (c0_1 : Nat) (n0_1 : Nat) (l0_1 : List SStep) (A0_2 : Option Addr) (c0_2 : Nat) (n0_2 : Nat) (l0_2 : List Int) (Z : Below w0.heap.size w0 ws) (hF : Fr w0 ws P0 [] ws) (R0_1 : Stable ws P0 (fun w => Kd.C kStep w A0_1 n0_1 l0_1)) (hc0_1 : n0_1 ≤ c0_1) (R0_2 : Stable ws P0 (fun w => Kd.C (Kd.int .i64) w A0_2 n0_2 l0_2)) (hc0_2 : n0_2 ≤ c0_2) (r_1 : Bool) (h : spec_plGood.f k a0_0 l0_1 l0_2 = some r_1) :
    Calls Try.prog 72 #[.agg #[.int .i64 a0_0, .slice A0_1 n0_1 c0_1, .slice A0_2 n0_2 c0_2]] ws (Post1 w0 ws P0 (fun (_ : Unit) => .bool r_1) (fun (_ : Unit) => [])) := by
  unfold spec_plGood.f at h
  obtain rfl := (R0_1 ws (KeptB.refl _ _)).1
  obtain rfl := (R0_2 ws (KeptB.refl _ _)).1
  refine enter Try.func72 rfl Try.ntmps72 rfl hF ?_
  refine c_seq ?_
  refine za0 ?_
  refine o_e rfl (e_box rfl) (fun g1 => ?_)
  refine o_q rfl rfl (q_asg rfl) ?_
  refine o_end ?_
  refine za1 ?_
  refine c_seq ?_
  refine c_seq ?_
  refine za0 ?_
  refine o_q rfl rfl (q_f F36_0 rfl) ?_
  refine o_q rfl rfl (q_ldb Y3 rfl (fun w h => h.zaa (i := 0) rfl) rfl) ?_
  refine za8 h (fun b4 hx3 h => ?_) rfl
  refine o_e rfl (za9 0 Z Try.func77 N77 rfl rfl rfl (fun w P1 hF hB hS hT => spec_l1In.calls a0_0 1 6 hB hF _ hx3)) (fun _ => ?_)
  refine o_q rfl rfl (q_not rfl) ?_
  refine o_q rfl rfl (za2 rfl) ?_
  refine byB b4 (fun hb5 => ?_) (fun hb5 => ?_)
  · replace h := bb_t hb5 h
    refine o_w (za3 rfl rfl rfl (congrArg (fun b => Value.bool (!(b))) hb5)) rfl (q_f F36_1 rfl) ?_
    refine o_w (za3 rfl rfl rfl (congrArg (fun b => Value.bool (!(b))) hb5)) rfl (q_ldb Y34 rfl (fun w h => h.zaa (i := 0) rfl) rfl) ?_
    refine o_w (za3 rfl rfl rfl (congrArg (fun b => Value.bool (!(b))) hb5)) rfl (q_len Try.underlying34 rfl) ?_
    refine o_w (za3 rfl rfl rfl (congrArg (fun b => Value.bool (!(b))) hb5)) rfl (q_gtr rfl rfl) ?_
    refine o_q rfl rfl (zam false (congrArg (fun b => Value.bool (!(b))) hb5) rfl) ?_
    refine o_q rfl rfl (za2 rfl) ?_
    refine byB (decide (40 < (l0_1.length : Int))) (fun hb6 => ?_) (fun hb6 => ?_)
    · replace h := br_t hb6 h
      refine @o_n _ _ _ _ _ _ _ _ _ _ _ 18 (za4 rfl rfl rfl (congrArg Value.bool hb6) rfl) (Eq.refl (some 18)) ?_
      refine @o_n _ _ _ _ _ _ _ _ _ _ _ 19 (za4 rfl rfl rfl (congrArg Value.bool hb6) rfl) (Eq.refl (some 19)) ?_
      refine @o_n _ _ _ _ _ _ _ _ _ _ _ 20 (za4 rfl rfl rfl (congrArg Value.bool hb6) rfl) (Eq.refl (some 20)) ?_
      refine @o_n _ _ _ _ _ _ _ _ _ _ _ 21 (za4 rfl rfl rfl (congrArg Value.bool hb6) rfl) (Eq.refl (some 21)) ?_
      refine o_q rfl rfl (zam true (congrArg Value.bool hb6) rfl) ?_
      refine o_end ?_
      refine za1 ?_
      refine c_true rfl ?_
      refine c_seq ?_
      refine za0 ?_
      refine o_q rfl rfl (q_asg rfl) ?_
      refine o_end ?_
      refine za1 ?_
      refine c_ret ?_
      refine za5 ?_
      have e0_ := Option.some.inj h; clear h
      subst e0_
      exact x_r1 () Try.results72 (zab rfl) rfl (fun w h => za6 [] (by decide) rfl w h)
    · replace h := br_f hb6 h
      refine o_w (za3 rfl rfl rfl (congrArg Value.bool hb6)) rfl (q_f F36_2 rfl) ?_
      refine o_w (za3 rfl rfl rfl (congrArg Value.bool hb6)) rfl (q_ldb Y22 rfl (fun w h => h.zaa (i := 0) rfl) rfl) ?_
      refine o_w (za3 rfl rfl rfl (congrArg Value.bool hb6)) rfl (q_len Try.underlying22 rfl) ?_
      refine o_w (za3 rfl rfl rfl (congrArg Value.bool hb6)) rfl (q_gtr rfl rfl) ?_
      refine o_q rfl rfl (zam false (congrArg Value.bool hb6) rfl) ?_
      refine o_end ?_
      refine za1 ?_
      refine zar _ rfl (fun hb7 => ?_) (fun hb7 => ?_)
      · skip
        replace h := br_t hb7 h
        refine c_seq ?_
        refine za0 ?_
        refine o_q rfl rfl (q_asg rfl) ?_
        refine o_end ?_
        refine za1 ?_
        refine c_ret ?_
        refine za5 ?_
        have e0_ := Option.some.inj h; clear h
        subst e0_
        exact x_r1 () Try.results72 (zab rfl) rfl (fun w h => za6 [] (by decide) rfl w h)
      · skip
        replace h := br_f hb7 h
        refine zaj ?_
        refine za1 ?_
        refine c_seq ?_
        refine c_seq ?_
        refine za0 ?_
        refine o_q rfl rfl (q_f F36_1 rfl) ?_
        refine o_q rfl rfl (q_ldb Y34 rfl (fun w h => h.zaa (i := 0) rfl) rfl) ?_
        refine o_q rfl rfl (q_len Try.underlying34 rfl) ?_
        refine o_q rfl rfl (za2 rfl) ?_
        refine o_end ?_
        refine za1 ?_
        refine zan ?_
        refine za8 h (fun o16 hl15 hR14 => ?_) rfl
        clear h
        refine c_fact (p := l0_1.length ≤ 9223372036854775807) (fun w h => (R0_1.now Z h).2.1) (fun hm13 => ?_)
        refine zaw (σ := (List SStep) × Int) (fun k11 ((ys10, i8) : (List SStep) × Int) => Rg l0_1 i8 ys10 ∧ ys10.length = k11 ∧ spec_plGood.l0 a0_0 ys10 i8 = some o16) [2, 3, 4, 26, 27, 28, 29, 30, 31, 32, 33, 34, 35, 36, 37, 38, 39, 40, 41, 42, 43, 44, 45, 46] (fun ((ys10, i8) : (List SStep) × Int) => [(26, .int .i64 i8)]) (fun ((ys10, i8) : (List SStep) × Int) => [box g1 36 #[.int .i64 a0_0, .slice A0_1 l0_1.length c0_1, .slice A0_2 l0_2.length c0_2]]) l0_1.length (l0_1, 0) ⟨Rg.start _, rfl, hl15⟩ ⟨rfl, trivial⟩ (fun w h => h) ?_
        refine fun k11 => cur2 (listC (fun i8 U17 hJ_ => ?_) (fun y9 ys10 i8 U17 hJ_ => ?_))
        · skip
          clear hl15
          have hr12 := hJ_.1; have hk18 := hJ_.2.1; have h := hJ_.2.2; clear hJ_
          replace h : spec_plGood.l0 a0_0 [] i8 = some o16 := h
          rw [spec_plGood.l0] at h
          refine c_seq ?_
          refine za0 ?_
          refine o_q rfl rfl (q_lss rfl rfl) ?_
          refine o_end ?_
          refine za1 ?_
          refine c_seq ?_
          refine c_false (congrArg Value.bool hr12.ge) ?_
          refine c_exit ?_
          refine za7 ?_
          refine za7 ?_
          have e_ := Option.some.inj h; replace h := hR14; rw [← e_] at h; clear e_
          refine x_hit ?_
          refine za1 ?_
          refine c_seq ?_
          refine c_seq ?_
          refine za0 ?_
          refine o_q rfl rfl (q_ldB G36 Z36 rfl (fun w h => h.zaa (i := 0) rfl) rfl) ?_
          refine za8 h (fun l20 hx19 h => ?_) rfl
          refine o_e rfl (za9 0 Z Try.func135 N135 rfl rfl rfl (fun w P1 hF hB hS hT => spec_plExponents.calls k a0_0 A0_1 c0_1 l0_1.length l0_1 A0_2 c0_2 l0_2.length l0_2 hB hF (hS _ R0_1) hc0_1 (hS _ R0_2) hc0_2 _ hx19)) (cur3 (fun A21 c22 H23 => ?_))
          refine o_q rfl rfl (q_len Try.underlying109 rfl) ?_
          refine o_q rfl rfl (za2 rfl) ?_
          refine o_end ?_
          refine za1 ?_
          refine zan ?_
          refine za8 h (fun o32 hl31 hR30 => ?_) rfl
          clear h
          refine c_fact (p := l20.length ≤ 9223372036854775807) (fun w h => (h.zat (i := 0) rfl).2.1) (fun hm29 => ?_)
          refine zaw (σ := (List (List Int)) × Int) (fun k27 ((ys26, i24) : (List (List Int)) × Int) => Rg l20 i24 ys26 ∧ ys26.length = k27 ∧ spec_plGood.l1 ys26 i24 = some o32) [2, 6, 50, 51, 52, 53, 54, 55, 56, 57] (fun ((ys26, i24) : (List (List Int)) × Int) => [(50, .int .i64 i24)]) (fun ((ys26, i24) : (List (List Int)) × Int) => [row (gk 3 (Kd.int .i64)) 22 (.slice A21 l20.length c22) (zp H23 l20), box g1 36 #[.int .i64 a0_0, .slice A0_1 l0_1.length c0_1, .slice A0_2 l0_2.length c0_2]]) l20.length (l20, 0) ⟨Rg.start _, rfl, hl31⟩ ⟨rfl, trivial⟩ (fun w h => h) ?_
          refine fun k27 => cur2 (listC (fun i24 U33 hJ_ => ?_) (fun y25 ys26 i24 U33 hJ_ => ?_))
          · skip
            clear hl31
            have hr28 := hJ_.1; have hk34 := hJ_.2.1; have h := hJ_.2.2; clear hJ_
            replace h : spec_plGood.l1 [] i24 = some o32 := h
            rw [spec_plGood.l1] at h
            refine c_seq ?_
            refine za0 ?_
            refine o_q rfl rfl (q_lss rfl rfl) ?_
            refine o_end ?_
            refine za1 ?_
            refine c_seq ?_
            refine c_false (congrArg Value.bool hr28.ge) ?_
            refine c_exit ?_
            refine za7 ?_
            refine za7 ?_
            have e_ := Option.some.inj h; replace h := hR30; rw [← e_] at h; clear e_
            refine x_hit ?_
            refine za1 ?_
            refine c_seq ?_
            refine za0 ?_
            refine o_q rfl rfl (q_f F36_2 rfl) ?_
            refine o_q rfl rfl (q_ldb Y22 rfl (fun w h => h.zaa (i := 1) rfl) rfl) ?_
            refine o_q rfl rfl (q_f F36_0 rfl) ?_
            refine o_q rfl rfl (q_ldb Y3 rfl (fun w h => h.zaa (i := 1) rfl) rfl) ?_
            refine o_q rfl rfl (q_f F36_1 rfl) ?_
            refine o_q rfl rfl (q_ldb Y34 rfl (fun w h => h.zaa (i := 1) rfl) rfl) ?_
            refine o_q rfl rfl (q_len Try.underlying34 rfl) ?_
            refine o_q rfl rfl (q_add64 rfl rfl) ?_
            refine o_q rfl rfl (q_sub64 rfl rfl) ?_
            refine za8 h (fun b36 hx35 h => ?_) rfl
            refine o_e rfl (za9 0 Z Try.func68 N68 rfl rfl rfl (fun w P1 hF hB hS hT => spec_l1All.calls A0_2 c0_2 l0_2.length l0_2 0 (w64 (w64 (a0_0 + (l0_1.length : Int)) - 1)) hB hF (hS _ R0_2) hc0_2 _ hx35)) (fun _ => ?_)
            refine o_q rfl rfl (q_asg rfl) ?_
            refine o_end ?_
            refine za1 ?_
            refine c_ret ?_
            have e0_ := Option.some.inj h; clear h
            subst e0_
            exact x_r1 () Try.results72 (zab rfl) rfl (fun w h => za6 [] (by decide) rfl w h)
          · skip
            clear hl31
            have hr28 := hJ_.1; have hk34 := hJ_.2.1; have h := hJ_.2.2; clear hJ_
            replace h : spec_plGood.l1 (y25 :: ys26) i24 = some o32 := h
            rw [spec_plGood.l1] at h
            refine c_seq ?_
            refine za0 ?_
            refine o_q rfl rfl (q_lss rfl rfl) ?_
            refine o_end ?_
            refine za1 ?_
            refine c_seq ?_
            refine c_true (congrArg Value.bool hr28.lt) ?_
            refine zaj ?_
            refine za1 ?_
            refine c_seq ?_
            refine zan ?_
            refine c_seq ?_
            refine za0 ?_
            refine zav (p := Sh A21 l20.length (zp H23 l20).length) (fun w h => f_sh (dk := (gk 3 (Kd.int .i64))) h (fun w h => h.zat (i := 0) rfl)) (fun hq37 => ?_)
            refine o_q rfl rfl (q_ix Try.underlying109 Z22 rfl rfl hq37 (gt_zp hr28.get)) ?_
            refine zav (p := y25.length ≤ hC H23 i24) (fun w h => (K_in (h.zat (i := 0) rfl) hr28.get).1) (fun hc38 => ?_)
            refine o_q rfl rfl (q_lde (off := 0) Y22 rfl rfl (fun w h => h.zat (i := 0) rfl) (gt_zp hr28.get) (fun _ _ h => h.1) rfl) ?_
            refine o_q rfl rfl (q_asg rfl) ?_
            refine o_end ?_
            refine za1 ?_
            refine c_seq ?_
            refine za0 ?_
            refine o_q rfl rfl (za2 rfl) ?_
            refine za8 h (fun b40 hx39 h => ?_) rfl
            refine o_e rfl (za9 0 Z Try.func68 N68 rfl rfl rfl (fun w P1 hF hB hS hT => spec_l1All.calls (hA H23 i24) (hC H23 i24) y25.length y25 0 1000000 hB hF (stab_in (hT 0 _ rfl).row hr28.get) hc38 _ hx39)) (fun _ => ?_)
            refine o_q rfl rfl (q_not rfl) ?_
            refine o_end ?_
            refine za1 ?_
            refine zar _ rfl (fun hb41 => ?_) (fun hb41 => ?_)
            · replace hb41 := nt_t hb41
              replace h := bb_f hb41 h
              refine c_seq ?_
              refine za0 ?_
              refine o_q rfl rfl (q_asg rfl) ?_
              refine o_end ?_
              refine za1 ?_
              refine c_ret ?_
              refine zaq ?_
              refine za5 ?_
              refine za5 ?_
              have e_ := Option.some.inj h; replace h := hR30; rw [← e_] at h; clear e_
              refine zaq ?_
              refine za5 ?_
              have e0_ := Option.some.inj h; clear h
              subst e0_
              exact x_r1 () Try.results72 (zab rfl) rfl (fun w h => za6 [] (by decide) rfl w h)
            · replace hb41 := nt_f hb41
              replace h := bb_t hb41 h
              refine zaj ?_
              refine zao ?_
              refine za1 ?_
              refine za0 ?_
              refine o_q rfl rfl (q_up rfl rfl (hr28.up hm29)) ?_
              refine o_q rfl rfl (za2 rfl) ?_
              refine o_end ?_
              refine zaf ys26.length (ys26, i24 + 1) (by rw [← hk34]; exact Nat.lt_succ_self _) ⟨hr28.step, rfl, h⟩ ⟨rfl, trivial⟩ (fun w h => za6 [0, 1] (by decide) rfl w h) ?_
              repeat (first | exact zad _ _ | refine zah rfl ?_ | refine zae rfl ?_ | refine zai rfl ?_)
        · skip
          clear hl15
          have hr12 := hJ_.1; have hk18 := hJ_.2.1; have h := hJ_.2.2; clear hJ_
          replace h : spec_plGood.l0 a0_0 (y9 :: ys10) i8 = some o16 := h
          rw [spec_plGood.l0] at h
          refine c_seq ?_
          refine za0 ?_
          refine o_q rfl rfl (q_lss rfl rfl) ?_
          refine o_end ?_
          refine za1 ?_
          refine c_seq ?_
          refine c_true (congrArg Value.bool hr12.lt) ?_
          refine zaj ?_
          refine za1 ?_
          refine c_seq ?_
          refine zan ?_
          refine c_seq ?_
          refine za0 ?_
          refine o_q rfl rfl (za2 rfl) ?_
          refine zav (p := Sh A0_1 l0_1.length l0_1.length) (fun w h => f_sh (dk := kStep) h (fun w h => R0_1.now Z h)) (fun hq42 => ?_)
          refine o_q rfl rfl (q_ix Try.underlying34 Z117 rfl rfl hq42 hr12.get) ?_
          refine o_q rfl rfl (q_ldE G117 Z117 rfl rfl (fun w h => R0_1.now Z h) hr12.get (fun _ _ h => h) rfl) ?_
          refine o_e rfl (e_alloc V117 rfl) (fun g43 => ?_)
          refine o_q rfl rfl (q_asg rfl) ?_
          refine o_e rfl (e_storeA (i := 0) rfl rfl rfl Z117 rfl rfl) (fun _ => ?_)
          refine o_end ?_
          refine za1 ?_
          refine c_seq ?_
          refine za0 ?_
          refine o_q rfl rfl (q_f F117_0 rfl) ?_
          refine o_q rfl rfl (q_ldb Y3 rfl (fun w h => h.zaa (i := 0) rfl) rfl) ?_
          refine o_q rfl rfl (q_f F117_1 rfl) ?_
          refine o_q rfl rfl (q_ldb Y3 rfl (fun w h => h.zaa (i := 0) rfl) rfl) ?_
          refine za8 h (fun b46 hx45 h => ?_) rfl
          refine o_e rfl (za9 0 Z Try.func77 N77 rfl rfl rfl (fun w P1 hF hB hS hT => spec_l1In.calls y9.f0 0 y9.f1 hB hF _ hx45)) (fun _ => ?_)
          refine o_q rfl rfl (q_not rfl) ?_
          refine o_q rfl rfl (za2 rfl) ?_
          refine byB b46 (fun hb47 => ?_) (fun hb47 => ?_)
          · replace h := bb_t hb47 h
            refine o_w (za3 rfl rfl rfl (congrArg (fun b => Value.bool (!(b))) hb47)) rfl (q_f F117_1 rfl) ?_
            refine o_w (za3 rfl rfl rfl (congrArg (fun b => Value.bool (!(b))) hb47)) rfl (q_ldb Y3 rfl (fun w h => h.zaa (i := 0) rfl) rfl) ?_
            refine o_w (za3 rfl rfl rfl (congrArg (fun b => Value.bool (!(b))) hb47)) rfl (q_f F36_0 rfl) ?_
            refine o_w (za3 rfl rfl rfl (congrArg (fun b => Value.bool (!(b))) hb47)) rfl (q_ldb Y3 rfl (fun w h => h.zaa (i := 1) rfl) rfl) ?_
            refine o_w (za3 rfl rfl rfl (congrArg (fun b => Value.bool (!(b))) hb47)) rfl (za2 rfl) ?_
            refine o_w (za3 rfl rfl rfl (congrArg (fun b => Value.bool (!(b))) hb47)) rfl (q_add64 rfl rfl) ?_
            refine o_w (za3 rfl rfl rfl (congrArg (fun b => Value.bool (!(b))) hb47)) rfl (q_geq rfl rfl) ?_
            refine o_q rfl rfl (zam false (congrArg (fun b => Value.bool (!(b))) hb47) rfl) ?_
            refine o_end ?_
            refine za1 ?_
            refine zar _ rfl (fun hb48 => ?_) (fun hb48 => ?_)
            · skip
              replace h := br_t hb48 h
              refine c_seq ?_
              refine za0 ?_
              refine o_q rfl rfl (q_asg rfl) ?_
              refine o_end ?_
              refine za1 ?_
              refine c_ret ?_
              refine zaq ?_
              refine za5 ?_
              refine za5 ?_
              have e_ := Option.some.inj h; replace h := hR14; rw [← e_] at h; clear e_
              refine zaq ?_
              refine za5 ?_
              have e0_ := Option.some.inj h; clear h
              subst e0_
              exact x_r1 () Try.results72 (zab rfl) rfl (fun w h => za6 [] (by decide) rfl w h)
            · skip
              replace h := br_f hb48 h
              refine zaj ?_
              refine zao ?_
              refine za1 ?_
              refine za0 ?_
              refine o_q rfl rfl (q_up rfl rfl (hr12.up hm13)) ?_
              refine o_q rfl rfl (za2 rfl) ?_
              refine o_end ?_
              refine zaf ys10.length (ys10, i8 + 1) (by rw [← hk18]; exact Nat.lt_succ_self _) ⟨hr12.step, rfl, h⟩ ⟨rfl, trivial⟩ (fun w h => za6 [1] (by decide) rfl w h) ?_
              repeat (first | exact zad _ _ | refine zah rfl ?_ | refine zae rfl ?_ | refine zai rfl ?_)
          · replace h := bb_f hb47 h
            refine @o_n _ _ _ _ _ _ _ _ _ _ _ 38 (za4 rfl rfl rfl (congrArg (fun b => Value.bool (!(b))) hb47) rfl) (Eq.refl (some 38)) ?_
            refine @o_n _ _ _ _ _ _ _ _ _ _ _ 39 (za4 rfl rfl rfl (congrArg (fun b => Value.bool (!(b))) hb47) rfl) (Eq.refl (some 39)) ?_
            refine @o_n _ _ _ _ _ _ _ _ _ _ _ 40 (za4 rfl rfl rfl (congrArg (fun b => Value.bool (!(b))) hb47) rfl) (Eq.refl (some 40)) ?_
            refine @o_n _ _ _ _ _ _ _ _ _ _ _ 41 (za4 rfl rfl rfl (congrArg (fun b => Value.bool (!(b))) hb47) rfl) (Eq.refl (some 41)) ?_
            refine @o_n _ _ _ _ _ _ _ _ _ _ _ 42 (za4 rfl rfl rfl (congrArg (fun b => Value.bool (!(b))) hb47) rfl) (Eq.refl (some 42)) ?_
            refine @o_n _ _ _ _ _ _ _ _ _ _ _ 43 (za4 rfl rfl rfl (congrArg (fun b => Value.bool (!(b))) hb47) rfl) (Eq.refl (some 43)) ?_
            refine @o_n _ _ _ _ _ _ _ _ _ _ _ 44 (za4 rfl rfl rfl (congrArg (fun b => Value.bool (!(b))) hb47) rfl) (Eq.refl (some 44)) ?_
            refine o_q rfl rfl (zam true (congrArg (fun b => Value.bool (!(b))) hb47) rfl) ?_
            refine o_end ?_
            refine za1 ?_
            refine c_true rfl ?_
            refine c_seq ?_
            refine za0 ?_
            refine o_q rfl rfl (q_asg rfl) ?_
            refine o_end ?_
            refine za1 ?_
            refine c_ret ?_
            refine zaq ?_
            refine za5 ?_
            refine za5 ?_
            have e_ := Option.some.inj h; replace h := hR14; rw [← e_] at h; clear e_
            refine zaq ?_
            refine za5 ?_
            have e0_ := Option.some.inj h; clear h
            subst e0_
            exact x_r1 () Try.results72 (zab rfl) rfl (fun w h => za6 [] (by decide) rfl w h)
  · replace h := bb_f hb5 h
    refine @o_n _ _ _ _ _ _ _ _ _ _ _ 12 (za4 rfl rfl rfl (congrArg (fun b => Value.bool (!(b))) hb5) rfl) (Eq.refl (some 12)) ?_
    refine @o_n _ _ _ _ _ _ _ _ _ _ _ 13 (za4 rfl rfl rfl (congrArg (fun b => Value.bool (!(b))) hb5) rfl) (Eq.refl (some 13)) ?_
    refine @o_n _ _ _ _ _ _ _ _ _ _ _ 14 (za4 rfl rfl rfl (congrArg (fun b => Value.bool (!(b))) hb5) rfl) (Eq.refl (some 14)) ?_
    refine @o_n _ _ _ _ _ _ _ _ _ _ _ 15 (za4 rfl rfl rfl (congrArg (fun b => Value.bool (!(b))) hb5) rfl) (Eq.refl (some 15)) ?_
    refine o_q rfl rfl (zam true (congrArg (fun b => Value.bool (!(b))) hb5) rfl) ?_
    refine o_q rfl rfl (za2 rfl) ?_
    refine @o_n _ _ _ _ _ _ _ _ _ _ _ 18 (za4 rfl rfl rfl rfl rfl) (Eq.refl (some 18)) ?_
    refine @o_n _ _ _ _ _ _ _ _ _ _ _ 19 (za4 rfl rfl rfl rfl rfl) (Eq.refl (some 19)) ?_
    refine @o_n _ _ _ _ _ _ _ _ _ _ _ 20 (za4 rfl rfl rfl rfl rfl) (Eq.refl (some 20)) ?_
    refine @o_n _ _ _ _ _ _ _ _ _ _ _ 21 (za4 rfl rfl rfl rfl rfl) (Eq.refl (some 21)) ?_
    refine o_q rfl rfl (zam true rfl rfl) ?_
    refine o_end ?_
    refine za1 ?_
    refine c_true rfl ?_
    refine c_seq ?_
    refine za0 ?_
    refine o_q rfl rfl (q_asg rfl) ?_
    refine o_end ?_
    refine za1 ?_
    refine c_ret ?_
    refine za5 ?_
    have e0_ := Option.some.inj h; clear h
    subst e0_
    exact x_r1 () Try.results72 (zab rfl) rfl (fun w h => za6 [] (by decide) rfl w h)

/-! ### loop.example/g01098/spec.reFew: function 105 -/
def spec_reFew.f (k : Nat) (a0_0 : Int) (l0_1 : List SStep) (l0_2 : List Int) : Option Bool := (spec_plGood.f k a0_0 l0_1 l0_2).bind fun b4 => if b4 = true then (some (decide ((l0_1.length : Int) ≤ 8))) else (some false)
set_option maxHeartbeats 600000 in
set_option maxRecDepth 100000 in
theorem spec_reFew.calls (k : Nat) {w0 ws : World} {P0 : Nat → Prop} (a0_0 : Int) (A0_1 : Option Addr) (c0_1 : Nat) (n0_1 : Nat) (l0_1 : List SStep) (A0_2 : Option Addr) (c0_2 : Nat) (n0_2 : Nat) (l0_2 : List Int) (Z : Below w0.heap.size w0 ws) (hF : Fr w0 ws P0 [] ws) (R0_1 : Stable ws P0 (fun w => Kd.C kStep w A0_1 n0_1 l0_1)) (hc0_1 : n0_1 ≤ c0_1) (R0_2 : Stable ws P0 (fun w => Kd.C (Kd.int .i64) w A0_2 n0_2 l0_2)) (hc0_2 : n0_2 ≤ c0_2) (r_1 : Bool) (h : spec_reFew.f k a0_0 l0_1 l0_2 = some r_1) :
    Calls Try.prog 105 #[.agg #[.int .i64 a0_0, .slice A0_1 n0_1 c0_1, .slice A0_2 n0_2 c0_2]] ws (Post1 w0 ws P0 (fun (_ : Unit) => .bool r_1) (fun (_ : Unit) => [])) := by
  unfold spec_reFew.f at h
  obtain rfl := (R0_1 ws (KeptB.refl _ _)).1
  obtain rfl := (R0_2 ws (KeptB.refl _ _)).1
  refine enter Try.func105 rfl Try.ntmps105 rfl hF ?_
  refine c_seq ?_
  refine za0 ?_
  refine o_e rfl (e_box rfl) (fun g1 => ?_)
  refine o_q rfl rfl (q_asg rfl) ?_
  refine o_end ?_
  refine za1 ?_
  refine c_seq ?_
  refine za0 ?_
  refine o_q rfl rfl (q_ldB G36 Z36 rfl (fun w h => h.zaa (i := 0) rfl) rfl) ?_
  refine za8 h (fun b4 hx3 h => ?_) rfl
  refine o_e rfl (za9 0 Z Try.func72 N72 rfl rfl rfl (fun w P1 hF hB hS hT => spec_plGood.calls k a0_0 A0_1 c0_1 l0_1.length l0_1 A0_2 c0_2 l0_2.length l0_2 hB hF (hS _ R0_1) hc0_1 (hS _ R0_2) hc0_2 _ hx3)) (fun _ => ?_)
  refine o_q rfl rfl (za2 rfl) ?_
  refine byB b4 (fun hb5 => ?_) (fun hb5 => ?_)
  · replace h := bb_t hb5 h
    refine o_w (za3 rfl rfl rfl (congrArg Value.bool hb5)) rfl (q_f F36_1 rfl) ?_
    refine o_w (za3 rfl rfl rfl (congrArg Value.bool hb5)) rfl (q_ldb Y34 rfl (fun w h => h.zaa (i := 0) rfl) rfl) ?_
    refine o_w (za3 rfl rfl rfl (congrArg Value.bool hb5)) rfl (q_len Try.underlying34 rfl) ?_
    refine o_w (za3 rfl rfl rfl (congrArg Value.bool hb5)) rfl (q_leq rfl rfl) ?_
    refine o_q rfl rfl (zam true (congrArg Value.bool hb5) rfl) ?_
    refine o_q rfl rfl (q_asg rfl) ?_
    refine o_end ?_
    refine za1 ?_
    refine c_ret ?_
    have e0_ := Option.some.inj h; clear h
    subst e0_
    exact x_r1 () Try.results105 (zab rfl) rfl (fun w h => za6 [] (by decide) rfl w h)
  · replace h := bb_f hb5 h
    refine @o_n _ _ _ _ _ _ _ _ _ _ _ 6 (za4 rfl rfl rfl (congrArg Value.bool hb5) rfl) (Eq.refl (some 6)) ?_
    refine @o_n _ _ _ _ _ _ _ _ _ _ _ 7 (za4 rfl rfl rfl (congrArg Value.bool hb5) rfl) (Eq.refl (some 7)) ?_
    refine @o_n _ _ _ _ _ _ _ _ _ _ _ 8 (za4 rfl rfl rfl (congrArg Value.bool hb5) rfl) (Eq.refl (some 8)) ?_
    refine @o_n _ _ _ _ _ _ _ _ _ _ _ 9 (za4 rfl rfl rfl (congrArg Value.bool hb5) rfl) (Eq.refl (some 9)) ?_
    refine o_q rfl rfl (zam false (congrArg Value.bool hb5) rfl) ?_
    refine o_q rfl rfl (q_asg rfl) ?_
    refine o_end ?_
    refine za1 ?_
    refine c_ret ?_
    have e0_ := Option.some.inj h; clear h
    subst e0_
    exact x_r1 () Try.results105 (zab rfl) rfl (fun w h => za6 [] (by decide) rfl w h)

/-! ### loop.example/g01098/spec.l1Own: function 154 -/
def spec_l1Own.f (l0 : List Int) : Option (List Int) := (ap ([] : List Int) l0).bind fun l4 => some l4
set_option maxHeartbeats 600000 in
set_option maxRecDepth 100000 in
theorem spec_l1Own.calls {w0 ws : World} {P0 : Nat → Prop} (A0 : Option Addr) (c0 : Nat) (n0 : Nat) (l0 : List Int) (Z : Below w0.heap.size w0 ws) (hF : Fr w0 ws P0 [] ws) (R0 : Stable ws P0 (fun w => Kd.C (Kd.int .i64) w A0 n0 l0)) (hc0 : n0 ≤ c0) (r_1 : List Int) (h : spec_l1Own.f l0 = some r_1) :
    Calls Try.prog 154 #[.slice A0 n0 c0] ws (Post1 w0 ws P0 (fun ((q_2, q_3) : (Option Addr) × Nat) => .slice q_2 r_1.length q_3) (fun ((q_2, q_3) : (Option Addr) × Nat) => [row (Kd.int .i64) 3 (.slice q_2 r_1.length q_3) r_1])) := by
  unfold spec_l1Own.f at h
  obtain rfl := (R0 ws (KeptB.refl _ _)).1
  refine enter Try.func154 rfl Try.ntmps154 rfl hF ?_
  refine c_seq ?_
  refine za0 ?_
  refine o_q rfl rfl (q_asg rfl) ?_
  refine o_end ?_
  refine za1 ?_
  refine c_seq ?_
  refine za0 ?_
  refine o_e rfl (e_lit0 (Kd.int .i64) Try.underlying22 I3) (cur2 (fun A1 c2 => ?_))
  refine o_q rfl rfl (za2 rfl) ?_
  refine za8 h (fun l4 ha5 h => ?_) rfl
  refine o_e rfl (e_appr (i := 0) Try.underlying22 I3 rfl (by decide) (by decide) (fun _ _ _ _ h => h) rfl (fun w h => R0.now Z h) rfl rfl ha5) (cur2 (fun A6 c7 => ?_))
  refine o_q rfl rfl (q_asg rfl) ?_
  refine o_end ?_
  refine za1 ?_
  refine c_ret ?_
  have e0_ := Option.some.inj h; clear h
  subst e0_
  exact x_r1 (A6, c7) Try.results154 (zab rfl) rfl (fun w h => za6 [0] (by decide) rfl w h)

/-! ### loop.example/g01098/spec.l1Has: function 115 -/
def spec_l1Has.l0 (a1 : Int) : (List Int) → Int → Option ((Bool) ⊕ (Unit))
  | [], i1 => some (.inr ())
  | y2 :: ys3, i1 => if y2 = a1 then (some (.inl true)) else (spec_l1Has.l0 a1 ys3 (i1 + 1))
def spec_l1Has.f (l0 : List Int) (a1 : Int) : Option Bool := (spec_l1Has.l0 a1 l0 0).bind fun o_ => match o_ with | .inl r_ => some r_ | .inr _ => some false
set_option maxHeartbeats 600000 in
set_option maxRecDepth 100000 in
theorem spec_l1Has.calls {w0 ws : World} {P0 : Nat → Prop} (A0 : Option Addr) (c0 : Nat) (n0 : Nat) (l0 : List Int) (a1 : Int) (Z : Below w0.heap.size w0 ws) (hF : Fr w0 ws P0 [] ws) (R0 : Stable ws P0 (fun w => Kd.C (Kd.int .i64) w A0 n0 l0)) (hc0 : n0 ≤ c0) (r_1 : Bool) (h : spec_l1Has.f l0 a1 = some r_1) :
    Calls Try.prog 115 #[.slice A0 n0 c0, .int .i64 a1] ws (Post1 w0 ws P0 (fun (_ : Unit) => .bool r_1) (fun (_ : Unit) => [])) := by
  unfold spec_l1Has.f at h
  obtain rfl := (R0 ws (KeptB.refl _ _)).1
  refine enter Try.func115 rfl Try.ntmps115 rfl hF ?_
  refine c_seq ?_
  refine za0 ?_
  refine o_q rfl rfl (q_asg rfl) ?_
  refine o_end ?_
  refine za1 ?_
  refine c_seq ?_
  refine c_seq ?_
  refine za0 ?_
  refine o_q rfl rfl (za2 rfl) ?_
  refine o_q rfl rfl (q_len Try.underlying22 rfl) ?_
  refine o_q rfl rfl (za2 rfl) ?_
  refine o_end ?_
  refine za1 ?_
  refine zan ?_
  refine za8 h (fun o9 hl8 hR7 => ?_) rfl
  clear h
  refine c_fact (p := l0.length ≤ 9223372036854775807) (fun w h => (R0.now Z h).2.1) (fun hm6 => ?_)
  refine zaw (σ := (List Int) × Int) (fun k4 ((ys3, i1) : (List Int) × Int) => Rg l0 i1 ys3 ∧ ys3.length = k4 ∧ spec_l1Has.l0 a1 ys3 i1 = some o9) [4, 6, 9, 10, 11, 12, 13, 14, 15, 16] (fun ((ys3, i1) : (List Int) × Int) => [(9, .int .i64 i1)]) (fun ((ys3, i1) : (List Int) × Int) => []) l0.length (l0, 0) ⟨Rg.start _, rfl, hl8⟩ ⟨rfl, trivial⟩ (fun w h => h) ?_
  refine fun k4 => cur2 (listC (fun i1 U10 hJ_ => ?_) (fun y2 ys3 i1 U10 hJ_ => ?_))
  · skip
    clear hl8
    have hr5 := hJ_.1; have hk11 := hJ_.2.1; have h := hJ_.2.2; clear hJ_
    replace h : spec_l1Has.l0 a1 [] i1 = some o9 := h
    rw [spec_l1Has.l0] at h
    refine c_seq ?_
    refine za0 ?_
    refine o_q rfl rfl (q_lss rfl rfl) ?_
    refine o_end ?_
    refine za1 ?_
    refine c_seq ?_
    refine c_false (congrArg Value.bool hr5.ge) ?_
    refine c_exit ?_
    refine za7 ?_
    refine za7 ?_
    have e_ := Option.some.inj h; replace h := hR7; rw [← e_] at h; clear e_
    refine x_hit ?_
    refine za1 ?_
    refine c_seq ?_
    refine za0 ?_
    refine o_q rfl rfl (q_asg rfl) ?_
    refine o_end ?_
    refine za1 ?_
    refine c_ret ?_
    have e0_ := Option.some.inj h; clear h
    subst e0_
    exact x_r1 () Try.results115 (zab rfl) rfl (fun w h => za6 [] (by decide) rfl w h)
  · skip
    clear hl8
    have hr5 := hJ_.1; have hk11 := hJ_.2.1; have h := hJ_.2.2; clear hJ_
    replace h : spec_l1Has.l0 a1 (y2 :: ys3) i1 = some o9 := h
    rw [spec_l1Has.l0] at h
    refine c_seq ?_
    refine za0 ?_
    refine o_q rfl rfl (q_lss rfl rfl) ?_
    refine o_end ?_
    refine za1 ?_
    refine c_seq ?_
    refine c_true (congrArg Value.bool hr5.lt) ?_
    refine zaj ?_
    refine za1 ?_
    refine c_seq ?_
    refine zan ?_
    refine c_seq ?_
    refine za0 ?_
    refine zav (p := Sh A0 l0.length l0.length) (fun w h => f_sh (dk := (Kd.int .i64)) h (fun w h => R0.now Z h)) (fun hq12 => ?_)
    refine o_q rfl rfl (q_ix Try.underlying22 Z3 rfl rfl hq12 hr5.get) ?_
    refine o_q rfl rfl (q_lde (off := 0) Y3 rfl rfl (fun w h => R0.now Z h) hr5.get (fun _ _ h => h) rfl) ?_
    refine o_q rfl rfl (q_asg rfl) ?_
    refine o_end ?_
    refine za1 ?_
    refine c_seq ?_
    refine za0 ?_
    refine o_q rfl rfl (za2 rfl) ?_
    refine o_q rfl rfl (za2 rfl) ?_
    refine o_q rfl rfl (q_eql rfl rfl) ?_
    refine o_end ?_
    refine za1 ?_
    refine zar _ rfl (fun hb13 => ?_) (fun hb13 => ?_)
    · skip
      replace h := br_t hb13 h
      refine c_seq ?_
      refine za0 ?_
      refine o_q rfl rfl (q_asg rfl) ?_
      refine o_end ?_
      refine za1 ?_
      refine c_ret ?_
      refine zaq ?_
      refine za5 ?_
      refine za5 ?_
      have e_ := Option.some.inj h; replace h := hR7; rw [← e_] at h; clear e_
      refine zaq ?_
      refine za5 ?_
      have e0_ := Option.some.inj h; clear h
      subst e0_
      exact x_r1 () Try.results115 (zab rfl) rfl (fun w h => za6 [] (by decide) rfl w h)
    · skip
      replace h := br_f hb13 h
      refine zaj ?_
      refine zao ?_
      refine za1 ?_
      refine za0 ?_
      refine o_q rfl rfl (q_up rfl rfl (hr5.up hm6)) ?_
      refine o_q rfl rfl (za2 rfl) ?_
      refine o_end ?_
      refine zaf ys3.length (ys3, i1 + 1) (by rw [← hk11]; exact Nat.lt_succ_self _) ⟨hr5.step, rfl, h⟩ ⟨rfl, trivial⟩ (fun w h => za6 [] (by decide) rfl w h) ?_
      repeat (first | exact zad _ _ | refine zah rfl ?_ | refine zae rfl ?_ | refine zai rfl ?_)

/-! ### loop.example/g01098/spec.reOrders: function 106 -/
def spec_reOrders.l0 (self_ : Int → (List SStep) → (List Int) → (List Int) → Option ((List (List Int)))) (a0_0 : Int) (l0_1 : List SStep) (l0_2 : List Int) (l1 : List Int) : (List SStep) → (List (List Int)) → Int → Option (List (List Int))
  | [], l13, i17 => some l13
  | y18 :: ys19, l13, i17 => (spec_l1Has.f l1 i17).bind fun b32 => if b32 = true then (spec_reOrders.l0 self_ a0_0 l0_1 l0_2 l1 ys19 l13 (i17 + 1)) else (if a0_0 ≤ y18.f0 then ((spec_l1Has.f l1 (w64 (y18.f0 - a0_0))).bind fun b36 => if b36 = true then (if a0_0 ≤ y18.f1 then ((spec_l1Has.f l1 (w64 (y18.f1 - a0_0))).bind fun b40 => if b40 = true then ((spec_l1Own.f l1).bind fun l224 => (ap l224 ([i17] : List Int)).bind fun l403 => (self_ a0_0 l0_1 l0_2 l403).bind fun l464 => (ap l13 l464).bind fun l523 => spec_reOrders.l0 self_ a0_0 l0_1 l0_2 l1 ys19 l523 (i17 + 1)) else (spec_reOrders.l0 self_ a0_0 l0_1 l0_2 l1 ys19 l13 (i17 + 1))) else ((spec_l1Own.f l1).bind fun l885 => (ap l885 ([i17] : List Int)).bind fun l1064 => (self_ a0_0 l0_1 l0_2 l1064).bind fun l1125 => (ap l13 l1125).bind fun l1184 => spec_reOrders.l0 self_ a0_0 l0_1 l0_2 l1 ys19 l1184 (i17 + 1))) else (spec_reOrders.l0 self_ a0_0 l0_1 l0_2 l1 ys19 l13 (i17 + 1))) else (if a0_0 ≤ y18.f1 then ((spec_l1Has.f l1 (w64 (y18.f1 - a0_0))).bind fun b1366 => if b1366 = true then ((spec_l1Own.f l1).bind fun l1550 => (ap l1550 ([i17] : List Int)).bind fun l1729 => (self_ a0_0 l0_1 l0_2 l1729).bind fun l1790 => (ap l13 l1790).bind fun l1849 => spec_reOrders.l0 self_ a0_0 l0_1 l0_2 l1 ys19 l1849 (i17 + 1)) else (spec_reOrders.l0 self_ a0_0 l0_1 l0_2 l1 ys19 l13 (i17 + 1))) else ((spec_l1Own.f l1).bind fun l2211 => (ap l2211 ([i17] : List Int)).bind fun l2390 => (self_ a0_0 l0_1 l0_2 l2390).bind fun l2451 => (ap l13 l2451).bind fun l2510 => spec_reOrders.l0 self_ a0_0 l0_1 l0_2 l1 ys19 l2510 (i17 + 1))))
def spec_reOrders.f : Nat → Int → (List SStep) → (List Int) → (List Int) → Option (List (List Int))
  | 0, _, _, _, _ => none
  | k + 1, a0_0, l0_1, l0_2, l1 => if (l1.length : Int) = (l0_1.length : Int) then ((spec_l1Own.f l1).bind fun l5 => some ([l5] : List (List Int))) else ((spec_reOrders.l0 (spec_reOrders.f k) a0_0 l0_1 l0_2 l1 l0_1 ([] : List (List Int)) 0).bind fun l13 => some l13)
set_option maxHeartbeats 600000 in
set_option maxRecDepth 100000 in
theorem spec_reOrders.calls : ∀ (k : Nat) {w0 ws : World} {P0 : Nat → Prop} (a0_0 : Int) (A0_1 : Option Addr) (c0_1 : Nat) (n0_1 : Nat) (l0_1 : List SStep) (A0_2 : Option Addr) (c0_2 : Nat) (n0_2 : Nat) (l0_2 : List Int) (A1 : Option Addr) (c1 : Nat) (n1 : Nat) (l1 : List Int) (Z : Below w0.heap.size w0 ws) (hF : Fr w0 ws P0 [] ws) (R0_1 : Stable ws P0 (fun w => Kd.C kStep w A0_1 n0_1 l0_1)) (hc0_1 : n0_1 ≤ c0_1) (R0_2 : Stable ws P0 (fun w => Kd.C (Kd.int .i64) w A0_2 n0_2 l0_2)) (hc0_2 : n0_2 ≤ c0_2) (R1 : Stable ws P0 (fun w => Kd.C (Kd.int .i64) w A1 n1 l1)) (hc1 : n1 ≤ c1) (r_1 : List (List Int)) (h : spec_reOrders.f k a0_0 l0_1 l0_2 l1 = some r_1),
    Calls Try.prog 106 #[.agg #[.int .i64 a0_0, .slice A0_1 n0_1 c0_1, .slice A0_2 n0_2 c0_2], .slice A1 n1 c1] ws (Post1 w0 ws P0 (fun ((q_2, q_3, q_4) : (Option Addr) × Nat × Hd) => .slice q_2 r_1.length q_3) (fun ((q_2, q_3, q_4) : (Option Addr) × Nat × Hd) => [row (gk 3 (Kd.int .i64)) 22 (.slice q_2 r_1.length q_3) (zp q_4 r_1)])) := by
  intro k
  induction k with
  | zero =>
    intros
    rename_i h
    cases h
  | succ k ih =>
    intro w0 ws P0 a0_0 A0_1 c0_1 n0_1 l0_1 A0_2 c0_2 n0_2 l0_2 A1 c1 n1 l1 Z hF R0_1 hc0_1 R0_2 hc0_2 R1 hc1 r_1 h
    rw [spec_reOrders.f] at h
    obtain rfl := (R0_1 ws (KeptB.refl _ _)).1
    obtain rfl := (R0_2 ws (KeptB.refl _ _)).1
    obtain rfl := (R1 ws (KeptB.refl _ _)).1
    refine enter Try.func106 rfl Try.ntmps106 rfl hF ?_
    refine c_seq ?_
    refine za0 ?_
    refine o_e rfl (e_box rfl) (fun g1 => ?_)
    refine o_q rfl rfl (q_asg rfl) ?_
    refine o_end ?_
    refine za1 ?_
    refine c_seq ?_
    refine c_seq ?_
    refine za0 ?_
    refine o_q rfl rfl (za2 rfl) ?_
    refine o_q rfl rfl (q_len Try.underlying22 rfl) ?_
    refine o_q rfl rfl (q_f F36_1 rfl) ?_
    refine o_q rfl rfl (q_ldb Y34 rfl (fun w h => h.zaa (i := 0) rfl) rfl) ?_
    refine o_q rfl rfl (q_len Try.underlying34 rfl) ?_
    refine o_q rfl rfl (q_eql rfl rfl) ?_
    refine o_end ?_
    refine za1 ?_
    refine zar _ rfl (fun hb3 => ?_) (fun hb3 => ?_)
    · skip
      replace h := br_t hb3 h
      refine c_seq ?_
      refine za0 ?_
      refine o_q rfl rfl (za2 rfl) ?_
      refine za8 h (fun l5 hx4 h => ?_) rfl
      refine o_e rfl (za9 0 Z Try.func154 N154 rfl rfl rfl (fun w P1 hF hB hS hT => spec_l1Own.calls A1 c1 l1.length l1 hB hF (hS _ R1) hc1 _ hx4)) (cur2 (fun A6 c7 => ?_))
      refine o_e rfl (e_litG (j := 0) (ue := 3) (dk := (Kd.int .i64)) (ys := l5) Try.underlying109 I22 rfl rfl rfl) (cur3 (fun A8 c9 H11 => ?_))
      refine o_q rfl rfl (q_asg rfl) ?_
      refine o_end ?_
      refine za1 ?_
      refine c_ret ?_
      refine za5 ?_
      have e0_ := Option.some.inj h; clear h
      subst e0_
      exact x_r1 (A8, c9, H11) Try.results106 (zab rfl) rfl (fun w h => za6 [0] (by decide) rfl w h)
    · skip
      replace h := br_f hb3 h
      refine zaj ?_
      refine za1 ?_
      refine c_seq ?_
      refine za0 ?_
      refine o_q rfl rfl (q_asg rfl) ?_
      refine o_end ?_
      refine za1 ?_
      refine c_seq ?_
      refine c_seq ?_
      refine za0 ?_
      refine o_q rfl rfl (q_f F36_1 rfl) ?_
      refine o_q rfl rfl (q_ldb Y34 rfl (fun w h => h.zaa (i := 0) rfl) rfl) ?_
      refine o_q rfl rfl (q_len Try.underlying34 rfl) ?_
      refine o_q rfl rfl (za2 rfl) ?_
      refine o_end ?_
      refine za1 ?_
      refine zan ?_
      refine c_nil (gk 3 (Kd.int .i64)) 22 ?_
      refine za8 h (fun o25 hl24 hR23 => ?_) rfl
      clear h
      refine c_fact (p := l0_1.length ≤ 9223372036854775807) (fun w h => (R0_1.now Z h).2.1) (fun hm22 => ?_)
      refine zaw (σ := (List SStep) × (List (List Int)) × Int × (Option Addr) × Nat × Hd) (fun k20 ((ys19, l13, i17, A14, c15, H16) : (List SStep) × (List (List Int)) × Int × (Option Addr) × Nat × Hd) => Rg l0_1 i17 ys19 ∧ ys19.length = k20 ∧ spec_reOrders.l0 (spec_reOrders.f k) a0_0 l0_1 l0_2 l1 ys19 l13 i17 = some o25) [5, 6, 7, 20, 21, 22, 23, 24, 25, 26, 27, 28, 29, 30, 31, 32, 33, 34, 35, 36, 37, 38, 39, 40, 41, 42, 43, 44, 45, 46, 47, 48, 49, 50, 51, 52, 53, 54, 55, 56, 57, 58, 59, 60, 61, 62, 63, 64, 65, 66, 67, 68, 69, 70, 71] (fun ((ys19, l13, i17, A14, c15, H16) : (List SStep) × (List (List Int)) × Int × (Option Addr) × Nat × Hd) => [(5, .slice A14 l13.length c15), (20, .int .i64 i17)]) (fun ((ys19, l13, i17, A14, c15, H16) : (List SStep) × (List (List Int)) × Int × (Option Addr) × Nat × Hd) => [row (gk 3 (Kd.int .i64)) 22 (.slice A14 l13.length c15) (zp H16 l13), box g1 36 #[.int .i64 a0_0, .slice A0_1 l0_1.length c0_1, .slice A0_2 l0_2.length c0_2]]) l0_1.length (l0_1, ([] : List (List Int)), 0, none, 0, ([] : Hd)) ⟨Rg.start _, rfl, hl24⟩ ⟨rfl, rfl, trivial⟩ (fun w h => h) ?_
      refine fun k20 => cur6 (listC (fun l13 i17 A14 c15 H16 U26 hJ_ => ?_) (fun y18 ys19 l13 i17 A14 c15 H16 U26 hJ_ => ?_))
      · skip
        clear hl24
        have hr21 := hJ_.1; have hk27 := hJ_.2.1; have h := hJ_.2.2; clear hJ_
        replace h : spec_reOrders.l0 (spec_reOrders.f k) a0_0 l0_1 l0_2 l1 [] l13 i17 = some o25 := h
        rw [spec_reOrders.l0] at h
        refine c_seq ?_
        refine za0 ?_
        refine o_q rfl rfl (q_lss rfl rfl) ?_
        refine o_end ?_
        refine za1 ?_
        refine c_seq ?_
        refine c_false (congrArg Value.bool hr21.ge) ?_
        refine c_exit ?_
        refine za7 ?_
        refine za7 ?_
        have e_ := Option.some.inj h; replace h := hR23; rw [← e_] at h; clear e_
        refine x_hit ?_
        refine za1 ?_
        refine c_seq ?_
        refine za0 ?_
        refine o_q rfl rfl (za2 rfl) ?_
        refine o_q rfl rfl (q_asg rfl) ?_
        refine o_end ?_
        refine za1 ?_
        refine c_ret ?_
        have e0_ := Option.some.inj h; clear h
        subst e0_
        exact x_r1 (A14, c15, H16) Try.results106 (zab rfl) rfl (fun w h => za6 [0] (by decide) rfl w h)
      · skip
        clear hl24
        have hr21 := hJ_.1; have hk27 := hJ_.2.1; have h := hJ_.2.2; clear hJ_
        replace h : spec_reOrders.l0 (spec_reOrders.f k) a0_0 l0_1 l0_2 l1 (y18 :: ys19) l13 i17 = some o25 := h
        rw [spec_reOrders.l0] at h
        refine c_seq ?_
        refine za0 ?_
        refine o_q rfl rfl (q_lss rfl rfl) ?_
        refine o_end ?_
        refine za1 ?_
        refine c_seq ?_
        refine c_true (congrArg Value.bool hr21.lt) ?_
        refine zaj ?_
        refine za1 ?_
        refine c_seq ?_
        refine zan ?_
        refine c_seq ?_
        refine za0 ?_
        refine o_q rfl rfl (za2 rfl) ?_
        refine zav (p := Sh A0_1 l0_1.length l0_1.length) (fun w h => f_sh (dk := kStep) h (fun w h => R0_1.now Z h)) (fun hq28 => ?_)
        refine o_q rfl rfl (q_ix Try.underlying34 Z117 rfl rfl hq28 hr21.get) ?_
        refine o_q rfl rfl (q_ldE G117 Z117 rfl rfl (fun w h => R0_1.now Z h) hr21.get (fun _ _ h => h) rfl) ?_
        refine o_e rfl (e_alloc V117 rfl) (fun g29 => ?_)
        refine o_q rfl rfl (q_asg rfl) ?_
        refine o_e rfl (e_storeA (i := 0) rfl rfl rfl Z117 rfl rfl) (fun _ => ?_)
        refine o_end ?_
        refine za1 ?_
        refine c_seq ?_
        refine c_seq ?_
        refine za0 ?_
        refine o_q rfl rfl (za2 rfl) ?_
        refine o_q rfl rfl (za2 rfl) ?_
        refine za8 h (fun b32 hx31 h => ?_) rfl
        refine o_e rfl (za9 0 Z Try.func115 N115 rfl rfl rfl (fun w P1 hF hB hS hT => spec_l1Has.calls A1 c1 l1.length l1 i17 hB hF (hS _ R1) hc1 _ hx31)) (fun _ => ?_)
        refine o_q rfl rfl (za2 rfl) ?_
        refine byB b32 (fun hb33 => ?_) (fun hb33 => ?_)
        · replace h := bb_t hb33 h
          refine @o_n _ _ _ _ _ _ _ _ _ _ _ 29 (za4 rfl rfl rfl (congrArg Value.bool hb33) rfl) (Eq.refl (some 29)) ?_
          refine @o_n _ _ _ _ _ _ _ _ _ _ _ 30 (za4 rfl rfl rfl (congrArg Value.bool hb33) rfl) (Eq.refl (some 30)) ?_
          refine @o_n _ _ _ _ _ _ _ _ _ _ _ 31 (za4 rfl rfl rfl (congrArg Value.bool hb33) rfl) (Eq.refl (some 31)) ?_
          refine @o_n _ _ _ _ _ _ _ _ _ _ _ 32 (za4 rfl rfl rfl (congrArg Value.bool hb33) rfl) (Eq.refl (some 32)) ?_
          refine @o_n _ _ _ _ _ _ _ _ _ _ _ 33 (za4 rfl rfl rfl (congrArg Value.bool hb33) rfl) (Eq.refl (some 33)) ?_
          refine @o_n _ _ _ _ _ _ _ _ _ _ _ 34 (za4 rfl rfl rfl (congrArg Value.bool hb33) rfl) (Eq.refl (some 34)) ?_
          refine @o_n _ _ _ _ _ _ _ _ _ _ _ 35 (zak rfl rfl rfl rfl) (Eq.refl (some 35)) ?_
          refine @o_n _ _ _ _ _ _ _ _ _ _ _ 36 (zak rfl rfl rfl rfl) (Eq.refl (some 36)) ?_
          refine @o_n _ _ _ _ _ _ _ _ _ _ _ 37 (zak rfl rfl rfl rfl) (Eq.refl (some 37)) ?_
          refine @o_n _ _ _ _ _ _ _ _ _ _ _ 38 (zak rfl rfl rfl rfl) (Eq.refl (some 38)) ?_
          refine @o_n _ _ _ _ _ _ _ _ _ _ _ 39 (zak rfl rfl rfl rfl) (Eq.refl (some 39)) ?_
          refine @o_n _ _ _ _ _ _ _ _ _ _ _ 40 (zak rfl rfl rfl rfl) (Eq.refl (some 40)) ?_
          refine @o_n _ _ _ _ _ _ _ _ _ _ _ 41 (zak rfl rfl rfl rfl) (Eq.refl (some 41)) ?_
          refine @o_n _ _ _ _ _ _ _ _ _ _ _ 42 (zak rfl rfl rfl rfl) (Eq.refl (some 42)) ?_
          refine @o_n _ _ _ _ _ _ _ _ _ _ _ 43 (za4 rfl rfl rfl (congrArg Value.bool hb33) rfl) (Eq.refl (some 43)) ?_
          refine o_q rfl rfl (zam true (congrArg Value.bool hb33) rfl) ?_
          refine o_q rfl rfl (za2 rfl) ?_
          refine @o_n _ _ _ _ _ _ _ _ _ _ _ 46 (za4 rfl rfl rfl rfl rfl) (Eq.refl (some 46)) ?_
          refine @o_n _ _ _ _ _ _ _ _ _ _ _ 47 (za4 rfl rfl rfl rfl rfl) (Eq.refl (some 47)) ?_
          refine @o_n _ _ _ _ _ _ _ _ _ _ _ 48 (za4 rfl rfl rfl rfl rfl) (Eq.refl (some 48)) ?_
          refine @o_n _ _ _ _ _ _ _ _ _ _ _ 49 (za4 rfl rfl rfl rfl rfl) (Eq.refl (some 49)) ?_
          refine @o_n _ _ _ _ _ _ _ _ _ _ _ 50 (za4 rfl rfl rfl rfl rfl) (Eq.refl (some 50)) ?_
          refine @o_n _ _ _ _ _ _ _ _ _ _ _ 51 (za4 rfl rfl rfl rfl rfl) (Eq.refl (some 51)) ?_
          refine @o_n _ _ _ _ _ _ _ _ _ _ _ 52 (zak rfl rfl rfl rfl) (Eq.refl (some 52)) ?_
          refine @o_n _ _ _ _ _ _ _ _ _ _ _ 53 (zak rfl rfl rfl rfl) (Eq.refl (some 53)) ?_
          refine @o_n _ _ _ _ _ _ _ _ _ _ _ 54 (zak rfl rfl rfl rfl) (Eq.refl (some 54)) ?_
          refine @o_n _ _ _ _ _ _ _ _ _ _ _ 55 (zak rfl rfl rfl rfl) (Eq.refl (some 55)) ?_
          refine @o_n _ _ _ _ _ _ _ _ _ _ _ 56 (zak rfl rfl rfl rfl) (Eq.refl (some 56)) ?_
          refine @o_n _ _ _ _ _ _ _ _ _ _ _ 57 (zak rfl rfl rfl rfl) (Eq.refl (some 57)) ?_
          refine @o_n _ _ _ _ _ _ _ _ _ _ _ 58 (zak rfl rfl rfl rfl) (Eq.refl (some 58)) ?_
          refine @o_n _ _ _ _ _ _ _ _ _ _ _ 59 (zak rfl rfl rfl rfl) (Eq.refl (some 59)) ?_
          refine @o_n _ _ _ _ _ _ _ _ _ _ _ 60 (za4 rfl rfl rfl rfl rfl) (Eq.refl (some 60)) ?_
          refine o_q rfl rfl (zam true rfl rfl) ?_
          refine o_end ?_
          refine za1 ?_
          refine c_true rfl ?_
          refine c_exit ?_
          refine za7 ?_
          refine x_hit ?_
          refine za1 ?_
          refine za0 ?_
          refine o_q rfl rfl (q_up rfl rfl (hr21.up hm22)) ?_
          refine o_q rfl rfl (za2 rfl) ?_
          refine o_end ?_
          refine zaf ys19.length (ys19, l13, i17 + 1, A14, c15, H16) (by rw [← hk27]; exact Nat.lt_succ_self _) ⟨hr21.step, rfl, h⟩ ⟨rfl, rfl, trivial⟩ (fun w h => za6 [1, 2] (by decide) rfl w h) ?_
          repeat (first | exact zad _ _ | refine zah rfl ?_ | refine zae rfl ?_ | refine zai rfl ?_)
        · replace h := bb_f hb33 h
          refine o_w (za3 rfl rfl rfl (congrArg Value.bool hb33)) rfl (q_f F117_0 rfl) ?_
          refine o_w (za3 rfl rfl rfl (congrArg Value.bool hb33)) rfl (q_ldb Y3 rfl (fun w h => h.zaa (i := 0) rfl) rfl) ?_
          refine o_w (za3 rfl rfl rfl (congrArg Value.bool hb33)) rfl (q_f F36_0 rfl) ?_
          refine o_w (za3 rfl rfl rfl (congrArg Value.bool hb33)) rfl (q_ldb Y3 rfl (fun w h => h.zaa (i := 2) rfl) rfl) ?_
          refine o_w (za3 rfl rfl rfl (congrArg Value.bool hb33)) rfl (q_geq rfl rfl) ?_
          refine o_w (za3 rfl rfl rfl (congrArg Value.bool hb33)) rfl (za2 rfl) ?_
          refine byB (decide (a0_0 ≤ y18.f0)) (fun hb34 => ?_) (fun hb34 => ?_)
          · replace h := br_t hb34 h
            refine o_w (za3 rfl rfl rfl (congrArg Value.bool hb34)) rfl (za2 rfl) ?_
            refine o_w (za3 rfl rfl rfl (congrArg Value.bool hb34)) rfl (q_f F117_0 rfl) ?_
            refine o_w (za3 rfl rfl rfl (congrArg Value.bool hb34)) rfl (q_ldb Y3 rfl (fun w h => h.zaa (i := 0) rfl) rfl) ?_
            refine o_w (za3 rfl rfl rfl (congrArg Value.bool hb34)) rfl (q_f F36_0 rfl) ?_
            refine o_w (za3 rfl rfl rfl (congrArg Value.bool hb34)) rfl (q_ldb Y3 rfl (fun w h => h.zaa (i := 2) rfl) rfl) ?_
            refine o_w (za3 rfl rfl rfl (congrArg Value.bool hb34)) rfl (q_sub64 rfl rfl) ?_
            refine za8 h (fun b36 hx35 h => ?_) rfl
            refine o_ew (za3 rfl rfl rfl (congrArg Value.bool hb34)) (za9 0 Z Try.func115 N115 rfl rfl rfl (fun w P1 hF hB hS hT => spec_l1Has.calls A1 c1 l1.length l1 (w64 (y18.f0 - a0_0)) hB hF (hS _ R1) hc1 _ hx35)) (fun _ => ?_)
            refine o_w (za3 rfl rfl rfl (congrArg Value.bool hb34)) rfl (q_not rfl) ?_
            refine o_w (za3 rfl rfl rfl (congrArg Value.bool hb33)) rfl (zam true (congrArg Value.bool hb34) rfl) ?_
            refine o_q rfl rfl (zam false (congrArg Value.bool hb33) rfl) ?_
            refine o_q rfl rfl (za2 rfl) ?_
            refine byB b36 (fun hb37 => ?_) (fun hb37 => ?_)
            · replace h := bb_t hb37 h
              refine o_w (za3 rfl rfl rfl (congrArg (fun b => Value.bool (!(b))) hb37)) rfl (q_f F117_1 rfl) ?_
              refine o_w (za3 rfl rfl rfl (congrArg (fun b => Value.bool (!(b))) hb37)) rfl (q_ldb Y3 rfl (fun w h => h.zaa (i := 0) rfl) rfl) ?_
              refine o_w (za3 rfl rfl rfl (congrArg (fun b => Value.bool (!(b))) hb37)) rfl (q_f F36_0 rfl) ?_
              refine o_w (za3 rfl rfl rfl (congrArg (fun b => Value.bool (!(b))) hb37)) rfl (q_ldb Y3 rfl (fun w h => h.zaa (i := 2) rfl) rfl) ?_
              refine o_w (za3 rfl rfl rfl (congrArg (fun b => Value.bool (!(b))) hb37)) rfl (q_geq rfl rfl) ?_
              refine o_w (za3 rfl rfl rfl (congrArg (fun b => Value.bool (!(b))) hb37)) rfl (za2 rfl) ?_
              refine byB (decide (a0_0 ≤ y18.f1)) (fun hb38 => ?_) (fun hb38 => ?_)
              · replace h := br_t hb38 h
                refine o_w (za3 rfl rfl rfl (congrArg Value.bool hb38)) rfl (za2 rfl) ?_
                refine o_w (za3 rfl rfl rfl (congrArg Value.bool hb38)) rfl (q_f F117_1 rfl) ?_
                refine o_w (za3 rfl rfl rfl (congrArg Value.bool hb38)) rfl (q_ldb Y3 rfl (fun w h => h.zaa (i := 0) rfl) rfl) ?_
                refine o_w (za3 rfl rfl rfl (congrArg Value.bool hb38)) rfl (q_f F36_0 rfl) ?_
                refine o_w (za3 rfl rfl rfl (congrArg Value.bool hb38)) rfl (q_ldb Y3 rfl (fun w h => h.zaa (i := 2) rfl) rfl) ?_
                refine o_w (za3 rfl rfl rfl (congrArg Value.bool hb38)) rfl (q_sub64 rfl rfl) ?_
                refine za8 h (fun b40 hx39 h => ?_) rfl
                refine o_ew (za3 rfl rfl rfl (congrArg Value.bool hb38)) (za9 0 Z Try.func115 N115 rfl rfl rfl (fun w P1 hF hB hS hT => spec_l1Has.calls A1 c1 l1.length l1 (w64 (y18.f1 - a0_0)) hB hF (hS _ R1) hc1 _ hx39)) (fun _ => ?_)
                refine o_w (za3 rfl rfl rfl (congrArg Value.bool hb38)) rfl (q_not rfl) ?_
                refine o_w (za3 rfl rfl rfl (congrArg (fun b => Value.bool (!(b))) hb37)) rfl (zam true (congrArg Value.bool hb38) rfl) ?_
                refine o_q rfl rfl (zam false (congrArg (fun b => Value.bool (!(b))) hb37) rfl) ?_
                refine o_end ?_
                refine za1 ?_
                refine zar _ rfl (fun hb41 => ?_) (fun hb41 => ?_)
                · replace hb41 := nt_t hb41
                  replace h := bb_f hb41 h
                  refine c_exit ?_
                  refine za7 ?_
                  refine x_hit ?_
                  refine za1 ?_
                  refine za0 ?_
                  refine o_q rfl rfl (q_up rfl rfl (hr21.up hm22)) ?_
                  refine o_q rfl rfl (za2 rfl) ?_
                  refine o_end ?_
                  refine zaf ys19.length (ys19, l13, i17 + 1, A14, c15, H16) (by rw [← hk27]; exact Nat.lt_succ_self _) ⟨hr21.step, rfl, h⟩ ⟨rfl, rfl, trivial⟩ (fun w h => za6 [1, 2] (by decide) rfl w h) ?_
                  repeat (first | exact zad _ _ | refine zah rfl ?_ | refine zae rfl ?_ | refine zai rfl ?_)
                · replace hb41 := nt_f hb41
                  replace h := bb_t hb41 h
                  refine zaj ?_
                  refine za1 ?_
                  refine za8 h (fun l224 hx223 h => ?_) rfl
                  refine za8 h (fun l403 ha404 h => ?_) rfl
                  refine za8 h (fun l464 hx463 h => ?_) rfl
                  refine za8 h (fun l523 ha524 h => ?_) rfl
                  refine a_startS (ds := []) [some 0, none, some 2] MO rfl ?_
                  refine zac 0 rfl rfl rfl (by kernel_rfl) (fun _ _ _ h => h) (za2 rfl) ?_
                  refine a_take 1 rfl rfl rfl (by kernel_rfl) (fun _ _ _ h => h) (fun w h => zal [some 0, none, some 2] (by decide) w h rfl) (q_ldB G36 Z36 rfl (fun w h => h.zaa (i := 2) rfl) rfl) ?_
                  refine zac 2 rfl rfl rfl (by kernel_rfl) (fun _ _ _ h => h) (za2 rfl) ?_
                  refine zac 4 rfl rfl rfl (by kernel_rfl) (fun _ _ _ h => h) (za2 rfl) ?_
                  refine a_two 3 5 rfl rfl rfl rfl (by kernel_rfl) rfl rfl (za9 0 Z Try.func154 N154 rfl rfl rfl (fun w P1 hF hB hS hT => spec_l1Own.calls A1 c1 l1.length l1 hB hF (hS _ R1) hc1 _ hx223)) (fun s w h => zal [some 1, none, some 3] (by decide) w h rfl) (e_lit (vs := [(0, .int .i64 i17)]) (cs := [.int .i64 i17]) (Kd.int .i64) ([i17] : List Int) Try.underlying22 I3 (by decide) rfl (by decide) rfl rfl (fun _ _ => Kd.zau _)) (fun s w h => zal [some 1, none, some 3] (by decide) w h rfl) (cur2 (fun A225 c226 => ?_)) (cur2 (fun A343 c344 => ?_))
                  · skip
                    refine a_one 5 rfl rfl (by kernel_rfl) rfl (e_lit (vs := [(0, .int .i64 i17)]) (cs := [.int .i64 i17]) (Kd.int .i64) ([i17] : List Int) Try.underlying22 I3 (by decide) rfl (by decide) rfl rfl (fun _ _ => Kd.zau _)) (fun s w h => zal [some 2, none, some 4] (by decide) w h rfl) (cur2 (fun A343 c344 => ?_))
                    refine a_one 6 rfl rfl (by kernel_rfl) rfl (e_app (i := 1) (j := 0) Try.underlying22 I3 rfl (by decide) (by decide) rfl rfl rfl rfl rfl ha404) (fun s w h => zal [some 2, none, some 4] (by decide) w h rfl) (cur2 (fun A405 c406 => ?_))
                    refine a_one 7 rfl rfl (by kernel_rfl) rfl (za9 0 Z Try.func106 N106 rfl rfl rfl (fun w P1 hF hB hS hT => ih a0_0 A0_1 c0_1 l0_1.length l0_1 A0_2 c0_2 l0_2.length l0_2 A405 c406 l403.length l403 hB hF (hS _ R0_1) hc0_1 (hS _ R0_2) hc0_2 (hT 1 _ rfl).row (hT 1 _ rfl).cap _ hx463)) (fun s w h => zal [some 3, none, some 5] (by decide) w h rfl) (cur3 (fun A465 c466 H467 => ?_))
                    refine a_one 8 rfl rfl (by kernel_rfl) rfl (e_appG (i := 4) (j := 0) Try.underlying109 I22 rfl (by decide) rfl rfl rfl rfl rfl ha524) (fun s w h => zal [some 3, none, some 5] (by decide) w h rfl) (cur3 (fun A525 c526 H527 => ?_))
                    refine zac 9 rfl rfl rfl (by kernel_rfl) (fun _ _ _ h => h) (q_asg rfl) ?_
                    refine a_done (by kernel_rfl) ?_
                    refine zao ?_
                    refine za1 ?_
                    refine za0 ?_
                    refine o_q rfl rfl (q_up rfl rfl (hr21.up hm22)) ?_
                    refine o_q rfl rfl (za2 rfl) ?_
                    refine o_end ?_
                    refine zaf ys19.length (ys19, l523, i17 + 1, A525, c526, H527) (by rw [← hk27]; exact Nat.lt_succ_self _) ⟨hr21.step, rfl, h⟩ ⟨rfl, rfl, trivial⟩ (fun w h => za6 [4, 5] (by decide) rfl w h) ?_
                    repeat (first | exact zad _ _ | refine zah rfl ?_ | refine zae rfl ?_ | refine zai rfl ?_)
                  · skip
                    refine a_one 3 rfl rfl (by kernel_rfl) rfl (za9 0 Z Try.func154 N154 rfl rfl rfl (fun w P1 hF hB hS hT => spec_l1Own.calls A1 c1 l1.length l1 hB hF (hS _ R1) hc1 _ hx223)) (fun s w h => zal [some 2, none, some 4] (by decide) w h rfl) (cur2 (fun A225 c226 => ?_))
                    refine a_one 6 rfl rfl (by kernel_rfl) rfl (e_app (i := 0) (j := 1) Try.underlying22 I3 rfl (by decide) (by decide) rfl rfl rfl rfl rfl ha404) (fun s w h => zal [some 2, none, some 4] (by decide) w h rfl) (cur2 (fun A405 c406 => ?_))
                    refine a_one 7 rfl rfl (by kernel_rfl) rfl (za9 0 Z Try.func106 N106 rfl rfl rfl (fun w P1 hF hB hS hT => ih a0_0 A0_1 c0_1 l0_1.length l0_1 A0_2 c0_2 l0_2.length l0_2 A405 c406 l403.length l403 hB hF (hS _ R0_1) hc0_1 (hS _ R0_2) hc0_2 (hT 0 _ rfl).row (hT 0 _ rfl).cap _ hx463)) (fun s w h => zal [some 3, none, some 5] (by decide) w h rfl) (cur3 (fun A465 c466 H467 => ?_))
                    refine a_one 8 rfl rfl (by kernel_rfl) rfl (e_appG (i := 4) (j := 0) Try.underlying109 I22 rfl (by decide) rfl rfl rfl rfl rfl ha524) (fun s w h => zal [some 3, none, some 5] (by decide) w h rfl) (cur3 (fun A525 c526 H527 => ?_))
                    refine zac 9 rfl rfl rfl (by kernel_rfl) (fun _ _ _ h => h) (q_asg rfl) ?_
                    refine a_done (by kernel_rfl) ?_
                    refine zao ?_
                    refine za1 ?_
                    refine za0 ?_
                    refine o_q rfl rfl (q_up rfl rfl (hr21.up hm22)) ?_
                    refine o_q rfl rfl (za2 rfl) ?_
                    refine o_end ?_
                    refine zaf ys19.length (ys19, l523, i17 + 1, A525, c526, H527) (by rw [← hk27]; exact Nat.lt_succ_self _) ⟨hr21.step, rfl, h⟩ ⟨rfl, rfl, trivial⟩ (fun w h => za6 [4, 5] (by decide) rfl w h) ?_
                    repeat (first | exact zad _ _ | refine zah rfl ?_ | refine zae rfl ?_ | refine zai rfl ?_)
              · replace h := br_f hb38 h
                refine @o_n _ _ _ _ _ _ _ _ _ _ _ 52 (za4 rfl rfl rfl (congrArg Value.bool hb38) rfl) (Eq.refl (some 52)) ?_
                refine @o_n _ _ _ _ _ _ _ _ _ _ _ 53 (za4 rfl rfl rfl (congrArg Value.bool hb38) rfl) (Eq.refl (some 53)) ?_
                refine @o_n _ _ _ _ _ _ _ _ _ _ _ 54 (za4 rfl rfl rfl (congrArg Value.bool hb38) rfl) (Eq.refl (some 54)) ?_
                refine @o_n _ _ _ _ _ _ _ _ _ _ _ 55 (za4 rfl rfl rfl (congrArg Value.bool hb38) rfl) (Eq.refl (some 55)) ?_
                refine @o_n _ _ _ _ _ _ _ _ _ _ _ 56 (za4 rfl rfl rfl (congrArg Value.bool hb38) rfl) (Eq.refl (some 56)) ?_
                refine @o_n _ _ _ _ _ _ _ _ _ _ _ 57 (za4 rfl rfl rfl (congrArg Value.bool hb38) rfl) (Eq.refl (some 57)) ?_
                refine @o_n _ _ _ _ _ _ _ _ _ _ _ 58 (za4 rfl rfl rfl (congrArg Value.bool hb38) rfl) (Eq.refl (some 58)) ?_
                refine @o_n _ _ _ _ _ _ _ _ _ _ _ 59 (za4 rfl rfl rfl (congrArg Value.bool hb38) rfl) (Eq.refl (some 59)) ?_
                refine o_w (za3 rfl rfl rfl (congrArg (fun b => Value.bool (!(b))) hb37)) rfl (zam false (congrArg Value.bool hb38) rfl) ?_
                refine o_q rfl rfl (zam false (congrArg (fun b => Value.bool (!(b))) hb37) rfl) ?_
                refine o_end ?_
                refine za1 ?_
                refine c_false rfl ?_
                refine zaj ?_
                refine za1 ?_
                refine za8 h (fun l885 hx884 h => ?_) rfl
                refine za8 h (fun l1064 ha1065 h => ?_) rfl
                refine za8 h (fun l1125 hx1124 h => ?_) rfl
                refine za8 h (fun l1184 ha1185 h => ?_) rfl
                refine a_startS (ds := []) [some 0, none, some 2] MO rfl ?_
                refine zac 0 rfl rfl rfl (by kernel_rfl) (fun _ _ _ h => h) (za2 rfl) ?_
                refine a_take 1 rfl rfl rfl (by kernel_rfl) (fun _ _ _ h => h) (fun w h => zal [some 0, none, some 2] (by decide) w h rfl) (q_ldB G36 Z36 rfl (fun w h => h.zaa (i := 2) rfl) rfl) ?_
                refine zac 2 rfl rfl rfl (by kernel_rfl) (fun _ _ _ h => h) (za2 rfl) ?_
                refine zac 4 rfl rfl rfl (by kernel_rfl) (fun _ _ _ h => h) (za2 rfl) ?_
                refine a_two 3 5 rfl rfl rfl rfl (by kernel_rfl) rfl rfl (za9 0 Z Try.func154 N154 rfl rfl rfl (fun w P1 hF hB hS hT => spec_l1Own.calls A1 c1 l1.length l1 hB hF (hS _ R1) hc1 _ hx884)) (fun s w h => zal [some 1, none, some 3] (by decide) w h rfl) (e_lit (vs := [(0, .int .i64 i17)]) (cs := [.int .i64 i17]) (Kd.int .i64) ([i17] : List Int) Try.underlying22 I3 (by decide) rfl (by decide) rfl rfl (fun _ _ => Kd.zau _)) (fun s w h => zal [some 1, none, some 3] (by decide) w h rfl) (cur2 (fun A886 c887 => ?_)) (cur2 (fun A1004 c1005 => ?_))
                · skip
                  refine a_one 5 rfl rfl (by kernel_rfl) rfl (e_lit (vs := [(0, .int .i64 i17)]) (cs := [.int .i64 i17]) (Kd.int .i64) ([i17] : List Int) Try.underlying22 I3 (by decide) rfl (by decide) rfl rfl (fun _ _ => Kd.zau _)) (fun s w h => zal [some 2, none, some 4] (by decide) w h rfl) (cur2 (fun A1004 c1005 => ?_))
                  refine a_one 6 rfl rfl (by kernel_rfl) rfl (e_app (i := 1) (j := 0) Try.underlying22 I3 rfl (by decide) (by decide) rfl rfl rfl rfl rfl ha1065) (fun s w h => zal [some 2, none, some 4] (by decide) w h rfl) (cur2 (fun A1066 c1067 => ?_))
                  refine a_one 7 rfl rfl (by kernel_rfl) rfl (za9 0 Z Try.func106 N106 rfl rfl rfl (fun w P1 hF hB hS hT => ih a0_0 A0_1 c0_1 l0_1.length l0_1 A0_2 c0_2 l0_2.length l0_2 A1066 c1067 l1064.length l1064 hB hF (hS _ R0_1) hc0_1 (hS _ R0_2) hc0_2 (hT 1 _ rfl).row (hT 1 _ rfl).cap _ hx1124)) (fun s w h => zal [some 3, none, some 5] (by decide) w h rfl) (cur3 (fun A1126 c1127 H1128 => ?_))
                  refine a_one 8 rfl rfl (by kernel_rfl) rfl (e_appG (i := 4) (j := 0) Try.underlying109 I22 rfl (by decide) rfl rfl rfl rfl rfl ha1185) (fun s w h => zal [some 3, none, some 5] (by decide) w h rfl) (cur3 (fun A1186 c1187 H1188 => ?_))
                  refine zac 9 rfl rfl rfl (by kernel_rfl) (fun _ _ _ h => h) (q_asg rfl) ?_
                  refine a_done (by kernel_rfl) ?_
                  refine zao ?_
                  refine za1 ?_
                  refine za0 ?_
                  refine o_q rfl rfl (q_up rfl rfl (hr21.up hm22)) ?_
                  refine o_q rfl rfl (za2 rfl) ?_
                  refine o_end ?_
                  refine zaf ys19.length (ys19, l1184, i17 + 1, A1186, c1187, H1188) (by rw [← hk27]; exact Nat.lt_succ_self _) ⟨hr21.step, rfl, h⟩ ⟨rfl, rfl, trivial⟩ (fun w h => za6 [4, 5] (by decide) rfl w h) ?_
                  repeat (first | exact zad _ _ | refine zah rfl ?_ | refine zae rfl ?_ | refine zai rfl ?_)
                · skip
                  refine a_one 3 rfl rfl (by kernel_rfl) rfl (za9 0 Z Try.func154 N154 rfl rfl rfl (fun w P1 hF hB hS hT => spec_l1Own.calls A1 c1 l1.length l1 hB hF (hS _ R1) hc1 _ hx884)) (fun s w h => zal [some 2, none, some 4] (by decide) w h rfl) (cur2 (fun A886 c887 => ?_))
                  refine a_one 6 rfl rfl (by kernel_rfl) rfl (e_app (i := 0) (j := 1) Try.underlying22 I3 rfl (by decide) (by decide) rfl rfl rfl rfl rfl ha1065) (fun s w h => zal [some 2, none, some 4] (by decide) w h rfl) (cur2 (fun A1066 c1067 => ?_))
                  refine a_one 7 rfl rfl (by kernel_rfl) rfl (za9 0 Z Try.func106 N106 rfl rfl rfl (fun w P1 hF hB hS hT => ih a0_0 A0_1 c0_1 l0_1.length l0_1 A0_2 c0_2 l0_2.length l0_2 A1066 c1067 l1064.length l1064 hB hF (hS _ R0_1) hc0_1 (hS _ R0_2) hc0_2 (hT 0 _ rfl).row (hT 0 _ rfl).cap _ hx1124)) (fun s w h => zal [some 3, none, some 5] (by decide) w h rfl) (cur3 (fun A1126 c1127 H1128 => ?_))
                  refine a_one 8 rfl rfl (by kernel_rfl) rfl (e_appG (i := 4) (j := 0) Try.underlying109 I22 rfl (by decide) rfl rfl rfl rfl rfl ha1185) (fun s w h => zal [some 3, none, some 5] (by decide) w h rfl) (cur3 (fun A1186 c1187 H1188 => ?_))
                  refine zac 9 rfl rfl rfl (by kernel_rfl) (fun _ _ _ h => h) (q_asg rfl) ?_
                  refine a_done (by kernel_rfl) ?_
                  refine zao ?_
                  refine za1 ?_
                  refine za0 ?_
                  refine o_q rfl rfl (q_up rfl rfl (hr21.up hm22)) ?_
                  refine o_q rfl rfl (za2 rfl) ?_
                  refine o_end ?_
                  refine zaf ys19.length (ys19, l1184, i17 + 1, A1186, c1187, H1188) (by rw [← hk27]; exact Nat.lt_succ_self _) ⟨hr21.step, rfl, h⟩ ⟨rfl, rfl, trivial⟩ (fun w h => za6 [4, 5] (by decide) rfl w h) ?_
                  repeat (first | exact zad _ _ | refine zah rfl ?_ | refine zae rfl ?_ | refine zai rfl ?_)
            · replace h := bb_f hb37 h
              refine @o_n _ _ _ _ _ _ _ _ _ _ _ 46 (za4 rfl rfl rfl (congrArg (fun b => Value.bool (!(b))) hb37) rfl) (Eq.refl (some 46)) ?_
              refine @o_n _ _ _ _ _ _ _ _ _ _ _ 47 (za4 rfl rfl rfl (congrArg (fun b => Value.bool (!(b))) hb37) rfl) (Eq.refl (some 47)) ?_
              refine @o_n _ _ _ _ _ _ _ _ _ _ _ 48 (za4 rfl rfl rfl (congrArg (fun b => Value.bool (!(b))) hb37) rfl) (Eq.refl (some 48)) ?_
              refine @o_n _ _ _ _ _ _ _ _ _ _ _ 49 (za4 rfl rfl rfl (congrArg (fun b => Value.bool (!(b))) hb37) rfl) (Eq.refl (some 49)) ?_
              refine @o_n _ _ _ _ _ _ _ _ _ _ _ 50 (za4 rfl rfl rfl (congrArg (fun b => Value.bool (!(b))) hb37) rfl) (Eq.refl (some 50)) ?_
              refine @o_n _ _ _ _ _ _ _ _ _ _ _ 51 (za4 rfl rfl rfl (congrArg (fun b => Value.bool (!(b))) hb37) rfl) (Eq.refl (some 51)) ?_
              refine @o_n _ _ _ _ _ _ _ _ _ _ _ 52 (zak rfl rfl rfl rfl) (Eq.refl (some 52)) ?_
              refine @o_n _ _ _ _ _ _ _ _ _ _ _ 53 (zak rfl rfl rfl rfl) (Eq.refl (some 53)) ?_
              refine @o_n _ _ _ _ _ _ _ _ _ _ _ 54 (zak rfl rfl rfl rfl) (Eq.refl (some 54)) ?_
              refine @o_n _ _ _ _ _ _ _ _ _ _ _ 55 (zak rfl rfl rfl rfl) (Eq.refl (some 55)) ?_
              refine @o_n _ _ _ _ _ _ _ _ _ _ _ 56 (zak rfl rfl rfl rfl) (Eq.refl (some 56)) ?_
              refine @o_n _ _ _ _ _ _ _ _ _ _ _ 57 (zak rfl rfl rfl rfl) (Eq.refl (some 57)) ?_
              refine @o_n _ _ _ _ _ _ _ _ _ _ _ 58 (zak rfl rfl rfl rfl) (Eq.refl (some 58)) ?_
              refine @o_n _ _ _ _ _ _ _ _ _ _ _ 59 (zak rfl rfl rfl rfl) (Eq.refl (some 59)) ?_
              refine @o_n _ _ _ _ _ _ _ _ _ _ _ 60 (za4 rfl rfl rfl (congrArg (fun b => Value.bool (!(b))) hb37) rfl) (Eq.refl (some 60)) ?_
              refine o_q rfl rfl (zam true (congrArg (fun b => Value.bool (!(b))) hb37) rfl) ?_
              refine o_end ?_
              refine za1 ?_
              refine c_true rfl ?_
              refine c_exit ?_
              refine za7 ?_
              refine x_hit ?_
              refine za1 ?_
              refine za0 ?_
              refine o_q rfl rfl (q_up rfl rfl (hr21.up hm22)) ?_
              refine o_q rfl rfl (za2 rfl) ?_
              refine o_end ?_
              refine zaf ys19.length (ys19, l13, i17 + 1, A14, c15, H16) (by rw [← hk27]; exact Nat.lt_succ_self _) ⟨hr21.step, rfl, h⟩ ⟨rfl, rfl, trivial⟩ (fun w h => za6 [1, 2] (by decide) rfl w h) ?_
              repeat (first | exact zad _ _ | refine zah rfl ?_ | refine zae rfl ?_ | refine zai rfl ?_)
          · replace h := br_f hb34 h
            refine @o_n _ _ _ _ _ _ _ _ _ _ _ 35 (za4 rfl rfl rfl (congrArg Value.bool hb34) rfl) (Eq.refl (some 35)) ?_
            refine @o_n _ _ _ _ _ _ _ _ _ _ _ 36 (za4 rfl rfl rfl (congrArg Value.bool hb34) rfl) (Eq.refl (some 36)) ?_
            refine @o_n _ _ _ _ _ _ _ _ _ _ _ 37 (za4 rfl rfl rfl (congrArg Value.bool hb34) rfl) (Eq.refl (some 37)) ?_
            refine @o_n _ _ _ _ _ _ _ _ _ _ _ 38 (za4 rfl rfl rfl (congrArg Value.bool hb34) rfl) (Eq.refl (some 38)) ?_
            refine @o_n _ _ _ _ _ _ _ _ _ _ _ 39 (za4 rfl rfl rfl (congrArg Value.bool hb34) rfl) (Eq.refl (some 39)) ?_
            refine @o_n _ _ _ _ _ _ _ _ _ _ _ 40 (za4 rfl rfl rfl (congrArg Value.bool hb34) rfl) (Eq.refl (some 40)) ?_
            refine @o_n _ _ _ _ _ _ _ _ _ _ _ 41 (za4 rfl rfl rfl (congrArg Value.bool hb34) rfl) (Eq.refl (some 41)) ?_
            refine @o_n _ _ _ _ _ _ _ _ _ _ _ 42 (za4 rfl rfl rfl (congrArg Value.bool hb34) rfl) (Eq.refl (some 42)) ?_
            refine o_w (za3 rfl rfl rfl (congrArg Value.bool hb33)) rfl (zam false (congrArg Value.bool hb34) rfl) ?_
            refine o_q rfl rfl (zam false (congrArg Value.bool hb33) rfl) ?_
            refine o_q rfl rfl (za2 rfl) ?_
            refine o_w (za3 rfl rfl rfl rfl) rfl (q_f F117_1 rfl) ?_
            refine o_w (za3 rfl rfl rfl rfl) rfl (q_ldb Y3 rfl (fun w h => h.zaa (i := 0) rfl) rfl) ?_
            refine o_w (za3 rfl rfl rfl rfl) rfl (q_f F36_0 rfl) ?_
            refine o_w (za3 rfl rfl rfl rfl) rfl (q_ldb Y3 rfl (fun w h => h.zaa (i := 2) rfl) rfl) ?_
            refine o_w (za3 rfl rfl rfl rfl) rfl (q_geq rfl rfl) ?_
            refine o_w (za3 rfl rfl rfl rfl) rfl (za2 rfl) ?_
            refine byB (decide (a0_0 ≤ y18.f1)) (fun hb1364 => ?_) (fun hb1364 => ?_)
            · replace h := br_t hb1364 h
              refine o_w (za3 rfl rfl rfl (congrArg Value.bool hb1364)) rfl (za2 rfl) ?_
              refine o_w (za3 rfl rfl rfl (congrArg Value.bool hb1364)) rfl (q_f F117_1 rfl) ?_
              refine o_w (za3 rfl rfl rfl (congrArg Value.bool hb1364)) rfl (q_ldb Y3 rfl (fun w h => h.zaa (i := 0) rfl) rfl) ?_
              refine o_w (za3 rfl rfl rfl (congrArg Value.bool hb1364)) rfl (q_f F36_0 rfl) ?_
              refine o_w (za3 rfl rfl rfl (congrArg Value.bool hb1364)) rfl (q_ldb Y3 rfl (fun w h => h.zaa (i := 2) rfl) rfl) ?_
              refine o_w (za3 rfl rfl rfl (congrArg Value.bool hb1364)) rfl (q_sub64 rfl rfl) ?_
              refine za8 h (fun b1366 hx1365 h => ?_) rfl
              refine o_ew (za3 rfl rfl rfl (congrArg Value.bool hb1364)) (za9 0 Z Try.func115 N115 rfl rfl rfl (fun w P1 hF hB hS hT => spec_l1Has.calls A1 c1 l1.length l1 (w64 (y18.f1 - a0_0)) hB hF (hS _ R1) hc1 _ hx1365)) (fun _ => ?_)
              refine o_w (za3 rfl rfl rfl (congrArg Value.bool hb1364)) rfl (q_not rfl) ?_
              refine o_w (za3 rfl rfl rfl rfl) rfl (zam true (congrArg Value.bool hb1364) rfl) ?_
              refine o_q rfl rfl (zam false rfl rfl) ?_
              refine o_end ?_
              refine za1 ?_
              refine zar _ rfl (fun hb1367 => ?_) (fun hb1367 => ?_)
              · replace hb1367 := nt_t hb1367
                replace h := bb_f hb1367 h
                refine c_exit ?_
                refine za7 ?_
                refine x_hit ?_
                refine za1 ?_
                refine za0 ?_
                refine o_q rfl rfl (q_up rfl rfl (hr21.up hm22)) ?_
                refine o_q rfl rfl (za2 rfl) ?_
                refine o_end ?_
                refine zaf ys19.length (ys19, l13, i17 + 1, A14, c15, H16) (by rw [← hk27]; exact Nat.lt_succ_self _) ⟨hr21.step, rfl, h⟩ ⟨rfl, rfl, trivial⟩ (fun w h => za6 [1, 2] (by decide) rfl w h) ?_
                repeat (first | exact zad _ _ | refine zah rfl ?_ | refine zae rfl ?_ | refine zai rfl ?_)
              · replace hb1367 := nt_f hb1367
                replace h := bb_t hb1367 h
                refine zaj ?_
                refine za1 ?_
                refine za8 h (fun l1550 hx1549 h => ?_) rfl
                refine za8 h (fun l1729 ha1730 h => ?_) rfl
                refine za8 h (fun l1790 hx1789 h => ?_) rfl
                refine za8 h (fun l1849 ha1850 h => ?_) rfl
                refine a_startS (ds := []) [some 0, none, some 2] MO rfl ?_
                refine zac 0 rfl rfl rfl (by kernel_rfl) (fun _ _ _ h => h) (za2 rfl) ?_
                refine a_take 1 rfl rfl rfl (by kernel_rfl) (fun _ _ _ h => h) (fun w h => zal [some 0, none, some 2] (by decide) w h rfl) (q_ldB G36 Z36 rfl (fun w h => h.zaa (i := 2) rfl) rfl) ?_
                refine zac 2 rfl rfl rfl (by kernel_rfl) (fun _ _ _ h => h) (za2 rfl) ?_
                refine zac 4 rfl rfl rfl (by kernel_rfl) (fun _ _ _ h => h) (za2 rfl) ?_
                refine a_two 3 5 rfl rfl rfl rfl (by kernel_rfl) rfl rfl (za9 0 Z Try.func154 N154 rfl rfl rfl (fun w P1 hF hB hS hT => spec_l1Own.calls A1 c1 l1.length l1 hB hF (hS _ R1) hc1 _ hx1549)) (fun s w h => zal [some 1, none, some 3] (by decide) w h rfl) (e_lit (vs := [(0, .int .i64 i17)]) (cs := [.int .i64 i17]) (Kd.int .i64) ([i17] : List Int) Try.underlying22 I3 (by decide) rfl (by decide) rfl rfl (fun _ _ => Kd.zau _)) (fun s w h => zal [some 1, none, some 3] (by decide) w h rfl) (cur2 (fun A1551 c1552 => ?_)) (cur2 (fun A1669 c1670 => ?_))
                · skip
                  refine a_one 5 rfl rfl (by kernel_rfl) rfl (e_lit (vs := [(0, .int .i64 i17)]) (cs := [.int .i64 i17]) (Kd.int .i64) ([i17] : List Int) Try.underlying22 I3 (by decide) rfl (by decide) rfl rfl (fun _ _ => Kd.zau _)) (fun s w h => zal [some 2, none, some 4] (by decide) w h rfl) (cur2 (fun A1669 c1670 => ?_))
                  refine a_one 6 rfl rfl (by kernel_rfl) rfl (e_app (i := 1) (j := 0) Try.underlying22 I3 rfl (by decide) (by decide) rfl rfl rfl rfl rfl ha1730) (fun s w h => zal [some 2, none, some 4] (by decide) w h rfl) (cur2 (fun A1731 c1732 => ?_))
                  refine a_one 7 rfl rfl (by kernel_rfl) rfl (za9 0 Z Try.func106 N106 rfl rfl rfl (fun w P1 hF hB hS hT => ih a0_0 A0_1 c0_1 l0_1.length l0_1 A0_2 c0_2 l0_2.length l0_2 A1731 c1732 l1729.length l1729 hB hF (hS _ R0_1) hc0_1 (hS _ R0_2) hc0_2 (hT 1 _ rfl).row (hT 1 _ rfl).cap _ hx1789)) (fun s w h => zal [some 3, none, some 5] (by decide) w h rfl) (cur3 (fun A1791 c1792 H1793 => ?_))
                  refine a_one 8 rfl rfl (by kernel_rfl) rfl (e_appG (i := 4) (j := 0) Try.underlying109 I22 rfl (by decide) rfl rfl rfl rfl rfl ha1850) (fun s w h => zal [some 3, none, some 5] (by decide) w h rfl) (cur3 (fun A1851 c1852 H1853 => ?_))
                  refine zac 9 rfl rfl rfl (by kernel_rfl) (fun _ _ _ h => h) (q_asg rfl) ?_
                  refine a_done (by kernel_rfl) ?_
                  refine zao ?_
                  refine za1 ?_
                  refine za0 ?_
                  refine o_q rfl rfl (q_up rfl rfl (hr21.up hm22)) ?_
                  refine o_q rfl rfl (za2 rfl) ?_
                  refine o_end ?_
                  refine zaf ys19.length (ys19, l1849, i17 + 1, A1851, c1852, H1853) (by rw [← hk27]; exact Nat.lt_succ_self _) ⟨hr21.step, rfl, h⟩ ⟨rfl, rfl, trivial⟩ (fun w h => za6 [4, 5] (by decide) rfl w h) ?_
                  repeat (first | exact zad _ _ | refine zah rfl ?_ | refine zae rfl ?_ | refine zai rfl ?_)
                · skip
                  refine a_one 3 rfl rfl (by kernel_rfl) rfl (za9 0 Z Try.func154 N154 rfl rfl rfl (fun w P1 hF hB hS hT => spec_l1Own.calls A1 c1 l1.length l1 hB hF (hS _ R1) hc1 _ hx1549)) (fun s w h => zal [some 2, none, some 4] (by decide) w h rfl) (cur2 (fun A1551 c1552 => ?_))
                  refine a_one 6 rfl rfl (by kernel_rfl) rfl (e_app (i := 0) (j := 1) Try.underlying22 I3 rfl (by decide) (by decide) rfl rfl rfl rfl rfl ha1730) (fun s w h => zal [some 2, none, some 4] (by decide) w h rfl) (cur2 (fun A1731 c1732 => ?_))
                  refine a_one 7 rfl rfl (by kernel_rfl) rfl (za9 0 Z Try.func106 N106 rfl rfl rfl (fun w P1 hF hB hS hT => ih a0_0 A0_1 c0_1 l0_1.length l0_1 A0_2 c0_2 l0_2.length l0_2 A1731 c1732 l1729.length l1729 hB hF (hS _ R0_1) hc0_1 (hS _ R0_2) hc0_2 (hT 0 _ rfl).row (hT 0 _ rfl).cap _ hx1789)) (fun s w h => zal [some 3, none, some 5] (by decide) w h rfl) (cur3 (fun A1791 c1792 H1793 => ?_))
                  refine a_one 8 rfl rfl (by kernel_rfl) rfl (e_appG (i := 4) (j := 0) Try.underlying109 I22 rfl (by decide) rfl rfl rfl rfl rfl ha1850) (fun s w h => zal [some 3, none, some 5] (by decide) w h rfl) (cur3 (fun A1851 c1852 H1853 => ?_))
                  refine zac 9 rfl rfl rfl (by kernel_rfl) (fun _ _ _ h => h) (q_asg rfl) ?_
                  refine a_done (by kernel_rfl) ?_
                  refine zao ?_
                  refine za1 ?_
                  refine za0 ?_
                  refine o_q rfl rfl (q_up rfl rfl (hr21.up hm22)) ?_
                  refine o_q rfl rfl (za2 rfl) ?_
                  refine o_end ?_
                  refine zaf ys19.length (ys19, l1849, i17 + 1, A1851, c1852, H1853) (by rw [← hk27]; exact Nat.lt_succ_self _) ⟨hr21.step, rfl, h⟩ ⟨rfl, rfl, trivial⟩ (fun w h => za6 [4, 5] (by decide) rfl w h) ?_
                  repeat (first | exact zad _ _ | refine zah rfl ?_ | refine zae rfl ?_ | refine zai rfl ?_)
            · replace h := br_f hb1364 h
              refine @o_n _ _ _ _ _ _ _ _ _ _ _ 52 (za4 rfl rfl rfl (congrArg Value.bool hb1364) rfl) (Eq.refl (some 52)) ?_
              refine @o_n _ _ _ _ _ _ _ _ _ _ _ 53 (za4 rfl rfl rfl (congrArg Value.bool hb1364) rfl) (Eq.refl (some 53)) ?_
              refine @o_n _ _ _ _ _ _ _ _ _ _ _ 54 (za4 rfl rfl rfl (congrArg Value.bool hb1364) rfl) (Eq.refl (some 54)) ?_
              refine @o_n _ _ _ _ _ _ _ _ _ _ _ 55 (za4 rfl rfl rfl (congrArg Value.bool hb1364) rfl) (Eq.refl (some 55)) ?_
              refine @o_n _ _ _ _ _ _ _ _ _ _ _ 56 (za4 rfl rfl rfl (congrArg Value.bool hb1364) rfl) (Eq.refl (some 56)) ?_
              refine @o_n _ _ _ _ _ _ _ _ _ _ _ 57 (za4 rfl rfl rfl (congrArg Value.bool hb1364) rfl) (Eq.refl (some 57)) ?_
              refine @o_n _ _ _ _ _ _ _ _ _ _ _ 58 (za4 rfl rfl rfl (congrArg Value.bool hb1364) rfl) (Eq.refl (some 58)) ?_
              refine @o_n _ _ _ _ _ _ _ _ _ _ _ 59 (za4 rfl rfl rfl (congrArg Value.bool hb1364) rfl) (Eq.refl (some 59)) ?_
              refine o_w (za3 rfl rfl rfl rfl) rfl (zam false (congrArg Value.bool hb1364) rfl) ?_
              refine o_q rfl rfl (zam false rfl rfl) ?_
              refine o_end ?_
              refine za1 ?_
              refine c_false rfl ?_
              refine zaj ?_
              refine za1 ?_
              refine za8 h (fun l2211 hx2210 h => ?_) rfl
              refine za8 h (fun l2390 ha2391 h => ?_) rfl
              refine za8 h (fun l2451 hx2450 h => ?_) rfl
              refine za8 h (fun l2510 ha2511 h => ?_) rfl
              refine a_startS (ds := []) [some 0, none, some 2] MO rfl ?_
              refine zac 0 rfl rfl rfl (by kernel_rfl) (fun _ _ _ h => h) (za2 rfl) ?_
              refine a_take 1 rfl rfl rfl (by kernel_rfl) (fun _ _ _ h => h) (fun w h => zal [some 0, none, some 2] (by decide) w h rfl) (q_ldB G36 Z36 rfl (fun w h => h.zaa (i := 2) rfl) rfl) ?_
              refine zac 2 rfl rfl rfl (by kernel_rfl) (fun _ _ _ h => h) (za2 rfl) ?_
              refine zac 4 rfl rfl rfl (by kernel_rfl) (fun _ _ _ h => h) (za2 rfl) ?_
              refine a_two 3 5 rfl rfl rfl rfl (by kernel_rfl) rfl rfl (za9 0 Z Try.func154 N154 rfl rfl rfl (fun w P1 hF hB hS hT => spec_l1Own.calls A1 c1 l1.length l1 hB hF (hS _ R1) hc1 _ hx2210)) (fun s w h => zal [some 1, none, some 3] (by decide) w h rfl) (e_lit (vs := [(0, .int .i64 i17)]) (cs := [.int .i64 i17]) (Kd.int .i64) ([i17] : List Int) Try.underlying22 I3 (by decide) rfl (by decide) rfl rfl (fun _ _ => Kd.zau _)) (fun s w h => zal [some 1, none, some 3] (by decide) w h rfl) (cur2 (fun A2212 c2213 => ?_)) (cur2 (fun A2330 c2331 => ?_))
              · skip
                refine a_one 5 rfl rfl (by kernel_rfl) rfl (e_lit (vs := [(0, .int .i64 i17)]) (cs := [.int .i64 i17]) (Kd.int .i64) ([i17] : List Int) Try.underlying22 I3 (by decide) rfl (by decide) rfl rfl (fun _ _ => Kd.zau _)) (fun s w h => zal [some 2, none, some 4] (by decide) w h rfl) (cur2 (fun A2330 c2331 => ?_))
                refine a_one 6 rfl rfl (by kernel_rfl) rfl (e_app (i := 1) (j := 0) Try.underlying22 I3 rfl (by decide) (by decide) rfl rfl rfl rfl rfl ha2391) (fun s w h => zal [some 2, none, some 4] (by decide) w h rfl) (cur2 (fun A2392 c2393 => ?_))
                refine a_one 7 rfl rfl (by kernel_rfl) rfl (za9 0 Z Try.func106 N106 rfl rfl rfl (fun w P1 hF hB hS hT => ih a0_0 A0_1 c0_1 l0_1.length l0_1 A0_2 c0_2 l0_2.length l0_2 A2392 c2393 l2390.length l2390 hB hF (hS _ R0_1) hc0_1 (hS _ R0_2) hc0_2 (hT 1 _ rfl).row (hT 1 _ rfl).cap _ hx2450)) (fun s w h => zal [some 3, none, some 5] (by decide) w h rfl) (cur3 (fun A2452 c2453 H2454 => ?_))
                refine a_one 8 rfl rfl (by kernel_rfl) rfl (e_appG (i := 4) (j := 0) Try.underlying109 I22 rfl (by decide) rfl rfl rfl rfl rfl ha2511) (fun s w h => zal [some 3, none, some 5] (by decide) w h rfl) (cur3 (fun A2512 c2513 H2514 => ?_))
                refine zac 9 rfl rfl rfl (by kernel_rfl) (fun _ _ _ h => h) (q_asg rfl) ?_
                refine a_done (by kernel_rfl) ?_
                refine zao ?_
                refine za1 ?_
                refine za0 ?_
                refine o_q rfl rfl (q_up rfl rfl (hr21.up hm22)) ?_
                refine o_q rfl rfl (za2 rfl) ?_
                refine o_end ?_
                refine zaf ys19.length (ys19, l2510, i17 + 1, A2512, c2513, H2514) (by rw [← hk27]; exact Nat.lt_succ_self _) ⟨hr21.step, rfl, h⟩ ⟨rfl, rfl, trivial⟩ (fun w h => za6 [4, 5] (by decide) rfl w h) ?_
                repeat (first | exact zad _ _ | refine zah rfl ?_ | refine zae rfl ?_ | refine zai rfl ?_)
              · skip
                refine a_one 3 rfl rfl (by kernel_rfl) rfl (za9 0 Z Try.func154 N154 rfl rfl rfl (fun w P1 hF hB hS hT => spec_l1Own.calls A1 c1 l1.length l1 hB hF (hS _ R1) hc1 _ hx2210)) (fun s w h => zal [some 2, none, some 4] (by decide) w h rfl) (cur2 (fun A2212 c2213 => ?_))
                refine a_one 6 rfl rfl (by kernel_rfl) rfl (e_app (i := 0) (j := 1) Try.underlying22 I3 rfl (by decide) (by decide) rfl rfl rfl rfl rfl ha2391) (fun s w h => zal [some 2, none, some 4] (by decide) w h rfl) (cur2 (fun A2392 c2393 => ?_))
                refine a_one 7 rfl rfl (by kernel_rfl) rfl (za9 0 Z Try.func106 N106 rfl rfl rfl (fun w P1 hF hB hS hT => ih a0_0 A0_1 c0_1 l0_1.length l0_1 A0_2 c0_2 l0_2.length l0_2 A2392 c2393 l2390.length l2390 hB hF (hS _ R0_1) hc0_1 (hS _ R0_2) hc0_2 (hT 0 _ rfl).row (hT 0 _ rfl).cap _ hx2450)) (fun s w h => zal [some 3, none, some 5] (by decide) w h rfl) (cur3 (fun A2452 c2453 H2454 => ?_))
                refine a_one 8 rfl rfl (by kernel_rfl) rfl (e_appG (i := 4) (j := 0) Try.underlying109 I22 rfl (by decide) rfl rfl rfl rfl rfl ha2511) (fun s w h => zal [some 3, none, some 5] (by decide) w h rfl) (cur3 (fun A2512 c2513 H2514 => ?_))
                refine zac 9 rfl rfl rfl (by kernel_rfl) (fun _ _ _ h => h) (q_asg rfl) ?_
                refine a_done (by kernel_rfl) ?_
                refine zao ?_
                refine za1 ?_
                refine za0 ?_
                refine o_q rfl rfl (q_up rfl rfl (hr21.up hm22)) ?_
                refine o_q rfl rfl (za2 rfl) ?_
                refine o_end ?_
                refine zaf ys19.length (ys19, l2510, i17 + 1, A2512, c2513, H2514) (by rw [← hk27]; exact Nat.lt_succ_self _) ⟨hr21.step, rfl, h⟩ ⟨rfl, rfl, trivial⟩ (fun w h => za6 [4, 5] (by decide) rfl w h) ?_
                repeat (first | exact zad _ _ | refine zah rfl ?_ | refine zae rfl ?_ | refine zai rfl ?_)

end Go.Proofs.Ytpdpomjgfmdjfaa.G1
