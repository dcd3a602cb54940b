import Derived.Test.YtjioedcbcdppeaaKFnExactRenameRegistersHand
import Derived.Test.YtjioedcbcdppeaaKFnExactRenameRegistersSrt
import Derived.Test.YtjioedcbcdppeaaProg
import Derived.Test.YtjioedcbcdppeaaKFnExactRenameRegistersWMore
import Derived.KernelRfl
namespace Go.Proofs.Ytjioedcbcdppeaa.RS
open Go.RowKit Go.Proofs.Ytjioedcbcdppeaa.Frame Go.Proofs.YtjioedcbcdppeaaW.PrintLast Go.Proofs.Ytjioedcbcdppeaa.Hand
open Go.Proofs.YtjioedcbcdppeaaW.PrintWords hiding mn mx
set_option linter.unusedVariables false
structure SRegOp where
  f0 : Int
  f1 : Int
  f2 : Int
def zat : Kd SRegOp := flat (fun x => [.int .i64 x.f0, .int .i64 x.f1, .int .i64 x.f2]) 3 (fun _ => rfl) (fun x u hu => by
  simp only [List.mem_cons, List.not_mem_nil, or_false] at hu
  rcases hu with rfl | rfl | rfl <;> rfl)
structure SStep where
  f0 : Int
  f1 : Int
def kStep : Kd SStep := flat (fun x => [.int .i64 x.f0, .int .i64 x.f1]) 2 (fun _ => rfl) (fun x u hu => by
  simp only [List.mem_cons, List.not_mem_nil, or_false] at hu
  rcases hu with rfl | rfl <;> rfl)
theorem F117_0 : fldOff Try.prog 117 0 = some 0 := by kernel_rfl
theorem F117_1 : fldOff Try.prog 117 1 = some 1 := by kernel_rfl
theorem F25_0 : fldOff Try.prog 25 0 = some 0 := by kernel_rfl
theorem F25_1 : fldOff Try.prog 25 1 = some 1 := by kernel_rfl
theorem F25_2 : fldOff Try.prog 25 2 = some 2 := by kernel_rfl
theorem F25_3 : fldOff Try.prog 25 3 = some 3 := by kernel_rfl
theorem F29_0 : fldOff Try.prog 29 0 = some 0 := by kernel_rfl
theorem F29_1 : fldOff Try.prog 29 1 = some 1 := by kernel_rfl
theorem F29_2 : fldOff Try.prog 29 2 = some 2 := by kernel_rfl
theorem F29_3 : fldOff Try.prog 29 3 = some 3 := by kernel_rfl
theorem F43_0 : fldOff Try.prog 43 0 = some 0 := by kernel_rfl
theorem F43_1 : fldOff Try.prog 43 1 = some 1 := by kernel_rfl
theorem F43_2 : fldOff Try.prog 43 2 = some 2 := by kernel_rfl
theorem F56_0 : fldOff Try.prog 56 0 = some 0 := by kernel_rfl
theorem F56_1 : fldOff Try.prog 56 1 = some 1 := by kernel_rfl
theorem F56_2 : fldOff Try.prog 56 2 = some 2 := by kernel_rfl
theorem F96_0 : fldOff Try.prog 96 0 = some 0 := by kernel_rfl
theorem F96_1 : fldOff Try.prog 96 1 = some 1 := by kernel_rfl
theorem F96_2 : fldOff Try.prog 96 2 = some 2 := by kernel_rfl
theorem G117 : aggTy (Try.prog.underlying 117) = true := by kernel_rfl
theorem G25 : aggTy (Try.prog.underlying 25) = true := by kernel_rfl
theorem G29 : aggTy (Try.prog.underlying 29) = true := by kernel_rfl
theorem G43 : aggTy (Try.prog.underlying 43) = true := by kernel_rfl
theorem G56 : aggTy (Try.prog.underlying 56) = true := by kernel_rfl
theorem G96 : aggTy (Try.prog.underlying 96) = true := by kernel_rfl
theorem I117 : (Try.prog.info? 117).map (fun i => (i.zero, i.size, i.bytes)) = some (some (.agg #[.int .i64 0, .int .i64 0]), 2, 16) := by kernel_rfl
theorem I22 : (Try.prog.info? 22).map (fun i => (i.zero, i.size, i.bytes)) = some (some (.slice none 0 0), 1, 24) := by kernel_rfl
theorem I3 : (Try.prog.info? 3).map (fun i => (i.zero, i.size, i.bytes)) = some (some (.int .i64 0), 1, 8) := by kernel_rfl
theorem I56 : (Try.prog.info? 56).map (fun i => (i.zero, i.size, i.bytes)) = some (some (.agg #[.int .i64 0, .int .i64 0, .int .i64 0]), 3, 24) := by kernel_rfl
theorem MO : Try.prog.follows .mixedOrders = true := by kernel_rfl
theorem N108 : (Try.f108.name == "runtime.NumGoroutine") = false := by kernel_rfl
theorem N109 : (Try.f109.name == "runtime.NumGoroutine") = false := by kernel_rfl
theorem N11 : (Try.f11.name == "runtime.NumGoroutine") = false := by kernel_rfl
theorem N110 : (Try.f110.name == "runtime.NumGoroutine") = false := by kernel_rfl
theorem N116 : (Try.f116.name == "runtime.NumGoroutine") = false := by kernel_rfl
theorem N117 : (Try.f117.name == "runtime.NumGoroutine") = false := by kernel_rfl
theorem N118 : (Try.f118.name == "runtime.NumGoroutine") = false := by kernel_rfl
theorem N121 : (Try.f121.name == "runtime.NumGoroutine") = false := by kernel_rfl
theorem N122 : (Try.f122.name == "runtime.NumGoroutine") = false := by kernel_rfl
theorem N123 : (Try.f123.name == "runtime.NumGoroutine") = false := by kernel_rfl
theorem N124 : (Try.f124.name == "runtime.NumGoroutine") = false := by kernel_rfl
theorem N13 : (Try.f13.name == "runtime.NumGoroutine") = false := by kernel_rfl
theorem N134 : (Try.f134.name == "runtime.NumGoroutine") = false := by kernel_rfl
theorem N137 : (Try.f137.name == "runtime.NumGoroutine") = false := by kernel_rfl
theorem N138 : (Try.f138.name == "runtime.NumGoroutine") = false := by kernel_rfl
theorem N14 : (Try.f14.name == "runtime.NumGoroutine") = false := by kernel_rfl
theorem N141 : (Try.f141.name == "runtime.NumGoroutine") = false := by kernel_rfl
theorem N142 : (Try.f142.name == "runtime.NumGoroutine") = false := by kernel_rfl
theorem N143 : (Try.f143.name == "runtime.NumGoroutine") = false := by kernel_rfl
theorem N15 : (Try.f15.name == "runtime.NumGoroutine") = false := by kernel_rfl
theorem N158 : (Try.f158.name == "runtime.NumGoroutine") = false := by kernel_rfl
theorem N16 : (Try.f16.name == "runtime.NumGoroutine") = false := by kernel_rfl
theorem N17 : (Try.f17.name == "runtime.NumGoroutine") = false := by kernel_rfl
theorem N18 : (Try.f18.name == "runtime.NumGoroutine") = false := by kernel_rfl
theorem N19 : (Try.f19.name == "runtime.NumGoroutine") = false := by kernel_rfl
theorem N20 : (Try.f20.name == "runtime.NumGoroutine") = false := by kernel_rfl
theorem N30 : (Try.f30.name == "runtime.NumGoroutine") = false := by kernel_rfl
theorem N33 : (Try.f33.name == "runtime.NumGoroutine") = false := by kernel_rfl
theorem N34 : (Try.f34.name == "runtime.NumGoroutine") = false := by kernel_rfl
theorem N35 : (Try.f35.name == "runtime.NumGoroutine") = false := by kernel_rfl
theorem N37 : (Try.f37.name == "runtime.NumGoroutine") = false := by kernel_rfl
theorem N38 : (Try.f38.name == "runtime.NumGoroutine") = false := by kernel_rfl
theorem N39 : (Try.f39.name == "runtime.NumGoroutine") = false := by kernel_rfl
theorem N40 : (Try.f40.name == "runtime.NumGoroutine") = false := by kernel_rfl
theorem N41 : (Try.f41.name == "runtime.NumGoroutine") = false := by kernel_rfl
theorem N43 : (Try.f43.name == "runtime.NumGoroutine") = false := by kernel_rfl
theorem N44 : (Try.f44.name == "runtime.NumGoroutine") = false := by kernel_rfl
theorem N45 : (Try.f45.name == "runtime.NumGoroutine") = false := by kernel_rfl
theorem N46 : (Try.f46.name == "runtime.NumGoroutine") = false := by kernel_rfl
theorem N47 : (Try.f47.name == "runtime.NumGoroutine") = false := by kernel_rfl
theorem N48 : (Try.f48.name == "runtime.NumGoroutine") = false := by kernel_rfl
theorem N56 : (Try.f56.name == "runtime.NumGoroutine") = false := by kernel_rfl
theorem N61 : (Try.f61.name == "runtime.NumGoroutine") = false := by kernel_rfl
theorem N74 : (Try.f74.name == "runtime.NumGoroutine") = false := by kernel_rfl
theorem N75 : (Try.f75.name == "runtime.NumGoroutine") = false := by kernel_rfl
theorem N76 : (Try.f76.name == "runtime.NumGoroutine") = false := by kernel_rfl
theorem N77 : (Try.f77.name == "runtime.NumGoroutine") = false := by kernel_rfl
theorem N79 : (Try.f79.name == "runtime.NumGoroutine") = false := by kernel_rfl
theorem N80 : (Try.f80.name == "runtime.NumGoroutine") = false := by kernel_rfl
theorem N81 : (Try.f81.name == "runtime.NumGoroutine") = false := by kernel_rfl
theorem N82 : (Try.f82.name == "runtime.NumGoroutine") = false := by kernel_rfl
theorem N83 : (Try.f83.name == "runtime.NumGoroutine") = false := by kernel_rfl
theorem N84 : (Try.f84.name == "runtime.NumGoroutine") = false := by kernel_rfl
theorem N85 : (Try.f85.name == "runtime.NumGoroutine") = false := by kernel_rfl
theorem N86 : (Try.f86.name == "runtime.NumGoroutine") = false := by kernel_rfl
theorem N9 : (Try.f9.name == "runtime.NumGoroutine") = false := by kernel_rfl
theorem N93 : (Try.f93.name == "runtime.NumGoroutine") = false := by kernel_rfl
theorem N94 : (Try.f94.name == "runtime.NumGoroutine") = false := by kernel_rfl
theorem N95 : (Try.f95.name == "runtime.NumGoroutine") = false := by kernel_rfl
theorem N97 : (Try.f97.name == "runtime.NumGoroutine") = false := by kernel_rfl
theorem V117 : (Try.prog.info? 117).bind (·.zero) = some (.agg #[.int .i64 0, .int .i64 0]) := by kernel_rfl
theorem V22 : (Try.prog.info? 22).bind (·.zero) = some (.slice none 0 0) := by kernel_rfl
theorem V29 : (Try.prog.info? 29).bind (·.zero) = some (.agg #[.int .i64 0, .slice none 0 0, .slice none 0 0, .slice none 0 0]) := by kernel_rfl
theorem V43 : (Try.prog.info? 43).bind (·.zero) = some (.agg #[.int .i64 0, .slice none 0 0, .slice none 0 0]) := by kernel_rfl
theorem V56 : (Try.prog.info? 56).bind (·.zero) = some (.agg #[.int .i64 0, .int .i64 0, .int .i64 0]) := by kernel_rfl
theorem Y120 : cellTy (Try.prog.underlying 120) = true := by kernel_rfl
theorem Y22 : cellTy (Try.prog.underlying 22) = true := by kernel_rfl
theorem Y23 : cellTy (Try.prog.underlying 23) = true := by kernel_rfl
theorem Y27 : cellTy (Try.prog.underlying 27) = true := by kernel_rfl
theorem Y3 : cellTy (Try.prog.underlying 3) = true := by kernel_rfl
theorem Y41 : cellTy (Try.prog.underlying 41) = true := by kernel_rfl
theorem Z117 : (Try.prog.info? 117).map (·.size) = some 2 := by kernel_rfl
theorem Z22 : (Try.prog.info? 22).map (·.size) = some 1 := by kernel_rfl
theorem Z25 : (Try.prog.info? 25).map (·.size) = some 4 := by kernel_rfl
theorem Z27 : (Try.prog.info? 27).map (·.size) = some 1 := by kernel_rfl
theorem Z29 : (Try.prog.info? 29).map (·.size) = some 4 := by kernel_rfl
theorem Z3 : (Try.prog.info? 3).map (·.size) = some 1 := by kernel_rfl
theorem Z41 : (Try.prog.info? 41).map (·.size) = some 1 := by kernel_rfl
theorem Z43 : (Try.prog.info? 43).map (·.size) = some 3 := by kernel_rfl
theorem Z56 : (Try.prog.info? 56).map (·.size) = some 3 := by kernel_rfl
theorem Z96 : (Try.prog.info? 96).map (·.size) = some 3 := by kernel_rfl
/-! ### loop.example/g01098/laws.szIntS: function 33 -/
def laws_szIntS.f (l0 : List Int) (a1 : Int) : Option Int := if w64 (a1 - (l0.length : Int)) < 0 then (some (-1)) else (some (w64 (a1 - (l0.length : Int))))
set_option maxHeartbeats 600000 in
set_option maxRecDepth 100000 in
theorem laws_szIntS.calls {w0 ws : World} {P0 : Nat → Prop} (A0 : Option Addr) (c0 : Nat) (n0 : Nat) (l0 : List Int) (a1 : Int) (Z : Below w0.heap.size w0 ws) (hF : Fr w0 ws P0 [] ws) (R0 : Stable ws P0 (fun w => Kd.C (Kd.int .i64) w A0 n0 l0)) (hc0 : n0 ≤ c0) (r_1 : Int) (h : laws_szIntS.f l0 a1 = some r_1) :
    Calls Try.prog 33 #[.slice A0 n0 c0, .int .i64 a1] ws (Post1 w0 ws P0 (fun (_ : Unit) => .int .i64 r_1) (fun (_ : Unit) => [])) := by
  unfold laws_szIntS.f at h
  obtain rfl := (R0 ws (KeptB.refl _ _)).1
  refine enter Try.func33 rfl Try.ntmps33 rfl hF ?_
  refine c_seq ?_
  refine za0 ?_
  refine o_q rfl rfl (q_asg rfl) ?_
  refine o_end ?_
  refine za1 ?_
  refine c_seq ?_
  refine za0 ?_
  refine o_q rfl rfl (za2 rfl) ?_
  refine o_q rfl rfl (za2 rfl) ?_
  refine o_q rfl rfl (q_len Try.underlying22 rfl) ?_
  refine o_q rfl rfl (q_sub64 rfl rfl) ?_
  refine o_q rfl rfl (q_asg rfl) ?_
  refine o_end ?_
  refine za1 ?_
  refine c_seq ?_
  refine c_seq ?_
  refine za0 ?_
  refine o_q rfl rfl (za2 rfl) ?_
  refine o_q rfl rfl (q_lss rfl rfl) ?_
  refine o_end ?_
  refine za1 ?_
  refine zaq _ rfl (fun hb1 => ?_) (fun hb1 => ?_)
  · skip
    replace h := br_t hb1 h
    refine c_seq ?_
    refine za0 ?_
    refine o_q rfl rfl (q_asg rfl) ?_
    refine o_end ?_
    refine za1 ?_
    refine c_ret ?_
    refine za5 ?_
    have e0_ := Option.some.inj h; clear h
    subst e0_
    exact x_r1 () Try.results33 (zae rfl) rfl (fun w h => za6 [] (by decide) rfl w h)
  · skip
    replace h := br_f hb1 h
    refine zal ?_
    refine za1 ?_
    refine c_seq ?_
    refine za0 ?_
    refine o_q rfl rfl (za2 rfl) ?_
    refine o_q rfl rfl (q_asg rfl) ?_
    refine o_end ?_
    refine za1 ?_
    refine c_ret ?_
    have e0_ := Option.some.inj h; clear h
    subst e0_
    exact x_r1 () Try.results33 (zae rfl) rfl (fun w h => za6 [] (by decide) rfl w h)

/-! ### loop.example/g01098/laws.szRegOpS: function 34 -/
def laws_szRegOpS.f (l0 : List SRegOp) (a1 : Int) : Option Int := if w64 (a1 - (l0.length : Int)) < 0 then (some (-1)) else (some (w64 (a1 - (l0.length : Int))))
set_option maxHeartbeats 600000 in
set_option maxRecDepth 100000 in
theorem laws_szRegOpS.calls {w0 ws : World} {P0 : Nat → Prop} (A0 : Option Addr) (c0 : Nat) (n0 : Nat) (l0 : List SRegOp) (a1 : Int) (Z : Below w0.heap.size w0 ws) (hF : Fr w0 ws P0 [] ws) (R0 : Stable ws P0 (fun w => Kd.C zat w A0 n0 l0)) (hc0 : n0 ≤ c0) (r_1 : Int) (h : laws_szRegOpS.f l0 a1 = some r_1) :
    Calls Try.prog 34 #[.slice A0 n0 c0, .int .i64 a1] ws (Post1 w0 ws P0 (fun (_ : Unit) => .int .i64 r_1) (fun (_ : Unit) => [])) := by
  unfold laws_szRegOpS.f at h
  obtain rfl := (R0 ws (KeptB.refl _ _)).1
  refine enter Try.func34 rfl Try.ntmps34 rfl hF ?_
  refine c_seq ?_
  refine za0 ?_
  refine o_q rfl rfl (q_asg rfl) ?_
  refine o_end ?_
  refine za1 ?_
  refine c_seq ?_
  refine za0 ?_
  refine o_q rfl rfl (za2 rfl) ?_
  refine o_q rfl rfl (za2 rfl) ?_
  refine o_q rfl rfl (q_len Try.underlying23 rfl) ?_
  refine o_q rfl rfl (q_sub64 rfl rfl) ?_
  refine o_q rfl rfl (q_asg rfl) ?_
  refine o_end ?_
  refine za1 ?_
  refine c_seq ?_
  refine c_seq ?_
  refine za0 ?_
  refine o_q rfl rfl (za2 rfl) ?_
  refine o_q rfl rfl (q_lss rfl rfl) ?_
  refine o_end ?_
  refine za1 ?_
  refine zaq _ rfl (fun hb1 => ?_) (fun hb1 => ?_)
  · skip
    replace h := br_t hb1 h
    refine c_seq ?_
    refine za0 ?_
    refine o_q rfl rfl (q_asg rfl) ?_
    refine o_end ?_
    refine za1 ?_
    refine c_ret ?_
    refine za5 ?_
    have e0_ := Option.some.inj h; clear h
    subst e0_
    exact x_r1 () Try.results34 (zae rfl) rfl (fun w h => za6 [] (by decide) rfl w h)
  · skip
    replace h := br_f hb1 h
    refine zal ?_
    refine za1 ?_
    refine c_seq ?_
    refine za0 ?_
    refine o_q rfl rfl (za2 rfl) ?_
    refine o_q rfl rfl (q_asg rfl) ?_
    refine o_end ?_
    refine za1 ?_
    refine c_ret ?_
    have e0_ := Option.some.inj h; clear h
    subst e0_
    exact x_r1 () Try.results34 (zae rfl) rfl (fun w h => za6 [] (by decide) rfl w h)

/-! ### loop.example/g01098/laws.szRegCode: function 9 -/
def laws_szRegCode.f (a0_0 : Int) (l0_1 : List Int) (l0_2 : List SRegOp) (l0_3 : List Int) (a1 : Int) : Option Int := (laws_szIntS.f l0_1 a1).bind fun i4 => if i4 < 0 then (some (-1)) else ((laws_szRegOpS.f l0_2 i4).bind fun i7 => if i7 < 0 then (some (-1)) else ((laws_szIntS.f l0_3 i7).bind fun i10 => if i10 < 0 then (some (-1)) else (some i10)))
set_option maxHeartbeats 600000 in
set_option maxRecDepth 100000 in
theorem laws_szRegCode.calls {w0 ws : World} {P0 : Nat → Prop} (a0_0 : Int) (A0_1 : Option Addr) (c0_1 : Nat) (n0_1 : Nat) (l0_1 : List Int) (A0_2 : Option Addr) (c0_2 : Nat) (n0_2 : Nat) (l0_2 : List SRegOp) (A0_3 : Option Addr) (c0_3 : Nat) (n0_3 : Nat) (l0_3 : List Int) (a1 : Int) (Z : Below w0.heap.size w0 ws) (hF : Fr w0 ws P0 [] ws) (R0_1 : Stable ws P0 (fun w => Kd.C (Kd.int .i64) w A0_1 n0_1 l0_1)) (hc0_1 : n0_1 ≤ c0_1) (R0_2 : Stable ws P0 (fun w => Kd.C zat w A0_2 n0_2 l0_2)) (hc0_2 : n0_2 ≤ c0_2) (R0_3 : Stable ws P0 (fun w => Kd.C (Kd.int .i64) w A0_3 n0_3 l0_3)) (hc0_3 : n0_3 ≤ c0_3) (r_1 : Int) (h : laws_szRegCode.f a0_0 l0_1 l0_2 l0_3 a1 = some r_1) :
    Calls Try.prog 9 #[.agg #[.int .i64 a0_0, .slice A0_1 n0_1 c0_1, .slice A0_2 n0_2 c0_2, .slice A0_3 n0_3 c0_3], .int .i64 a1] ws (Post1 w0 ws P0 (fun (_ : Unit) => .int .i64 r_1) (fun (_ : Unit) => [])) := by
  unfold laws_szRegCode.f at h
  obtain rfl := (R0_1 ws (KeptB.refl _ _)).1
  obtain rfl := (R0_2 ws (KeptB.refl _ _)).1
  obtain rfl := (R0_3 ws (KeptB.refl _ _)).1
  refine enter Try.func9 rfl Try.ntmps9 rfl hF ?_
  refine c_seq ?_
  refine za0 ?_
  refine o_e rfl (e_box rfl) (fun g1 => ?_)
  refine o_q rfl rfl (q_asg rfl) ?_
  refine o_end ?_
  refine za1 ?_
  refine c_seq ?_
  refine za0 ?_
  refine o_q rfl rfl (q_f F25_1 rfl) ?_
  refine o_q rfl rfl (q_ldb Y22 rfl (fun w h => h.za9 (i := 0) rfl) rfl) ?_
  refine o_q rfl rfl (za2 rfl) ?_
  refine za7 h (fun i4 hx3 h => ?_) rfl
  refine o_e rfl (zab 0 Z Try.func33 N33 rfl rfl rfl (fun w P1 hF hB hS hT => laws_szIntS.calls A0_1 c0_1 l0_1.length l0_1 a1 hB hF (hS _ R0_1) hc0_1 _ hx3)) (fun _ => ?_)
  refine o_q rfl rfl (q_asg rfl) ?_
  refine o_end ?_
  refine za1 ?_
  refine c_seq ?_
  refine c_seq ?_
  refine za0 ?_
  refine o_q rfl rfl (za2 rfl) ?_
  refine o_q rfl rfl (q_lss rfl rfl) ?_
  refine o_end ?_
  refine za1 ?_
  refine zaq _ rfl (fun hb5 => ?_) (fun hb5 => ?_)
  · skip
    replace h := br_t hb5 h
    refine c_seq ?_
    refine za0 ?_
    refine o_q rfl rfl (q_asg rfl) ?_
    refine o_end ?_
    refine za1 ?_
    refine c_ret ?_
    refine za5 ?_
    have e0_ := Option.some.inj h; clear h
    subst e0_
    exact x_r1 () Try.results9 (zae rfl) rfl (fun w h => za6 [] (by decide) rfl w h)
  · skip
    replace h := br_f hb5 h
    refine zal ?_
    refine za1 ?_
    refine c_seq ?_
    refine za0 ?_
    refine o_q rfl rfl (q_f F25_2 rfl) ?_
    refine o_q rfl rfl (q_ldb Y23 rfl (fun w h => h.za9 (i := 0) rfl) rfl) ?_
    refine o_q rfl rfl (za2 rfl) ?_
    refine za7 h (fun i7 hx6 h => ?_) rfl
    refine o_e rfl (zab 0 Z Try.func34 N34 rfl rfl rfl (fun w P1 hF hB hS hT => laws_szRegOpS.calls A0_2 c0_2 l0_2.length l0_2 i4 hB hF (hS _ R0_2) hc0_2 _ hx6)) (fun _ => ?_)
    refine o_q rfl rfl (q_asg rfl) ?_
    refine o_end ?_
    refine za1 ?_
    refine c_seq ?_
    refine c_seq ?_
    refine za0 ?_
    refine o_q rfl rfl (za2 rfl) ?_
    refine o_q rfl rfl (q_lss rfl rfl) ?_
    refine o_end ?_
    refine za1 ?_
    refine zaq _ rfl (fun hb8 => ?_) (fun hb8 => ?_)
    · skip
      replace h := br_t hb8 h
      refine c_seq ?_
      refine za0 ?_
      refine o_q rfl rfl (q_asg rfl) ?_
      refine o_end ?_
      refine za1 ?_
      refine c_ret ?_
      refine za5 ?_
      have e0_ := Option.some.inj h; clear h
      subst e0_
      exact x_r1 () Try.results9 (zae rfl) rfl (fun w h => za6 [] (by decide) rfl w h)
    · skip
      replace h := br_f hb8 h
      refine zal ?_
      refine za1 ?_
      refine c_seq ?_
      refine za0 ?_
      refine o_q rfl rfl (q_f F25_3 rfl) ?_
      refine o_q rfl rfl (q_ldb Y22 rfl (fun w h => h.za9 (i := 0) rfl) rfl) ?_
      refine o_q rfl rfl (za2 rfl) ?_
      refine za7 h (fun i10 hx9 h => ?_) rfl
      refine o_e rfl (zab 0 Z Try.func33 N33 rfl rfl rfl (fun w P1 hF hB hS hT => laws_szIntS.calls A0_3 c0_3 l0_3.length l0_3 i7 hB hF (hS _ R0_3) hc0_3 _ hx9)) (fun _ => ?_)
      refine o_q rfl rfl (q_asg rfl) ?_
      refine o_end ?_
      refine za1 ?_
      refine c_seq ?_
      refine c_seq ?_
      refine za0 ?_
      refine o_q rfl rfl (za2 rfl) ?_
      refine o_q rfl rfl (q_lss rfl rfl) ?_
      refine o_end ?_
      refine za1 ?_
      refine zaq _ rfl (fun hb11 => ?_) (fun hb11 => ?_)
      · skip
        replace h := br_t hb11 h
        refine c_seq ?_
        refine za0 ?_
        refine o_q rfl rfl (q_asg rfl) ?_
        refine o_end ?_
        refine za1 ?_
        refine c_ret ?_
        refine za5 ?_
        have e0_ := Option.some.inj h; clear h
        subst e0_
        exact x_r1 () Try.results9 (zae rfl) rfl (fun w h => za6 [] (by decide) rfl w h)
      · skip
        replace h := br_f hb11 h
        refine zal ?_
        refine za1 ?_
        refine c_seq ?_
        refine za0 ?_
        refine o_q rfl rfl (za2 rfl) ?_
        refine o_q rfl rfl (q_asg rfl) ?_
        refine o_end ?_
        refine za1 ?_
        refine c_ret ?_
        have e0_ := Option.some.inj h; clear h
        subst e0_
        exact x_r1 () Try.results9 (zae rfl) rfl (fun w h => za6 [] (by decide) rfl w h)

/-! ### loop.example/g01098/laws.toIntS: function 17 -/
def laws_toIntS.l0 (l0 : List Int) : Nat → (List Int) → Int → Option (List Int)
  | 0, _, _ => none
  | k10 + 1, l6, i7 => if i7 < (l0.length : Int) then ((gt l0 i7).bind fun y21 => (gt l6 i7).bind fun y24 => (st l6 i7 y21).bind fun l25 => laws_toIntS.l0 l0 k10 l25 (w64 (i7 + 1))) else (some l6)
def laws_toIntS.f (k : Nat) (l0 : List Int) : Option (List Int) := (mk0 (l0.length : Int) (0 : Int)).bind fun l1 => (laws_toIntS.l0 l0 k l1 0).bind fun l6 => some l6
set_option maxHeartbeats 600000 in
set_option maxRecDepth 100000 in
theorem laws_toIntS.calls (k : Nat) {w0 ws : World} {P0 : Nat → Prop} (A0 : Option Addr) (c0 : Nat) (n0 : Nat) (l0 : List Int) (Z : Below w0.heap.size w0 ws) (hF : Fr w0 ws P0 [] ws) (R0 : Stable ws P0 (fun w => Kd.C (Kd.int .i64) w A0 n0 l0)) (hc0 : n0 ≤ c0) (r_1 : List Int) (h : laws_toIntS.f k l0 = some r_1) :
    Calls Try.prog 17 #[.slice A0 n0 c0] ws (Post1 w0 ws P0 (fun ((q_2, q_3) : (Option Addr) × Nat) => .slice q_2 r_1.length q_3) (fun ((q_2, q_3) : (Option Addr) × Nat) => [row (Kd.int .i64) 3 (.slice q_2 r_1.length q_3) r_1])) := by
  unfold laws_toIntS.f at h
  obtain rfl := (R0 ws (KeptB.refl _ _)).1
  refine enter Try.func17 rfl Try.ntmps17 rfl hF ?_
  refine c_seq ?_
  refine za0 ?_
  refine o_q rfl rfl (q_asg rfl) ?_
  refine o_end ?_
  refine za1 ?_
  refine c_seq ?_
  refine za0 ?_
  refine o_q rfl rfl (za2 rfl) ?_
  refine o_q rfl rfl (q_len Try.underlying22 rfl) ?_
  refine za7 h (fun l1 hm2 h => ?_) rfl
  refine o_e rfl (e_make (Kd.int .i64) (0 : Int) Try.underlying22 I3 rfl (by decide) (by decide) (fun _ _ => rfl) rfl rfl hm2) (cur2 (fun A3 c4 => ?_))
  refine o_q rfl rfl (q_asg rfl) ?_
  refine o_end ?_
  refine za1 ?_
  refine c_seq ?_
  refine c_seq ?_
  refine za0 ?_
  refine o_q rfl rfl (q_asg rfl) ?_
  refine o_end ?_
  refine za1 ?_
  refine zak ?_
  refine za7 h (fun o15 hl14 hR13 => ?_) rfl
  clear h
  refine zaz (σ := (List Int) × Int) (fun k10 ((l6, i7) : (List Int) × Int) => laws_toIntS.l0 l0 k10 l6 i7 = some o15) [4, 8, 9, 10, 11, 12, 13, 14, 15, 16, 17, 18, 19, 20] (fun ((l6, i7) : (List Int) × Int) => [(4, .int .i64 i7)]) (fun ((l6, i7) : (List Int) × Int) => [row (Kd.int .i64) 3 (.slice A3 l1.length c4) l6]) k (l1, 0) hl14 ⟨rfl, trivial⟩ (fun w h => h) ?_
  refine natC (cur2 (fun l6 i7 => fun U16 hJ_ => ?_)) (fun k10 => (cur2 (fun l6 i7 => fun U16 hJ_ => ?_)))
  · skip
    replace hJ_ : laws_toIntS.l0 l0 0 l6 i7 = some o15 := hJ_
    rw [laws_toIntS.l0] at hJ_
    exact noneE hJ_
  · skip
    clear hl14
    have h := hJ_; clear hJ_
    replace h : laws_toIntS.l0 l0 (k10 + 1) l6 i7 = some o15 := h
    rw [laws_toIntS.l0] at h
    refine c_seq ?_
    refine c_seq ?_
    refine za0 ?_
    refine o_q rfl rfl (za2 rfl) ?_
    refine o_q rfl rfl (za2 rfl) ?_
    refine o_q rfl rfl (q_len Try.underlying22 rfl) ?_
    refine o_q rfl rfl (q_lss rfl rfl) ?_
    refine o_end ?_
    refine za1 ?_
    refine zaq _ rfl (fun hb18 => ?_) (fun hb18 => ?_)
    · skip
      replace h := br_t hb18 h
      refine zal ?_
      refine za1 ?_
      refine c_seq ?_
      refine zak ?_
      refine za0 ?_
      refine o_q rfl rfl (za2 rfl) ?_
      refine o_q rfl rfl (za2 rfl) ?_
      refine o_q rfl rfl (za2 rfl) ?_
      refine o_q rfl rfl (za2 rfl) ?_
      refine zb0 (p := Sh A0 l0.length l0.length) (fun w h => f_sh (dk := (Kd.int .i64)) h (fun w h => R0.now Z h)) (fun hq19 => ?_)
      refine za7 h (fun y21 hg20 h => ?_) rfl
      refine o_q rfl rfl (q_ix Try.underlying22 Z3 rfl rfl hq19 hg20) ?_
      refine o_q rfl rfl (q_lde (off := 0) Y3 rfl rfl (fun w h => R0.now Z h) hg20 (fun _ _ h => h) rfl) ?_
      refine zb0 (p := Sh A3 l1.length l6.length) (fun w h => f_sh (dk := (Kd.int .i64)) h (fun w h => h.zav (i := 0) rfl)) (fun hq22 => ?_)
      refine za7 h (fun y24 hg23 h => ?_) rfl
      refine o_q rfl rfl (q_ix Try.underlying22 Z3 rfl rfl hq22 hg23) ?_
      refine za7 h (fun l25 hs26 h => ?_) rfl
      refine o_e rfl (e_set (i := 0) rfl rfl rfl Z3 hs26) (fun _ => ?_)
      refine o_end ?_
      refine zau ?_
      refine za1 ?_
      refine za0 ?_
      refine o_q rfl rfl (za2 rfl) ?_
      refine o_q rfl rfl (q_add64 rfl rfl) ?_
      refine o_q rfl rfl (q_asg rfl) ?_
      refine o_end ?_
      refine zas k10 (l25, w64 (i7 + 1)) (Nat.lt_succ_self _) h ⟨rfl, trivial⟩ (fun w h => za6 [0] (by decide) rfl w h) ?_
      repeat (first | exact zad _ _ | refine zai rfl ?_ | refine zaf rfl ?_ | refine zaj rfl ?_)
    · skip
      replace h := br_f hb18 h
      refine c_exit ?_
      refine za8 ?_
      refine za8 ?_
      have e_ := Option.some.inj h; replace h := hR13; rw [← e_] at h; clear e_
      refine x_hit ?_
      refine za1 ?_
      refine c_seq ?_
      refine za0 ?_
      refine o_q rfl rfl (za2 rfl) ?_
      refine o_q rfl rfl (q_asg rfl) ?_
      refine o_end ?_
      refine za1 ?_
      refine c_ret ?_
      refine x_fact (p := l1.length = l6.length) (fun w h => (h.row_C (i := 0) rfl).2.1) (fun hn27 => ?_)
      have e0_ := Option.some.inj h; clear h
      subst e0_
      exact x_r1 (A3, c4) Try.results17 (zae (v := .slice A3 l1.length c4) rfl) (by (try rw [hn27]); first | done | rfl) (f_pickE (L1 := [row (Kd.int .i64) 3 (.slice A3 l1.length c4) l6]) rfl [0] (by decide) rfl (by (try rw [hn27]); first | done | rfl))

/-! ### loop.example/g01098/laws.toRegOp: function 76 -/
def laws_toRegOp.f (a0 : SRegOp) : Option Unit := some ()
set_option maxHeartbeats 600000 in
set_option maxRecDepth 100000 in
theorem laws_toRegOp.calls {w0 ws : World} {P0 : Nat → Prop} (a0 : SRegOp) (Z : Below w0.heap.size w0 ws) (hF : Fr w0 ws P0 [] ws)   (h : laws_toRegOp.f a0 = some ()) :
    Calls Try.prog 76 #[.agg #[.int .i64 a0.f0, .int .i64 a0.f1, .int .i64 a0.f2]] ws (Post1 w0 ws P0 (fun (_ : Unit) => .agg #[.int .i64 a0.f0, .int .i64 a0.f1, .int .i64 a0.f2]) (fun (_ : Unit) => [])) := by
  unfold laws_toRegOp.f at h
  refine enter Try.func76 rfl Try.ntmps76 rfl hF ?_
  refine c_seq ?_
  refine za0 ?_
  refine o_e rfl (e_box rfl) (fun g1 => ?_)
  refine o_e rfl (zar V56 rfl) (fun g3 => ?_)
  refine o_end ?_
  refine za1 ?_
  refine c_seq ?_
  refine za0 ?_
  refine o_e rfl (zar V56 rfl) (fun g5 => ?_)
  refine o_end ?_
  refine za1 ?_
  refine c_seq ?_
  refine za0 ?_
  refine o_q rfl rfl (q_f F96_0 rfl) ?_
  refine o_q rfl rfl (q_ldb Y3 rfl (fun w h => h.za9 (i := 2) rfl) rfl) ?_
  refine o_q rfl rfl (q_f F56_0 rfl) ?_
  refine o_e rfl (e_store (i := 0) rfl rfl rfl rfl Z3 rfl rfl) (fun _ => ?_)
  refine o_end ?_
  refine za1 ?_
  refine c_seq ?_
  refine za0 ?_
  refine o_q rfl rfl (q_f F96_1 rfl) ?_
  refine o_q rfl rfl (q_ldb Y3 rfl (fun w h => h.za9 (i := 2) rfl) rfl) ?_
  refine o_q rfl rfl (q_f F56_1 rfl) ?_
  refine o_e rfl (e_store (i := 0) rfl rfl rfl rfl Z3 rfl rfl) (fun _ => ?_)
  refine o_end ?_
  refine za1 ?_
  refine c_seq ?_
  refine za0 ?_
  refine o_q rfl rfl (q_f F96_2 rfl) ?_
  refine o_q rfl rfl (q_ldb Y3 rfl (fun w h => h.za9 (i := 2) rfl) rfl) ?_
  refine o_q rfl rfl (q_f F56_2 rfl) ?_
  refine o_e rfl (e_store (i := 0) rfl rfl rfl rfl Z3 rfl rfl) (fun _ => ?_)
  refine o_end ?_
  refine za1 ?_
  refine c_seq ?_
  refine za0 ?_
  refine o_q rfl rfl (q_ldB G56 Z56 rfl (fun w h => h.za9 (i := 0) rfl) rfl) ?_
  refine o_e rfl (zam (i := 1) rfl rfl rfl Z56 rfl rfl) (fun _ => ?_)
  refine o_end ?_
  refine za1 ?_
  refine c_ret ?_
  exact x_r1 () Try.results76 (rv_cell rfl G56 Z56 (fun w h => h.za9 (i := 1) rfl) rfl) rfl (fun w h => za6 [] (by decide) rfl w h)

/-! ### loop.example/g01098/laws.toRegOpS: function 39 -/
def laws_toRegOpS.l0 (l0 : List SRegOp) : Nat → (List SRegOp) → Int → Option (List SRegOp)
  | 0, _, _ => none
  | k10 + 1, l6, i7 => if i7 < (l0.length : Int) then ((gt l0 i7).bind fun y21 => (laws_toRegOp.f y21).bind fun _ => (gt l6 i7).bind fun y25 => (st l6 i7 (⟨y21.f0, y21.f1, y21.f2⟩ : SRegOp)).bind fun l26 => laws_toRegOpS.l0 l0 k10 l26 (w64 (i7 + 1))) else (some l6)
def laws_toRegOpS.f (k : Nat) (l0 : List SRegOp) : Option (List SRegOp) := (mk0 (l0.length : Int) (⟨0, 0, 0⟩ : SRegOp)).bind fun l1 => (laws_toRegOpS.l0 l0 k l1 0).bind fun l6 => some l6
set_option maxHeartbeats 600000 in
set_option maxRecDepth 100000 in
theorem laws_toRegOpS.calls (k : Nat) {w0 ws : World} {P0 : Nat → Prop} (A0 : Option Addr) (c0 : Nat) (n0 : Nat) (l0 : List SRegOp) (Z : Below w0.heap.size w0 ws) (hF : Fr w0 ws P0 [] ws) (R0 : Stable ws P0 (fun w => Kd.C zat w A0 n0 l0)) (hc0 : n0 ≤ c0) (r_1 : List SRegOp) (h : laws_toRegOpS.f k l0 = some r_1) :
    Calls Try.prog 39 #[.slice A0 n0 c0] ws (Post1 w0 ws P0 (fun ((q_2, q_3) : (Option Addr) × Nat) => .slice q_2 r_1.length q_3) (fun ((q_2, q_3) : (Option Addr) × Nat) => [row zat 56 (.slice q_2 r_1.length q_3) r_1])) := by
  unfold laws_toRegOpS.f at h
  obtain rfl := (R0 ws (KeptB.refl _ _)).1
  refine enter Try.func39 rfl Try.ntmps39 rfl hF ?_
  refine c_seq ?_
  refine za0 ?_
  refine o_q rfl rfl (q_asg rfl) ?_
  refine o_end ?_
  refine za1 ?_
  refine c_seq ?_
  refine za0 ?_
  refine o_q rfl rfl (za2 rfl) ?_
  refine o_q rfl rfl (q_len Try.underlying23 rfl) ?_
  refine za7 h (fun l1 hm2 h => ?_) rfl
  refine o_e rfl (e_make zat (⟨0, 0, 0⟩ : SRegOp) Try.underlying27 I56 rfl (by decide) (by decide) (fun _ _ => rfl) rfl rfl hm2) (cur2 (fun A3 c4 => ?_))
  refine o_q rfl rfl (q_asg rfl) ?_
  refine o_end ?_
  refine za1 ?_
  refine c_seq ?_
  refine c_seq ?_
  refine za0 ?_
  refine o_q rfl rfl (q_asg rfl) ?_
  refine o_end ?_
  refine za1 ?_
  refine zak ?_
  refine za7 h (fun o15 hl14 hR13 => ?_) rfl
  clear h
  refine zaz (σ := (List SRegOp) × Int) (fun k10 ((l6, i7) : (List SRegOp) × Int) => laws_toRegOpS.l0 l0 k10 l6 i7 = some o15) [4, 8, 9, 10, 11, 12, 13, 14, 15, 16, 17, 18, 19, 20, 21] (fun ((l6, i7) : (List SRegOp) × Int) => [(4, .int .i64 i7)]) (fun ((l6, i7) : (List SRegOp) × Int) => [row zat 56 (.slice A3 l1.length c4) l6]) k (l1, 0) hl14 ⟨rfl, trivial⟩ (fun w h => h) ?_
  refine natC (cur2 (fun l6 i7 => fun U16 hJ_ => ?_)) (fun k10 => (cur2 (fun l6 i7 => fun U16 hJ_ => ?_)))
  · skip
    replace hJ_ : laws_toRegOpS.l0 l0 0 l6 i7 = some o15 := hJ_
    rw [laws_toRegOpS.l0] at hJ_
    exact noneE hJ_
  · skip
    clear hl14
    have h := hJ_; clear hJ_
    replace h : laws_toRegOpS.l0 l0 (k10 + 1) l6 i7 = some o15 := h
    rw [laws_toRegOpS.l0] at h
    refine c_seq ?_
    refine c_seq ?_
    refine za0 ?_
    refine o_q rfl rfl (za2 rfl) ?_
    refine o_q rfl rfl (za2 rfl) ?_
    refine o_q rfl rfl (q_len Try.underlying23 rfl) ?_
    refine o_q rfl rfl (q_lss rfl rfl) ?_
    refine o_end ?_
    refine za1 ?_
    refine zaq _ rfl (fun hb18 => ?_) (fun hb18 => ?_)
    · skip
      replace h := br_t hb18 h
      refine zal ?_
      refine za1 ?_
      refine c_seq ?_
      refine zak ?_
      refine za0 ?_
      refine o_q rfl rfl (za2 rfl) ?_
      refine o_q rfl rfl (za2 rfl) ?_
      refine o_q rfl rfl (za2 rfl) ?_
      refine o_q rfl rfl (za2 rfl) ?_
      refine zb0 (p := Sh A0 l0.length l0.length) (fun w h => f_sh (dk := zat) h (fun w h => R0.now Z h)) (fun hq19 => ?_)
      refine za7 h (fun y21 hg20 h => ?_) rfl
      refine o_q rfl rfl (q_ix Try.underlying23 Z96 rfl rfl hq19 hg20) ?_
      refine o_q rfl rfl (q_ldE G96 Z96 rfl rfl (fun w h => R0.now Z h) hg20 (fun _ _ h => h) rfl) ?_
      refine za7 h (fun _ hx22 h => ?_) rfl
      refine o_e rfl (zab 0 Z Try.func76 N76 rfl rfl rfl (fun w P1 hF hB hS hT => laws_toRegOp.calls y21 hB hF hx22)) (fun _ => ?_)
      refine zb0 (p := Sh A3 l1.length l6.length) (fun w h => f_sh (dk := zat) h (fun w h => h.zav (i := 0) rfl)) (fun hq23 => ?_)
      refine za7 h (fun y25 hg24 h => ?_) rfl
      refine o_q rfl rfl (q_ix Try.underlying27 Z56 rfl rfl hq23 hg24) ?_
      refine za7 h (fun l26 hs27 h => ?_) rfl
      refine o_e rfl (e_setF (i := 0) (off := 0) (vs := [.int .i64 y21.f0, .int .i64 y21.f1, .int .i64 y21.f2]) (q' := (⟨y21.f0, y21.f1, y21.f2⟩ : SRegOp)) rfl rfl rfl rfl rfl rfl Z56 hg24 rfl rfl hs27) (fun _ => ?_)
      refine o_end ?_
      refine zau ?_
      refine za1 ?_
      refine za0 ?_
      refine o_q rfl rfl (za2 rfl) ?_
      refine o_q rfl rfl (q_add64 rfl rfl) ?_
      refine o_q rfl rfl (q_asg rfl) ?_
      refine o_end ?_
      refine zas k10 (l26, w64 (i7 + 1)) (Nat.lt_succ_self _) h ⟨rfl, trivial⟩ (fun w h => za6 [0] (by decide) rfl w h) ?_
      repeat (first | exact zad _ _ | refine zai rfl ?_ | refine zaf rfl ?_ | refine zaj rfl ?_)
    · skip
      replace h := br_f hb18 h
      refine c_exit ?_
      refine za8 ?_
      refine za8 ?_
      have e_ := Option.some.inj h; replace h := hR13; rw [← e_] at h; clear e_
      refine x_hit ?_
      refine za1 ?_
      refine c_seq ?_
      refine za0 ?_
      refine o_q rfl rfl (za2 rfl) ?_
      refine o_q rfl rfl (q_asg rfl) ?_
      refine o_end ?_
      refine za1 ?_
      refine c_ret ?_
      refine x_fact (p := l1.length = l6.length) (fun w h => (h.row_C (i := 0) rfl).2.1) (fun hn28 => ?_)
      have e0_ := Option.some.inj h; clear h
      subst e0_
      exact x_r1 (A3, c4) Try.results39 (zae (v := .slice A3 l1.length c4) rfl) (by (try rw [hn28]); first | done | rfl) (f_pickE (L1 := [row zat 56 (.slice A3 l1.length c4) l6]) rfl [0] (by decide) rfl (by (try rw [hn28]); first | done | rfl))

/-! ### loop.example/g01098/laws.toRegCode: function 11 -/
def laws_toRegCode.f (k : Nat) (a0_0 : Int) (l0_1 : List Int) (l0_2 : List SRegOp) (l0_3 : List Int) : Option ((List Int) × (List SRegOp) × (List Int)) := (laws_toIntS.f k l0_1).bind fun l8 => (laws_toRegOpS.f k l0_2).bind fun l12 => (laws_toIntS.f k l0_3).bind fun l16 => some (l8, l12, l16)
set_option maxHeartbeats 600000 in
set_option maxRecDepth 100000 in
theorem laws_toRegCode.calls (k : Nat) {w0 ws : World} {P0 : Nat → Prop} (a0_0 : Int) (A0_1 : Option Addr) (c0_1 : Nat) (n0_1 : Nat) (l0_1 : List Int) (A0_2 : Option Addr) (c0_2 : Nat) (n0_2 : Nat) (l0_2 : List SRegOp) (A0_3 : Option Addr) (c0_3 : Nat) (n0_3 : Nat) (l0_3 : List Int) (Z : Below w0.heap.size w0 ws) (hF : Fr w0 ws P0 [] ws) (R0_1 : Stable ws P0 (fun w => Kd.C (Kd.int .i64) w A0_1 n0_1 l0_1)) (hc0_1 : n0_1 ≤ c0_1) (R0_2 : Stable ws P0 (fun w => Kd.C zat w A0_2 n0_2 l0_2)) (hc0_2 : n0_2 ≤ c0_2) (R0_3 : Stable ws P0 (fun w => Kd.C (Kd.int .i64) w A0_3 n0_3 l0_3)) (hc0_3 : n0_3 ≤ c0_3) (r_1 : List Int) (r_4 : List SRegOp) (r_7 : List Int) (h : laws_toRegCode.f k a0_0 l0_1 l0_2 l0_3 = some (r_1, r_4, r_7)) :
    Calls Try.prog 11 #[.agg #[.int .i64 a0_0, .slice A0_1 n0_1 c0_1, .slice A0_2 n0_2 c0_2, .slice A0_3 n0_3 c0_3]] ws (Post1 w0 ws P0 (fun ((q_2, q_3, q_5, q_6, q_8, q_9) : (Option Addr) × Nat × (Option Addr) × Nat × (Option Addr) × Nat) => .agg #[.int .i64 a0_0, .slice q_2 r_1.length q_3, .slice q_5 r_4.length q_6, .slice q_8 r_7.length q_9]) (fun ((q_2, q_3, q_5, q_6, q_8, q_9) : (Option Addr) × Nat × (Option Addr) × Nat × (Option Addr) × Nat) => [row (Kd.int .i64) 3 (.slice q_2 r_1.length q_3) r_1, row zat 56 (.slice q_5 r_4.length q_6) r_4, row (Kd.int .i64) 3 (.slice q_8 r_7.length q_9) r_7])) := by
  unfold laws_toRegCode.f at h
  obtain rfl := (R0_1 ws (KeptB.refl _ _)).1
  obtain rfl := (R0_2 ws (KeptB.refl _ _)).1
  obtain rfl := (R0_3 ws (KeptB.refl _ _)).1
  refine enter Try.func11 rfl Try.ntmps11 rfl hF ?_
  refine c_seq ?_
  refine za0 ?_
  refine o_e rfl (e_box rfl) (fun g1 => ?_)
  refine o_e rfl (zar V29 rfl) (fun g3 => ?_)
  refine o_end ?_
  refine za1 ?_
  refine c_seq ?_
  refine za0 ?_
  refine o_e rfl (zar V29 rfl) (fun g5 => ?_)
  refine o_end ?_
  refine za1 ?_
  refine c_seq ?_
  refine za0 ?_
  refine o_q rfl rfl (q_f F25_0 rfl) ?_
  refine o_q rfl rfl (q_ldb Y3 rfl (fun w h => h.za9 (i := 2) rfl) rfl) ?_
  refine o_q rfl rfl (q_f F29_0 rfl) ?_
  refine o_e rfl (e_store (i := 0) rfl rfl rfl rfl Z3 rfl rfl) (fun _ => ?_)
  refine o_end ?_
  refine za1 ?_
  refine c_seq ?_
  refine za0 ?_
  refine o_q rfl rfl (q_f F25_1 rfl) ?_
  refine o_q rfl rfl (q_ldb Y22 rfl (fun w h => h.za9 (i := 2) rfl) rfl) ?_
  refine za7 h (fun l8 hx7 h => ?_) rfl
  refine o_e rfl (zab 0 Z Try.func17 N17 rfl rfl rfl (fun w P1 hF hB hS hT => laws_toIntS.calls k A0_1 c0_1 l0_1.length l0_1 hB hF (hS _ R0_1) hc0_1 _ hx7)) (cur2 (fun A9 c10 => ?_))
  refine o_q rfl rfl (q_f F29_1 rfl) ?_
  refine o_e rfl (e_store (i := 1) rfl rfl rfl rfl Z22 rfl rfl) (fun _ => ?_)
  refine o_end ?_
  refine za1 ?_
  refine c_seq ?_
  refine za0 ?_
  refine o_q rfl rfl (q_f F25_2 rfl) ?_
  refine o_q rfl rfl (q_ldb Y23 rfl (fun w h => h.za9 (i := 3) rfl) rfl) ?_
  refine za7 h (fun l12 hx11 h => ?_) rfl
  refine o_e rfl (zab 0 Z Try.func39 N39 rfl rfl rfl (fun w P1 hF hB hS hT => laws_toRegOpS.calls k A0_2 c0_2 l0_2.length l0_2 hB hF (hS _ R0_2) hc0_2 _ hx11)) (cur2 (fun A13 c14 => ?_))
  refine o_q rfl rfl (q_f F29_2 rfl) ?_
  refine o_e rfl (e_store (i := 2) rfl rfl rfl rfl Z27 rfl rfl) (fun _ => ?_)
  refine o_end ?_
  refine za1 ?_
  refine c_seq ?_
  refine za0 ?_
  refine o_q rfl rfl (q_f F25_3 rfl) ?_
  refine o_q rfl rfl (q_ldb Y22 rfl (fun w h => h.za9 (i := 4) rfl) rfl) ?_
  refine za7 h (fun l16 hx15 h => ?_) rfl
  refine o_e rfl (zab 0 Z Try.func17 N17 rfl rfl rfl (fun w P1 hF hB hS hT => laws_toIntS.calls k A0_3 c0_3 l0_3.length l0_3 hB hF (hS _ R0_3) hc0_3 _ hx15)) (cur2 (fun A17 c18 => ?_))
  refine o_q rfl rfl (q_f F29_3 rfl) ?_
  refine o_e rfl (e_store (i := 3) rfl rfl rfl rfl Z22 rfl rfl) (fun _ => ?_)
  refine o_end ?_
  refine za1 ?_
  refine c_seq ?_
  refine za0 ?_
  refine o_q rfl rfl (q_ldB G29 Z29 rfl (fun w h => h.za9 (i := 3) rfl) rfl) ?_
  refine o_e rfl (zam (i := 4) rfl rfl rfl Z29 rfl rfl) (fun _ => ?_)
  refine o_end ?_
  refine za1 ?_
  refine c_ret ?_
  have e0_ := Option.some.inj h; clear h
  have d0_ := (Prod.mk.inj e0_).1; have e1_ := (Prod.mk.inj e0_).2; clear e0_; subst d0_
  have d1_ := (Prod.mk.inj e1_).1; have e2_ := (Prod.mk.inj e1_).2; clear e1_; subst d1_
  subst e2_
  exact x_r1 (A9, c10, A13, c14, A17, c18) Try.results11 (rv_cell rfl G29 Z29 (fun w h => h.za9 (i := 4) rfl) rfl) rfl (fun w h => za6 [2, 1, 0] (by decide) rfl w h)

/-! ### loop.example/g01098/spec.l1In: function 81 -/
def spec_l1In.f (a0 : Int) (a1 : Int) (a2 : Int) : Option Bool := if a1 ≤ a0 then (some (decide (a0 ≤ a2))) else (some false)
set_option maxHeartbeats 600000 in
set_option maxRecDepth 100000 in
theorem spec_l1In.calls {w0 ws : World} {P0 : Nat → Prop} (a0 : Int) (a1 : Int) (a2 : Int) (Z : Below w0.heap.size w0 ws) (hF : Fr w0 ws P0 [] ws)  (r_1 : Bool) (h : spec_l1In.f a0 a1 a2 = some r_1) :
    Calls Try.prog 81 #[.int .i64 a0, .int .i64 a1, .int .i64 a2] ws (Post1 w0 ws P0 (fun (_ : Unit) => .bool r_1) (fun (_ : Unit) => [])) := by
  unfold spec_l1In.f at h
  refine enter Try.func81 rfl Try.ntmps81 rfl hF ?_
  refine c_seq ?_
  refine za0 ?_
  refine o_q rfl rfl (q_asg rfl) ?_
  refine o_end ?_
  refine za1 ?_
  refine c_seq ?_
  refine za0 ?_
  refine o_q rfl rfl (za2 rfl) ?_
  refine o_q rfl rfl (za2 rfl) ?_
  refine o_q rfl rfl (q_geq rfl rfl) ?_
  refine o_q rfl rfl (za2 rfl) ?_
  refine byB (decide (a1 ≤ a0)) (fun hb1 => ?_) (fun hb1 => ?_)
  · replace h := br_t hb1 h
    refine o_w (za4 rfl rfl rfl (congrArg Value.bool hb1)) rfl (za2 rfl) ?_
    refine o_w (za4 rfl rfl rfl (congrArg Value.bool hb1)) rfl (za2 rfl) ?_
    refine o_w (za4 rfl rfl rfl (congrArg Value.bool hb1)) rfl (q_leq rfl rfl) ?_
    refine o_q rfl rfl (zao true (congrArg Value.bool hb1) rfl) ?_
    refine o_q rfl rfl (q_asg rfl) ?_
    refine o_end ?_
    refine za1 ?_
    refine c_ret ?_
    have e0_ := Option.some.inj h; clear h
    subst e0_
    exact x_r1 () Try.results81 (zae rfl) rfl (fun w h => za6 [] (by decide) rfl w h)
  · replace h := br_f hb1 h
    refine @o_n _ _ _ _ _ _ _ _ _ _ _ 11 (za3 rfl rfl rfl (congrArg Value.bool hb1) rfl) (Eq.refl (some 11)) ?_
    refine @o_n _ _ _ _ _ _ _ _ _ _ _ 12 (za3 rfl rfl rfl (congrArg Value.bool hb1) rfl) (Eq.refl (some 12)) ?_
    refine @o_n _ _ _ _ _ _ _ _ _ _ _ 13 (za3 rfl rfl rfl (congrArg Value.bool hb1) rfl) (Eq.refl (some 13)) ?_
    refine o_q rfl rfl (zao false (congrArg Value.bool hb1) rfl) ?_
    refine o_q rfl rfl (q_asg rfl) ?_
    refine o_end ?_
    refine za1 ?_
    refine c_ret ?_
    have e0_ := Option.some.inj h; clear h
    subst e0_
    exact x_r1 () Try.results81 (zae rfl) rfl (fun w h => za6 [] (by decide) rfl w h)

/-! ### loop.example/g01098/spec.l1Has: function 37 -/
def spec_l1Has.l0 (a1 : Int) : (List Int) → Int → Option ((Bool) ⊕ (Unit))
  | [], i1 => some (.inr ())
  | y2 :: ys3, i1 => if y2 = a1 then (some (.inl true)) else (spec_l1Has.l0 a1 ys3 (i1 + 1))
def spec_l1Has.f (l0 : List Int) (a1 : Int) : Option Bool := (spec_l1Has.l0 a1 l0 0).bind fun o_ => match o_ with | .inl r_ => some r_ | .inr _ => some false
set_option maxHeartbeats 600000 in
set_option maxRecDepth 100000 in
theorem spec_l1Has.calls {w0 ws : World} {P0 : Nat → Prop} (A0 : Option Addr) (c0 : Nat) (n0 : Nat) (l0 : List Int) (a1 : Int) (Z : Below w0.heap.size w0 ws) (hF : Fr w0 ws P0 [] ws) (R0 : Stable ws P0 (fun w => Kd.C (Kd.int .i64) w A0 n0 l0)) (hc0 : n0 ≤ c0) (r_1 : Bool) (h : spec_l1Has.f l0 a1 = some r_1) :
    Calls Try.prog 37 #[.slice A0 n0 c0, .int .i64 a1] ws (Post1 w0 ws P0 (fun (_ : Unit) => .bool r_1) (fun (_ : Unit) => [])) := by
  unfold spec_l1Has.f at h
  obtain rfl := (R0 ws (KeptB.refl _ _)).1
  refine enter Try.func37 rfl Try.ntmps37 rfl hF ?_
  refine c_seq ?_
  refine za0 ?_
  refine o_q rfl rfl (q_asg rfl) ?_
  refine o_end ?_
  refine za1 ?_
  refine c_seq ?_
  refine c_seq ?_
  refine za0 ?_
  refine o_q rfl rfl (za2 rfl) ?_
  refine o_q rfl rfl (q_len Try.underlying22 rfl) ?_
  refine o_q rfl rfl (za2 rfl) ?_
  refine o_end ?_
  refine za1 ?_
  refine zak ?_
  refine za7 h (fun o9 hl8 hR7 => ?_) rfl
  clear h
  refine c_fact (p := l0.length ≤ 9223372036854775807) (fun w h => (R0.now Z h).2.1) (fun hm6 => ?_)
  refine zaz (σ := (List Int) × Int) (fun k4 ((ys3, i1) : (List Int) × Int) => Rg l0 i1 ys3 ∧ ys3.length = k4 ∧ spec_l1Has.l0 a1 ys3 i1 = some o9) [4, 6, 9, 10, 11, 12, 13, 14, 15, 16] (fun ((ys3, i1) : (List Int) × Int) => [(9, .int .i64 i1)]) (fun ((ys3, i1) : (List Int) × Int) => []) l0.length (l0, 0) ⟨Rg.start _, rfl, hl8⟩ ⟨rfl, trivial⟩ (fun w h => h) ?_
  refine fun k4 => cur2 (listC (fun i1 U10 hJ_ => ?_) (fun y2 ys3 i1 U10 hJ_ => ?_))
  · skip
    clear hl8
    have hr5 := hJ_.1; have hk11 := hJ_.2.1; have h := hJ_.2.2; clear hJ_
    replace h : spec_l1Has.l0 a1 [] i1 = some o9 := h
    rw [spec_l1Has.l0] at h
    refine c_seq ?_
    refine za0 ?_
    refine o_q rfl rfl (q_lss rfl rfl) ?_
    refine o_end ?_
    refine za1 ?_
    refine c_seq ?_
    refine c_false (congrArg Value.bool hr5.ge) ?_
    refine c_exit ?_
    refine za8 ?_
    refine za8 ?_
    have e_ := Option.some.inj h; replace h := hR7; rw [← e_] at h; clear e_
    refine x_hit ?_
    refine za1 ?_
    refine c_seq ?_
    refine za0 ?_
    refine o_q rfl rfl (q_asg rfl) ?_
    refine o_end ?_
    refine za1 ?_
    refine c_ret ?_
    have e0_ := Option.some.inj h; clear h
    subst e0_
    exact x_r1 () Try.results37 (zae rfl) rfl (fun w h => za6 [] (by decide) rfl w h)
  · skip
    clear hl8
    have hr5 := hJ_.1; have hk11 := hJ_.2.1; have h := hJ_.2.2; clear hJ_
    replace h : spec_l1Has.l0 a1 (y2 :: ys3) i1 = some o9 := h
    rw [spec_l1Has.l0] at h
    refine c_seq ?_
    refine za0 ?_
    refine o_q rfl rfl (q_lss rfl rfl) ?_
    refine o_end ?_
    refine za1 ?_
    refine c_seq ?_
    refine c_true (congrArg Value.bool hr5.lt) ?_
    refine zal ?_
    refine za1 ?_
    refine c_seq ?_
    refine zak ?_
    refine c_seq ?_
    refine za0 ?_
    refine zb0 (p := Sh A0 l0.length l0.length) (fun w h => f_sh (dk := (Kd.int .i64)) h (fun w h => R0.now Z h)) (fun hq12 => ?_)
    refine o_q rfl rfl (q_ix Try.underlying22 Z3 rfl rfl hq12 hr5.get) ?_
    refine o_q rfl rfl (q_lde (off := 0) Y3 rfl rfl (fun w h => R0.now Z h) hr5.get (fun _ _ h => h) rfl) ?_
    refine o_q rfl rfl (q_asg rfl) ?_
    refine o_end ?_
    refine za1 ?_
    refine c_seq ?_
    refine za0 ?_
    refine o_q rfl rfl (za2 rfl) ?_
    refine o_q rfl rfl (za2 rfl) ?_
    refine o_q rfl rfl (q_eql rfl rfl) ?_
    refine o_end ?_
    refine za1 ?_
    refine zaq _ rfl (fun hb13 => ?_) (fun hb13 => ?_)
    · skip
      replace h := br_t hb13 h
      refine c_seq ?_
      refine za0 ?_
      refine o_q rfl rfl (q_asg rfl) ?_
      refine o_end ?_
      refine za1 ?_
      refine c_ret ?_
      refine zah ?_
      refine za5 ?_
      refine za5 ?_
      have e_ := Option.some.inj h; replace h := hR7; rw [← e_] at h; clear e_
      refine zah ?_
      refine za5 ?_
      have e0_ := Option.some.inj h; clear h
      subst e0_
      exact x_r1 () Try.results37 (zae rfl) rfl (fun w h => za6 [] (by decide) rfl w h)
    · skip
      replace h := br_f hb13 h
      refine zal ?_
      refine zau ?_
      refine za1 ?_
      refine za0 ?_
      refine o_q rfl rfl (q_up rfl rfl (hr5.up hm6)) ?_
      refine o_q rfl rfl (za2 rfl) ?_
      refine o_end ?_
      refine zas ys3.length (ys3, i1 + 1) (by rw [← hk11]; exact Nat.lt_succ_self _) ⟨hr5.step, rfl, h⟩ ⟨rfl, trivial⟩ (fun w h => za6 [] (by decide) rfl w h) ?_
      repeat (first | exact zad _ _ | refine zai rfl ?_ | refine zaf rfl ?_ | refine zaj rfl ?_)

/-! ### loop.example/g01098/spec.l1All: function 47 -/
def spec_l1All.l0 (a1 : Int) (a2 : Int) : (List Int) → Int → Option ((Bool) ⊕ (Unit))
  | [], i1 => some (.inr ())
  | y2 :: ys3, i1 => (spec_l1In.f y2 a1 a2).bind fun b14 => if b14 = true then (spec_l1All.l0 a1 a2 ys3 (i1 + 1)) else (some (.inl false))
def spec_l1All.f (l0 : List Int) (a1 : Int) (a2 : Int) : Option Bool := (spec_l1All.l0 a1 a2 l0 0).bind fun o_ => match o_ with | .inl r_ => some r_ | .inr _ => some true
set_option maxHeartbeats 600000 in
set_option maxRecDepth 100000 in
theorem spec_l1All.calls {w0 ws : World} {P0 : Nat → Prop} (A0 : Option Addr) (c0 : Nat) (n0 : Nat) (l0 : List Int) (a1 : Int) (a2 : Int) (Z : Below w0.heap.size w0 ws) (hF : Fr w0 ws P0 [] ws) (R0 : Stable ws P0 (fun w => Kd.C (Kd.int .i64) w A0 n0 l0)) (hc0 : n0 ≤ c0) (r_1 : Bool) (h : spec_l1All.f l0 a1 a2 = some r_1) :
    Calls Try.prog 47 #[.slice A0 n0 c0, .int .i64 a1, .int .i64 a2] ws (Post1 w0 ws P0 (fun (_ : Unit) => .bool r_1) (fun (_ : Unit) => [])) := by
  unfold spec_l1All.f at h
  obtain rfl := (R0 ws (KeptB.refl _ _)).1
  refine enter Try.func47 rfl Try.ntmps47 rfl hF ?_
  refine c_seq ?_
  refine za0 ?_
  refine o_q rfl rfl (q_asg rfl) ?_
  refine o_end ?_
  refine za1 ?_
  refine c_seq ?_
  refine c_seq ?_
  refine za0 ?_
  refine o_q rfl rfl (za2 rfl) ?_
  refine o_q rfl rfl (q_len Try.underlying22 rfl) ?_
  refine o_q rfl rfl (za2 rfl) ?_
  refine o_end ?_
  refine za1 ?_
  refine zak ?_
  refine za7 h (fun o9 hl8 hR7 => ?_) rfl
  clear h
  refine c_fact (p := l0.length ≤ 9223372036854775807) (fun w h => (R0.now Z h).2.1) (fun hm6 => ?_)
  refine zaz (σ := (List Int) × Int) (fun k4 ((ys3, i1) : (List Int) × Int) => Rg l0 i1 ys3 ∧ ys3.length = k4 ∧ spec_l1All.l0 a1 a2 ys3 i1 = some o9) [6, 8, 11, 12, 13, 14, 15, 16, 17, 18, 19, 20] (fun ((ys3, i1) : (List Int) × Int) => [(11, .int .i64 i1)]) (fun ((ys3, i1) : (List Int) × Int) => []) l0.length (l0, 0) ⟨Rg.start _, rfl, hl8⟩ ⟨rfl, trivial⟩ (fun w h => h) ?_
  refine fun k4 => cur2 (listC (fun i1 U10 hJ_ => ?_) (fun y2 ys3 i1 U10 hJ_ => ?_))
  · skip
    clear hl8
    have hr5 := hJ_.1; have hk11 := hJ_.2.1; have h := hJ_.2.2; clear hJ_
    replace h : spec_l1All.l0 a1 a2 [] i1 = some o9 := h
    rw [spec_l1All.l0] at h
    refine c_seq ?_
    refine za0 ?_
    refine o_q rfl rfl (q_lss rfl rfl) ?_
    refine o_end ?_
    refine za1 ?_
    refine c_seq ?_
    refine c_false (congrArg Value.bool hr5.ge) ?_
    refine c_exit ?_
    refine za8 ?_
    refine za8 ?_
    have e_ := Option.some.inj h; replace h := hR7; rw [← e_] at h; clear e_
    refine x_hit ?_
    refine za1 ?_
    refine c_seq ?_
    refine za0 ?_
    refine o_q rfl rfl (q_asg rfl) ?_
    refine o_end ?_
    refine za1 ?_
    refine c_ret ?_
    have e0_ := Option.some.inj h; clear h
    subst e0_
    exact x_r1 () Try.results47 (zae rfl) rfl (fun w h => za6 [] (by decide) rfl w h)
  · skip
    clear hl8
    have hr5 := hJ_.1; have hk11 := hJ_.2.1; have h := hJ_.2.2; clear hJ_
    replace h : spec_l1All.l0 a1 a2 (y2 :: ys3) i1 = some o9 := h
    rw [spec_l1All.l0] at h
    refine c_seq ?_
    refine za0 ?_
    refine o_q rfl rfl (q_lss rfl rfl) ?_
    refine o_end ?_
    refine za1 ?_
    refine c_seq ?_
    refine c_true (congrArg Value.bool hr5.lt) ?_
    refine zal ?_
    refine za1 ?_
    refine c_seq ?_
    refine zak ?_
    refine c_seq ?_
    refine za0 ?_
    refine zb0 (p := Sh A0 l0.length l0.length) (fun w h => f_sh (dk := (Kd.int .i64)) h (fun w h => R0.now Z h)) (fun hq12 => ?_)
    refine o_q rfl rfl (q_ix Try.underlying22 Z3 rfl rfl hq12 hr5.get) ?_
    refine o_q rfl rfl (q_lde (off := 0) Y3 rfl rfl (fun w h => R0.now Z h) hr5.get (fun _ _ h => h) rfl) ?_
    refine o_q rfl rfl (q_asg rfl) ?_
    refine o_end ?_
    refine za1 ?_
    refine c_seq ?_
    refine za0 ?_
    refine o_q rfl rfl (za2 rfl) ?_
    refine o_q rfl rfl (za2 rfl) ?_
    refine o_q rfl rfl (za2 rfl) ?_
    refine za7 h (fun b14 hx13 h => ?_) rfl
    refine o_e rfl (zab 0 Z Try.func81 N81 rfl rfl rfl (fun w P1 hF hB hS hT => spec_l1In.calls y2 a1 a2 hB hF _ hx13)) (fun _ => ?_)
    refine o_q rfl rfl (q_not rfl) ?_
    refine o_end ?_
    refine za1 ?_
    refine zaq _ rfl (fun hb15 => ?_) (fun hb15 => ?_)
    · replace hb15 := nt_t hb15
      replace h := bb_f hb15 h
      refine c_seq ?_
      refine za0 ?_
      refine o_q rfl rfl (q_asg rfl) ?_
      refine o_end ?_
      refine za1 ?_
      refine c_ret ?_
      refine zah ?_
      refine za5 ?_
      refine za5 ?_
      have e_ := Option.some.inj h; replace h := hR7; rw [← e_] at h; clear e_
      refine zah ?_
      refine za5 ?_
      have e0_ := Option.some.inj h; clear h
      subst e0_
      exact x_r1 () Try.results47 (zae rfl) rfl (fun w h => za6 [] (by decide) rfl w h)
    · replace hb15 := nt_f hb15
      replace h := bb_t hb15 h
      refine zal ?_
      refine zau ?_
      refine za1 ?_
      refine za0 ?_
      refine o_q rfl rfl (q_up rfl rfl (hr5.up hm6)) ?_
      refine o_q rfl rfl (za2 rfl) ?_
      refine o_end ?_
      refine zas ys3.length (ys3, i1 + 1) (by rw [← hk11]; exact Nat.lt_succ_self _) ⟨hr5.step, rfl, h⟩ ⟨rfl, trivial⟩ (fun w h => za6 [] (by decide) rfl w h) ?_
      repeat (first | exact zad _ _ | refine zai rfl ?_ | refine zaf rfl ?_ | refine zaj rfl ?_)

/-! ### loop.example/g01098/spec.reShape: function 108 -/
def spec_reShape.l1 (a0_0 : Int) : (List SRegOp) → Int → Option ((Bool) ⊕ (Unit))
  | [], i22 => some (.inr ())
  | y23 :: ys24, i22 => (spec_l1All.f ([y23.f0, y23.f1, y23.f2] : List Int) 0 (w64 (a0_0 - 1))).bind fun b45 => if b45 = true then (spec_reShape.l1 a0_0 ys24 (i22 + 1)) else (some (.inl false))
def spec_reShape.l0 (l0_1 : List Int) : (List Int) → Int → Option ((Bool) ⊕ (Unit))
  | [], i11 => some (.inr ())
  | y12 :: ys13, i11 => (ct l0_1 (0 : Int) i11).bind fun l48 => (spec_l1Has.f l48 y12).bind fun b51 => if b51 = true then (some (.inl false)) else (spec_reShape.l0 l0_1 ys13 (i11 + 1))
def spec_reShape.f (a0_0 : Int) (l0_1 : List Int) (l0_2 : List SRegOp) (l0_3 : List Int) : Option Bool := (spec_l1In.f a0_0 1 46).bind fun b4 => if b4 = true then ((spec_l1In.f (l0_1.length : Int) 1 6).bind fun b7 => if b7 = true then (if 40 < (l0_2.length : Int) then (some false) else (if 6 < (l0_3.length : Int) then (some false) else ((spec_reShape.l0 l0_1 l0_1 0).bind fun o_ => match o_ with | .inl r_ => some r_ | .inr _ => (spec_reShape.l1 a0_0 l0_2 0).bind fun o_ => match o_ with | .inl r_ => some r_ | .inr _ => (spec_l1All.f l0_1 0 (w64 (a0_0 - 1))).bind fun b34 => if b34 = true then ((spec_l1All.f l0_3 0 (w64 (a0_0 - 1))).bind fun b37 => some b37) else (some false)))) else (some false)) else (some false)
set_option maxHeartbeats 600000 in
set_option maxRecDepth 100000 in
theorem spec_reShape.calls {w0 ws : World} {P0 : Nat → Prop} (a0_0 : Int) (A0_1 : Option Addr) (c0_1 : Nat) (n0_1 : Nat) (l0_1 : List Int) (A0_2 : Option Addr) (c0_2 : Nat) (n0_2 : Nat) (l0_2 : List SRegOp) (A0_3 : Option Addr) (c0_3 : Nat) (n0_3 : Nat) (l0_3 : List Int) (Z : Below w0.heap.size w0 ws) (hF : Fr w0 ws P0 [] ws) (R0_1 : Stable ws P0 (fun w => Kd.C (Kd.int .i64) w A0_1 n0_1 l0_1)) (hc0_1 : n0_1 ≤ c0_1) (R0_2 : Stable ws P0 (fun w => Kd.C zat w A0_2 n0_2 l0_2)) (hc0_2 : n0_2 ≤ c0_2) (R0_3 : Stable ws P0 (fun w => Kd.C (Kd.int .i64) w A0_3 n0_3 l0_3)) (hc0_3 : n0_3 ≤ c0_3) (r_1 : Bool) (h : spec_reShape.f a0_0 l0_1 l0_2 l0_3 = some r_1) :
    Calls Try.prog 108 #[.agg #[.int .i64 a0_0, .slice A0_1 n0_1 c0_1, .slice A0_2 n0_2 c0_2, .slice A0_3 n0_3 c0_3]] ws (Post1 w0 ws P0 (fun (_ : Unit) => .bool r_1) (fun (_ : Unit) => [])) := by
  unfold spec_reShape.f at h
  obtain rfl := (R0_1 ws (KeptB.refl _ _)).1
  obtain rfl := (R0_2 ws (KeptB.refl _ _)).1
  obtain rfl := (R0_3 ws (KeptB.refl _ _)).1
  refine enter Try.func108 rfl Try.ntmps108 rfl hF ?_
  refine c_seq ?_
  refine za0 ?_
  refine o_e rfl (e_box rfl) (fun g1 => ?_)
  refine o_q rfl rfl (q_asg rfl) ?_
  refine o_end ?_
  refine za1 ?_
  refine c_seq ?_
  refine c_seq ?_
  refine za0 ?_
  refine o_q rfl rfl (q_f F29_0 rfl) ?_
  refine o_q rfl rfl (q_ldb Y3 rfl (fun w h => h.za9 (i := 0) rfl) rfl) ?_
  refine za7 h (fun b4 hx3 h => ?_) rfl
  refine o_e rfl (zab 0 Z Try.func81 N81 rfl rfl rfl (fun w P1 hF hB hS hT => spec_l1In.calls a0_0 1 46 hB hF _ hx3)) (fun _ => ?_)
  refine o_q rfl rfl (q_not rfl) ?_
  refine o_q rfl rfl (za2 rfl) ?_
  refine byB b4 (fun hb5 => ?_) (fun hb5 => ?_)
  · replace h := bb_t hb5 h
    refine o_w (za4 rfl rfl rfl (congrArg (fun b => Value.bool (!(b))) hb5)) rfl (q_f F29_1 rfl) ?_
    refine o_w (za4 rfl rfl rfl (congrArg (fun b => Value.bool (!(b))) hb5)) rfl (q_ldb Y22 rfl (fun w h => h.za9 (i := 0) rfl) rfl) ?_
    refine o_w (za4 rfl rfl rfl (congrArg (fun b => Value.bool (!(b))) hb5)) rfl (q_len Try.underlying22 rfl) ?_
    refine za7 h (fun b7 hx6 h => ?_) rfl
    refine o_ew (za4 rfl rfl rfl (congrArg (fun b => Value.bool (!(b))) hb5)) (zab 0 Z Try.func81 N81 rfl rfl rfl (fun w P1 hF hB hS hT => spec_l1In.calls (l0_1.length : Int) 1 6 hB hF _ hx6)) (fun _ => ?_)
    refine o_w (za4 rfl rfl rfl (congrArg (fun b => Value.bool (!(b))) hb5)) rfl (q_not rfl) ?_
    refine o_q rfl rfl (zao false (congrArg (fun b => Value.bool (!(b))) hb5) rfl) ?_
    refine o_q rfl rfl (za2 rfl) ?_
    refine byB b7 (fun hb8 => ?_) (fun hb8 => ?_)
    · replace h := bb_t hb8 h
      refine o_w (za4 rfl rfl rfl (congrArg (fun b => Value.bool (!(b))) hb8)) rfl (q_f F29_2 rfl) ?_
      refine o_w (za4 rfl rfl rfl (congrArg (fun b => Value.bool (!(b))) hb8)) rfl (q_ldb Y27 rfl (fun w h => h.za9 (i := 0) rfl) rfl) ?_
      refine o_w (za4 rfl rfl rfl (congrArg (fun b => Value.bool (!(b))) hb8)) rfl (q_len Try.underlying27 rfl) ?_
      refine o_w (za4 rfl rfl rfl (congrArg (fun b => Value.bool (!(b))) hb8)) rfl (q_gtr rfl rfl) ?_
      refine o_q rfl rfl (zao false (congrArg (fun b => Value.bool (!(b))) hb8) rfl) ?_
      refine o_q rfl rfl (za2 rfl) ?_
      refine byB (decide (40 < (l0_2.length : Int))) (fun hb9 => ?_) (fun hb9 => ?_)
      · replace h := br_t hb9 h
        refine @o_n _ _ _ _ _ _ _ _ _ _ _ 25 (za3 rfl rfl rfl (congrArg Value.bool hb9) rfl) (Eq.refl (some 25)) ?_
        refine @o_n _ _ _ _ _ _ _ _ _ _ _ 26 (za3 rfl rfl rfl (congrArg Value.bool hb9) rfl) (Eq.refl (some 26)) ?_
        refine @o_n _ _ _ _ _ _ _ _ _ _ _ 27 (za3 rfl rfl rfl (congrArg Value.bool hb9) rfl) (Eq.refl (some 27)) ?_
        refine @o_n _ _ _ _ _ _ _ _ _ _ _ 28 (za3 rfl rfl rfl (congrArg Value.bool hb9) rfl) (Eq.refl (some 28)) ?_
        refine o_q rfl rfl (zao true (congrArg Value.bool hb9) rfl) ?_
        refine o_end ?_
        refine za1 ?_
        refine c_true rfl ?_
        refine c_seq ?_
        refine za0 ?_
        refine o_q rfl rfl (q_asg rfl) ?_
        refine o_end ?_
        refine za1 ?_
        refine c_ret ?_
        refine za5 ?_
        have e0_ := Option.some.inj h; clear h
        subst e0_
        exact x_r1 () Try.results108 (zae rfl) rfl (fun w h => za6 [] (by decide) rfl w h)
      · replace h := br_f hb9 h
        refine o_w (za4 rfl rfl rfl (congrArg Value.bool hb9)) rfl (q_f F29_3 rfl) ?_
        refine o_w (za4 rfl rfl rfl (congrArg Value.bool hb9)) rfl (q_ldb Y22 rfl (fun w h => h.za9 (i := 0) rfl) rfl) ?_
        refine o_w (za4 rfl rfl rfl (congrArg Value.bool hb9)) rfl (q_len Try.underlying22 rfl) ?_
        refine o_w (za4 rfl rfl rfl (congrArg Value.bool hb9)) rfl (q_gtr rfl rfl) ?_
        refine o_q rfl rfl (zao false (congrArg Value.bool hb9) rfl) ?_
        refine o_end ?_
        refine za1 ?_
        refine zaq _ rfl (fun hb10 => ?_) (fun hb10 => ?_)
        · skip
          replace h := br_t hb10 h
          refine c_seq ?_
          refine za0 ?_
          refine o_q rfl rfl (q_asg rfl) ?_
          refine o_end ?_
          refine za1 ?_
          refine c_ret ?_
          refine za5 ?_
          have e0_ := Option.some.inj h; clear h
          subst e0_
          exact x_r1 () Try.results108 (zae rfl) rfl (fun w h => za6 [] (by decide) rfl w h)
        · skip
          replace h := br_f hb10 h
          refine zal ?_
          refine za1 ?_
          refine c_seq ?_
          refine c_seq ?_
          refine za0 ?_
          refine o_q rfl rfl (q_f F29_1 rfl) ?_
          refine o_q rfl rfl (q_ldb Y22 rfl (fun w h => h.za9 (i := 0) rfl) rfl) ?_
          refine o_q rfl rfl (q_len Try.underlying22 rfl) ?_
          refine o_q rfl rfl (za2 rfl) ?_
          refine o_end ?_
          refine za1 ?_
          refine zak ?_
          refine za7 h (fun o19 hl18 hR17 => ?_) rfl
          clear h
          refine c_fact (p := l0_1.length ≤ 9223372036854775807) (fun w h => (R0_1.now Z h).2.1) (fun hm16 => ?_)
          refine zaz (σ := (List Int) × Int) (fun k14 ((ys13, i11) : (List Int) × Int) => Rg l0_1 i11 ys13 ∧ ys13.length = k14 ∧ spec_reShape.l0 l0_1 ys13 i11 = some o19) [2, 3, 4, 33, 34, 35, 36, 37, 38, 39, 40, 41, 42, 43, 44] (fun ((ys13, i11) : (List Int) × Int) => [(33, .int .i64 i11)]) (fun ((ys13, i11) : (List Int) × Int) => [box g1 29 #[.int .i64 a0_0, .slice A0_1 l0_1.length c0_1, .slice A0_2 l0_2.length c0_2, .slice A0_3 l0_3.length c0_3]]) l0_1.length (l0_1, 0) ⟨Rg.start _, rfl, hl18⟩ ⟨rfl, trivial⟩ (fun w h => h) ?_
          refine fun k14 => cur2 (listC (fun i11 U20 hJ_ => ?_) (fun y12 ys13 i11 U20 hJ_ => ?_))
          · skip
            clear hl18
            have hr15 := hJ_.1; have hk21 := hJ_.2.1; have h := hJ_.2.2; clear hJ_
            replace h : spec_reShape.l0 l0_1 [] i11 = some o19 := h
            rw [spec_reShape.l0] at h
            refine c_seq ?_
            refine za0 ?_
            refine o_q rfl rfl (q_lss rfl rfl) ?_
            refine o_end ?_
            refine za1 ?_
            refine c_seq ?_
            refine c_false (congrArg Value.bool hr15.ge) ?_
            refine c_exit ?_
            refine za8 ?_
            refine za8 ?_
            have e_ := Option.some.inj h; replace h := hR17; rw [← e_] at h; clear e_
            refine x_hit ?_
            refine za1 ?_
            refine c_seq ?_
            refine c_seq ?_
            refine za0 ?_
            refine o_q rfl rfl (q_f F29_2 rfl) ?_
            refine o_q rfl rfl (q_ldb Y27 rfl (fun w h => h.za9 (i := 0) rfl) rfl) ?_
            refine o_q rfl rfl (q_len Try.underlying27 rfl) ?_
            refine o_q rfl rfl (za2 rfl) ?_
            refine o_end ?_
            refine za1 ?_
            refine zak ?_
            refine za7 h (fun o30 hl29 hR28 => ?_) rfl
            clear h
            refine c_fact (p := l0_2.length ≤ 9223372036854775807) (fun w h => (R0_2.now Z h).2.1) (fun hm27 => ?_)
            refine zaz (σ := (List SRegOp) × Int) (fun k25 ((ys24, i22) : (List SRegOp) × Int) => Rg l0_2 i22 ys24 ∧ ys24.length = k25 ∧ spec_reShape.l1 a0_0 ys24 i22 = some o30) [2, 6, 48, 49, 50, 51, 52, 53, 54, 55, 56, 57, 58, 59, 60, 61, 62, 63, 64] (fun ((ys24, i22) : (List SRegOp) × Int) => [(48, .int .i64 i22)]) (fun ((ys24, i22) : (List SRegOp) × Int) => [box g1 29 #[.int .i64 a0_0, .slice A0_1 l0_1.length c0_1, .slice A0_2 l0_2.length c0_2, .slice A0_3 l0_3.length c0_3]]) l0_2.length (l0_2, 0) ⟨Rg.start _, rfl, hl29⟩ ⟨rfl, trivial⟩ (fun w h => h) ?_
            refine fun k25 => cur2 (listC (fun i22 U31 hJ_ => ?_) (fun y23 ys24 i22 U31 hJ_ => ?_))
            · skip
              clear hl29
              have hr26 := hJ_.1; have hk32 := hJ_.2.1; have h := hJ_.2.2; clear hJ_
              replace h : spec_reShape.l1 a0_0 [] i22 = some o30 := h
              rw [spec_reShape.l1] at h
              refine c_seq ?_
              refine za0 ?_
              refine o_q rfl rfl (q_lss rfl rfl) ?_
              refine o_end ?_
              refine za1 ?_
              refine c_seq ?_
              refine c_false (congrArg Value.bool hr26.ge) ?_
              refine c_exit ?_
              refine za8 ?_
              refine za8 ?_
              have e_ := Option.some.inj h; replace h := hR28; rw [← e_] at h; clear e_
              refine x_hit ?_
              refine za1 ?_
              refine c_seq ?_
              refine za0 ?_
              refine o_q rfl rfl (q_f F29_1 rfl) ?_
              refine o_q rfl rfl (q_ldb Y22 rfl (fun w h => h.za9 (i := 0) rfl) rfl) ?_
              refine o_q rfl rfl (q_f F29_0 rfl) ?_
              refine o_q rfl rfl (q_ldb Y3 rfl (fun w h => h.za9 (i := 0) rfl) rfl) ?_
              refine o_q rfl rfl (q_sub64 rfl rfl) ?_
              refine za7 h (fun b34 hx33 h => ?_) rfl
              refine o_e rfl (zab 0 Z Try.func47 N47 rfl rfl rfl (fun w P1 hF hB hS hT => spec_l1All.calls A0_1 c0_1 l0_1.length l0_1 0 (w64 (a0_0 - 1)) hB hF (hS _ R0_1) hc0_1 _ hx33)) (fun _ => ?_)
              refine o_q rfl rfl (za2 rfl) ?_
              refine byB b34 (fun hb35 => ?_) (fun hb35 => ?_)
              · replace h := bb_t hb35 h
                refine o_w (za4 rfl rfl rfl (congrArg Value.bool hb35)) rfl (q_f F29_3 rfl) ?_
                refine o_w (za4 rfl rfl rfl (congrArg Value.bool hb35)) rfl (q_ldb Y22 rfl (fun w h => h.za9 (i := 0) rfl) rfl) ?_
                refine o_w (za4 rfl rfl rfl (congrArg Value.bool hb35)) rfl (q_f F29_0 rfl) ?_
                refine o_w (za4 rfl rfl rfl (congrArg Value.bool hb35)) rfl (q_ldb Y3 rfl (fun w h => h.za9 (i := 0) rfl) rfl) ?_
                refine o_w (za4 rfl rfl rfl (congrArg Value.bool hb35)) rfl (q_sub64 rfl rfl) ?_
                refine za7 h (fun b37 hx36 h => ?_) rfl
                refine o_ew (za4 rfl rfl rfl (congrArg Value.bool hb35)) (zab 0 Z Try.func47 N47 rfl rfl rfl (fun w P1 hF hB hS hT => spec_l1All.calls A0_3 c0_3 l0_3.length l0_3 0 (w64 (a0_0 - 1)) hB hF (hS _ R0_3) hc0_3 _ hx36)) (fun _ => ?_)
                refine o_q rfl rfl (zao true (congrArg Value.bool hb35) rfl) ?_
                refine o_q rfl rfl (q_asg rfl) ?_
                refine o_end ?_
                refine za1 ?_
                refine c_ret ?_
                have e0_ := Option.some.inj h; clear h
                subst e0_
                exact x_r1 () Try.results108 (zae rfl) rfl (fun w h => za6 [] (by decide) rfl w h)
              · replace h := bb_f hb35 h
                refine @o_n _ _ _ _ _ _ _ _ _ _ _ 72 (za3 rfl rfl rfl (congrArg Value.bool hb35) rfl) (Eq.refl (some 72)) ?_
                refine @o_n _ _ _ _ _ _ _ _ _ _ _ 73 (za3 rfl rfl rfl (congrArg Value.bool hb35) rfl) (Eq.refl (some 73)) ?_
                refine @o_n _ _ _ _ _ _ _ _ _ _ _ 74 (za3 rfl rfl rfl (congrArg Value.bool hb35) rfl) (Eq.refl (some 74)) ?_
                refine @o_n _ _ _ _ _ _ _ _ _ _ _ 75 (za3 rfl rfl rfl (congrArg Value.bool hb35) rfl) (Eq.refl (some 75)) ?_
                refine @o_n _ _ _ _ _ _ _ _ _ _ _ 76 (za3 rfl rfl rfl (congrArg Value.bool hb35) rfl) (Eq.refl (some 76)) ?_
                refine @o_n _ _ _ _ _ _ _ _ _ _ _ 77 (za3 rfl rfl rfl (congrArg Value.bool hb35) rfl) (Eq.refl (some 77)) ?_
                refine o_q rfl rfl (zao false (congrArg Value.bool hb35) rfl) ?_
                refine o_q rfl rfl (q_asg rfl) ?_
                refine o_end ?_
                refine za1 ?_
                refine c_ret ?_
                have e0_ := Option.some.inj h; clear h
                subst e0_
                exact x_r1 () Try.results108 (zae rfl) rfl (fun w h => za6 [] (by decide) rfl w h)
            · skip
              clear hl29
              have hr26 := hJ_.1; have hk32 := hJ_.2.1; have h := hJ_.2.2; clear hJ_
              replace h : spec_reShape.l1 a0_0 (y23 :: ys24) i22 = some o30 := h
              rw [spec_reShape.l1] at h
              refine c_seq ?_
              refine za0 ?_
              refine o_q rfl rfl (q_lss rfl rfl) ?_
              refine o_end ?_
              refine za1 ?_
              refine c_seq ?_
              refine c_true (congrArg Value.bool hr26.lt) ?_
              refine zal ?_
              refine za1 ?_
              refine c_seq ?_
              refine zak ?_
              refine c_seq ?_
              refine za0 ?_
              refine zb0 (p := Sh A0_2 l0_2.length l0_2.length) (fun w h => f_sh (dk := zat) h (fun w h => R0_2.now Z h)) (fun hq38 => ?_)
              refine o_q rfl rfl (q_ix Try.underlying27 Z56 rfl rfl hq38 hr26.get) ?_
              refine o_q rfl rfl (q_ldE G56 Z56 rfl rfl (fun w h => R0_2.now Z h) hr26.get (fun _ _ h => h) rfl) ?_
              refine o_e rfl (zar V56 rfl) (fun g39 => ?_)
              refine o_e rfl (zam (i := 0) rfl rfl rfl Z56 rfl rfl) (fun _ => ?_)
              refine o_end ?_
              refine za1 ?_
              refine c_seq ?_
              refine za0 ?_
              refine o_q rfl rfl (q_f F56_0 rfl) ?_
              refine o_q rfl rfl (q_ldb Y3 rfl (fun w h => h.za9 (i := 0) rfl) rfl) ?_
              refine o_q rfl rfl (q_f F56_1 rfl) ?_
              refine o_q rfl rfl (q_ldb Y3 rfl (fun w h => h.za9 (i := 0) rfl) rfl) ?_
              refine o_q rfl rfl (q_f F56_2 rfl) ?_
              refine o_q rfl rfl (q_ldb Y3 rfl (fun w h => h.za9 (i := 0) rfl) rfl) ?_
              refine o_e rfl (e_lit (vs := [(0, .int .i64 y23.f0), (1, .int .i64 y23.f1), (2, .int .i64 y23.f2)]) (cs := [.int .i64 y23.f0, .int .i64 y23.f1, .int .i64 y23.f2]) (Kd.int .i64) ([y23.f0, y23.f1, y23.f2] : List Int) Try.underlying22 I3 (by decide) rfl (by decide) rfl rfl (fun _ _ => Kd.zb1 _)) (cur2 (fun A41 c42 => ?_))
              refine o_q rfl rfl (q_f F29_0 rfl) ?_
              refine o_q rfl rfl (q_ldb Y3 rfl (fun w h => h.za9 (i := 2) rfl) rfl) ?_
              refine o_q rfl rfl (q_sub64 rfl rfl) ?_
              refine za7 h (fun b45 hx44 h => ?_) rfl
              refine o_e rfl (zab 0 Z Try.func47 N47 rfl rfl rfl (fun w P1 hF hB hS hT => spec_l1All.calls A41 c42 (([y23.f0, y23.f1, y23.f2] : List Int).length) ([y23.f0, y23.f1, y23.f2] : List Int) 0 (w64 (a0_0 - 1)) hB hF (hT 0 _ rfl).row (hT 0 _ rfl).cap _ hx44)) (fun _ => ?_)
              refine o_q rfl rfl (q_not rfl) ?_
              refine o_end ?_
              refine za1 ?_
              refine zaq _ rfl (fun hb46 => ?_) (fun hb46 => ?_)
              · replace hb46 := nt_t hb46
                replace h := bb_f hb46 h
                refine c_seq ?_
                refine za0 ?_
                refine o_q rfl rfl (q_asg rfl) ?_
                refine o_end ?_
                refine za1 ?_
                refine c_ret ?_
                refine zah ?_
                refine za5 ?_
                refine za5 ?_
                have e_ := Option.some.inj h; replace h := hR28; rw [← e_] at h; clear e_
                refine zah ?_
                refine za5 ?_
                have e0_ := Option.some.inj h; clear h
                subst e0_
                exact x_r1 () Try.results108 (zae rfl) rfl (fun w h => za6 [] (by decide) rfl w h)
              · replace hb46 := nt_f hb46
                replace h := bb_t hb46 h
                refine zal ?_
                refine zau ?_
                refine za1 ?_
                refine za0 ?_
                refine o_q rfl rfl (q_up rfl rfl (hr26.up hm27)) ?_
                refine o_q rfl rfl (za2 rfl) ?_
                refine o_end ?_
                refine zas ys24.length (ys24, i22 + 1) (by rw [← hk32]; exact Nat.lt_succ_self _) ⟨hr26.step, rfl, h⟩ ⟨rfl, trivial⟩ (fun w h => za6 [2] (by decide) rfl w h) ?_
                repeat (first | exact zad _ _ | refine zai rfl ?_ | refine zaf rfl ?_ | refine zaj rfl ?_)
          · skip
            clear hl18
            have hr15 := hJ_.1; have hk21 := hJ_.2.1; have h := hJ_.2.2; clear hJ_
            replace h : spec_reShape.l0 l0_1 (y12 :: ys13) i11 = some o19 := h
            rw [spec_reShape.l0] at h
            refine c_seq ?_
            refine za0 ?_
            refine o_q rfl rfl (q_lss rfl rfl) ?_
            refine o_end ?_
            refine za1 ?_
            refine c_seq ?_
            refine c_true (congrArg Value.bool hr15.lt) ?_
            refine zal ?_
            refine za1 ?_
            refine c_seq ?_
            refine zak ?_
            refine c_seq ?_
            refine za0 ?_
            refine o_q rfl rfl (za2 rfl) ?_
            refine zb0 (p := Sh A0_1 l0_1.length l0_1.length) (fun w h => f_sh (dk := (Kd.int .i64)) h (fun w h => R0_1.now Z h)) (fun hq47 => ?_)
            refine o_q rfl rfl (q_ix Try.underlying22 Z3 rfl rfl hq47 hr15.get) ?_
            refine o_q rfl rfl (q_lde (off := 0) Y3 rfl rfl (fun w h => R0_1.now Z h) hr15.get (fun _ _ h => h) rfl) ?_
            refine o_q rfl rfl (q_asg rfl) ?_
            refine o_q rfl rfl (q_asg rfl) ?_
            refine o_end ?_
            refine za1 ?_
            refine c_seq ?_
            refine za0 ?_
            refine o_q rfl rfl (q_f F29_1 rfl) ?_
            refine o_q rfl rfl (q_ldb Y22 rfl (fun w h => h.za9 (i := 0) rfl) rfl) ?_
            refine o_q rfl rfl (za2 rfl) ?_
            refine za7 h (fun l48 hz49 h => ?_) rfl
            refine o_q rfl rfl (q_ctv Try.underlying22 Z3 rfl rfl ⟨_, rfl⟩ rfl hc0_1 hz49) ?_
            refine o_q rfl rfl (za2 rfl) ?_
            refine za7 h (fun b51 hx50 h => ?_) rfl
            refine o_e rfl (zab 0 Z Try.func37 N37 rfl rfl rfl (fun w P1 hF hB hS hT => spec_l1Has.calls (cutA A0_1 c0_1 (0 : Int).toNat 1) (c0_1 - (0 : Int).toNat) l48.length l48 y12 hB hF (stab_cut (dk := (Kd.int .i64)) rfl hz49 hc0_1 (hS _ R0_1)) (ct_cap hz49 rfl hc0_1) _ hx50)) (fun _ => ?_)
            refine o_end ?_
            refine za1 ?_
            refine zaq _ rfl (fun hb52 => ?_) (fun hb52 => ?_)
            · skip
              replace h := bb_t hb52 h
              refine c_seq ?_
              refine za0 ?_
              refine o_q rfl rfl (q_asg rfl) ?_
              refine o_end ?_
              refine za1 ?_
              refine c_ret ?_
              refine zah ?_
              refine za5 ?_
              refine za5 ?_
              have e_ := Option.some.inj h; replace h := hR17; rw [← e_] at h; clear e_
              refine zah ?_
              refine za5 ?_
              have e0_ := Option.some.inj h; clear h
              subst e0_
              exact x_r1 () Try.results108 (zae rfl) rfl (fun w h => za6 [] (by decide) rfl w h)
            · skip
              replace h := bb_f hb52 h
              refine zal ?_
              refine zau ?_
              refine za1 ?_
              refine za0 ?_
              refine o_q rfl rfl (q_up rfl rfl (hr15.up hm16)) ?_
              refine o_q rfl rfl (za2 rfl) ?_
              refine o_end ?_
              refine zas ys13.length (ys13, i11 + 1) (by rw [← hk21]; exact Nat.lt_succ_self _) ⟨hr15.step, rfl, h⟩ ⟨rfl, trivial⟩ (fun w h => za6 [0] (by decide) rfl w h) ?_
              repeat (first | exact zad _ _ | refine zai rfl ?_ | refine zaf rfl ?_ | refine zaj rfl ?_)
    · replace h := bb_f hb8 h
      refine @o_n _ _ _ _ _ _ _ _ _ _ _ 19 (za3 rfl rfl rfl (congrArg (fun b => Value.bool (!(b))) hb8) rfl) (Eq.refl (some 19)) ?_
      refine @o_n _ _ _ _ _ _ _ _ _ _ _ 20 (za3 rfl rfl rfl (congrArg (fun b => Value.bool (!(b))) hb8) rfl) (Eq.refl (some 20)) ?_
      refine @o_n _ _ _ _ _ _ _ _ _ _ _ 21 (za3 rfl rfl rfl (congrArg (fun b => Value.bool (!(b))) hb8) rfl) (Eq.refl (some 21)) ?_
      refine @o_n _ _ _ _ _ _ _ _ _ _ _ 22 (za3 rfl rfl rfl (congrArg (fun b => Value.bool (!(b))) hb8) rfl) (Eq.refl (some 22)) ?_
      refine o_q rfl rfl (zao true (congrArg (fun b => Value.bool (!(b))) hb8) rfl) ?_
      refine o_q rfl rfl (za2 rfl) ?_
      refine @o_n _ _ _ _ _ _ _ _ _ _ _ 25 (za3 rfl rfl rfl rfl rfl) (Eq.refl (some 25)) ?_
      refine @o_n _ _ _ _ _ _ _ _ _ _ _ 26 (za3 rfl rfl rfl rfl rfl) (Eq.refl (some 26)) ?_
      refine @o_n _ _ _ _ _ _ _ _ _ _ _ 27 (za3 rfl rfl rfl rfl rfl) (Eq.refl (some 27)) ?_
      refine @o_n _ _ _ _ _ _ _ _ _ _ _ 28 (za3 rfl rfl rfl rfl rfl) (Eq.refl (some 28)) ?_
      refine o_q rfl rfl (zao true rfl rfl) ?_
      refine o_end ?_
      refine za1 ?_
      refine c_true rfl ?_
      refine c_seq ?_
      refine za0 ?_
      refine o_q rfl rfl (q_asg rfl) ?_
      refine o_end ?_
      refine za1 ?_
      refine c_ret ?_
      refine za5 ?_
      have e0_ := Option.some.inj h; clear h
      subst e0_
      exact x_r1 () Try.results108 (zae rfl) rfl (fun w h => za6 [] (by decide) rfl w h)
  · replace h := bb_f hb5 h
    refine @o_n _ _ _ _ _ _ _ _ _ _ _ 12 (za3 rfl rfl rfl (congrArg (fun b => Value.bool (!(b))) hb5) rfl) (Eq.refl (some 12)) ?_
    refine @o_n _ _ _ _ _ _ _ _ _ _ _ 13 (za3 rfl rfl rfl (congrArg (fun b => Value.bool (!(b))) hb5) rfl) (Eq.refl (some 13)) ?_
    refine @o_n _ _ _ _ _ _ _ _ _ _ _ 14 (za3 rfl rfl rfl (congrArg (fun b => Value.bool (!(b))) hb5) rfl) (Eq.refl (some 14)) ?_
    refine @o_n _ _ _ _ _ _ _ _ _ _ _ 15 (za3 rfl rfl rfl (congrArg (fun b => Value.bool (!(b))) hb5) rfl) (Eq.refl (some 15)) ?_
    refine @o_n _ _ _ _ _ _ _ _ _ _ _ 16 (za3 rfl rfl rfl (congrArg (fun b => Value.bool (!(b))) hb5) rfl) (Eq.refl (some 16)) ?_
    refine o_q rfl rfl (zao true (congrArg (fun b => Value.bool (!(b))) hb5) rfl) ?_
    refine o_q rfl rfl (za2 rfl) ?_
    refine @o_n _ _ _ _ _ _ _ _ _ _ _ 19 (za3 rfl rfl rfl rfl rfl) (Eq.refl (some 19)) ?_
    refine @o_n _ _ _ _ _ _ _ _ _ _ _ 20 (za3 rfl rfl rfl rfl rfl) (Eq.refl (some 20)) ?_
    refine @o_n _ _ _ _ _ _ _ _ _ _ _ 21 (za3 rfl rfl rfl rfl rfl) (Eq.refl (some 21)) ?_
    refine @o_n _ _ _ _ _ _ _ _ _ _ _ 22 (za3 rfl rfl rfl rfl rfl) (Eq.refl (some 22)) ?_
    refine o_q rfl rfl (zao true rfl rfl) ?_
    refine o_q rfl rfl (za2 rfl) ?_
    refine @o_n _ _ _ _ _ _ _ _ _ _ _ 25 (za3 rfl rfl rfl rfl rfl) (Eq.refl (some 25)) ?_
    refine @o_n _ _ _ _ _ _ _ _ _ _ _ 26 (za3 rfl rfl rfl rfl rfl) (Eq.refl (some 26)) ?_
    refine @o_n _ _ _ _ _ _ _ _ _ _ _ 27 (za3 rfl rfl rfl rfl rfl) (Eq.refl (some 27)) ?_
    refine @o_n _ _ _ _ _ _ _ _ _ _ _ 28 (za3 rfl rfl rfl rfl rfl) (Eq.refl (some 28)) ?_
    refine o_q rfl rfl (zao true rfl rfl) ?_
    refine o_end ?_
    refine za1 ?_
    refine c_true rfl ?_
    refine c_seq ?_
    refine za0 ?_
    refine o_q rfl rfl (q_asg rfl) ?_
    refine o_end ?_
    refine za1 ?_
    refine c_ret ?_
    refine za5 ?_
    have e0_ := Option.some.inj h; clear h
    subst e0_
    exact x_r1 () Try.results108 (zae rfl) rfl (fun w h => za6 [] (by decide) rfl w h)

/-! ### loop.example/g01098/spec.l1Least: function 138 -/
def spec_l1Least.f (a0 : Int) (a1 : Int) : Option Int := if a0 < a1 then (some a0) else (some a1)
set_option maxHeartbeats 600000 in
set_option maxRecDepth 100000 in
theorem spec_l1Least.calls {w0 ws : World} {P0 : Nat → Prop} (a0 : Int) (a1 : Int) (Z : Below w0.heap.size w0 ws) (hF : Fr w0 ws P0 [] ws)  (r_1 : Int) (h : spec_l1Least.f a0 a1 = some r_1) :
    Calls Try.prog 138 #[.int .i64 a0, .int .i64 a1] ws (Post1 w0 ws P0 (fun (_ : Unit) => .int .i64 r_1) (fun (_ : Unit) => [])) := by
  unfold spec_l1Least.f at h
  refine enter Try.func138 rfl Try.ntmps138 rfl hF ?_
  refine c_seq ?_
  refine za0 ?_
  refine o_q rfl rfl (q_asg rfl) ?_
  refine o_end ?_
  refine za1 ?_
  refine c_seq ?_
  refine c_seq ?_
  refine za0 ?_
  refine o_q rfl rfl (za2 rfl) ?_
  refine o_q rfl rfl (za2 rfl) ?_
  refine o_q rfl rfl (q_lss rfl rfl) ?_
  refine o_end ?_
  refine za1 ?_
  refine zaq _ rfl (fun hb1 => ?_) (fun hb1 => ?_)
  · skip
    replace h := br_t hb1 h
    refine c_seq ?_
    refine za0 ?_
    refine o_q rfl rfl (za2 rfl) ?_
    refine o_q rfl rfl (q_asg rfl) ?_
    refine o_end ?_
    refine za1 ?_
    refine c_ret ?_
    refine za5 ?_
    have e0_ := Option.some.inj h; clear h
    subst e0_
    exact x_r1 () Try.results138 (zae rfl) rfl (fun w h => za6 [] (by decide) rfl w h)
  · skip
    replace h := br_f hb1 h
    refine zal ?_
    refine za1 ?_
    refine c_seq ?_
    refine za0 ?_
    refine o_q rfl rfl (za2 rfl) ?_
    refine o_q rfl rfl (q_asg rfl) ?_
    refine o_end ?_
    refine za1 ?_
    refine c_ret ?_
    have e0_ := Option.some.inj h; clear h
    subst e0_
    exact x_r1 () Try.results138 (zae rfl) rfl (fun w h => za6 [] (by decide) rfl w h)

/-! ### loop.example/g01098/spec.l1Most: function 117 -/
def spec_l1Most.f (a0 : Int) (a1 : Int) : Option Int := if a1 < a0 then (some a0) else (some a1)
set_option maxHeartbeats 600000 in
set_option maxRecDepth 100000 in
theorem spec_l1Most.calls {w0 ws : World} {P0 : Nat → Prop} (a0 : Int) (a1 : Int) (Z : Below w0.heap.size w0 ws) (hF : Fr w0 ws P0 [] ws)  (r_1 : Int) (h : spec_l1Most.f a0 a1 = some r_1) :
    Calls Try.prog 117 #[.int .i64 a0, .int .i64 a1] ws (Post1 w0 ws P0 (fun (_ : Unit) => .int .i64 r_1) (fun (_ : Unit) => [])) := by
  unfold spec_l1Most.f at h
  refine enter Try.func117 rfl Try.ntmps117 rfl hF ?_
  refine c_seq ?_
  refine za0 ?_
  refine o_q rfl rfl (q_asg rfl) ?_
  refine o_end ?_
  refine za1 ?_
  refine c_seq ?_
  refine c_seq ?_
  refine za0 ?_
  refine o_q rfl rfl (za2 rfl) ?_
  refine o_q rfl rfl (za2 rfl) ?_
  refine o_q rfl rfl (q_gtr rfl rfl) ?_
  refine o_end ?_
  refine za1 ?_
  refine zaq _ rfl (fun hb1 => ?_) (fun hb1 => ?_)
  · skip
    replace h := br_t hb1 h
    refine c_seq ?_
    refine za0 ?_
    refine o_q rfl rfl (za2 rfl) ?_
    refine o_q rfl rfl (q_asg rfl) ?_
    refine o_end ?_
    refine za1 ?_
    refine c_ret ?_
    refine za5 ?_
    have e0_ := Option.some.inj h; clear h
    subst e0_
    exact x_r1 () Try.results117 (zae rfl) rfl (fun w h => za6 [] (by decide) rfl w h)
  · skip
    replace h := br_f hb1 h
    refine zal ?_
    refine za1 ?_
    refine c_seq ?_
    refine za0 ?_
    refine o_q rfl rfl (za2 rfl) ?_
    refine o_q rfl rfl (q_asg rfl) ?_
    refine o_end ?_
    refine za1 ?_
    refine c_ret ?_
    have e0_ := Option.some.inj h; clear h
    subst e0_
    exact x_r1 () Try.results117 (zae rfl) rfl (fun w h => za6 [] (by decide) rfl w h)

/-! ### loop.example/g01098/spec.plStep: function 118 -/
def spec_plStep.f (a0 : Int) (a1 : Int) : Option SStep := (spec_l1Least.f a0 a1).bind fun i4 => (spec_l1Most.f a0 a1).bind fun i6 => some (⟨i4, i6⟩ : SStep)
set_option maxHeartbeats 600000 in
set_option maxRecDepth 100000 in
theorem spec_plStep.calls {w0 ws : World} {P0 : Nat → Prop} (a0 : Int) (a1 : Int) (Z : Below w0.heap.size w0 ws) (hF : Fr w0 ws P0 [] ws)  (r_1 : SStep) (h : spec_plStep.f a0 a1 = some r_1) :
    Calls Try.prog 118 #[.int .i64 a0, .int .i64 a1] ws (Post1 w0 ws P0 (fun (_ : Unit) => .agg #[.int .i64 r_1.f0, .int .i64 r_1.f1]) (fun (_ : Unit) => [])) := by
  unfold spec_plStep.f at h
  refine enter Try.func118 rfl Try.ntmps118 rfl hF ?_
  refine c_seq ?_
  refine za0 ?_
  refine o_e rfl (zar V117 rfl) (fun g1 => ?_)
  refine o_end ?_
  refine za1 ?_
  refine c_seq ?_
  refine za0 ?_
  refine o_q rfl rfl (za2 rfl) ?_
  refine o_q rfl rfl (za2 rfl) ?_
  refine za7 h (fun i4 hx3 h => ?_) rfl
  refine o_e rfl (zab 0 Z Try.func138 N138 rfl rfl rfl (fun w P1 hF hB hS hT => spec_l1Least.calls a0 a1 hB hF _ hx3)) (fun _ => ?_)
  refine o_q rfl rfl (za2 rfl) ?_
  refine o_q rfl rfl (za2 rfl) ?_
  refine za7 h (fun i6 hx5 h => ?_) rfl
  refine o_e rfl (zab 0 Z Try.func117 N117 rfl rfl rfl (fun w P1 hF hB hS hT => spec_l1Most.calls a0 a1 hB hF _ hx5)) (fun _ => ?_)
  refine o_q rfl rfl (q_build (vs := [(0, .int .i64 i4), (1, .int .i64 i6)]) (cs := [.int .i64 i4, .int .i64 i6]) rfl rfl) ?_
  refine o_e rfl (zam (i := 0) rfl rfl rfl Z117 rfl rfl) (fun _ => ?_)
  refine o_end ?_
  refine za1 ?_
  refine c_ret ?_
  have e0_ := Option.some.inj h; clear h
  subst e0_
  exact x_r1 () Try.results118 (rv_cell rfl G117 Z117 (fun w h => h.za9 (i := 0) rfl) rfl) rfl (fun w h => za6 [] (by decide) rfl w h)

/-! ### loop.example/g01098/spec.reValues: function 109 -/
def spec_reValues.l2 (l0_1 : List Int) : (List SRegOp) → (List Int) → (List SStep) → Int → Option (((List Int) × (List SStep) × Bool) ⊕ ((List Int) × (List SStep)))
  | [], l41, l42, i45 => some (.inr (l41, l42))
  | y46 :: ys47, l41, l42, i45 => ((gt l41 y46.f1).bind fun y74 => if y74 < 0 then (some true) else ((gt l41 y46.f2).bind fun y77 => some (decide (y77 < 0)))).bind fun b66 => if b66 = true then (some (.inl (([] : List Int), ([] : List SStep), false))) else ((gt l41 y46.f1).bind fun y81 => (gt l41 y46.f2).bind fun y83 => (spec_plStep.f y81 y83).bind fun z85 => (ap l42 ([z85] : List SStep)).bind fun l89 => (gt l41 y46.f0).bind fun y94 => (st l41 y46.f0 (w64 (w64 ((l0_1.length : Int) + (l89.length : Int)) - 1))).bind fun l95 => spec_reValues.l2 l0_1 ys47 l95 l89 (i45 + 1))
def spec_reValues.l1 : (List Int) → (List Int) → Int → Option (List Int)
  | [], l26, i27 => some l26
  | y28 :: ys29, l26, i27 => (gt l26 y28).bind fun y100 => (st l26 y28 i27).bind fun l101 => spec_reValues.l1 ys29 l101 (i27 + 1)
def spec_reValues.l0 (a0_0 : Int) : Nat → (List Int) → Int → Option (List Int)
  | 0, _, _ => none
  | k10 + 1, l4, i7 => if i7 < a0_0 then ((ap l4 ([(-1)] : List Int)).bind fun l22 => spec_reValues.l0 a0_0 k10 l22 (w64 (i7 + 1))) else (some l4)
def spec_reValues.f (k : Nat) (a0_0 : Int) (l0_1 : List Int) (l0_2 : List SRegOp) (l0_3 : List Int) (a1 : Int) : Option ((List Int) × (List SStep) × Bool) := (spec_reValues.l0 a0_0 k ([] : List Int) 0).bind fun l4 => (spec_reValues.l1 l0_1 l4 0).bind fun l26 => (ct l0_2 (0 : Int) a1).bind fun l38 => (spec_reValues.l2 l0_1 l38 l26 ([] : List SStep) 0).bind fun o_ => match o_ with | .inl r_ => some r_ | .inr (l41, l42) => some (l41, l42, true)
set_option maxHeartbeats 600000 in
set_option maxRecDepth 100000 in
theorem spec_reValues.calls (k : Nat) {w0 ws : World} {P0 : Nat → Prop} (a0_0 : Int) (A0_1 : Option Addr) (c0_1 : Nat) (n0_1 : Nat) (l0_1 : List Int) (A0_2 : Option Addr) (c0_2 : Nat) (n0_2 : Nat) (l0_2 : List SRegOp) (A0_3 : Option Addr) (c0_3 : Nat) (n0_3 : Nat) (l0_3 : List Int) (a1 : Int) (Z : Below w0.heap.size w0 ws) (hF : Fr w0 ws P0 [] ws) (R0_1 : Stable ws P0 (fun w => Kd.C (Kd.int .i64) w A0_1 n0_1 l0_1)) (hc0_1 : n0_1 ≤ c0_1) (R0_2 : Stable ws P0 (fun w => Kd.C zat w A0_2 n0_2 l0_2)) (hc0_2 : n0_2 ≤ c0_2) (R0_3 : Stable ws P0 (fun w => Kd.C (Kd.int .i64) w A0_3 n0_3 l0_3)) (hc0_3 : n0_3 ≤ c0_3) (r_1 : List Int) (r_4 : List SStep) (r_7 : Bool) (h : spec_reValues.f k a0_0 l0_1 l0_2 l0_3 a1 = some (r_1, r_4, r_7)) :
    Calls Try.prog 109 #[.agg #[.int .i64 a0_0, .slice A0_1 n0_1 c0_1, .slice A0_2 n0_2 c0_2, .slice A0_3 n0_3 c0_3], .int .i64 a1] ws (Post1 w0 ws P0 (fun ((q_2, q_3, q_5, q_6) : (Option Addr) × Nat × (Option Addr) × Nat) => .tuple #[.slice q_2 r_1.length q_3, .slice q_5 r_4.length q_6, .bool r_7]) (fun ((q_2, q_3, q_5, q_6) : (Option Addr) × Nat × (Option Addr) × Nat) => [row (Kd.int .i64) 3 (.slice q_2 r_1.length q_3) r_1, row kStep 117 (.slice q_5 r_4.length q_6) r_4])) := by
  unfold spec_reValues.f at h
  obtain rfl := (R0_1 ws (KeptB.refl _ _)).1
  obtain rfl := (R0_2 ws (KeptB.refl _ _)).1
  obtain rfl := (R0_3 ws (KeptB.refl _ _)).1
  refine enter Try.func109 rfl Try.ntmps109 rfl hF ?_
  refine c_seq ?_
  refine za0 ?_
  refine o_e rfl (e_box rfl) (fun g1 => ?_)
  refine o_q rfl rfl (q_asg rfl) ?_
  refine o_q rfl rfl (q_asg rfl) ?_
  refine o_q rfl rfl (q_asg rfl) ?_
  refine o_end ?_
  refine za1 ?_
  refine c_seq ?_
  refine za0 ?_
  refine o_q rfl rfl (q_asg rfl) ?_
  refine o_end ?_
  refine za1 ?_
  refine c_seq ?_
  refine c_seq ?_
  refine za0 ?_
  refine o_q rfl rfl (q_asg rfl) ?_
  refine o_end ?_
  refine za1 ?_
  refine zak ?_
  refine c_nil (Kd.int .i64) 3 ?_
  refine za7 h (fun o15 hl14 hR13 => ?_) rfl
  clear h
  refine zaz (σ := (List Int) × Int × (Option Addr) × Nat) (fun k10 ((l4, i7, A5, c6) : (List Int) × Int × (Option Addr) × Nat) => spec_reValues.l0 a0_0 k10 l4 i7 = some o15) [7, 8, 14, 15, 16, 17, 18, 19, 20, 21, 22] (fun ((l4, i7, A5, c6) : (List Int) × Int × (Option Addr) × Nat) => [(7, .slice A5 l4.length c6), (8, .int .i64 i7)]) (fun ((l4, i7, A5, c6) : (List Int) × Int × (Option Addr) × Nat) => [row (Kd.int .i64) 3 (.slice A5 l4.length c6) l4, box g1 29 #[.int .i64 a0_0, .slice A0_1 l0_1.length c0_1, .slice A0_2 l0_2.length c0_2, .slice A0_3 l0_3.length c0_3]]) k (([] : List Int), 0, none, 0) hl14 ⟨rfl, rfl, trivial⟩ (fun w h => h) ?_
  refine natC (cur4 (fun l4 i7 A5 c6 => fun U16 hJ_ => ?_)) (fun k10 => (cur4 (fun l4 i7 A5 c6 => fun U16 hJ_ => ?_)))
  · skip
    replace hJ_ : spec_reValues.l0 a0_0 0 l4 i7 = some o15 := hJ_
    rw [spec_reValues.l0] at hJ_
    exact noneE hJ_
  · skip
    clear hl14
    have h := hJ_; clear hJ_
    replace h : spec_reValues.l0 a0_0 (k10 + 1) l4 i7 = some o15 := h
    rw [spec_reValues.l0] at h
    refine c_seq ?_
    refine c_seq ?_
    refine za0 ?_
    refine o_q rfl rfl (za2 rfl) ?_
    refine o_q rfl rfl (q_f F29_0 rfl) ?_
    refine o_q rfl rfl (q_ldb Y3 rfl (fun w h => h.za9 (i := 1) rfl) rfl) ?_
    refine o_q rfl rfl (q_lss rfl rfl) ?_
    refine o_end ?_
    refine za1 ?_
    refine zaq _ rfl (fun hb18 => ?_) (fun hb18 => ?_)
    · skip
      replace h := br_t hb18 h
      refine zal ?_
      refine za1 ?_
      refine c_seq ?_
      refine zak ?_
      refine za0 ?_
      refine o_q rfl rfl (za2 rfl) ?_
      refine o_e rfl (e_lit (vs := [(0, .int .i64 (-1))]) (cs := [.int .i64 (-1)]) (Kd.int .i64) ([(-1)] : List Int) Try.underlying22 I3 (by decide) rfl (by decide) rfl rfl (fun _ _ => Kd.zb1 _)) (cur2 (fun A19 c20 => ?_))
      refine za7 h (fun l22 ha23 h => ?_) rfl
      refine o_e rfl (e_app (i := 1) (j := 0) Try.underlying22 I3 rfl (by decide) (by decide) rfl rfl rfl rfl rfl ha23) (cur2 (fun A24 c25 => ?_))
      refine o_q rfl rfl (q_asg rfl) ?_
      refine o_end ?_
      refine zau ?_
      refine za1 ?_
      refine za0 ?_
      refine o_q rfl rfl (za2 rfl) ?_
      refine o_q rfl rfl (q_add64 rfl rfl) ?_
      refine o_q rfl rfl (q_asg rfl) ?_
      refine o_end ?_
      refine zas k10 (l22, w64 (i7 + 1), A24, c25) (Nat.lt_succ_self _) h ⟨rfl, rfl, trivial⟩ (fun w h => za6 [1, 2] (by decide) rfl w h) ?_
      repeat (first | exact zad _ _ | refine zai rfl ?_ | refine zaf rfl ?_ | refine zaj rfl ?_)
    · skip
      replace h := br_f hb18 h
      refine c_exit ?_
      refine za8 ?_
      refine za8 ?_
      have e_ := Option.some.inj h; replace h := hR13; rw [← e_] at h; clear e_
      refine x_hit ?_
      refine za1 ?_
      refine c_seq ?_
      refine c_seq ?_
      refine za0 ?_
      refine o_q rfl rfl (q_f F29_1 rfl) ?_
      refine o_q rfl rfl (q_ldb Y22 rfl (fun w h => h.za9 (i := 1) rfl) rfl) ?_
      refine o_q rfl rfl (q_len Try.underlying22 rfl) ?_
      refine o_q rfl rfl (za2 rfl) ?_
      refine o_end ?_
      refine za1 ?_
      refine zak ?_
      refine za7 h (fun o35 hl34 hR33 => ?_) rfl
      clear h
      refine c_fact (p := l0_1.length ≤ 9223372036854775807) (fun w h => (R0_1.now Z h).2.1) (fun hm32 => ?_)
      refine zaz (σ := (List Int) × (List Int) × Int) (fun k30 ((ys29, l26, i27) : (List Int) × (List Int) × Int) => Rg l0_1 i27 ys29 ∧ ys29.length = k30 ∧ spec_reValues.l1 ys29 l26 i27 = some o35) [9, 10, 26, 27, 28, 29, 30, 31, 32, 33, 34, 35] (fun ((ys29, l26, i27) : (List Int) × (List Int) × Int) => [(26, .int .i64 i27)]) (fun ((ys29, l26, i27) : (List Int) × (List Int) × Int) => [row (Kd.int .i64) 3 (.slice A5 l4.length c6) l26, box g1 29 #[.int .i64 a0_0, .slice A0_1 l0_1.length c0_1, .slice A0_2 l0_2.length c0_2, .slice A0_3 l0_3.length c0_3]]) l0_1.length (l0_1, l4, 0) ⟨Rg.start _, rfl, hl34⟩ ⟨rfl, trivial⟩ (fun w h => h) ?_
      refine fun k30 => cur3 (listC (fun l26 i27 U36 hJ_ => ?_) (fun y28 ys29 l26 i27 U36 hJ_ => ?_))
      · skip
        clear hl34
        have hr31 := hJ_.1; have hk37 := hJ_.2.1; have h := hJ_.2.2; clear hJ_
        replace h : spec_reValues.l1 [] l26 i27 = some o35 := h
        rw [spec_reValues.l1] at h
        refine c_seq ?_
        refine za0 ?_
        refine o_q rfl rfl (q_lss rfl rfl) ?_
        refine o_end ?_
        refine za1 ?_
        refine c_seq ?_
        refine c_false (congrArg Value.bool hr31.ge) ?_
        refine c_exit ?_
        refine za8 ?_
        refine za8 ?_
        have e_ := Option.some.inj h; replace h := hR33; rw [← e_] at h; clear e_
        refine x_hit ?_
        refine za1 ?_
        refine c_seq ?_
        refine za0 ?_
        refine o_q rfl rfl (q_asg rfl) ?_
        refine o_end ?_
        refine za1 ?_
        refine c_seq ?_
        refine c_seq ?_
        refine za0 ?_
        refine o_q rfl rfl (q_f F29_2 rfl) ?_
        refine o_q rfl rfl (q_ldb Y27 rfl (fun w h => h.za9 (i := 1) rfl) rfl) ?_
        refine o_q rfl rfl (za2 rfl) ?_
        refine za7 h (fun l38 hz39 h => ?_) rfl
        refine o_q rfl rfl (q_ctv Try.underlying27 Z56 rfl rfl ⟨_, rfl⟩ rfl hc0_2 hz39) ?_
        refine o_q rfl rfl (q_len Try.underlying27 rfl) ?_
        refine o_q rfl rfl (za2 rfl) ?_
        refine o_end ?_
        refine za1 ?_
        refine zak ?_
        refine c_nil kStep 117 ?_
        refine za7 h (fun o53 hl52 hR51 => ?_) rfl
        clear h
        refine c_fact (p := l38.length ≤ 9223372036854775807) (fun w h => (C_cut (dk := zat) rfl hz39 hc0_2 (R0_2.now Z h)).2.1) (fun hm50 => ?_)
        refine zaz (σ := (List SRegOp) × (List Int) × (List SStep) × Int × (Option Addr) × Nat) (fun k48 ((ys47, l41, l42, i45, A43, c44) : (List SRegOp) × (List Int) × (List SStep) × Int × (Option Addr) × Nat) => Rg l38 i45 ys47 ∧ ys47.length = k48 ∧ spec_reValues.l2 l0_1 ys47 l41 l42 i45 = some o53) [4, 5, 6, 11, 13, 41, 42, 43, 44, 45, 46, 47, 48, 49, 50, 51, 52, 53, 54, 55, 56, 57, 58, 59, 60, 61, 62, 63, 64, 65, 66, 67, 68, 69, 70, 71, 72, 73, 74, 75, 76, 77, 78, 79, 80, 81, 82, 83, 84] (fun ((ys47, l41, l42, i45, A43, c44) : (List SRegOp) × (List Int) × (List SStep) × Int × (Option Addr) × Nat) => [(11, .slice A43 l42.length c44), (41, .int .i64 i45)]) (fun ((ys47, l41, l42, i45, A43, c44) : (List SRegOp) × (List Int) × (List SStep) × Int × (Option Addr) × Nat) => [row kStep 117 (.slice A43 l42.length c44) l42, row (Kd.int .i64) 3 (.slice A5 l4.length c6) l41, box g1 29 #[.int .i64 a0_0, .slice A0_1 l0_1.length c0_1, .slice A0_2 l0_2.length c0_2, .slice A0_3 l0_3.length c0_3]]) l38.length (l38, l26, ([] : List SStep), 0, none, 0) ⟨Rg.start _, rfl, hl52⟩ ⟨rfl, rfl, trivial⟩ (fun w h => h) ?_
        refine fun k48 => cur6 (listC (fun l41 l42 i45 A43 c44 U54 hJ_ => ?_) (fun y46 ys47 l41 l42 i45 A43 c44 U54 hJ_ => ?_))
        · skip
          clear hl52
          have hr49 := hJ_.1; have hk55 := hJ_.2.1; have h := hJ_.2.2; clear hJ_
          replace h : spec_reValues.l2 l0_1 [] l41 l42 i45 = some o53 := h
          rw [spec_reValues.l2] at h
          refine c_seq ?_
          refine za0 ?_
          refine o_q rfl rfl (q_lss rfl rfl) ?_
          refine o_end ?_
          refine za1 ?_
          refine c_seq ?_
          refine c_false (congrArg Value.bool hr49.ge) ?_
          refine c_exit ?_
          refine za8 ?_
          refine za8 ?_
          have e_ := Option.some.inj h; replace h := hR51; rw [← e_] at h; clear e_
          refine x_hit ?_
          refine za1 ?_
          refine c_seq ?_
          refine za0 ?_
          refine o_q rfl rfl (za2 rfl) ?_
          refine o_q rfl rfl (za2 rfl) ?_
          refine o_q rfl rfl (q_asg rfl) ?_
          refine o_q rfl rfl (q_asg rfl) ?_
          refine o_q rfl rfl (q_asg rfl) ?_
          refine o_end ?_
          refine za1 ?_
          refine c_ret ?_
          refine x_fact (p := l4.length = l41.length) (fun w h => (h.row_C (i := 1) rfl).2.1) (fun hn56 => ?_)
          have e0_ := Option.some.inj h; clear h
          have d0_ := (Prod.mk.inj e0_).1; have e1_ := (Prod.mk.inj e0_).2; clear e0_; subst d0_
          have d1_ := (Prod.mk.inj e1_).1; have e2_ := (Prod.mk.inj e1_).2; clear e1_; subst d1_
          subst e2_
          exact x_r3 (A5, c6, A43, c44) Try.results109 (zae (v := .slice A5 l4.length c6) rfl) (zae (v := .slice A43 l42.length c44) rfl) (zae (v := .bool true) rfl) (by (try rw [hn56]); first | done | rfl) (f_pickE (L1 := [row kStep 117 (.slice A43 l42.length c44) l42, row (Kd.int .i64) 3 (.slice A5 l4.length c6) l41, box g1 29 #[.int .i64 a0_0, .slice A0_1 l0_1.length c0_1, .slice A0_2 l0_2.length c0_2, .slice A0_3 l0_3.length c0_3]]) rfl [1, 0] (by decide) rfl (by (try rw [hn56]); first | done | rfl))
        · skip
          clear hl52
          have hr49 := hJ_.1; have hk55 := hJ_.2.1; have h := hJ_.2.2; clear hJ_
          replace h : spec_reValues.l2 l0_1 (y46 :: ys47) l41 l42 i45 = some o53 := h
          rw [spec_reValues.l2] at h
          refine c_seq ?_
          refine za0 ?_
          refine o_q rfl rfl (q_lss rfl rfl) ?_
          refine o_end ?_
          refine za1 ?_
          refine c_seq ?_
          refine c_true (congrArg Value.bool hr49.lt) ?_
          refine zal ?_
          refine za1 ?_
          refine c_seq ?_
          refine zak ?_
          refine c_seq ?_
          refine za0 ?_
          refine zb0 (p := Sh (cutA A0_2 c0_2 (0 : Int).toNat 3) l38.length l38.length) (fun w h => f_sh (dk := zat) h (fun w h => C_cut (dk := zat) rfl hz39 hc0_2 (R0_2.now Z h))) (fun hq57 => ?_)
          refine o_q rfl rfl (q_ix Try.underlying27 Z56 rfl rfl hq57 hr49.get) ?_
          refine o_q rfl rfl (q_ldE G56 Z56 rfl rfl (fun w h => C_cut (dk := zat) rfl hz39 hc0_2 (R0_2.now Z h)) hr49.get (fun _ _ h => h) rfl) ?_
          refine o_e rfl (zar V56 rfl) (fun g58 => ?_)
          refine o_e rfl (zam (i := 0) rfl rfl rfl Z56 rfl rfl) (fun _ => ?_)
          refine o_end ?_
          refine za1 ?_
          refine c_seq ?_
          refine za7 h (fun o67 hl68 hR69 => ?_) rfl
          clear h
          refine c_cutJ (σ := Bool) (fun b66 => some b66 = some o67) [45, 46, 47, 48, 49, 50, 51, 52, 53, 54, 55, 56, 57, 58] (fun b66 => [(58, .bool b66)]) (fun b66 => [box g1 29 #[.int .i64 a0_0, .slice A0_1 l0_1.length c0_1, .slice A0_2 l0_2.length c0_2, .slice A0_3 l0_3.length c0_3], row (Kd.int .i64) 3 (.slice A5 l4.length c6) l41, row kStep 117 (.slice A43 l42.length c44) l42, box g58 56 #[.int .i64 y46.f0, .int .i64 y46.f1, .int .i64 y46.f2]]) ?_ ?_
          · skip
            have h := hl68; clear hl68
            clear hR69
            refine za0 ?_
            refine o_q rfl rfl (za2 rfl) ?_
            refine o_q rfl rfl (q_f F56_1 rfl) ?_
            refine o_q rfl rfl (q_ldb Y3 rfl (fun w h => h.za9 (i := 0) rfl) rfl) ?_
            refine zb0 (p := Sh A5 l4.length l41.length) (fun w h => f_sh (dk := (Kd.int .i64)) h (fun w h => h.zav (i := 2) rfl)) (fun hq72 => ?_)
            refine za7 h (fun y74 hg73 h => ?_) rfl
            refine o_q rfl rfl (q_ix Try.underlying22 Z3 rfl rfl hq72 hg73) ?_
            refine o_q rfl rfl (q_lde (off := 0) Y3 rfl rfl (fun w h => h.zav (i := 2) rfl) hg73 (fun _ _ h => h) rfl) ?_
            refine o_q rfl rfl (q_lss rfl rfl) ?_
            refine o_q rfl rfl (za2 rfl) ?_
            refine byB (decide (y74 < 0)) (fun hb75 => ?_) (fun hb75 => ?_)
            · replace h := br_t hb75 h
              refine @o_n _ _ _ _ _ _ _ _ _ _ _ 52 (za3 rfl rfl rfl (congrArg Value.bool hb75) rfl) (Eq.refl (some 52)) ?_
              refine @o_n _ _ _ _ _ _ _ _ _ _ _ 53 (za3 rfl rfl rfl (congrArg Value.bool hb75) rfl) (Eq.refl (some 53)) ?_
              refine @o_n _ _ _ _ _ _ _ _ _ _ _ 54 (za3 rfl rfl rfl (congrArg Value.bool hb75) rfl) (Eq.refl (some 54)) ?_
              refine @o_n _ _ _ _ _ _ _ _ _ _ _ 55 (za3 rfl rfl rfl (congrArg Value.bool hb75) rfl) (Eq.refl (some 55)) ?_
              refine @o_n _ _ _ _ _ _ _ _ _ _ _ 56 (za3 rfl rfl rfl (congrArg Value.bool hb75) rfl) (Eq.refl (some 56)) ?_
              refine @o_n _ _ _ _ _ _ _ _ _ _ _ 57 (za3 rfl rfl rfl (congrArg Value.bool hb75) rfl) (Eq.refl (some 57)) ?_
              refine o_q rfl rfl (zao true (congrArg Value.bool hb75) rfl) ?_
              refine o_end ?_
              refine zaw true h ⟨rfl, trivial⟩ (fun w h => za6 [3, 2, 1, 0] (by decide) rfl w h) ?_
              repeat (first | exact zad _ _ | refine zai rfl ?_ | refine zaf rfl ?_ | refine zaj rfl ?_)
            · replace h := br_f hb75 h
              refine o_w (za4 rfl rfl rfl (congrArg Value.bool hb75)) rfl (za2 rfl) ?_
              refine o_w (za4 rfl rfl rfl (congrArg Value.bool hb75)) rfl (q_f F56_2 rfl) ?_
              refine o_w (za4 rfl rfl rfl (congrArg Value.bool hb75)) rfl (q_ldb Y3 rfl (fun w h => h.za9 (i := 0) rfl) rfl) ?_
              refine za7 h (fun y77 hg76 h => ?_) rfl
              refine o_w (za4 rfl rfl rfl (congrArg Value.bool hb75)) rfl (q_ix Try.underlying22 Z3 rfl rfl hq72 hg76) ?_
              refine o_w (za4 rfl rfl rfl (congrArg Value.bool hb75)) rfl (q_lde (off := 0) Y3 rfl rfl (fun w h => h.zav (i := 2) rfl) hg76 (fun _ _ h => h) rfl) ?_
              refine o_w (za4 rfl rfl rfl (congrArg Value.bool hb75)) rfl (q_lss rfl rfl) ?_
              refine o_q rfl rfl (zao false (congrArg Value.bool hb75) rfl) ?_
              refine o_end ?_
              refine zaw (decide (y77 < 0)) h ⟨rfl, trivial⟩ (fun w h => za6 [3, 2, 1, 0] (by decide) rfl w h) ?_
              repeat (first | exact zad _ _ | refine zai rfl ?_ | refine zaf rfl ?_ | refine zaj rfl ?_)
          · skip
            refine (fun b66 => fun U70 hJ71 => ?_)
            have e_ := Option.some.inj hJ71; have h := hR69; rw [← e_] at h; clear e_ hJ71 hR69 hl68
            refine zaq _ rfl (fun hb78 => ?_) (fun hb78 => ?_)
            · skip
              replace h := bb_t hb78 h
              refine c_seq ?_
              refine za0 ?_
              refine o_q rfl rfl (q_asg rfl) ?_
              refine o_q rfl rfl (q_asg rfl) ?_
              refine o_q rfl rfl (q_asg rfl) ?_
              refine o_end ?_
              refine za1 ?_
              refine c_ret ?_
              refine za5 ?_
              refine zah ?_
              refine za5 ?_
              refine za5 ?_
              have e_ := Option.some.inj h; replace h := hR51; rw [← e_] at h; clear e_
              refine zah ?_
              refine za5 ?_
              refine x_nil (Kd.int .i64) 3 ?_
              refine x_nil kStep 117 ?_
              have e0_ := Option.some.inj h; clear h
              have d0_ := (Prod.mk.inj e0_).1; have e1_ := (Prod.mk.inj e0_).2; clear e0_; subst d0_
              have d1_ := (Prod.mk.inj e1_).1; have e2_ := (Prod.mk.inj e1_).2; clear e1_; subst d1_
              subst e2_
              exact x_r3 (none, 0, none, 0) Try.results109 (zae rfl) (zae rfl) (zae rfl) rfl (fun w h => za6 [1, 0] (by decide) rfl w h)
            · skip
              replace h := bb_f hb78 h
              refine zal ?_
              refine za1 ?_
              refine c_seq ?_
              refine a_startS (ds := []) [some 0, some 1, none, some 3] MO rfl ?_
              refine zac 0 rfl rfl rfl (by kernel_rfl) (fun _ _ _ h => h) (za2 rfl) ?_
              refine zac 1 rfl rfl rfl (by kernel_rfl) (fun _ _ _ h => h) (za2 rfl) ?_
              refine zac 2 rfl rfl rfl (by kernel_rfl) (fun _ _ _ h => h) (q_f F56_1 rfl) ?_
              refine zay 3 rfl rfl rfl (by kernel_rfl) (fun _ _ _ h => h) (fun w h => zaa [some 0, some 1, none, some 3] (by decide) w h rfl) (q_ldb Y3 rfl (fun w h => h.za9 (i := 3) rfl) rfl) ?_
              refine a_fact (p := Sh A5 l4.length l41.length) (fun w h => f_sh (dk := (Kd.int .i64)) h (fun w h => h.zav (i := 1) rfl)) (fun hq79 => ?_)
              refine za7 h (fun y81 hg80 h => ?_) rfl
              refine zac 4 rfl rfl rfl (by kernel_rfl) (fun _ _ _ h => h) (q_ix Try.underlying22 Z3 rfl rfl hq79 hg80) ?_
              refine zay 5 rfl rfl rfl (by kernel_rfl) (fun _ _ _ h => h) (fun w h => zaa [some 0, some 1, none, some 3] (by decide) w h rfl) (q_lde (off := 0) Y3 rfl rfl (fun w h => h.zav (i := 1) rfl) hg80 (fun _ _ h => h) rfl) ?_
              refine zac 6 rfl rfl rfl (by kernel_rfl) (fun _ _ _ h => h) (za2 rfl) ?_
              refine zac 7 rfl rfl rfl (by kernel_rfl) (fun _ _ _ h => h) (q_f F56_2 rfl) ?_
              refine zay 8 rfl rfl rfl (by kernel_rfl) (fun _ _ _ h => h) (fun w h => zaa [some 0, some 1, none, some 3] (by decide) w h rfl) (q_ldb Y3 rfl (fun w h => h.za9 (i := 3) rfl) rfl) ?_
              refine za7 h (fun y83 hg82 h => ?_) rfl
              refine zac 9 rfl rfl rfl (by kernel_rfl) (fun _ _ _ h => h) (q_ix Try.underlying22 Z3 rfl rfl hq79 hg82) ?_
              refine zay 10 rfl rfl rfl (by kernel_rfl) (fun _ _ _ h => h) (fun w h => zaa [some 0, some 1, none, some 3] (by decide) w h rfl) (q_lde (off := 0) Y3 rfl rfl (fun w h => h.zav (i := 1) rfl) hg82 (fun _ _ h => h) rfl) ?_
              refine za7 h (fun z85 hx84 h => ?_) rfl
              refine a_one 11 rfl rfl (by kernel_rfl) rfl (zab 0 Z Try.func118 N118 rfl rfl rfl (fun w P1 hF hB hS hT => spec_plStep.calls y81 y83 hB hF _ hx84)) (fun s w h => zaa [some 0, some 1, none, some 3] (by decide) w h rfl) (fun _ => ?_)
              refine a_one 12 rfl rfl (by kernel_rfl) rfl (e_lit (vs := [(0, .agg #[.int .i64 z85.f0, .int .i64 z85.f1])]) (cs := [.int .i64 z85.f0, .int .i64 z85.f1]) kStep ([z85] : List SStep) Try.underlying41 I117 (by decide) rfl (by decide) rfl rfl (fun _ _ => reps_flat _)) (fun s w h => zaa [some 1, some 2, none, some 4] (by decide) w h rfl) (cur2 (fun A86 c87 => ?_))
              refine za7 h (fun l89 ha90 h => ?_) rfl
              refine a_one 13 rfl rfl (by kernel_rfl) rfl (e_app (i := 3) (j := 0) Try.underlying41 I117 rfl (by decide) (by decide) rfl rfl rfl rfl rfl ha90) (fun s w h => zaa [some 1, some 2, none, some 4] (by decide) w h rfl) (cur2 (fun A91 c92 => ?_))
              refine zac 14 rfl rfl rfl (by kernel_rfl) (fun _ _ _ h => h) (q_asg rfl) ?_
              refine a_done (by kernel_rfl) ?_
              refine za1 ?_
              refine za0 ?_
              refine o_q rfl rfl (za2 rfl) ?_
              refine o_q rfl rfl (q_f F56_0 rfl) ?_
              refine o_q rfl rfl (q_ldb Y3 rfl (fun w h => h.za9 (i := 4) rfl) rfl) ?_
              refine o_q rfl rfl (q_f F29_1 rfl) ?_
              refine o_q rfl rfl (q_ldb Y22 rfl (fun w h => h.za9 (i := 1) rfl) rfl) ?_
              refine o_q rfl rfl (q_len Try.underlying22 rfl) ?_
              refine o_q rfl rfl (za2 rfl) ?_
              refine o_q rfl rfl (q_len Try.underlying41 rfl) ?_
              refine o_q rfl rfl (q_add64 rfl rfl) ?_
              refine o_q rfl rfl (q_sub64 rfl rfl) ?_
              refine za7 h (fun y94 hg93 h => ?_) rfl
              refine o_q rfl rfl (q_ix Try.underlying22 Z3 rfl rfl hq79 hg93) ?_
              refine za7 h (fun l95 hs96 h => ?_) rfl
              refine o_e rfl (e_set (i := 2) rfl rfl rfl Z3 hs96) (fun _ => ?_)
              refine o_end ?_
              refine zau ?_
              refine za1 ?_
              refine za0 ?_
              refine o_q rfl rfl (q_up rfl rfl (hr49.up hm50)) ?_
              refine o_q rfl rfl (za2 rfl) ?_
              refine o_end ?_
              refine zas ys47.length (ys47, l95, l89, i45 + 1, A91, c92) (by rw [← hk55]; exact Nat.lt_succ_self _) ⟨hr49.step, rfl, h⟩ ⟨rfl, rfl, trivial⟩ (fun w h => za6 [3, 2, 1] (by decide) rfl w h) ?_
              repeat (first | exact zad _ _ | refine zai rfl ?_ | refine zaf rfl ?_ | refine zaj rfl ?_)
      · skip
        clear hl34
        have hr31 := hJ_.1; have hk37 := hJ_.2.1; have h := hJ_.2.2; clear hJ_
        replace h : spec_reValues.l1 (y28 :: ys29) l26 i27 = some o35 := h
        rw [spec_reValues.l1] at h
        refine c_seq ?_
        refine za0 ?_
        refine o_q rfl rfl (q_lss rfl rfl) ?_
        refine o_end ?_
        refine za1 ?_
        refine c_seq ?_
        refine c_true (congrArg Value.bool hr31.lt) ?_
        refine zal ?_
        refine za1 ?_
        refine c_seq ?_
        refine zak ?_
        refine c_seq ?_
        refine za0 ?_
        refine o_q rfl rfl (za2 rfl) ?_
        refine zb0 (p := Sh A0_1 l0_1.length l0_1.length) (fun w h => f_sh (dk := (Kd.int .i64)) h (fun w h => R0_1.now Z h)) (fun hq97 => ?_)
        refine o_q rfl rfl (q_ix Try.underlying22 Z3 rfl rfl hq97 hr31.get) ?_
        refine o_q rfl rfl (q_lde (off := 0) Y3 rfl rfl (fun w h => R0_1.now Z h) hr31.get (fun _ _ h => h) rfl) ?_
        refine o_q rfl rfl (q_asg rfl) ?_
        refine o_q rfl rfl (q_asg rfl) ?_
        refine o_end ?_
        refine za1 ?_
        refine za0 ?_
        refine o_q rfl rfl (za2 rfl) ?_
        refine o_q rfl rfl (za2 rfl) ?_
        refine o_q rfl rfl (za2 rfl) ?_
        refine zb0 (p := Sh A5 l4.length l26.length) (fun w h => f_sh (dk := (Kd.int .i64)) h (fun w h => h.zav (i := 0) rfl)) (fun hq98 => ?_)
        refine za7 h (fun y100 hg99 h => ?_) rfl
        refine o_q rfl rfl (q_ix Try.underlying22 Z3 rfl rfl hq98 hg99) ?_
        refine za7 h (fun l101 hs102 h => ?_) rfl
        refine o_e rfl (e_set (i := 0) rfl rfl rfl Z3 hs102) (fun _ => ?_)
        refine o_end ?_
        refine zau ?_
        refine za1 ?_
        refine za0 ?_
        refine o_q rfl rfl (q_up rfl rfl (hr31.up hm32)) ?_
        refine o_q rfl rfl (za2 rfl) ?_
        refine o_end ?_
        refine zas ys29.length (ys29, l101, i27 + 1) (by rw [← hk37]; exact Nat.lt_succ_self _) ⟨hr31.step, rfl, h⟩ ⟨rfl, trivial⟩ (fun w h => za6 [0, 1] (by decide) rfl w h) ?_
        repeat (first | exact zad _ _ | refine zai rfl ?_ | refine zaf rfl ?_ | refine zaj rfl ?_)

/-! ### loop.example/g01098/spec.plSum: function 137 -/
def spec_plSum.l0 (l1 : List Int) : (List Int) → (List Int) → Int → Option (List Int)
  | [], l3, i6 => some l3
  | y7 :: ys8, l3, i6 => (gt l1 i6).bind fun y20 => (spec_l1Least.f (w64 (y7 + y20)) 1000001).bind fun i22 => (ap l3 ([i22] : List Int)).bind fun l26 => spec_plSum.l0 l1 ys8 l26 (i6 + 1)
def spec_plSum.f (l0 : List Int) (l1 : List Int) : Option (List Int) := (spec_plSum.l0 l1 l0 ([] : List Int) 0).bind fun l3 => some l3
set_option maxHeartbeats 600000 in
set_option maxRecDepth 100000 in
theorem spec_plSum.calls {w0 ws : World} {P0 : Nat → Prop} (A0 : Option Addr) (c0 : Nat) (n0 : Nat) (l0 : List Int) (A1 : Option Addr) (c1 : Nat) (n1 : Nat) (l1 : List Int) (Z : Below w0.heap.size w0 ws) (hF : Fr w0 ws P0 [] ws) (R0 : Stable ws P0 (fun w => Kd.C (Kd.int .i64) w A0 n0 l0)) (hc0 : n0 ≤ c0) (R1 : Stable ws P0 (fun w => Kd.C (Kd.int .i64) w A1 n1 l1)) (hc1 : n1 ≤ c1) (r_1 : List Int) (h : spec_plSum.f l0 l1 = some r_1) :
    Calls Try.prog 137 #[.slice A0 n0 c0, .slice A1 n1 c1] ws (Post1 w0 ws P0 (fun ((q_2, q_3) : (Option Addr) × Nat) => .slice q_2 r_1.length q_3) (fun ((q_2, q_3) : (Option Addr) × Nat) => [row (Kd.int .i64) 3 (.slice q_2 r_1.length q_3) r_1])) := by
  unfold spec_plSum.f at h
  obtain rfl := (R0 ws (KeptB.refl _ _)).1
  obtain rfl := (R1 ws (KeptB.refl _ _)).1
  refine enter Try.func137 rfl Try.ntmps137 rfl hF ?_
  refine c_seq ?_
  refine za0 ?_
  refine o_q rfl rfl (q_asg rfl) ?_
  refine o_end ?_
  refine za1 ?_
  refine c_seq ?_
  refine za0 ?_
  refine o_q rfl rfl (q_asg rfl) ?_
  refine o_end ?_
  refine za1 ?_
  refine c_seq ?_
  refine c_seq ?_
  refine za0 ?_
  refine o_q rfl rfl (za2 rfl) ?_
  refine o_q rfl rfl (q_len Try.underlying22 rfl) ?_
  refine o_q rfl rfl (za2 rfl) ?_
  refine o_end ?_
  refine za1 ?_
  refine zak ?_
  refine c_nil (Kd.int .i64) 3 ?_
  refine za7 h (fun o14 hl13 hR12 => ?_) rfl
  clear h
  refine c_fact (p := l0.length ≤ 9223372036854775807) (fun w h => (R0.now Z h).2.1) (fun hm11 => ?_)
  refine zaz (σ := (List Int) × (List Int) × Int × (Option Addr) × Nat) (fun k9 ((ys8, l3, i6, A4, c5) : (List Int) × (List Int) × Int × (Option Addr) × Nat) => Rg l0 i6 ys8 ∧ ys8.length = k9 ∧ spec_plSum.l0 l1 ys8 l3 i6 = some o14) [5, 6, 9, 10, 11, 12, 13, 14, 15, 16, 17, 18, 19, 20, 21, 22, 23, 24, 25] (fun ((ys8, l3, i6, A4, c5) : (List Int) × (List Int) × Int × (Option Addr) × Nat) => [(5, .slice A4 l3.length c5), (9, .int .i64 i6)]) (fun ((ys8, l3, i6, A4, c5) : (List Int) × (List Int) × Int × (Option Addr) × Nat) => [row (Kd.int .i64) 3 (.slice A4 l3.length c5) l3]) l0.length (l0, ([] : List Int), 0, none, 0) ⟨Rg.start _, rfl, hl13⟩ ⟨rfl, rfl, trivial⟩ (fun w h => h) ?_
  refine fun k9 => cur5 (listC (fun l3 i6 A4 c5 U15 hJ_ => ?_) (fun y7 ys8 l3 i6 A4 c5 U15 hJ_ => ?_))
  · skip
    clear hl13
    have hr10 := hJ_.1; have hk16 := hJ_.2.1; have h := hJ_.2.2; clear hJ_
    replace h : spec_plSum.l0 l1 [] l3 i6 = some o14 := h
    rw [spec_plSum.l0] at h
    refine c_seq ?_
    refine za0 ?_
    refine o_q rfl rfl (q_lss rfl rfl) ?_
    refine o_end ?_
    refine za1 ?_
    refine c_seq ?_
    refine c_false (congrArg Value.bool hr10.ge) ?_
    refine c_exit ?_
    refine za8 ?_
    refine za8 ?_
    have e_ := Option.some.inj h; replace h := hR12; rw [← e_] at h; clear e_
    refine x_hit ?_
    refine za1 ?_
    refine c_seq ?_
    refine za0 ?_
    refine o_q rfl rfl (za2 rfl) ?_
    refine o_q rfl rfl (q_asg rfl) ?_
    refine o_end ?_
    refine za1 ?_
    refine c_ret ?_
    have e0_ := Option.some.inj h; clear h
    subst e0_
    exact x_r1 (A4, c5) Try.results137 (zae rfl) rfl (fun w h => za6 [0] (by decide) rfl w h)
  · skip
    clear hl13
    have hr10 := hJ_.1; have hk16 := hJ_.2.1; have h := hJ_.2.2; clear hJ_
    replace h : spec_plSum.l0 l1 (y7 :: ys8) l3 i6 = some o14 := h
    rw [spec_plSum.l0] at h
    refine c_seq ?_
    refine za0 ?_
    refine o_q rfl rfl (q_lss rfl rfl) ?_
    refine o_end ?_
    refine za1 ?_
    refine c_seq ?_
    refine c_true (congrArg Value.bool hr10.lt) ?_
    refine zal ?_
    refine za1 ?_
    refine c_seq ?_
    refine zak ?_
    refine c_seq ?_
    refine za0 ?_
    refine o_q rfl rfl (za2 rfl) ?_
    refine o_q rfl rfl (q_asg rfl) ?_
    refine o_end ?_
    refine za1 ?_
    refine a_startS (ds := []) [none] MO rfl ?_
    refine zac 0 rfl rfl rfl (by kernel_rfl) (fun _ _ _ h => h) (za2 rfl) ?_
    refine zac 1 rfl rfl rfl (by kernel_rfl) (fun _ _ _ h => h) (za2 rfl) ?_
    refine zac 2 rfl rfl rfl (by kernel_rfl) (fun _ _ _ h => h) (za2 rfl) ?_
    refine a_fact (p := Sh A0 l0.length l0.length) (fun w h => f_sh (dk := (Kd.int .i64)) h (fun w h => R0.now Z h)) (fun hq17 => ?_)
    refine zac 3 rfl rfl rfl (by kernel_rfl) (fun _ _ _ h => h) (q_ix Try.underlying22 Z3 rfl rfl hq17 hr10.get) ?_
    refine zay 4 rfl rfl rfl (by kernel_rfl) (fun _ _ _ h => h) (fun w h => zaa [none] (by decide) w h rfl) (q_lde (off := 0) Y3 rfl rfl (fun w h => R0.now Z h) hr10.get (fun _ _ h => h) rfl) ?_
    refine zac 5 rfl rfl rfl (by kernel_rfl) (fun _ _ _ h => h) (za2 rfl) ?_
    refine zac 6 rfl rfl rfl (by kernel_rfl) (fun _ _ _ h => h) (za2 rfl) ?_
    refine a_fact (p := Sh A1 l1.length l1.length) (fun w h => f_sh (dk := (Kd.int .i64)) h (fun w h => R1.now Z h)) (fun hq18 => ?_)
    refine za7 h (fun y20 hg19 h => ?_) rfl
    refine zac 7 rfl rfl rfl (by kernel_rfl) (fun _ _ _ h => h) (q_ix Try.underlying22 Z3 rfl rfl hq18 hg19) ?_
    refine zay 8 rfl rfl rfl (by kernel_rfl) (fun _ _ _ h => h) (fun w h => zaa [none] (by decide) w h rfl) (q_lde (off := 0) Y3 rfl rfl (fun w h => R1.now Z h) hg19 (fun _ _ h => h) rfl) ?_
    refine zac 9 rfl rfl rfl (by kernel_rfl) (fun _ _ _ h => h) (q_add64 rfl rfl) ?_
    refine za7 h (fun i22 hx21 h => ?_) rfl
    refine a_one 10 rfl rfl (by kernel_rfl) rfl (zab 0 Z Try.func138 N138 rfl rfl rfl (fun w P1 hF hB hS hT => spec_l1Least.calls (w64 (y7 + y20)) 1000001 hB hF _ hx21)) (fun s w h => zaa [none] (by decide) w h rfl) (fun _ => ?_)
    refine a_one 11 rfl rfl (by kernel_rfl) rfl (e_lit (vs := [(0, .int .i64 i22)]) (cs := [.int .i64 i22]) (Kd.int .i64) ([i22] : List Int) Try.underlying22 I3 (by decide) rfl (by decide) rfl rfl (fun _ _ => Kd.zb1 _)) (fun s w h => zaa [none] (by decide) w h rfl) (cur2 (fun A23 c24 => ?_))
    refine za7 h (fun l26 ha27 h => ?_) rfl
    refine a_one 12 rfl rfl (by kernel_rfl) rfl (e_app (i := 1) (j := 0) Try.underlying22 I3 rfl (by decide) (by decide) rfl rfl rfl rfl rfl ha27) (fun s w h => zaa [none] (by decide) w h rfl) (cur2 (fun A28 c29 => ?_))
    refine zac 13 rfl rfl rfl (by kernel_rfl) (fun _ _ _ h => h) (q_asg rfl) ?_
    refine a_done (by kernel_rfl) ?_
    refine zau ?_
    refine za1 ?_
    refine za0 ?_
    refine o_q rfl rfl (q_up rfl rfl (hr10.up hm11)) ?_
    refine o_q rfl rfl (za2 rfl) ?_
    refine o_end ?_
    refine zas ys8.length (ys8, l26, i6 + 1, A28, c29) (by rw [← hk16]; exact Nat.lt_succ_self _) ⟨hr10.step, rfl, h⟩ ⟨rfl, rfl, trivial⟩ (fun w h => za6 [1] (by decide) rfl w h) ?_
    repeat (first | exact zad _ _ | refine zai rfl ?_ | refine zaf rfl ?_ | refine zaj rfl ?_)

/-! ### loop.example/g01098/spec.plExponents: function 116 -/
def spec_plExponents.l1 : (List SStep) → (List (List Int)) → Int → Option (List (List Int))
  | [], l39, i43 => some l39
  | y44 :: ys45, l39, i43 => (gt l39 y44.f0).bind fun y300 => (gt l39 y44.f1).bind fun y599 => (spec_plSum.f y300 y599).bind fun l719 => (ap l39 ([l719] : List (List Int))).bind fun l838 => spec_plExponents.l1 ys45 l838 (i43 + 1)
def spec_plExponents.l0 (a0_0 : Int) : Nat → (List (List Int)) → Int → Option (List (List Int))
  | 0, _, _ => none
  | k11 + 1, l4, i8 => if i8 < a0_0 then ((mk0 a0_0 (0 : Int)).bind fun l20 => (gt l20 i8).bind fun y27 => (st l20 i8 1).bind fun l28 => (ap l4 ([l28] : List (List Int))).bind fun l34 => spec_plExponents.l0 a0_0 k11 l34 (w64 (i8 + 1))) else (some l4)
def spec_plExponents.f (k : Nat) (a0_0 : Int) (l0_1 : List SStep) (l0_2 : List Int) : Option (List (List Int)) := (spec_plExponents.l0 a0_0 k ([] : List (List Int)) 0).bind fun l4 => (spec_plExponents.l1 l0_1 l4 0).bind fun l39 => some l39
set_option maxHeartbeats 600000 in
set_option maxRecDepth 100000 in
theorem spec_plExponents.calls (k : Nat) {w0 ws : World} {P0 : Nat → Prop} (a0_0 : Int) (A0_1 : Option Addr) (c0_1 : Nat) (n0_1 : Nat) (l0_1 : List SStep) (A0_2 : Option Addr) (c0_2 : Nat) (n0_2 : Nat) (l0_2 : List Int) (Z : Below w0.heap.size w0 ws) (hF : Fr w0 ws P0 [] ws) (R0_1 : Stable ws P0 (fun w => Kd.C kStep w A0_1 n0_1 l0_1)) (hc0_1 : n0_1 ≤ c0_1) (R0_2 : Stable ws P0 (fun w => Kd.C (Kd.int .i64) w A0_2 n0_2 l0_2)) (hc0_2 : n0_2 ≤ c0_2) (r_1 : List (List Int)) (h : spec_plExponents.f k a0_0 l0_1 l0_2 = some r_1) :
    Calls Try.prog 116 #[.agg #[.int .i64 a0_0, .slice A0_1 n0_1 c0_1, .slice A0_2 n0_2 c0_2]] ws (Post1 w0 ws P0 (fun ((q_2, q_3, q_4) : (Option Addr) × Nat × Hd) => .slice q_2 r_1.length q_3) (fun ((q_2, q_3, q_4) : (Option Addr) × Nat × Hd) => [row (gk 3 (Kd.int .i64)) 22 (.slice q_2 r_1.length q_3) (zp q_4 r_1)])) := by
  unfold spec_plExponents.f at h
  obtain rfl := (R0_1 ws (KeptB.refl _ _)).1
  obtain rfl := (R0_2 ws (KeptB.refl _ _)).1
  refine enter Try.func116 rfl Try.ntmps116 rfl hF ?_
  refine c_seq ?_
  refine za0 ?_
  refine o_e rfl (e_box rfl) (fun g1 => ?_)
  refine o_q rfl rfl (q_asg rfl) ?_
  refine o_end ?_
  refine za1 ?_
  refine c_seq ?_
  refine za0 ?_
  refine o_q rfl rfl (q_asg rfl) ?_
  refine o_end ?_
  refine za1 ?_
  refine c_seq ?_
  refine c_seq ?_
  refine za0 ?_
  refine o_q rfl rfl (q_asg rfl) ?_
  refine o_end ?_
  refine za1 ?_
  refine zak ?_
  refine c_nil (gk 3 (Kd.int .i64)) 22 ?_
  refine za7 h (fun o16 hl15 hR14 => ?_) rfl
  clear h
  refine zaz (σ := (List (List Int)) × Int × (Option Addr) × Nat × Hd) (fun k11 ((l4, i8, A5, c6, H7) : (List (List Int)) × Int × (Option Addr) × Nat × Hd) => spec_plExponents.l0 a0_0 k11 l4 i8 = some o16) [3, 4, 5, 8, 9, 10, 11, 12, 13, 14, 15, 16, 17, 18, 19, 20, 21, 22, 23] (fun ((l4, i8, A5, c6, H7) : (List (List Int)) × Int × (Option Addr) × Nat × Hd) => [(3, .slice A5 l4.length c6), (4, .int .i64 i8)]) (fun ((l4, i8, A5, c6, H7) : (List (List Int)) × Int × (Option Addr) × Nat × Hd) => [row (gk 3 (Kd.int .i64)) 22 (.slice A5 l4.length c6) (zp H7 l4), box g1 43 #[.int .i64 a0_0, .slice A0_1 l0_1.length c0_1, .slice A0_2 l0_2.length c0_2]]) k (([] : List (List Int)), 0, none, 0, ([] : Hd)) hl15 ⟨rfl, rfl, trivial⟩ (fun w h => h) ?_
  refine natC (cur5 (fun l4 i8 A5 c6 H7 => fun U17 hJ_ => ?_)) (fun k11 => (cur5 (fun l4 i8 A5 c6 H7 => fun U17 hJ_ => ?_)))
  · skip
    replace hJ_ : spec_plExponents.l0 a0_0 0 l4 i8 = some o16 := hJ_
    rw [spec_plExponents.l0] at hJ_
    exact noneE hJ_
  · skip
    clear hl15
    have h := hJ_; clear hJ_
    replace h : spec_plExponents.l0 a0_0 (k11 + 1) l4 i8 = some o16 := h
    rw [spec_plExponents.l0] at h
    refine c_seq ?_
    refine c_seq ?_
    refine za0 ?_
    refine o_q rfl rfl (za2 rfl) ?_
    refine o_q rfl rfl (q_f F43_0 rfl) ?_
    refine o_q rfl rfl (q_ldb Y3 rfl (fun w h => h.za9 (i := 1) rfl) rfl) ?_
    refine o_q rfl rfl (q_lss rfl rfl) ?_
    refine o_end ?_
    refine za1 ?_
    refine zaq _ rfl (fun hb19 => ?_) (fun hb19 => ?_)
    · skip
      replace h := br_t hb19 h
      refine zal ?_
      refine za1 ?_
      refine c_seq ?_
      refine zak ?_
      refine c_seq ?_
      refine za0 ?_
      refine o_q rfl rfl (q_f F43_0 rfl) ?_
      refine o_q rfl rfl (q_ldb Y3 rfl (fun w h => h.za9 (i := 1) rfl) rfl) ?_
      refine za7 h (fun l20 hm21 h => ?_) rfl
      refine o_e rfl (e_make (Kd.int .i64) (0 : Int) Try.underlying22 I3 rfl (by decide) (by decide) (fun _ _ => rfl) rfl rfl hm21) (cur2 (fun A22 c23 => ?_))
      refine o_q rfl rfl (q_asg rfl) ?_
      refine o_end ?_
      refine za1 ?_
      refine c_seq ?_
      refine za0 ?_
      refine o_q rfl rfl (za2 rfl) ?_
      refine o_q rfl rfl (za2 rfl) ?_
      refine zb0 (p := Sh A22 l20.length l20.length) (fun w h => f_sh (dk := (Kd.int .i64)) h (fun w h => h.zav (i := 0) rfl)) (fun hq25 => ?_)
      refine za7 h (fun y27 hg26 h => ?_) rfl
      refine o_q rfl rfl (q_ix Try.underlying22 Z3 rfl rfl hq25 hg26) ?_
      refine za7 h (fun l28 hs29 h => ?_) rfl
      refine o_e rfl (e_set (i := 0) rfl rfl rfl Z3 hs29) (fun _ => ?_)
      refine o_end ?_
      refine za1 ?_
      refine za0 ?_
      refine o_q rfl rfl (za2 rfl) ?_
      refine o_q rfl rfl (za2 rfl) ?_
      refine o_e rfl (e_litG (j := 0) (ue := 3) (dk := (Kd.int .i64)) (ys := l28) Try.underlying137 I22 rfl rfl rfl) (cur3 (fun A30 c31 H33 => ?_))
      refine za7 h (fun l34 ha35 h => ?_) rfl
      refine o_e rfl (e_appG (i := 2) (j := 0) Try.underlying137 I22 rfl (by decide) rfl rfl rfl rfl rfl ha35) (cur3 (fun A36 c37 H38 => ?_))
      refine o_q rfl rfl (q_asg rfl) ?_
      refine o_end ?_
      refine zau ?_
      refine za1 ?_
      refine za0 ?_
      refine o_q rfl rfl (za2 rfl) ?_
      refine o_q rfl rfl (q_add64 rfl rfl) ?_
      refine o_q rfl rfl (q_asg rfl) ?_
      refine o_end ?_
      refine zas k11 (l34, w64 (i8 + 1), A36, c37, H38) (Nat.lt_succ_self _) h ⟨rfl, rfl, trivial⟩ (fun w h => za6 [2, 3] (by decide) rfl w h) ?_
      repeat (first | exact zad _ _ | refine zai rfl ?_ | refine zaf rfl ?_ | refine zaj rfl ?_)
    · skip
      replace h := br_f hb19 h
      refine c_exit ?_
      refine za8 ?_
      refine za8 ?_
      have e_ := Option.some.inj h; replace h := hR14; rw [← e_] at h; clear e_
      refine x_hit ?_
      refine za1 ?_
      refine c_seq ?_
      refine c_seq ?_
      refine za0 ?_
      refine o_q rfl rfl (q_f F43_1 rfl) ?_
      refine o_q rfl rfl (q_ldb Y41 rfl (fun w h => h.za9 (i := 1) rfl) rfl) ?_
      refine o_q rfl rfl (q_len Try.underlying41 rfl) ?_
      refine o_q rfl rfl (za2 rfl) ?_
      refine o_end ?_
      refine za1 ?_
      refine zak ?_
      refine za7 h (fun o51 hl50 hR49 => ?_) rfl
      clear h
      refine c_fact (p := l0_1.length ≤ 9223372036854775807) (fun w h => (R0_1.now Z h).2.1) (fun hm48 => ?_)
      refine zaz (σ := (List SStep) × (List (List Int)) × Int × (Option Addr) × Nat × Hd) (fun k46 ((ys45, l39, i43, A40, c41, H42) : (List SStep) × (List (List Int)) × Int × (Option Addr) × Nat × Hd) => Rg l0_1 i43 ys45 ∧ ys45.length = k46 ∧ spec_plExponents.l1 ys45 l39 i43 = some o51) [3, 7, 27, 28, 29, 30, 31, 32, 33, 34, 35, 36, 37, 38, 39, 40, 41, 42, 43, 44, 45] (fun ((ys45, l39, i43, A40, c41, H42) : (List SStep) × (List (List Int)) × Int × (Option Addr) × Nat × Hd) => [(3, .slice A40 l39.length c41), (27, .int .i64 i43)]) (fun ((ys45, l39, i43, A40, c41, H42) : (List SStep) × (List (List Int)) × Int × (Option Addr) × Nat × Hd) => [row (gk 3 (Kd.int .i64)) 22 (.slice A40 l39.length c41) (zp H42 l39), box g1 43 #[.int .i64 a0_0, .slice A0_1 l0_1.length c0_1, .slice A0_2 l0_2.length c0_2]]) l0_1.length (l0_1, l4, 0, A5, c6, H7) ⟨Rg.start _, rfl, hl50⟩ ⟨rfl, rfl, trivial⟩ (fun w h => h) ?_
      refine fun k46 => cur6 (listC (fun l39 i43 A40 c41 H42 U52 hJ_ => ?_) (fun y44 ys45 l39 i43 A40 c41 H42 U52 hJ_ => ?_))
      · skip
        clear hl50
        have hr47 := hJ_.1; have hk53 := hJ_.2.1; have h := hJ_.2.2; clear hJ_
        replace h : spec_plExponents.l1 [] l39 i43 = some o51 := h
        rw [spec_plExponents.l1] at h
        refine c_seq ?_
        refine za0 ?_
        refine o_q rfl rfl (q_lss rfl rfl) ?_
        refine o_end ?_
        refine za1 ?_
        refine c_seq ?_
        refine c_false (congrArg Value.bool hr47.ge) ?_
        refine c_exit ?_
        refine za8 ?_
        refine za8 ?_
        have e_ := Option.some.inj h; replace h := hR49; rw [← e_] at h; clear e_
        refine x_hit ?_
        refine za1 ?_
        refine c_seq ?_
        refine za0 ?_
        refine o_q rfl rfl (za2 rfl) ?_
        refine o_q rfl rfl (q_asg rfl) ?_
        refine o_end ?_
        refine za1 ?_
        refine c_ret ?_
        have e0_ := Option.some.inj h; clear h
        subst e0_
        exact x_r1 (A40, c41, H42) Try.results116 (zae rfl) rfl (fun w h => za6 [0] (by decide) rfl w h)
      · skip
        clear hl50
        have hr47 := hJ_.1; have hk53 := hJ_.2.1; have h := hJ_.2.2; clear hJ_
        replace h : spec_plExponents.l1 (y44 :: ys45) l39 i43 = some o51 := h
        rw [spec_plExponents.l1] at h
        refine c_seq ?_
        refine za0 ?_
        refine o_q rfl rfl (q_lss rfl rfl) ?_
        refine o_end ?_
        refine za1 ?_
        refine c_seq ?_
        refine c_true (congrArg Value.bool hr47.lt) ?_
        refine zal ?_
        refine za1 ?_
        refine c_seq ?_
        refine zak ?_
        refine c_seq ?_
        refine za0 ?_
        refine zb0 (p := Sh A0_1 l0_1.length l0_1.length) (fun w h => f_sh (dk := kStep) h (fun w h => R0_1.now Z h)) (fun hq54 => ?_)
        refine o_q rfl rfl (q_ix Try.underlying41 Z117 rfl rfl hq54 hr47.get) ?_
        refine o_q rfl rfl (q_ldE G117 Z117 rfl rfl (fun w h => R0_1.now Z h) hr47.get (fun _ _ h => h) rfl) ?_
        refine o_e rfl (zar V117 rfl) (fun g55 => ?_)
        refine o_e rfl (zam (i := 0) rfl rfl rfl Z117 rfl rfl) (fun _ => ?_)
        refine o_end ?_
        refine za1 ?_
        refine za7 h (fun y300 hg299 h => ?_) rfl
        refine za7 h (fun y599 hg598 h => ?_) rfl
        refine za7 h (fun l719 hx718 h => ?_) rfl
        refine za7 h (fun l838 ha839 h => ?_) rfl
        refine a_startS (ds := []) [some 0, none, some 2] MO rfl ?_
        refine zac 0 rfl rfl rfl (by kernel_rfl) (fun _ _ _ h => h) (za2 rfl) ?_
        refine zac 1 rfl rfl rfl (by kernel_rfl) (fun _ _ _ h => h) (za2 rfl) ?_
        refine zac 2 rfl rfl rfl (by kernel_rfl) (fun _ _ _ h => h) (q_f F117_0 rfl) ?_
        refine zay 3 rfl rfl rfl (by kernel_rfl) (fun _ _ _ h => h) (fun w h => zaa [some 0, none, some 2] (by decide) w h rfl) (q_ldb Y3 rfl (fun w h => h.za9 (i := 0) rfl) rfl) ?_
        refine a_fact (p := Sh A40 l39.length (zp H42 l39).length) (fun w h => f_sh (dk := (gk 3 (Kd.int .i64))) h (fun w h => h.zav (i := 1) rfl)) (fun hq298 => ?_)
        refine zac 4 rfl rfl rfl (by kernel_rfl) (fun _ _ _ h => h) (q_ix Try.underlying137 Z22 rfl rfl hq298 (gt_zp hg299)) ?_
        refine zac 6 rfl rfl rfl (by kernel_rfl) (fun _ _ _ h => h) (za2 rfl) ?_
        refine zac 7 rfl rfl rfl (by kernel_rfl) (fun _ _ _ h => h) (q_f F117_1 rfl) ?_
        refine zay 8 rfl rfl rfl (by kernel_rfl) (fun _ _ _ h => h) (fun w h => zaa [some 0, none, some 2] (by decide) w h rfl) (q_ldb Y3 rfl (fun w h => h.za9 (i := 0) rfl) rfl) ?_
        refine zac 9 rfl rfl rfl (by kernel_rfl) (fun _ _ _ h => h) (q_ix Try.underlying137 Z22 rfl rfl hq298 (gt_zp hg598)) ?_
        refine a_fact (p := y300.length ≤ hC H42 y44.f0) (fun w h => (K_in (h.zav (i := 1) rfl) hg299).1) (fun hc358 => ?_)
        refine a_fact (p := y599.length ≤ hC H42 y44.f1) (fun w h => (K_in (h.zav (i := 1) rfl) hg598).1) (fun hc658 => ?_)
        refine a_two 5 10 rfl rfl rfl rfl (by kernel_rfl) rfl rfl (ev_q rfl (q_lde (off := 0) Y22 rfl rfl (fun w h => h.zav (i := 1) rfl) (gt_zp hg299) (fun _ _ h => h.1) rfl)) (fun s w h => zaa [some 0, none, some 2] (by decide) w h rfl) (ev_q rfl (q_lde (off := 0) Y22 rfl rfl (fun w h => h.zav (i := 1) rfl) (gt_zp hg598) (fun _ _ h => h.1) rfl)) (fun s w h => zaa [some 0, none, some 2] (by decide) w h rfl) (fun _ => ?_) (fun _ => ?_)
        · skip
          refine a_fact (p := y599.length ≤ hC H42 y44.f1) (fun w h => (K_in (h.zav (i := 1) rfl) hg598).1) (fun hc658 => ?_)
          refine a_one 10 rfl rfl (by kernel_rfl) rfl (ev_q rfl (q_lde (off := 0) Y22 rfl rfl (fun w h => h.zav (i := 1) rfl) (gt_zp hg598) (fun _ _ h => h.1) rfl)) (fun s w h => zaa [some 0, none, some 2] (by decide) w h rfl) (fun _ => ?_)
          refine a_one 11 rfl rfl (by kernel_rfl) rfl (zab 0 Z Try.func137 N137 rfl rfl rfl (fun w P1 hF hB hS hT => spec_plSum.calls (hA H42 y44.f0) (hC H42 y44.f0) y300.length y300 (hA H42 y44.f1) (hC H42 y44.f1) y599.length y599 hB hF (stab_in (hT 1 _ rfl).row hg299) hc358 (stab_in (hT 1 _ rfl).row hg598) hc658 _ hx718)) (fun s w h => zaa [some 1, none, some 3] (by decide) w h rfl) (cur2 (fun A720 c721 => ?_))
          refine a_one 12 rfl rfl (by kernel_rfl) rfl (e_litG (j := 0) (ue := 3) (dk := (Kd.int .i64)) (ys := l719) Try.underlying137 I22 rfl rfl rfl) (fun s w h => zaa [some 2, none, some 4] (by decide) w h rfl) (cur3 (fun A778 c779 H781 => ?_))
          refine a_one 13 rfl rfl (by kernel_rfl) rfl (e_appG (i := 3) (j := 0) Try.underlying137 I22 rfl (by decide) rfl rfl rfl rfl rfl ha839) (fun s w h => zaa [some 2, none, some 4] (by decide) w h rfl) (cur3 (fun A840 c841 H842 => ?_))
          refine zac 14 rfl rfl rfl (by kernel_rfl) (fun _ _ _ h => h) (q_asg rfl) ?_
          refine a_done (by kernel_rfl) ?_
          refine zau ?_
          refine za1 ?_
          refine za0 ?_
          refine o_q rfl rfl (q_up rfl rfl (hr47.up hm48)) ?_
          refine o_q rfl rfl (za2 rfl) ?_
          refine o_end ?_
          refine zas ys45.length (ys45, l838, i43 + 1, A840, c841, H842) (by rw [← hk53]; exact Nat.lt_succ_self _) ⟨hr47.step, rfl, h⟩ ⟨rfl, rfl, trivial⟩ (fun w h => za6 [3, 4] (by decide) rfl w h) ?_
          repeat (first | exact zad _ _ | refine zai rfl ?_ | refine zaf rfl ?_ | refine zaj rfl ?_)
        · skip
          refine a_fact (p := y300.length ≤ hC H42 y44.f0) (fun w h => (K_in (h.zav (i := 1) rfl) hg299).1) (fun hc358 => ?_)
          refine a_one 5 rfl rfl (by kernel_rfl) rfl (ev_q rfl (q_lde (off := 0) Y22 rfl rfl (fun w h => h.zav (i := 1) rfl) (gt_zp hg299) (fun _ _ h => h.1) rfl)) (fun s w h => zaa [some 0, none, some 2] (by decide) w h rfl) (fun _ => ?_)
          refine a_one 11 rfl rfl (by kernel_rfl) rfl (zab 0 Z Try.func137 N137 rfl rfl rfl (fun w P1 hF hB hS hT => spec_plSum.calls (hA H42 y44.f0) (hC H42 y44.f0) y300.length y300 (hA H42 y44.f1) (hC H42 y44.f1) y599.length y599 hB hF (stab_in (hT 1 _ rfl).row hg299) hc358 (stab_in (hT 1 _ rfl).row hg598) hc658 _ hx718)) (fun s w h => zaa [some 1, none, some 3] (by decide) w h rfl) (cur2 (fun A720 c721 => ?_))
          refine a_one 12 rfl rfl (by kernel_rfl) rfl (e_litG (j := 0) (ue := 3) (dk := (Kd.int .i64)) (ys := l719) Try.underlying137 I22 rfl rfl rfl) (fun s w h => zaa [some 2, none, some 4] (by decide) w h rfl) (cur3 (fun A778 c779 H781 => ?_))
          refine a_one 13 rfl rfl (by kernel_rfl) rfl (e_appG (i := 3) (j := 0) Try.underlying137 I22 rfl (by decide) rfl rfl rfl rfl rfl ha839) (fun s w h => zaa [some 2, none, some 4] (by decide) w h rfl) (cur3 (fun A840 c841 H842 => ?_))
          refine zac 14 rfl rfl rfl (by kernel_rfl) (fun _ _ _ h => h) (q_asg rfl) ?_
          refine a_done (by kernel_rfl) ?_
          refine zau ?_
          refine za1 ?_
          refine za0 ?_
          refine o_q rfl rfl (q_up rfl rfl (hr47.up hm48)) ?_
          refine o_q rfl rfl (za2 rfl) ?_
          refine o_end ?_
          refine zas ys45.length (ys45, l838, i43 + 1, A840, c841, H842) (by rw [← hk53]; exact Nat.lt_succ_self _) ⟨hr47.step, rfl, h⟩ ⟨rfl, rfl, trivial⟩ (fun w h => za6 [3, 4] (by decide) rfl w h) ?_
          repeat (first | exact zad _ _ | refine zai rfl ?_ | refine zaf rfl ?_ | refine zaj rfl ?_)

/-! ### loop.example/g01098/spec.plGood: function 86 -/
def spec_plGood.l1 : (List (List Int)) → Int → Option ((Bool) ⊕ (Unit))
  | [], i24 => some (.inr ())
  | y25 :: ys26, i24 => (spec_l1All.f y25 0 1000000).bind fun b40 => if b40 = true then (spec_plGood.l1 ys26 (i24 + 1)) else (some (.inl false))
def spec_plGood.l0 (a0_0 : Int) : (List SStep) → Int → Option ((Bool) ⊕ (Unit))
  | [], i8 => some (.inr ())
  | y9 :: ys10, i8 => (spec_l1In.f y9.f0 0 y9.f1).bind fun b46 => if b46 = true then (if w64 (a0_0 + i8) ≤ y9.f1 then (some (.inl false)) else (spec_plGood.l0 a0_0 ys10 (i8 + 1))) else (some (.inl false))
def spec_plGood.f (k : Nat) (a0_0 : Int) (l0_1 : List SStep) (l0_2 : List Int) : Option Bool := (spec_l1In.f a0_0 1 6).bind fun b4 => if b4 = true then (if 40 < (l0_1.length : Int) then (some false) else (if 6 < (l0_2.length : Int) then (some false) else ((spec_plGood.l0 a0_0 l0_1 0).bind fun o_ => match o_ with | .inl r_ => some r_ | .inr _ => (spec_plExponents.f k a0_0 l0_1 l0_2).bind fun l20 => (spec_plGood.l1 l20 0).bind fun o_ => match o_ with | .inl r_ => some r_ | .inr _ => (spec_l1All.f l0_2 0 (w64 (w64 (a0_0 + (l0_1.length : Int)) - 1))).bind fun b36 => some b36))) else (some false)
set_option maxHeartbeats 600000 in
set_option maxRecDepth 100000 in
theorem spec_plGood.calls (k : Nat) {w0 ws : World} {P0 : Nat → Prop} (a0_0 : Int) (A0_1 : Option Addr) (c0_1 : Nat) (n0_1 : Nat) (l0_1 : List SStep) (A0_2 : Option Addr) (c0_2 : Nat) (n0_2 : Nat) (l0_2 : List Int) (Z : Below w0.heap.size w0 ws) (hF : Fr w0 ws P0 [] ws) (R0_1 : Stable ws P0 (fun w => Kd.C kStep w A0_1 n0_1 l0_1)) (hc0_1 : n0_1 ≤ c0_1) (R0_2 : Stable ws P0 (fun w => Kd.C (Kd.int .i64) w A0_2 n0_2 l0_2)) (hc0_2 : n0_2 ≤ c0_2) (r_1 : Bool) (h : spec_plGood.f k a0_0 l0_1 l0_2 = some r_1) :
    Calls Try.prog 86 #[.agg #[.int .i64 a0_0, .slice A0_1 n0_1 c0_1, .slice A0_2 n0_2 c0_2]] ws (Post1 w0 ws P0 (fun (_ : Unit) => .bool r_1) (fun (_ : Unit) => [])) := by
  unfold spec_plGood.f at h
  obtain rfl := (R0_1 ws (KeptB.refl _ _)).1
  obtain rfl := (R0_2 ws (KeptB.refl _ _)).1
  refine enter Try.func86 rfl Try.ntmps86 rfl hF ?_
  refine c_seq ?_
  refine za0 ?_
  refine o_e rfl (e_box rfl) (fun g1 => ?_)
  refine o_q rfl rfl (q_asg rfl) ?_
  refine o_end ?_
  refine za1 ?_
  refine c_seq ?_
  refine c_seq ?_
  refine za0 ?_
  refine o_q rfl rfl (q_f F43_0 rfl) ?_
  refine o_q rfl rfl (q_ldb Y3 rfl (fun w h => h.za9 (i := 0) rfl) rfl) ?_
  refine za7 h (fun b4 hx3 h => ?_) rfl
  refine o_e rfl (zab 0 Z Try.func81 N81 rfl rfl rfl (fun w P1 hF hB hS hT => spec_l1In.calls a0_0 1 6 hB hF _ hx3)) (fun _ => ?_)
  refine o_q rfl rfl (q_not rfl) ?_
  refine o_q rfl rfl (za2 rfl) ?_
  refine byB b4 (fun hb5 => ?_) (fun hb5 => ?_)
  · replace h := bb_t hb5 h
    refine o_w (za4 rfl rfl rfl (congrArg (fun b => Value.bool (!(b))) hb5)) rfl (q_f F43_1 rfl) ?_
    refine o_w (za4 rfl rfl rfl (congrArg (fun b => Value.bool (!(b))) hb5)) rfl (q_ldb Y41 rfl (fun w h => h.za9 (i := 0) rfl) rfl) ?_
    refine o_w (za4 rfl rfl rfl (congrArg (fun b => Value.bool (!(b))) hb5)) rfl (q_len Try.underlying41 rfl) ?_
    refine o_w (za4 rfl rfl rfl (congrArg (fun b => Value.bool (!(b))) hb5)) rfl (q_gtr rfl rfl) ?_
    refine o_q rfl rfl (zao false (congrArg (fun b => Value.bool (!(b))) hb5) rfl) ?_
    refine o_q rfl rfl (za2 rfl) ?_
    refine byB (decide (40 < (l0_1.length : Int))) (fun hb6 => ?_) (fun hb6 => ?_)
    · replace h := br_t hb6 h
      refine @o_n _ _ _ _ _ _ _ _ _ _ _ 18 (za3 rfl rfl rfl (congrArg Value.bool hb6) rfl) (Eq.refl (some 18)) ?_
      refine @o_n _ _ _ _ _ _ _ _ _ _ _ 19 (za3 rfl rfl rfl (congrArg Value.bool hb6) rfl) (Eq.refl (some 19)) ?_
      refine @o_n _ _ _ _ _ _ _ _ _ _ _ 20 (za3 rfl rfl rfl (congrArg Value.bool hb6) rfl) (Eq.refl (some 20)) ?_
      refine @o_n _ _ _ _ _ _ _ _ _ _ _ 21 (za3 rfl rfl rfl (congrArg Value.bool hb6) rfl) (Eq.refl (some 21)) ?_
      refine o_q rfl rfl (zao true (congrArg Value.bool hb6) rfl) ?_
      refine o_end ?_
      refine za1 ?_
      refine c_true rfl ?_
      refine c_seq ?_
      refine za0 ?_
      refine o_q rfl rfl (q_asg rfl) ?_
      refine o_end ?_
      refine za1 ?_
      refine c_ret ?_
      refine za5 ?_
      have e0_ := Option.some.inj h; clear h
      subst e0_
      exact x_r1 () Try.results86 (zae rfl) rfl (fun w h => za6 [] (by decide) rfl w h)
    · replace h := br_f hb6 h
      refine o_w (za4 rfl rfl rfl (congrArg Value.bool hb6)) rfl (q_f F43_2 rfl) ?_
      refine o_w (za4 rfl rfl rfl (congrArg Value.bool hb6)) rfl (q_ldb Y22 rfl (fun w h => h.za9 (i := 0) rfl) rfl) ?_
      refine o_w (za4 rfl rfl rfl (congrArg Value.bool hb6)) rfl (q_len Try.underlying22 rfl) ?_
      refine o_w (za4 rfl rfl rfl (congrArg Value.bool hb6)) rfl (q_gtr rfl rfl) ?_
      refine o_q rfl rfl (zao false (congrArg Value.bool hb6) rfl) ?_
      refine o_end ?_
      refine za1 ?_
      refine zaq _ rfl (fun hb7 => ?_) (fun hb7 => ?_)
      · skip
        replace h := br_t hb7 h
        refine c_seq ?_
        refine za0 ?_
        refine o_q rfl rfl (q_asg rfl) ?_
        refine o_end ?_
        refine za1 ?_
        refine c_ret ?_
        refine za5 ?_
        have e0_ := Option.some.inj h; clear h
        subst e0_
        exact x_r1 () Try.results86 (zae rfl) rfl (fun w h => za6 [] (by decide) rfl w h)
      · skip
        replace h := br_f hb7 h
        refine zal ?_
        refine za1 ?_
        refine c_seq ?_
        refine c_seq ?_
        refine za0 ?_
        refine o_q rfl rfl (q_f F43_1 rfl) ?_
        refine o_q rfl rfl (q_ldb Y41 rfl (fun w h => h.za9 (i := 0) rfl) rfl) ?_
        refine o_q rfl rfl (q_len Try.underlying41 rfl) ?_
        refine o_q rfl rfl (za2 rfl) ?_
        refine o_end ?_
        refine za1 ?_
        refine zak ?_
        refine za7 h (fun o16 hl15 hR14 => ?_) rfl
        clear h
        refine c_fact (p := l0_1.length ≤ 9223372036854775807) (fun w h => (R0_1.now Z h).2.1) (fun hm13 => ?_)
        refine zaz (σ := (List SStep) × Int) (fun k11 ((ys10, i8) : (List SStep) × Int) => Rg l0_1 i8 ys10 ∧ ys10.length = k11 ∧ spec_plGood.l0 a0_0 ys10 i8 = some o16) [2, 3, 4, 26, 27, 28, 29, 30, 31, 32, 33, 34, 35, 36, 37, 38, 39, 40, 41, 42, 43, 44, 45, 46] (fun ((ys10, i8) : (List SStep) × Int) => [(26, .int .i64 i8)]) (fun ((ys10, i8) : (List SStep) × Int) => [box g1 43 #[.int .i64 a0_0, .slice A0_1 l0_1.length c0_1, .slice A0_2 l0_2.length c0_2]]) l0_1.length (l0_1, 0) ⟨Rg.start _, rfl, hl15⟩ ⟨rfl, trivial⟩ (fun w h => h) ?_
        refine fun k11 => cur2 (listC (fun i8 U17 hJ_ => ?_) (fun y9 ys10 i8 U17 hJ_ => ?_))
        · skip
          clear hl15
          have hr12 := hJ_.1; have hk18 := hJ_.2.1; have h := hJ_.2.2; clear hJ_
          replace h : spec_plGood.l0 a0_0 [] i8 = some o16 := h
          rw [spec_plGood.l0] at h
          refine c_seq ?_
          refine za0 ?_
          refine o_q rfl rfl (q_lss rfl rfl) ?_
          refine o_end ?_
          refine za1 ?_
          refine c_seq ?_
          refine c_false (congrArg Value.bool hr12.ge) ?_
          refine c_exit ?_
          refine za8 ?_
          refine za8 ?_
          have e_ := Option.some.inj h; replace h := hR14; rw [← e_] at h; clear e_
          refine x_hit ?_
          refine za1 ?_
          refine c_seq ?_
          refine c_seq ?_
          refine za0 ?_
          refine o_q rfl rfl (q_ldB G43 Z43 rfl (fun w h => h.za9 (i := 0) rfl) rfl) ?_
          refine za7 h (fun l20 hx19 h => ?_) rfl
          refine o_e rfl (zab 0 Z Try.func116 N116 rfl rfl rfl (fun w P1 hF hB hS hT => spec_plExponents.calls k a0_0 A0_1 c0_1 l0_1.length l0_1 A0_2 c0_2 l0_2.length l0_2 hB hF (hS _ R0_1) hc0_1 (hS _ R0_2) hc0_2 _ hx19)) (cur3 (fun A21 c22 H23 => ?_))
          refine o_q rfl rfl (q_len Try.underlying137 rfl) ?_
          refine o_q rfl rfl (za2 rfl) ?_
          refine o_end ?_
          refine za1 ?_
          refine zak ?_
          refine za7 h (fun o32 hl31 hR30 => ?_) rfl
          clear h
          refine c_fact (p := l20.length ≤ 9223372036854775807) (fun w h => (h.zav (i := 0) rfl).2.1) (fun hm29 => ?_)
          refine zaz (σ := (List (List Int)) × Int) (fun k27 ((ys26, i24) : (List (List Int)) × Int) => Rg l20 i24 ys26 ∧ ys26.length = k27 ∧ spec_plGood.l1 ys26 i24 = some o32) [2, 6, 50, 51, 52, 53, 54, 55, 56, 57] (fun ((ys26, i24) : (List (List Int)) × Int) => [(50, .int .i64 i24)]) (fun ((ys26, i24) : (List (List Int)) × Int) => [row (gk 3 (Kd.int .i64)) 22 (.slice A21 l20.length c22) (zp H23 l20), box g1 43 #[.int .i64 a0_0, .slice A0_1 l0_1.length c0_1, .slice A0_2 l0_2.length c0_2]]) l20.length (l20, 0) ⟨Rg.start _, rfl, hl31⟩ ⟨rfl, trivial⟩ (fun w h => h) ?_
          refine fun k27 => cur2 (listC (fun i24 U33 hJ_ => ?_) (fun y25 ys26 i24 U33 hJ_ => ?_))
          · skip
            clear hl31
            have hr28 := hJ_.1; have hk34 := hJ_.2.1; have h := hJ_.2.2; clear hJ_
            replace h : spec_plGood.l1 [] i24 = some o32 := h
            rw [spec_plGood.l1] at h
            refine c_seq ?_
            refine za0 ?_
            refine o_q rfl rfl (q_lss rfl rfl) ?_
            refine o_end ?_
            refine za1 ?_
            refine c_seq ?_
            refine c_false (congrArg Value.bool hr28.ge) ?_
            refine c_exit ?_
            refine za8 ?_
            refine za8 ?_
            have e_ := Option.some.inj h; replace h := hR30; rw [← e_] at h; clear e_
            refine x_hit ?_
            refine za1 ?_
            refine c_seq ?_
            refine za0 ?_
            refine o_q rfl rfl (q_f F43_2 rfl) ?_
            refine o_q rfl rfl (q_ldb Y22 rfl (fun w h => h.za9 (i := 1) rfl) rfl) ?_
            refine o_q rfl rfl (q_f F43_0 rfl) ?_
            refine o_q rfl rfl (q_ldb Y3 rfl (fun w h => h.za9 (i := 1) rfl) rfl) ?_
            refine o_q rfl rfl (q_f F43_1 rfl) ?_
            refine o_q rfl rfl (q_ldb Y41 rfl (fun w h => h.za9 (i := 1) rfl) rfl) ?_
            refine o_q rfl rfl (q_len Try.underlying41 rfl) ?_
            refine o_q rfl rfl (q_add64 rfl rfl) ?_
            refine o_q rfl rfl (q_sub64 rfl rfl) ?_
            refine za7 h (fun b36 hx35 h => ?_) rfl
            refine o_e rfl (zab 0 Z Try.func47 N47 rfl rfl rfl (fun w P1 hF hB hS hT => spec_l1All.calls A0_2 c0_2 l0_2.length l0_2 0 (w64 (w64 (a0_0 + (l0_1.length : Int)) - 1)) hB hF (hS _ R0_2) hc0_2 _ hx35)) (fun _ => ?_)
            refine o_q rfl rfl (q_asg rfl) ?_
            refine o_end ?_
            refine za1 ?_
            refine c_ret ?_
            have e0_ := Option.some.inj h; clear h
            subst e0_
            exact x_r1 () Try.results86 (zae rfl) rfl (fun w h => za6 [] (by decide) rfl w h)
          · skip
            clear hl31
            have hr28 := hJ_.1; have hk34 := hJ_.2.1; have h := hJ_.2.2; clear hJ_
            replace h : spec_plGood.l1 (y25 :: ys26) i24 = some o32 := h
            rw [spec_plGood.l1] at h
            refine c_seq ?_
            refine za0 ?_
            refine o_q rfl rfl (q_lss rfl rfl) ?_
            refine o_end ?_
            refine za1 ?_
            refine c_seq ?_
            refine c_true (congrArg Value.bool hr28.lt) ?_
            refine zal ?_
            refine za1 ?_
            refine c_seq ?_
            refine zak ?_
            refine c_seq ?_
            refine za0 ?_
            refine zb0 (p := Sh A21 l20.length (zp H23 l20).length) (fun w h => f_sh (dk := (gk 3 (Kd.int .i64))) h (fun w h => h.zav (i := 0) rfl)) (fun hq37 => ?_)
            refine o_q rfl rfl (q_ix Try.underlying137 Z22 rfl rfl hq37 (gt_zp hr28.get)) ?_
            refine zb0 (p := y25.length ≤ hC H23 i24) (fun w h => (K_in (h.zav (i := 0) rfl) hr28.get).1) (fun hc38 => ?_)
            refine o_q rfl rfl (q_lde (off := 0) Y22 rfl rfl (fun w h => h.zav (i := 0) rfl) (gt_zp hr28.get) (fun _ _ h => h.1) rfl) ?_
            refine o_q rfl rfl (q_asg rfl) ?_
            refine o_end ?_
            refine za1 ?_
            refine c_seq ?_
            refine za0 ?_
            refine o_q rfl rfl (za2 rfl) ?_
            refine za7 h (fun b40 hx39 h => ?_) rfl
            refine o_e rfl (zab 0 Z Try.func47 N47 rfl rfl rfl (fun w P1 hF hB hS hT => spec_l1All.calls (hA H23 i24) (hC H23 i24) y25.length y25 0 1000000 hB hF (stab_in (hT 0 _ rfl).row hr28.get) hc38 _ hx39)) (fun _ => ?_)
            refine o_q rfl rfl (q_not rfl) ?_
            refine o_end ?_
            refine za1 ?_
            refine zaq _ rfl (fun hb41 => ?_) (fun hb41 => ?_)
            · replace hb41 := nt_t hb41
              replace h := bb_f hb41 h
              refine c_seq ?_
              refine za0 ?_
              refine o_q rfl rfl (q_asg rfl) ?_
              refine o_end ?_
              refine za1 ?_
              refine c_ret ?_
              refine zah ?_
              refine za5 ?_
              refine za5 ?_
              have e_ := Option.some.inj h; replace h := hR30; rw [← e_] at h; clear e_
              refine zah ?_
              refine za5 ?_
              have e0_ := Option.some.inj h; clear h
              subst e0_
              exact x_r1 () Try.results86 (zae rfl) rfl (fun w h => za6 [] (by decide) rfl w h)
            · replace hb41 := nt_f hb41
              replace h := bb_t hb41 h
              refine zal ?_
              refine zau ?_
              refine za1 ?_
              refine za0 ?_
              refine o_q rfl rfl (q_up rfl rfl (hr28.up hm29)) ?_
              refine o_q rfl rfl (za2 rfl) ?_
              refine o_end ?_
              refine zas ys26.length (ys26, i24 + 1) (by rw [← hk34]; exact Nat.lt_succ_self _) ⟨hr28.step, rfl, h⟩ ⟨rfl, trivial⟩ (fun w h => za6 [0, 1] (by decide) rfl w h) ?_
              repeat (first | exact zad _ _ | refine zai rfl ?_ | refine zaf rfl ?_ | refine zaj rfl ?_)
        · skip
          clear hl15
          have hr12 := hJ_.1; have hk18 := hJ_.2.1; have h := hJ_.2.2; clear hJ_
          replace h : spec_plGood.l0 a0_0 (y9 :: ys10) i8 = some o16 := h
          rw [spec_plGood.l0] at h
          refine c_seq ?_
          refine za0 ?_
          refine o_q rfl rfl (q_lss rfl rfl) ?_
          refine o_end ?_
          refine za1 ?_
          refine c_seq ?_
          refine c_true (congrArg Value.bool hr12.lt) ?_
          refine zal ?_
          refine za1 ?_
          refine c_seq ?_
          refine zak ?_
          refine c_seq ?_
          refine za0 ?_
          refine o_q rfl rfl (za2 rfl) ?_
          refine zb0 (p := Sh A0_1 l0_1.length l0_1.length) (fun w h => f_sh (dk := kStep) h (fun w h => R0_1.now Z h)) (fun hq42 => ?_)
          refine o_q rfl rfl (q_ix Try.underlying41 Z117 rfl rfl hq42 hr12.get) ?_
          refine o_q rfl rfl (q_ldE G117 Z117 rfl rfl (fun w h => R0_1.now Z h) hr12.get (fun _ _ h => h) rfl) ?_
          refine o_e rfl (zar V117 rfl) (fun g43 => ?_)
          refine o_q rfl rfl (q_asg rfl) ?_
          refine o_e rfl (zam (i := 0) rfl rfl rfl Z117 rfl rfl) (fun _ => ?_)
          refine o_end ?_
          refine za1 ?_
          refine c_seq ?_
          refine za0 ?_
          refine o_q rfl rfl (q_f F117_0 rfl) ?_
          refine o_q rfl rfl (q_ldb Y3 rfl (fun w h => h.za9 (i := 0) rfl) rfl) ?_
          refine o_q rfl rfl (q_f F117_1 rfl) ?_
          refine o_q rfl rfl (q_ldb Y3 rfl (fun w h => h.za9 (i := 0) rfl) rfl) ?_
          refine za7 h (fun b46 hx45 h => ?_) rfl
          refine o_e rfl (zab 0 Z Try.func81 N81 rfl rfl rfl (fun w P1 hF hB hS hT => spec_l1In.calls y9.f0 0 y9.f1 hB hF _ hx45)) (fun _ => ?_)
          refine o_q rfl rfl (q_not rfl) ?_
          refine o_q rfl rfl (za2 rfl) ?_
          refine byB b46 (fun hb47 => ?_) (fun hb47 => ?_)
          · replace h := bb_t hb47 h
            refine o_w (za4 rfl rfl rfl (congrArg (fun b => Value.bool (!(b))) hb47)) rfl (q_f F117_1 rfl) ?_
            refine o_w (za4 rfl rfl rfl (congrArg (fun b => Value.bool (!(b))) hb47)) rfl (q_ldb Y3 rfl (fun w h => h.za9 (i := 0) rfl) rfl) ?_
            refine o_w (za4 rfl rfl rfl (congrArg (fun b => Value.bool (!(b))) hb47)) rfl (q_f F43_0 rfl) ?_
            refine o_w (za4 rfl rfl rfl (congrArg (fun b => Value.bool (!(b))) hb47)) rfl (q_ldb Y3 rfl (fun w h => h.za9 (i := 1) rfl) rfl) ?_
            refine o_w (za4 rfl rfl rfl (congrArg (fun b => Value.bool (!(b))) hb47)) rfl (za2 rfl) ?_
            refine o_w (za4 rfl rfl rfl (congrArg (fun b => Value.bool (!(b))) hb47)) rfl (q_add64 rfl rfl) ?_
            refine o_w (za4 rfl rfl rfl (congrArg (fun b => Value.bool (!(b))) hb47)) rfl (q_geq rfl rfl) ?_
            refine o_q rfl rfl (zao false (congrArg (fun b => Value.bool (!(b))) hb47) rfl) ?_
            refine o_end ?_
            refine za1 ?_
            refine zaq _ rfl (fun hb48 => ?_) (fun hb48 => ?_)
            · skip
              replace h := br_t hb48 h
              refine c_seq ?_
              refine za0 ?_
              refine o_q rfl rfl (q_asg rfl) ?_
              refine o_end ?_
              refine za1 ?_
              refine c_ret ?_
              refine zah ?_
              refine za5 ?_
              refine za5 ?_
              have e_ := Option.some.inj h; replace h := hR14; rw [← e_] at h; clear e_
              refine zah ?_
              refine za5 ?_
              have e0_ := Option.some.inj h; clear h
              subst e0_
              exact x_r1 () Try.results86 (zae rfl) rfl (fun w h => za6 [] (by decide) rfl w h)
            · skip
              replace h := br_f hb48 h
              refine zal ?_
              refine zau ?_
              refine za1 ?_
              refine za0 ?_
              refine o_q rfl rfl (q_up rfl rfl (hr12.up hm13)) ?_
              refine o_q rfl rfl (za2 rfl) ?_
              refine o_end ?_
              refine zas ys10.length (ys10, i8 + 1) (by rw [← hk18]; exact Nat.lt_succ_self _) ⟨hr12.step, rfl, h⟩ ⟨rfl, trivial⟩ (fun w h => za6 [1] (by decide) rfl w h) ?_
              repeat (first | exact zad _ _ | refine zai rfl ?_ | refine zaf rfl ?_ | refine zaj rfl ?_)
          · replace h := bb_f hb47 h
            refine @o_n _ _ _ _ _ _ _ _ _ _ _ 38 (za3 rfl rfl rfl (congrArg (fun b => Value.bool (!(b))) hb47) rfl) (Eq.refl (some 38)) ?_
            refine @o_n _ _ _ _ _ _ _ _ _ _ _ 39 (za3 rfl rfl rfl (congrArg (fun b => Value.bool (!(b))) hb47) rfl) (Eq.refl (some 39)) ?_
            refine @o_n _ _ _ _ _ _ _ _ _ _ _ 40 (za3 rfl rfl rfl (congrArg (fun b => Value.bool (!(b))) hb47) rfl) (Eq.refl (some 40)) ?_
            refine @o_n _ _ _ _ _ _ _ _ _ _ _ 41 (za3 rfl rfl rfl (congrArg (fun b => Value.bool (!(b))) hb47) rfl) (Eq.refl (some 41)) ?_
            refine @o_n _ _ _ _ _ _ _ _ _ _ _ 42 (za3 rfl rfl rfl (congrArg (fun b => Value.bool (!(b))) hb47) rfl) (Eq.refl (some 42)) ?_
            refine @o_n _ _ _ _ _ _ _ _ _ _ _ 43 (za3 rfl rfl rfl (congrArg (fun b => Value.bool (!(b))) hb47) rfl) (Eq.refl (some 43)) ?_
            refine @o_n _ _ _ _ _ _ _ _ _ _ _ 44 (za3 rfl rfl rfl (congrArg (fun b => Value.bool (!(b))) hb47) rfl) (Eq.refl (some 44)) ?_
            refine o_q rfl rfl (zao true (congrArg (fun b => Value.bool (!(b))) hb47) rfl) ?_
            refine o_end ?_
            refine za1 ?_
            refine c_true rfl ?_
            refine c_seq ?_
            refine za0 ?_
            refine o_q rfl rfl (q_asg rfl) ?_
            refine o_end ?_
            refine za1 ?_
            refine c_ret ?_
            refine zah ?_
            refine za5 ?_
            refine za5 ?_
            have e_ := Option.some.inj h; replace h := hR14; rw [← e_] at h; clear e_
            refine zah ?_
            refine za5 ?_
            have e0_ := Option.some.inj h; clear h
            subst e0_
            exact x_r1 () Try.results86 (zae rfl) rfl (fun w h => za6 [] (by decide) rfl w h)
  · replace h := bb_f hb5 h
    refine @o_n _ _ _ _ _ _ _ _ _ _ _ 12 (za3 rfl rfl rfl (congrArg (fun b => Value.bool (!(b))) hb5) rfl) (Eq.refl (some 12)) ?_
    refine @o_n _ _ _ _ _ _ _ _ _ _ _ 13 (za3 rfl rfl rfl (congrArg (fun b => Value.bool (!(b))) hb5) rfl) (Eq.refl (some 13)) ?_
    refine @o_n _ _ _ _ _ _ _ _ _ _ _ 14 (za3 rfl rfl rfl (congrArg (fun b => Value.bool (!(b))) hb5) rfl) (Eq.refl (some 14)) ?_
    refine @o_n _ _ _ _ _ _ _ _ _ _ _ 15 (za3 rfl rfl rfl (congrArg (fun b => Value.bool (!(b))) hb5) rfl) (Eq.refl (some 15)) ?_
    refine o_q rfl rfl (zao true (congrArg (fun b => Value.bool (!(b))) hb5) rfl) ?_
    refine o_q rfl rfl (za2 rfl) ?_
    refine @o_n _ _ _ _ _ _ _ _ _ _ _ 18 (za3 rfl rfl rfl rfl rfl) (Eq.refl (some 18)) ?_
    refine @o_n _ _ _ _ _ _ _ _ _ _ _ 19 (za3 rfl rfl rfl rfl rfl) (Eq.refl (some 19)) ?_
    refine @o_n _ _ _ _ _ _ _ _ _ _ _ 20 (za3 rfl rfl rfl rfl rfl) (Eq.refl (some 20)) ?_
    refine @o_n _ _ _ _ _ _ _ _ _ _ _ 21 (za3 rfl rfl rfl rfl rfl) (Eq.refl (some 21)) ?_
    refine o_q rfl rfl (zao true rfl rfl) ?_
    refine o_end ?_
    refine za1 ?_
    refine c_true rfl ?_
    refine c_seq ?_
    refine za0 ?_
    refine o_q rfl rfl (q_asg rfl) ?_
    refine o_end ?_
    refine za1 ?_
    refine c_ret ?_
    refine za5 ?_
    have e0_ := Option.some.inj h; clear h
    subst e0_
    exact x_r1 () Try.results86 (zae rfl) rfl (fun w h => za6 [] (by decide) rfl w h)

end Go.Proofs.Ytjioedcbcdppeaa.RS
