import Derived.Test.YtnnlfipcoahcnaaGreatDoorKFnExactParseRegCodeHand
import Derived.Test.YtnnlfipcoahcnaaGreatDoorKFnExactParseRegCodeOpr
import Derived.Test.YtnnlfipcoahcnaaGreatDoorKFnExactParseRegCodeOps
import Derived.Test.YtnnlfipcoahcnaaGreatDoorKFnExactParseRegCodeTxt
import Derived.Test.YtnnlfipcoahcnaaGreatDoorProg
import Derived.Test.YtnnlfipcoahcnaaGreatDoorKFnExactParseRegCodeWMore
import Derived.KernelRfl
namespace Go.Proofs.YtnnlfipcoahcnaaGreatDoor.G1
open Go.RowKit Go.Proofs.YtnnlfipcoahcnaaGreatDoor.Frame Go.Proofs.YtnnlfipcoahcnaaGreatDoorW.PrintLast Go.Proofs.YtnnlfipcoahcnaaGreatDoor.Hand
open Go.Proofs.YtnnlfipcoahcnaaGreatDoorW.PrintWords hiding mn mx
set_option linter.unusedVariables false
structure SStep where
  f0 : Int
  f1 : Int
def kStep : Kd SStep := flat (fun x => [.int .i64 x.f0, .int .i64 x.f1]) 2 (fun _ => rfl) (fun x u hu => by
  simp only [List.mem_cons, List.not_mem_nil, or_false] at hu
  rcases hu with rfl | rfl <;> rfl)
structure SRegOp where
  f0 : Int
  f1 : Int
  f2 : Int
def zax : Kd SRegOp := flat (fun x => [.int .i64 x.f0, .int .i64 x.f1, .int .i64 x.f2]) 3 (fun _ => rfl) (fun x u hu => by
  simp only [List.mem_cons, List.not_mem_nil, or_false] at hu
  rcases hu with rfl | rfl | rfl <;> rfl)
theorem F27_0 : fldOff Tryz.prog 27 0 = some 0 := by kernel_rfl
theorem F27_1 : fldOff Tryz.prog 27 1 = some 1 := by kernel_rfl
theorem F27_2 : fldOff Tryz.prog 27 2 = some 2 := by kernel_rfl
theorem F38_0 : fldOff Tryz.prog 38 0 = some 0 := by kernel_rfl
theorem F38_1 : fldOff Tryz.prog 38 1 = some 1 := by kernel_rfl
theorem F38_2 : fldOff Tryz.prog 38 2 = some 2 := by kernel_rfl
theorem F38_3 : fldOff Tryz.prog 38 3 = some 3 := by kernel_rfl
theorem F72_0 : fldOff Tryz.prog 72 0 = some 0 := by kernel_rfl
theorem F72_1 : fldOff Tryz.prog 72 1 = some 1 := by kernel_rfl
theorem F84_0 : fldOff Tryz.prog 84 0 = some 0 := by kernel_rfl
theorem F84_1 : fldOff Tryz.prog 84 1 = some 1 := by kernel_rfl
theorem F84_2 : fldOff Tryz.prog 84 2 = some 2 := by kernel_rfl
theorem G27 : aggTy (Tryz.prog.underlying 27) = true := by kernel_rfl
theorem G38 : aggTy (Tryz.prog.underlying 38) = true := by kernel_rfl
theorem G72 : aggTy (Tryz.prog.underlying 72) = true := by kernel_rfl
theorem G84 : aggTy (Tryz.prog.underlying 84) = true := by kernel_rfl
theorem I25 : (Tryz.prog.info? 25).map (fun i => (i.zero, i.size, i.bytes)) = some (some (.slice none 0 0), 1, 24) := by kernel_rfl
theorem I3 : (Tryz.prog.info? 3).map (fun i => (i.zero, i.size, i.bytes)) = some (some (.int .i64 0), 1, 8) := by kernel_rfl
theorem I5 : (Tryz.prog.info? 5).map (fun i => (i.zero, i.size, i.bytes)) = some (some (.int .u8 0), 1, 1) := by kernel_rfl
theorem I72 : (Tryz.prog.info? 72).map (fun i => (i.zero, i.size, i.bytes)) = some (some (.agg #[.int .i64 0, .int .i64 0]), 2, 16) := by kernel_rfl
theorem I84 : (Tryz.prog.info? 84).map (fun i => (i.zero, i.size, i.bytes)) = some (some (.agg #[.int .i64 0, .int .i64 0, .int .i64 0]), 3, 24) := by kernel_rfl
theorem I9 : (Tryz.prog.info? 9).map (fun i => (i.zero, i.size, i.bytes)) = some (some (.string (⟨#[]⟩ : ByteArray)), 1, 16) := by kernel_rfl
theorem MO : Tryz.prog.follows .mixedOrders = true := by kernel_rfl
theorem N10 : (Tryz.f10.name == "runtime.NumGoroutine") = false := by kernel_rfl
theorem N100 : (Tryz.f100.name == "runtime.NumGoroutine") = false := by kernel_rfl
theorem N111 : (Tryz.f111.name == "runtime.NumGoroutine") = false := by kernel_rfl
theorem N112 : (Tryz.f112.name == "runtime.NumGoroutine") = false := by kernel_rfl
theorem N115 : (Tryz.f115.name == "runtime.NumGoroutine") = false := by kernel_rfl
theorem N116 : (Tryz.f116.name == "runtime.NumGoroutine") = false := by kernel_rfl
theorem N123 : (Tryz.f123.name == "runtime.NumGoroutine") = false := by kernel_rfl
theorem N124 : (Tryz.f124.name == "runtime.NumGoroutine") = false := by kernel_rfl
theorem N137 : (Tryz.f137.name == "runtime.NumGoroutine") = false := by kernel_rfl
theorem N138 : (Tryz.f138.name == "runtime.NumGoroutine") = false := by kernel_rfl
theorem N15 : (Tryz.f15.name == "runtime.NumGoroutine") = false := by kernel_rfl
theorem N16 : (Tryz.f16.name == "runtime.NumGoroutine") = false := by kernel_rfl
theorem N17 : (Tryz.f17.name == "runtime.NumGoroutine") = false := by kernel_rfl
theorem N18 : (Tryz.f18.name == "runtime.NumGoroutine") = false := by kernel_rfl
theorem N19 : (Tryz.f19.name == "runtime.NumGoroutine") = false := by kernel_rfl
theorem N26 : (Tryz.f26.name == "runtime.NumGoroutine") = false := by kernel_rfl
theorem N33 : (Tryz.f33.name == "runtime.NumGoroutine") = false := by kernel_rfl
theorem N35 : (Tryz.f35.name == "runtime.NumGoroutine") = false := by kernel_rfl
theorem N36 : (Tryz.f36.name == "runtime.NumGoroutine") = false := by kernel_rfl
theorem N37 : (Tryz.f37.name == "runtime.NumGoroutine") = false := by kernel_rfl
theorem N38 : (Tryz.f38.name == "runtime.NumGoroutine") = false := by kernel_rfl
theorem N39 : (Tryz.f39.name == "runtime.NumGoroutine") = false := by kernel_rfl
theorem N40 : (Tryz.f40.name == "runtime.NumGoroutine") = false := by kernel_rfl
theorem N41 : (Tryz.f41.name == "runtime.NumGoroutine") = false := by kernel_rfl
theorem N42 : (Tryz.f42.name == "runtime.NumGoroutine") = false := by kernel_rfl
theorem N43 : (Tryz.f43.name == "runtime.NumGoroutine") = false := by kernel_rfl
theorem N44 : (Tryz.f44.name == "runtime.NumGoroutine") = false := by kernel_rfl
theorem N50 : (Tryz.f50.name == "runtime.NumGoroutine") = false := by kernel_rfl
theorem N51 : (Tryz.f51.name == "runtime.NumGoroutine") = false := by kernel_rfl
theorem N54 : (Tryz.f54.name == "runtime.NumGoroutine") = false := by kernel_rfl
theorem N55 : (Tryz.f55.name == "runtime.NumGoroutine") = false := by kernel_rfl
theorem N56 : (Tryz.f56.name == "runtime.NumGoroutine") = false := by kernel_rfl
theorem N57 : (Tryz.f57.name == "runtime.NumGoroutine") = false := by kernel_rfl
theorem N58 : (Tryz.f58.name == "runtime.NumGoroutine") = false := by kernel_rfl
theorem N59 : (Tryz.f59.name == "runtime.NumGoroutine") = false := by kernel_rfl
theorem N60 : (Tryz.f60.name == "runtime.NumGoroutine") = false := by kernel_rfl
theorem N61 : (Tryz.f61.name == "runtime.NumGoroutine") = false := by kernel_rfl
theorem N62 : (Tryz.f62.name == "runtime.NumGoroutine") = false := by kernel_rfl
theorem N63 : (Tryz.f63.name == "runtime.NumGoroutine") = false := by kernel_rfl
theorem N64 : (Tryz.f64.name == "runtime.NumGoroutine") = false := by kernel_rfl
theorem N67 : (Tryz.f67.name == "runtime.NumGoroutine") = false := by kernel_rfl
theorem N68 : (Tryz.f68.name == "runtime.NumGoroutine") = false := by kernel_rfl
theorem N71 : (Tryz.f71.name == "runtime.NumGoroutine") = false := by kernel_rfl
theorem N72 : (Tryz.f72.name == "runtime.NumGoroutine") = false := by kernel_rfl
theorem N74 : (Tryz.f74.name == "runtime.NumGoroutine") = false := by kernel_rfl
theorem N78 : (Tryz.f78.name == "runtime.NumGoroutine") = false := by kernel_rfl
theorem N81 : (Tryz.f81.name == "runtime.NumGoroutine") = false := by kernel_rfl
theorem N82 : (Tryz.f82.name == "runtime.NumGoroutine") = false := by kernel_rfl
theorem N83 : (Tryz.f83.name == "runtime.NumGoroutine") = false := by kernel_rfl
theorem N84 : (Tryz.f84.name == "runtime.NumGoroutine") = false := by kernel_rfl
theorem N85 : (Tryz.f85.name == "runtime.NumGoroutine") = false := by kernel_rfl
theorem N86 : (Tryz.f86.name == "runtime.NumGoroutine") = false := by kernel_rfl
theorem N88 : (Tryz.f88.name == "runtime.NumGoroutine") = false := by kernel_rfl
theorem N89 : (Tryz.f89.name == "runtime.NumGoroutine") = false := by kernel_rfl
theorem N90 : (Tryz.f90.name == "runtime.NumGoroutine") = false := by kernel_rfl
theorem N91 : (Tryz.f91.name == "runtime.NumGoroutine") = false := by kernel_rfl
theorem N92 : (Tryz.f92.name == "runtime.NumGoroutine") = false := by kernel_rfl
theorem N94 : (Tryz.f94.name == "runtime.NumGoroutine") = false := by kernel_rfl
theorem N96 : (Tryz.f96.name == "runtime.NumGoroutine") = false := by kernel_rfl
theorem N97 : (Tryz.f97.name == "runtime.NumGoroutine") = false := by kernel_rfl
theorem N98 : (Tryz.f98.name == "runtime.NumGoroutine") = false := by kernel_rfl
theorem N99 : (Tryz.f99.name == "runtime.NumGoroutine") = false := by kernel_rfl
theorem V25 : (Tryz.prog.info? 25).bind (·.zero) = some (.slice none 0 0) := by kernel_rfl
theorem V27 : (Tryz.prog.info? 27).bind (·.zero) = some (.agg #[.int .i64 0, .slice none 0 0, .slice none 0 0]) := by kernel_rfl
theorem V38 : (Tryz.prog.info? 38).bind (·.zero) = some (.agg #[.int .i64 0, .slice none 0 0, .slice none 0 0, .slice none 0 0]) := by kernel_rfl
theorem V72 : (Tryz.prog.info? 72).bind (·.zero) = some (.agg #[.int .i64 0, .int .i64 0]) := by kernel_rfl
theorem V84 : (Tryz.prog.info? 84).bind (·.zero) = some (.agg #[.int .i64 0, .int .i64 0, .int .i64 0]) := by kernel_rfl
theorem Y100 : cellTy (Tryz.prog.underlying 100) = true := by kernel_rfl
theorem Y24 : cellTy (Tryz.prog.underlying 24) = true := by kernel_rfl
theorem Y25 : cellTy (Tryz.prog.underlying 25) = true := by kernel_rfl
theorem Y3 : cellTy (Tryz.prog.underlying 3) = true := by kernel_rfl
theorem Y36 : cellTy (Tryz.prog.underlying 36) = true := by kernel_rfl
theorem Y9 : cellTy (Tryz.prog.underlying 9) = true := by kernel_rfl
theorem Z24 : (Tryz.prog.info? 24).map (·.size) = some 1 := by kernel_rfl
theorem Z25 : (Tryz.prog.info? 25).map (·.size) = some 1 := by kernel_rfl
theorem Z27 : (Tryz.prog.info? 27).map (·.size) = some 3 := by kernel_rfl
theorem Z3 : (Tryz.prog.info? 3).map (·.size) = some 1 := by kernel_rfl
theorem Z36 : (Tryz.prog.info? 36).map (·.size) = some 1 := by kernel_rfl
theorem Z38 : (Tryz.prog.info? 38).map (·.size) = some 4 := by kernel_rfl
theorem Z72 : (Tryz.prog.info? 72).map (·.size) = some 2 := by kernel_rfl
theorem Z84 : (Tryz.prog.info? 84).map (·.size) = some 3 := by kernel_rfl
theorem Z9 : (Tryz.prog.info? 9).map (·.size) = some 1 := by kernel_rfl
/-! ### loop.example/g01098/impl.in: function 88 -/
def impl_in.f (a0 : Int) (a1 : Int) (a2 : Int) : Option Bool := if a1 ≤ a0 then (some (decide (a0 ≤ a2))) else (some false)
set_option maxHeartbeats 600000 in
set_option maxRecDepth 100000 in
theorem impl_in.calls {w0 ws : World} {P0 : Nat → Prop} (a0 : Int) (a1 : Int) (a2 : Int) (Z : Below w0.heap.size w0 ws) (hF : Fr w0 ws P0 [] ws)  (r_1 : Bool) (h : impl_in.f a0 a1 a2 = some r_1) :
    Calls Tryz.prog 88 #[.int .i64 a0, .int .i64 a1, .int .i64 a2] ws (Post1 w0 ws P0 (fun (_ : Unit) => .bool r_1) (fun (_ : Unit) => [])) := by
  unfold impl_in.f at h
  refine enter Tryz.func88 rfl Tryz.ntmps88 rfl hF ?_
  refine c_seq ?_
  refine za0 ?_
  refine o_q rfl rfl (q_asg rfl) ?_
  refine o_end ?_
  refine za1 ?_
  refine c_seq ?_
  refine za0 ?_
  refine o_q rfl rfl (za2 rfl) ?_
  refine o_q rfl rfl (za2 rfl) ?_
  refine o_q rfl rfl (q_geq rfl rfl) ?_
  refine o_q rfl rfl (za2 rfl) ?_
  refine byB (decide (a1 ≤ a0)) (fun hb1 => ?_) (fun hb1 => ?_)
  · replace h := br_t hb1 h
    refine o_w (za4 rfl rfl rfl (congrArg Value.bool hb1)) rfl (za2 rfl) ?_
    refine o_w (za4 rfl rfl rfl (congrArg Value.bool hb1)) rfl (za2 rfl) ?_
    refine o_w (za4 rfl rfl rfl (congrArg Value.bool hb1)) rfl (q_leq rfl rfl) ?_
    refine o_q rfl rfl (zas true (congrArg Value.bool hb1) rfl) ?_
    refine o_q rfl rfl (q_asg rfl) ?_
    refine o_end ?_
    refine za1 ?_
    refine c_ret ?_
    have e0_ := Option.some.inj h; clear h
    subst e0_
    exact x_r1 () Tryz.results88 (zaf rfl) rfl (fun w h => za7 [] (by decide) rfl w h)
  · replace h := br_f hb1 h
    refine @o_n _ _ _ _ _ _ _ _ _ _ _ 11 (za3 rfl rfl rfl (congrArg Value.bool hb1) rfl) (Eq.refl (some 11)) ?_
    refine @o_n _ _ _ _ _ _ _ _ _ _ _ 12 (za3 rfl rfl rfl (congrArg Value.bool hb1) rfl) (Eq.refl (some 12)) ?_
    refine @o_n _ _ _ _ _ _ _ _ _ _ _ 13 (za3 rfl rfl rfl (congrArg Value.bool hb1) rfl) (Eq.refl (some 13)) ?_
    refine o_q rfl rfl (zas false (congrArg Value.bool hb1) rfl) ?_
    refine o_q rfl rfl (q_asg rfl) ?_
    refine o_end ?_
    refine za1 ?_
    refine c_ret ?_
    have e0_ := Option.some.inj h; clear h
    subst e0_
    exact x_r1 () Tryz.results88 (zaf rfl) rfl (fun w h => za7 [] (by decide) rfl w h)

/-! ### (*loop.example/g01098/impl.Plan).many: function 91 -/
def impl_Plan_many.f (a0_0 : Int) (l0_1 : List SStep) (l0_2 : List Int) : Option Unit := some ()
set_option maxHeartbeats 600000 in
set_option maxRecDepth 100000 in
theorem impl_Plan_many.calls {w0 ws : World} {P0 : Nat → Prop} (g0 : Nat) (a0_0 : Int) (A0_1 : Option Addr) (c0_1 : Nat) (n0_1 : Nat) (l0_1 : List SStep) (A0_2 : Option Addr) (c0_2 : Nat) (n0_2 : Nat) (l0_2 : List Int) (Z : Below w0.heap.size w0 ws) (hF : Fr w0 ws P0 [] ws) (R0_1 : Stable ws P0 (fun w => Kd.C kStep w A0_1 n0_1 l0_1)) (hc0_1 : n0_1 ≤ c0_1) (R0_2 : Stable ws P0 (fun w => Kd.C (Kd.int .i64) w A0_2 n0_2 l0_2)) (hc0_2 : n0_2 ≤ c0_2) (B0 : Stable ws P0 (fun w => w.heap[g0]? = some (.cells #[.int .i64 a0_0, .slice A0_1 n0_1 c0_1, .slice A0_2 n0_2 c0_2] 27 (0, 0))))  (h : impl_Plan_many.f a0_0 l0_1 l0_2 = some ()) :
    Calls Tryz.prog 91 #[.pointer (some ⟨g0, 0, none⟩)] ws (Post1 w0 ws P0 (fun (_ : Unit) => .int .i64 (w64 (a0_0 + (l0_1.length : Int)))) (fun (_ : Unit) => [])) := by
  unfold impl_Plan_many.f at h
  obtain rfl := (R0_1 ws (KeptB.refl _ _)).1
  obtain rfl := (R0_2 ws (KeptB.refl _ _)).1
  refine enter Tryz.func91 rfl Tryz.ntmps91 rfl hF ?_
  refine c_seq ?_
  refine za0 ?_
  refine o_q rfl rfl (q_asg rfl) ?_
  refine o_end ?_
  refine za1 ?_
  refine c_seq ?_
  refine a_start (ds := []) MO rfl ?_
  refine zab 0 rfl rfl rfl (by kernel_rfl) (fun _ _ _ h => h) (za2 rfl) ?_
  refine zab 1 rfl rfl rfl (by kernel_rfl) (fun _ _ _ h => h) (q_nil rfl) ?_
  refine zab 2 rfl rfl rfl (by kernel_rfl) (fun _ _ _ h => h) (q_f F27_0 rfl) ?_
  refine zaz 3 rfl rfl rfl (by kernel_rfl) (fun _ _ _ h => h) (fun w h => h) (q_ldb Y3 rfl (fun w h => B0.now Z h) rfl) ?_
  refine zab 4 rfl rfl rfl (by kernel_rfl) (fun _ _ _ h => h) (za2 rfl) ?_
  refine zab 5 rfl rfl rfl (by kernel_rfl) (fun _ _ _ h => h) (q_nil rfl) ?_
  refine zab 6 rfl rfl rfl (by kernel_rfl) (fun _ _ _ h => h) (q_f F27_1 rfl) ?_
  refine zaz 7 rfl rfl rfl (by kernel_rfl) (fun _ _ _ h => h) (fun w h => h) (q_ldb Y24 rfl (fun w h => B0.now Z h) rfl) ?_
  refine zab 8 rfl rfl rfl (by kernel_rfl) (fun _ _ _ h => h) (q_len Tryz.underlying24 rfl) ?_
  refine zab 9 rfl rfl rfl (by kernel_rfl) (fun _ _ _ h => h) (q_add64 rfl rfl) ?_
  refine zab 10 rfl rfl rfl (by kernel_rfl) (fun _ _ _ h => h) (q_asg rfl) ?_
  refine zay (by kernel_rfl) ?_
  refine za1 ?_
  refine c_ret ?_
  exact x_r1 () Tryz.results91 (zaf rfl) rfl (fun w h => za7 [] (by decide) rfl w h)

/-! ### (*loop.example/g01098/impl.Plan).formed$1: function 90 -/
def impl_Plan_formed_1.f (a0 : Int) (a1_0_0 : Int) (l1_0_1 : List SStep) (l1_0_2 : List Int) : Option Bool := (impl_Plan_many.f a1_0_0 l1_0_1 l1_0_2).bind fun _ => (impl_in.f a0 0 (w64 (w64 (a1_0_0 + (l1_0_1.length : Int)) - 1))).bind fun b3 => some (!b3)
set_option maxHeartbeats 600000 in
set_option maxRecDepth 100000 in
theorem impl_Plan_formed_1.calls {w0 ws : World} {P0 : Nat → Prop} (a0 : Int) (g1 : Nat) (g1_0 : Nat) (a1_0_0 : Int) (A1_0_1 : Option Addr) (c1_0_1 : Nat) (n1_0_1 : Nat) (l1_0_1 : List SStep) (A1_0_2 : Option Addr) (c1_0_2 : Nat) (n1_0_2 : Nat) (l1_0_2 : List Int) (Z : Below w0.heap.size w0 ws) (hF : Fr w0 ws P0 [] ws) (R1_0_1 : Stable ws P0 (fun w => Kd.C kStep w A1_0_1 n1_0_1 l1_0_1)) (hc1_0_1 : n1_0_1 ≤ c1_0_1) (R1_0_2 : Stable ws P0 (fun w => Kd.C (Kd.int .i64) w A1_0_2 n1_0_2 l1_0_2)) (hc1_0_2 : n1_0_2 ≤ c1_0_2) (B1_0 : Stable ws P0 (fun w => w.heap[g1_0]? = some (.cells #[.int .i64 a1_0_0, .slice A1_0_1 n1_0_1 c1_0_1, .slice A1_0_2 n1_0_2 c1_0_2] 27 (0, 0)))) (B1 : Stable ws P0 (fun w => w.heap[g1]? = some (.cells #[.pointer (some ⟨g1_0, 0, none⟩)] 100 (0, 0)))) (r_1 : Bool) (h : impl_Plan_formed_1.f a0 a1_0_0 l1_0_1 l1_0_2 = some r_1) :
    Calls Tryz.prog 90 #[.int .i64 a0, .pointer (some ⟨g1, 0, none⟩)] ws (Post1 w0 ws P0 (fun (_ : Unit) => .bool r_1) (fun (_ : Unit) => [])) := by
  unfold impl_Plan_formed_1.f at h
  obtain rfl := (R1_0_1 ws (KeptB.refl _ _)).1
  obtain rfl := (R1_0_2 ws (KeptB.refl _ _)).1
  refine enter Tryz.func90 rfl Tryz.ntmps90 rfl hF ?_
  refine c_seq ?_
  refine za0 ?_
  refine o_q rfl rfl (q_asg rfl) ?_
  refine o_end ?_
  refine za1 ?_
  refine c_seq ?_
  refine za0 ?_
  refine o_q rfl rfl (za2 rfl) ?_
  refine o_q rfl rfl (q_ldb Y100 rfl (fun w h => B1.now Z h) rfl) ?_
  refine za6 h (fun _ hx1 h => ?_) rfl
  refine o_e rfl (za9 0 Z Tryz.func91 N91 rfl rfl rfl (fun w P1 hF hB hS hT => impl_Plan_many.calls g1_0 a1_0_0 A1_0_1 c1_0_1 l1_0_1.length l1_0_1 A1_0_2 c1_0_2 l1_0_2.length l1_0_2 hB hF (hS _ R1_0_1) hc1_0_1 (hS _ R1_0_2) hc1_0_2 (hS _ B1_0) hx1)) (fun _ => ?_)
  refine o_q rfl rfl (q_sub64 rfl rfl) ?_
  refine za6 h (fun b3 hx2 h => ?_) rfl
  refine o_e rfl (za9 0 Z Tryz.func88 N88 rfl rfl rfl (fun w P1 hF hB hS hT => impl_in.calls a0 0 (w64 (w64 (a1_0_0 + (l1_0_1.length : Int)) - 1)) hB hF _ hx2)) (fun _ => ?_)
  refine o_q rfl rfl (q_not rfl) ?_
  refine o_q rfl rfl (q_asg rfl) ?_
  refine o_end ?_
  refine za1 ?_
  refine c_ret ?_
  have e0_ := Option.some.inj h; clear h
  subst e0_
  exact x_r1 () Tryz.results90 (zaf rfl) rfl (fun w h => za7 [] (by decide) rfl w h)

/-! ### slices.IndexFunc[[]int,int]: function 116 -/
def slices_IndexFunc_int_int.l0 (a1_c0_0_0 : Int) (l1_c0_0_1 : List SStep) (l1_c0_0_2 : List Int) : (List Int) → Int → Option ((Int) ⊕ (Unit))
  | [], i1 => some (.inr ())
  | y2 :: ys3, i1 => (impl_Plan_formed_1.f y2 a1_c0_0_0 l1_c0_0_1 l1_c0_0_2).bind fun b14 => if b14 = true then (some (.inl i1)) else (slices_IndexFunc_int_int.l0 a1_c0_0_0 l1_c0_0_1 l1_c0_0_2 ys3 (i1 + 1))
def slices_IndexFunc_int_int.f (l0 : List Int) (a1_c0_0_0 : Int) (l1_c0_0_1 : List SStep) (l1_c0_0_2 : List Int) : Option Int := (slices_IndexFunc_int_int.l0 a1_c0_0_0 l1_c0_0_1 l1_c0_0_2 l0 0).bind fun o_ => match o_ with | .inl r_ => some r_ | .inr _ => some (-1)
set_option maxHeartbeats 600000 in
set_option maxRecDepth 100000 in
theorem slices_IndexFunc_int_int.calls {w0 ws : World} {P0 : Nat → Prop} (A0 : Option Addr) (c0 : Nat) (n0 : Nat) (l0 : List Int) (g1_c0 : Nat) (g1_c0_0 : Nat) (a1_c0_0_0 : Int) (A1_c0_0_1 : Option Addr) (c1_c0_0_1 : Nat) (n1_c0_0_1 : Nat) (l1_c0_0_1 : List SStep) (A1_c0_0_2 : Option Addr) (c1_c0_0_2 : Nat) (n1_c0_0_2 : Nat) (l1_c0_0_2 : List Int) (Z : Below w0.heap.size w0 ws) (hF : Fr w0 ws P0 [] ws) (R0 : Stable ws P0 (fun w => Kd.C (Kd.int .i64) w A0 n0 l0)) (hc0 : n0 ≤ c0) (R1_c0_0_1 : Stable ws P0 (fun w => Kd.C kStep w A1_c0_0_1 n1_c0_0_1 l1_c0_0_1)) (hc1_c0_0_1 : n1_c0_0_1 ≤ c1_c0_0_1) (R1_c0_0_2 : Stable ws P0 (fun w => Kd.C (Kd.int .i64) w A1_c0_0_2 n1_c0_0_2 l1_c0_0_2)) (hc1_c0_0_2 : n1_c0_0_2 ≤ c1_c0_0_2) (B1_c0_0 : Stable ws P0 (fun w => w.heap[g1_c0_0]? = some (.cells #[.int .i64 a1_c0_0_0, .slice A1_c0_0_1 n1_c0_0_1 c1_c0_0_1, .slice A1_c0_0_2 n1_c0_0_2 c1_c0_0_2] 27 (0, 0)))) (B1_c0 : Stable ws P0 (fun w => w.heap[g1_c0]? = some (.cells #[.pointer (some ⟨g1_c0_0, 0, none⟩)] 100 (0, 0)))) (r_1 : Int) (h : slices_IndexFunc_int_int.f l0 a1_c0_0_0 l1_c0_0_1 l1_c0_0_2 = some r_1) :
    Calls Tryz.prog 116 #[.slice A0 n0 c0, .func (.func 90) #[] #[.pointer (some ⟨g1_c0, 0, none⟩)]] ws (Post1 w0 ws P0 (fun (_ : Unit) => .int .i64 r_1) (fun (_ : Unit) => [])) := by
  unfold slices_IndexFunc_int_int.f at h
  obtain rfl := (R0 ws (KeptB.refl _ _)).1
  obtain rfl := (R1_c0_0_1 ws (KeptB.refl _ _)).1
  obtain rfl := (R1_c0_0_2 ws (KeptB.refl _ _)).1
  refine enter Tryz.func116 rfl Tryz.ntmps116 rfl hF ?_
  refine c_seq ?_
  refine za0 ?_
  refine o_q rfl rfl (q_asg rfl) ?_
  refine o_end ?_
  refine za1 ?_
  refine c_seq ?_
  refine c_seq ?_
  refine za0 ?_
  refine o_q rfl rfl (za2 rfl) ?_
  refine o_q rfl rfl (q_len Tryz.underlying25 rfl) ?_
  refine o_q rfl rfl (za2 rfl) ?_
  refine o_end ?_
  refine za1 ?_
  refine zal ?_
  refine za6 h (fun o9 hl8 hR7 => ?_) rfl
  clear h
  refine c_fact (p := l0.length ≤ 9223372036854775807) (fun w h => (R0.now Z h).2.1) (fun hm6 => ?_)
  refine zb1 (σ := (List Int) × Int) (fun k4 ((ys3, i1) : (List Int) × Int) => Rg l0 i1 ys3 ∧ ys3.length = k4 ∧ slices_IndexFunc_int_int.l0 a1_c0_0_0 l1_c0_0_1 l1_c0_0_2 ys3 i1 = some o9) [4, 5, 8, 9, 10, 11, 12, 13, 14, 15, 16, 17, 18] (fun ((ys3, i1) : (List Int) × Int) => [(8, .int .i64 i1)]) (fun ((ys3, i1) : (List Int) × Int) => []) l0.length (l0, 0) ⟨Rg.start _, rfl, hl8⟩ ⟨rfl, trivial⟩ (fun w h => h) ?_
  refine fun k4 => cur2 (listC (fun i1 U10 hJ_ => ?_) (fun y2 ys3 i1 U10 hJ_ => ?_))
  · skip
    clear hl8
    have hr5 := hJ_.1; have hk11 := hJ_.2.1; have h := hJ_.2.2; clear hJ_
    replace h : slices_IndexFunc_int_int.l0 a1_c0_0_0 l1_c0_0_1 l1_c0_0_2 [] i1 = some o9 := h
    rw [slices_IndexFunc_int_int.l0] at h
    refine c_seq ?_
    refine za0 ?_
    refine o_q rfl rfl (q_lss rfl rfl) ?_
    refine o_end ?_
    refine za1 ?_
    refine c_seq ?_
    refine c_false (congrArg Value.bool hr5.ge) ?_
    refine c_exit ?_
    refine zaa ?_
    refine zaa ?_
    have e_ := Option.some.inj h; replace h := hR7; rw [← e_] at h; clear e_
    refine x_hit ?_
    refine za1 ?_
    refine c_seq ?_
    refine za0 ?_
    refine o_q rfl rfl (q_asg rfl) ?_
    refine o_end ?_
    refine za1 ?_
    refine c_ret ?_
    have e0_ := Option.some.inj h; clear h
    subst e0_
    exact x_r1 () Tryz.results116 (zaf rfl) rfl (fun w h => za7 [] (by decide) rfl w h)
  · skip
    clear hl8
    have hr5 := hJ_.1; have hk11 := hJ_.2.1; have h := hJ_.2.2; clear hJ_
    replace h : slices_IndexFunc_int_int.l0 a1_c0_0_0 l1_c0_0_1 l1_c0_0_2 (y2 :: ys3) i1 = some o9 := h
    rw [slices_IndexFunc_int_int.l0] at h
    refine c_seq ?_
    refine za0 ?_
    refine o_q rfl rfl (q_lss rfl rfl) ?_
    refine o_end ?_
    refine za1 ?_
    refine c_seq ?_
    refine c_true (congrArg Value.bool hr5.lt) ?_
    refine zak ?_
    refine za1 ?_
    refine c_seq ?_
    refine zal ?_
    refine c_seq ?_
    refine za0 ?_
    refine o_q rfl rfl (za2 rfl) ?_
    refine o_q rfl rfl (q_asg rfl) ?_
    refine o_end ?_
    refine za1 ?_
    refine c_seq ?_
    refine za0 ?_
    refine o_q rfl rfl (za2 rfl) ?_
    refine o_q rfl rfl (za2 rfl) ?_
    refine o_q rfl rfl (za2 rfl) ?_
    refine zb2 (p := Sh A0 l0.length l0.length) (fun w h => f_sh (dk := (Kd.int .i64)) h (fun w h => R0.now Z h)) (fun hq12 => ?_)
    refine o_q rfl rfl (q_ix Tryz.underlying25 Z3 rfl rfl hq12 hr5.get) ?_
    refine o_q rfl rfl (q_lde (off := 0) Y3 rfl rfl (fun w h => R0.now Z h) hr5.get (fun _ _ h => h) rfl) ?_
    refine za6 h (fun b14 hx13 h => ?_) rfl
    refine o_e rfl (za9 0 Z Tryz.func90 N90 rfl rfl rfl (fun w P1 hF hB hS hT => impl_Plan_formed_1.calls y2 g1_c0 g1_c0_0 a1_c0_0_0 A1_c0_0_1 c1_c0_0_1 l1_c0_0_1.length l1_c0_0_1 A1_c0_0_2 c1_c0_0_2 l1_c0_0_2.length l1_c0_0_2 hB hF (hS _ R1_c0_0_1) hc1_c0_0_1 (hS _ R1_c0_0_2) hc1_c0_0_2 (hS _ B1_c0_0) (hS _ B1_c0) _ hx13)) (fun _ => ?_)
    refine o_end ?_
    refine za1 ?_
    refine zaq _ rfl (fun hb15 => ?_) (fun hb15 => ?_)
    · skip
      replace h := bb_t hb15 h
      refine c_seq ?_
      refine za0 ?_
      refine o_q rfl rfl (za2 rfl) ?_
      refine o_q rfl rfl (q_asg rfl) ?_
      refine o_end ?_
      refine za1 ?_
      refine c_ret ?_
      refine zah ?_
      refine za5 ?_
      refine za5 ?_
      have e_ := Option.some.inj h; replace h := hR7; rw [← e_] at h; clear e_
      refine zah ?_
      refine za5 ?_
      have e0_ := Option.some.inj h; clear h
      subst e0_
      exact x_r1 () Tryz.results116 (zaf rfl) rfl (fun w h => za7 [] (by decide) rfl w h)
    · skip
      replace h := bb_f hb15 h
      refine zak ?_
      refine zaw ?_
      refine za1 ?_
      refine za0 ?_
      refine o_q rfl rfl (q_up rfl rfl (hr5.up hm6)) ?_
      refine o_q rfl rfl (za2 rfl) ?_
      refine o_end ?_
      refine zao ys3.length (ys3, i1 + 1) (by rw [← hk11]; exact Nat.lt_succ_self _) ⟨hr5.step, rfl, h⟩ ⟨rfl, trivial⟩ (fun w h => za7 [] (by decide) rfl w h) ?_
      repeat (first | exact zac _ _ | refine zai rfl ?_ | refine zad rfl ?_ | refine zaj rfl ?_)

/-! ### slices.ContainsFunc[[]int,int]: function 89 -/
def slices_ContainsFunc_int_int.f (l0 : List Int) (a1_c0_0_0 : Int) (l1_c0_0_1 : List SStep) (l1_c0_0_2 : List Int) : Option Bool := (slices_IndexFunc_int_int.f l0 a1_c0_0_0 l1_c0_0_1 l1_c0_0_2).bind fun i2 => some (decide (0 ≤ i2))
set_option maxHeartbeats 600000 in
set_option maxRecDepth 100000 in
theorem slices_ContainsFunc_int_int.calls {w0 ws : World} {P0 : Nat → Prop} (A0 : Option Addr) (c0 : Nat) (n0 : Nat) (l0 : List Int) (g1_c0 : Nat) (g1_c0_0 : Nat) (a1_c0_0_0 : Int) (A1_c0_0_1 : Option Addr) (c1_c0_0_1 : Nat) (n1_c0_0_1 : Nat) (l1_c0_0_1 : List SStep) (A1_c0_0_2 : Option Addr) (c1_c0_0_2 : Nat) (n1_c0_0_2 : Nat) (l1_c0_0_2 : List Int) (Z : Below w0.heap.size w0 ws) (hF : Fr w0 ws P0 [] ws) (R0 : Stable ws P0 (fun w => Kd.C (Kd.int .i64) w A0 n0 l0)) (hc0 : n0 ≤ c0) (R1_c0_0_1 : Stable ws P0 (fun w => Kd.C kStep w A1_c0_0_1 n1_c0_0_1 l1_c0_0_1)) (hc1_c0_0_1 : n1_c0_0_1 ≤ c1_c0_0_1) (R1_c0_0_2 : Stable ws P0 (fun w => Kd.C (Kd.int .i64) w A1_c0_0_2 n1_c0_0_2 l1_c0_0_2)) (hc1_c0_0_2 : n1_c0_0_2 ≤ c1_c0_0_2) (B1_c0_0 : Stable ws P0 (fun w => w.heap[g1_c0_0]? = some (.cells #[.int .i64 a1_c0_0_0, .slice A1_c0_0_1 n1_c0_0_1 c1_c0_0_1, .slice A1_c0_0_2 n1_c0_0_2 c1_c0_0_2] 27 (0, 0)))) (B1_c0 : Stable ws P0 (fun w => w.heap[g1_c0]? = some (.cells #[.pointer (some ⟨g1_c0_0, 0, none⟩)] 100 (0, 0)))) (r_1 : Bool) (h : slices_ContainsFunc_int_int.f l0 a1_c0_0_0 l1_c0_0_1 l1_c0_0_2 = some r_1) :
    Calls Tryz.prog 89 #[.slice A0 n0 c0, .func (.func 90) #[] #[.pointer (some ⟨g1_c0, 0, none⟩)]] ws (Post1 w0 ws P0 (fun (_ : Unit) => .bool r_1) (fun (_ : Unit) => [])) := by
  unfold slices_ContainsFunc_int_int.f at h
  obtain rfl := (R0 ws (KeptB.refl _ _)).1
  obtain rfl := (R1_c0_0_1 ws (KeptB.refl _ _)).1
  obtain rfl := (R1_c0_0_2 ws (KeptB.refl _ _)).1
  refine enter Tryz.func89 rfl Tryz.ntmps89 rfl hF ?_
  refine c_seq ?_
  refine za0 ?_
  refine o_q rfl rfl (q_asg rfl) ?_
  refine o_end ?_
  refine za1 ?_
  refine c_seq ?_
  refine za0 ?_
  refine o_q rfl rfl (za2 rfl) ?_
  refine o_q rfl rfl (za2 rfl) ?_
  refine za6 h (fun i2 hx1 h => ?_) rfl
  refine o_e rfl (za9 0 Z Tryz.func116 N116 rfl rfl rfl (fun w P1 hF hB hS hT => slices_IndexFunc_int_int.calls A0 c0 l0.length l0 g1_c0 g1_c0_0 a1_c0_0_0 A1_c0_0_1 c1_c0_0_1 l1_c0_0_1.length l1_c0_0_1 A1_c0_0_2 c1_c0_0_2 l1_c0_0_2.length l1_c0_0_2 hB hF (hS _ R0) hc0 (hS _ R1_c0_0_1) hc1_c0_0_1 (hS _ R1_c0_0_2) hc1_c0_0_2 (hS _ B1_c0_0) (hS _ B1_c0) _ hx1)) (fun _ => ?_)
  refine o_q rfl rfl (q_geq rfl rfl) ?_
  refine o_q rfl rfl (q_asg rfl) ?_
  refine o_end ?_
  refine za1 ?_
  refine c_ret ?_
  have e0_ := Option.some.inj h; clear h
  subst e0_
  exact x_r1 () Tryz.results89 (zaf rfl) rfl (fun w h => za7 [] (by decide) rfl w h)

/-! ### (*loop.example/g01098/impl.Plan).formed: function 35 -/
def impl_Plan_formed.l0 (a0_0 : Int) : (List SStep) → Int → Option ((Bool) ⊕ (Unit))
  | [], i8 => some (.inr ())
  | y9 :: ys10, i8 => if y9.f0 < 0 then (some (.inl false)) else (if y9.f1 < y9.f0 then (some (.inl false)) else (if w64 (a0_0 + i8) ≤ y9.f1 then (some (.inl false)) else (impl_Plan_formed.l0 a0_0 ys10 (i8 + 1))))
def impl_Plan_formed.f (a0_0 : Int) (l0_1 : List SStep) (l0_2 : List Int) : Option Bool := (impl_in.f a0_0 1 6).bind fun b4 => if b4 = true then (if 40 < (l0_1.length : Int) then (some false) else (if 6 < (l0_2.length : Int) then (some false) else ((impl_Plan_formed.l0 a0_0 l0_1 0).bind fun o_ => match o_ with | .inl r_ => some r_ | .inr _ => (slices_ContainsFunc_int_int.f l0_2 a0_0 l0_1 l0_2).bind fun b20 => some (!b20)))) else (some false)
set_option maxHeartbeats 600000 in
set_option maxRecDepth 100000 in
theorem impl_Plan_formed.calls {w0 ws : World} {P0 : Nat → Prop} (g0 : Nat) (a0_0 : Int) (A0_1 : Option Addr) (c0_1 : Nat) (n0_1 : Nat) (l0_1 : List SStep) (A0_2 : Option Addr) (c0_2 : Nat) (n0_2 : Nat) (l0_2 : List Int) (Z : Below w0.heap.size w0 ws) (hF : Fr w0 ws P0 [] ws) (R0_1 : Stable ws P0 (fun w => Kd.C kStep w A0_1 n0_1 l0_1)) (hc0_1 : n0_1 ≤ c0_1) (R0_2 : Stable ws P0 (fun w => Kd.C (Kd.int .i64) w A0_2 n0_2 l0_2)) (hc0_2 : n0_2 ≤ c0_2) (B0 : Stable ws P0 (fun w => w.heap[g0]? = some (.cells #[.int .i64 a0_0, .slice A0_1 n0_1 c0_1, .slice A0_2 n0_2 c0_2] 27 (0, 0)))) (r_1 : Bool) (h : impl_Plan_formed.f a0_0 l0_1 l0_2 = some r_1) :
    Calls Tryz.prog 35 #[.pointer (some ⟨g0, 0, none⟩)] ws (Post1 w0 ws P0 (fun (_ : Unit) => .bool r_1) (fun (_ : Unit) => [])) := by
  unfold impl_Plan_formed.f at h
  obtain rfl := (R0_1 ws (KeptB.refl _ _)).1
  obtain rfl := (R0_2 ws (KeptB.refl _ _)).1
  refine enter Tryz.func35 rfl Tryz.ntmps35 rfl hF ?_
  refine c_seq ?_
  refine za0 ?_
  refine o_e rfl (e_box rfl) (fun g1 => ?_)
  refine o_q rfl rfl (q_asg rfl) ?_
  refine o_end ?_
  refine za1 ?_
  refine c_seq ?_
  refine c_seq ?_
  refine za0 ?_
  refine o_q rfl rfl (q_ldb Y100 rfl (fun w h => h.zae (i := 0) rfl) rfl) ?_
  refine o_q rfl rfl (q_nil rfl) ?_
  refine o_q rfl rfl (q_f F27_0 rfl) ?_
  refine o_q rfl rfl (q_ldb Y3 rfl (fun w h => B0.now Z h) rfl) ?_
  refine za6 h (fun b4 hx3 h => ?_) rfl
  refine o_e rfl (za9 0 Z Tryz.func88 N88 rfl rfl rfl (fun w P1 hF hB hS hT => impl_in.calls a0_0 1 6 hB hF _ hx3)) (fun _ => ?_)
  refine o_q rfl rfl (q_not rfl) ?_
  refine o_q rfl rfl (za2 rfl) ?_
  refine byB b4 (fun hb5 => ?_) (fun hb5 => ?_)
  · replace h := bb_t hb5 h
    refine o_w (za4 rfl rfl rfl (congrArg (fun b => Value.bool (!(b))) hb5)) rfl (q_ldb Y100 rfl (fun w h => h.zae (i := 0) rfl) rfl) ?_
    refine o_w (za4 rfl rfl rfl (congrArg (fun b => Value.bool (!(b))) hb5)) rfl (q_nil rfl) ?_
    refine o_w (za4 rfl rfl rfl (congrArg (fun b => Value.bool (!(b))) hb5)) rfl (q_f F27_1 rfl) ?_
    refine o_w (za4 rfl rfl rfl (congrArg (fun b => Value.bool (!(b))) hb5)) rfl (q_ldb Y24 rfl (fun w h => B0.now Z h) rfl) ?_
    refine o_w (za4 rfl rfl rfl (congrArg (fun b => Value.bool (!(b))) hb5)) rfl (q_len Tryz.underlying24 rfl) ?_
    refine o_w (za4 rfl rfl rfl (congrArg (fun b => Value.bool (!(b))) hb5)) rfl (q_gtr rfl rfl) ?_
    refine o_q rfl rfl (zas false (congrArg (fun b => Value.bool (!(b))) hb5) rfl) ?_
    refine o_q rfl rfl (za2 rfl) ?_
    refine byB (decide (40 < (l0_1.length : Int))) (fun hb6 => ?_) (fun hb6 => ?_)
    · replace h := br_t hb6 h
      refine @o_n _ _ _ _ _ _ _ _ _ _ _ 20 (za3 rfl rfl rfl (congrArg Value.bool hb6) rfl) (Eq.refl (some 20)) ?_
      refine @o_n _ _ _ _ _ _ _ _ _ _ _ 21 (za3 rfl rfl rfl (congrArg Value.bool hb6) rfl) (Eq.refl (some 21)) ?_
      refine @o_n _ _ _ _ _ _ _ _ _ _ _ 22 (za3 rfl rfl rfl (congrArg Value.bool hb6) rfl) (Eq.refl (some 22)) ?_
      refine @o_n _ _ _ _ _ _ _ _ _ _ _ 23 (za3 rfl rfl rfl (congrArg Value.bool hb6) rfl) (Eq.refl (some 23)) ?_
      refine @o_n _ _ _ _ _ _ _ _ _ _ _ 24 (za3 rfl rfl rfl (congrArg Value.bool hb6) rfl) (Eq.refl (some 24)) ?_
      refine @o_n _ _ _ _ _ _ _ _ _ _ _ 25 (za3 rfl rfl rfl (congrArg Value.bool hb6) rfl) (Eq.refl (some 25)) ?_
      refine o_q rfl rfl (zas true (congrArg Value.bool hb6) rfl) ?_
      refine o_end ?_
      refine za1 ?_
      refine c_true rfl ?_
      refine c_seq ?_
      refine za0 ?_
      refine o_q rfl rfl (q_asg rfl) ?_
      refine o_end ?_
      refine za1 ?_
      refine c_ret ?_
      refine za5 ?_
      have e0_ := Option.some.inj h; clear h
      subst e0_
      exact x_r1 () Tryz.results35 (zaf rfl) rfl (fun w h => za7 [] (by decide) rfl w h)
    · replace h := br_f hb6 h
      refine o_w (za4 rfl rfl rfl (congrArg Value.bool hb6)) rfl (q_ldb Y100 rfl (fun w h => h.zae (i := 0) rfl) rfl) ?_
      refine o_w (za4 rfl rfl rfl (congrArg Value.bool hb6)) rfl (q_nil rfl) ?_
      refine o_w (za4 rfl rfl rfl (congrArg Value.bool hb6)) rfl (q_f F27_2 rfl) ?_
      refine o_w (za4 rfl rfl rfl (congrArg Value.bool hb6)) rfl (q_ldb Y25 rfl (fun w h => B0.now Z h) rfl) ?_
      refine o_w (za4 rfl rfl rfl (congrArg Value.bool hb6)) rfl (q_len Tryz.underlying25 rfl) ?_
      refine o_w (za4 rfl rfl rfl (congrArg Value.bool hb6)) rfl (q_gtr rfl rfl) ?_
      refine o_q rfl rfl (zas false (congrArg Value.bool hb6) rfl) ?_
      refine o_end ?_
      refine za1 ?_
      refine zaq _ rfl (fun hb7 => ?_) (fun hb7 => ?_)
      · skip
        replace h := br_t hb7 h
        refine c_seq ?_
        refine za0 ?_
        refine o_q rfl rfl (q_asg rfl) ?_
        refine o_end ?_
        refine za1 ?_
        refine c_ret ?_
        refine za5 ?_
        have e0_ := Option.some.inj h; clear h
        subst e0_
        exact x_r1 () Tryz.results35 (zaf rfl) rfl (fun w h => za7 [] (by decide) rfl w h)
      · skip
        replace h := br_f hb7 h
        refine zak ?_
        refine za1 ?_
        refine c_seq ?_
        refine c_seq ?_
        refine za0 ?_
        refine o_q rfl rfl (q_ldb Y100 rfl (fun w h => h.zae (i := 0) rfl) rfl) ?_
        refine o_q rfl rfl (q_nil rfl) ?_
        refine o_q rfl rfl (q_f F27_1 rfl) ?_
        refine o_q rfl rfl (q_ldb Y24 rfl (fun w h => B0.now Z h) rfl) ?_
        refine o_q rfl rfl (q_len Tryz.underlying24 rfl) ?_
        refine o_q rfl rfl (za2 rfl) ?_
        refine o_end ?_
        refine za1 ?_
        refine zal ?_
        refine za6 h (fun o16 hl15 hR14 => ?_) rfl
        clear h
        refine c_fact (p := l0_1.length ≤ 9223372036854775807) (fun w h => (R0_1.now Z h).2.1) (fun hm13 => ?_)
        refine zb1 (σ := (List SStep) × Int) (fun k11 ((ys10, i8) : (List SStep) × Int) => Rg l0_1 i8 ys10 ∧ ys10.length = k11 ∧ impl_Plan_formed.l0 a0_0 ys10 i8 = some o16) [2, 3, 4, 32, 33, 34, 35, 36, 37, 38, 39, 40, 41, 42, 43, 44, 45, 46, 47, 48, 49, 50, 51, 52, 53, 54, 55, 56, 57, 58] (fun ((ys10, i8) : (List SStep) × Int) => [(32, .int .i64 i8)]) (fun ((ys10, i8) : (List SStep) × Int) => [box g1 100 #[.pointer (some ⟨g0, 0, none⟩)]]) l0_1.length (l0_1, 0) ⟨Rg.start _, rfl, hl15⟩ ⟨rfl, trivial⟩ (fun w h => h) ?_
        refine fun k11 => cur2 (listC (fun i8 U17 hJ_ => ?_) (fun y9 ys10 i8 U17 hJ_ => ?_))
        · skip
          clear hl15
          have hr12 := hJ_.1; have hk18 := hJ_.2.1; have h := hJ_.2.2; clear hJ_
          replace h : impl_Plan_formed.l0 a0_0 [] i8 = some o16 := h
          rw [impl_Plan_formed.l0] at h
          refine c_seq ?_
          refine za0 ?_
          refine o_q rfl rfl (q_lss rfl rfl) ?_
          refine o_end ?_
          refine za1 ?_
          refine c_seq ?_
          refine c_false (congrArg Value.bool hr12.ge) ?_
          refine c_exit ?_
          refine zaa ?_
          refine zaa ?_
          have e_ := Option.some.inj h; replace h := hR14; rw [← e_] at h; clear e_
          refine x_hit ?_
          refine za1 ?_
          refine c_seq ?_
          refine za0 ?_
          refine o_q rfl rfl (q_ldb Y100 rfl (fun w h => h.zae (i := 0) rfl) rfl) ?_
          refine o_q rfl rfl (q_nil rfl) ?_
          refine o_q rfl rfl (q_f F27_2 rfl) ?_
          refine o_q rfl rfl (q_ldb Y25 rfl (fun w h => B0.now Z h) rfl) ?_
          refine o_q rfl rfl (q_func rfl rfl) ?_
          refine za6 h (fun b20 hx19 h => ?_) rfl
          refine o_e rfl (za9 0 Z Tryz.func89 N89 rfl rfl rfl (fun w P1 hF hB hS hT => slices_ContainsFunc_int_int.calls A0_2 c0_2 l0_2.length l0_2 g1 g0 a0_0 A0_1 c0_1 l0_1.length l0_1 A0_2 c0_2 l0_2.length l0_2 hB hF (hS _ R0_2) hc0_2 (hS _ R0_1) hc0_1 (hS _ R0_2) hc0_2 (hS _ B0) (hT 0 _ rfl).box _ hx19)) (fun _ => ?_)
          refine o_q rfl rfl (q_not rfl) ?_
          refine o_q rfl rfl (q_asg rfl) ?_
          refine o_end ?_
          refine za1 ?_
          refine c_ret ?_
          have e0_ := Option.some.inj h; clear h
          subst e0_
          exact x_r1 () Tryz.results35 (zaf rfl) rfl (fun w h => za7 [] (by decide) rfl w h)
        · skip
          clear hl15
          have hr12 := hJ_.1; have hk18 := hJ_.2.1; have h := hJ_.2.2; clear hJ_
          replace h : impl_Plan_formed.l0 a0_0 (y9 :: ys10) i8 = some o16 := h
          rw [impl_Plan_formed.l0] at h
          refine c_seq ?_
          refine za0 ?_
          refine o_q rfl rfl (q_lss rfl rfl) ?_
          refine o_end ?_
          refine za1 ?_
          refine c_seq ?_
          refine c_true (congrArg Value.bool hr12.lt) ?_
          refine zak ?_
          refine za1 ?_
          refine c_seq ?_
          refine zal ?_
          refine c_seq ?_
          refine za0 ?_
          refine o_q rfl rfl (za2 rfl) ?_
          refine zb2 (p := Sh A0_1 l0_1.length l0_1.length) (fun w h => f_sh (dk := kStep) h (fun w h => R0_1.now Z h)) (fun hq21 => ?_)
          refine o_q rfl rfl (q_ix Tryz.underlying24 Z72 rfl rfl hq21 hr12.get) ?_
          refine o_q rfl rfl (q_ldE G72 Z72 rfl rfl (fun w h => R0_1.now Z h) hr12.get (fun _ _ h => h) rfl) ?_
          refine o_e rfl (zau V72 rfl) (fun g22 => ?_)
          refine o_q rfl rfl (q_asg rfl) ?_
          refine o_e rfl (zam (i := 0) rfl rfl rfl Z72 rfl rfl) (fun _ => ?_)
          refine o_end ?_
          refine za1 ?_
          refine c_seq ?_
          refine a_start (ds := []) MO rfl ?_
          refine zab 0 rfl rfl rfl (by kernel_rfl) (fun _ _ _ h => h) (q_f F72_0 rfl) ?_
          refine zaz 1 rfl rfl rfl (by kernel_rfl) (fun _ _ _ h => h) (fun w h => h) (q_ldb Y3 rfl (fun w h => h.zae (i := 0) rfl) rfl) ?_
          refine zab 2 rfl rfl rfl (by kernel_rfl) (fun _ _ _ h => h) (q_lss rfl rfl) ?_
          refine zab 3 rfl rfl rfl (by kernel_rfl) (fun _ _ _ h => h) (za2 rfl) ?_
          refine byB (decide (y9.f0 < 0)) (fun hb24 => ?_) (fun hb24 => ?_)
          · replace h := br_t hb24 h
            refine a_no 4 rfl rfl (za3 rfl rfl rfl (congrArg Value.bool hb24) rfl) (by kernel_rfl) (fun _ _ _ h => h) ?_
            refine a_no 5 rfl rfl (za3 rfl rfl rfl (congrArg Value.bool hb24) rfl) (by kernel_rfl) (fun _ _ _ h => h) ?_
            refine a_no 6 rfl rfl (za3 rfl rfl rfl (congrArg Value.bool hb24) rfl) (by kernel_rfl) (fun _ _ _ h => h) ?_
            refine a_no 7 rfl rfl (za3 rfl rfl rfl (congrArg Value.bool hb24) rfl) (by kernel_rfl) (fun _ _ _ h => h) ?_
            refine a_no 8 rfl rfl (za3 rfl rfl rfl (congrArg Value.bool hb24) rfl) (by kernel_rfl) (fun _ _ _ h => h) ?_
            refine zab 9 rfl rfl rfl (by kernel_rfl) (fun _ _ _ h => h) (zas true (congrArg Value.bool hb24) rfl) ?_
            refine zab 10 rfl rfl rfl (by kernel_rfl) (fun _ _ _ h => h) (za2 rfl) ?_
            refine a_no 11 rfl rfl (za3 rfl rfl rfl rfl rfl) (by kernel_rfl) (fun _ _ _ h => h) ?_
            refine a_no 12 rfl rfl (za3 rfl rfl rfl rfl rfl) (by kernel_rfl) (fun _ _ _ h => h) ?_
            refine a_no 13 rfl rfl (za3 rfl rfl rfl rfl rfl) (by kernel_rfl) (fun _ _ _ h => h) ?_
            refine a_no 14 rfl rfl (za3 rfl rfl rfl rfl rfl) (by kernel_rfl) (fun _ _ _ h => h) ?_
            refine a_no 15 rfl rfl (za3 rfl rfl rfl rfl rfl) (by kernel_rfl) (fun _ _ _ h => h) ?_
            refine a_no 16 rfl rfl (za3 rfl rfl rfl rfl rfl) (by kernel_rfl) (fun _ _ _ h => h) ?_
            refine a_no 17 rfl rfl (za3 rfl rfl rfl rfl rfl) (by kernel_rfl) (fun _ _ _ h => h) ?_
            refine a_no 18 rfl rfl (za3 rfl rfl rfl rfl rfl) (by kernel_rfl) (fun _ _ _ h => h) ?_
            refine a_no 19 rfl rfl (za3 rfl rfl rfl rfl rfl) (by kernel_rfl) (fun _ _ _ h => h) ?_
            refine zab 20 rfl rfl rfl (by kernel_rfl) (fun _ _ _ h => h) (zas true rfl rfl) ?_
            refine zay (by kernel_rfl) ?_
            refine za1 ?_
            refine c_true rfl ?_
            refine c_seq ?_
            refine za0 ?_
            refine o_q rfl rfl (q_asg rfl) ?_
            refine o_end ?_
            refine za1 ?_
            refine c_ret ?_
            refine zah ?_
            refine za5 ?_
            refine za5 ?_
            have e_ := Option.some.inj h; replace h := hR14; rw [← e_] at h; clear e_
            refine zah ?_
            refine za5 ?_
            have e0_ := Option.some.inj h; clear h
            subst e0_
            exact x_r1 () Tryz.results35 (zaf rfl) rfl (fun w h => za7 [] (by decide) rfl w h)
          · replace h := br_f hb24 h
            refine a_purew 4 rfl rfl (za4 rfl rfl rfl (congrArg Value.bool hb24)) (by kernel_rfl) (fun _ _ _ h => h) (q_f F72_0 rfl) ?_
            refine a_takew 5 rfl rfl (za4 rfl rfl rfl (congrArg Value.bool hb24)) (by kernel_rfl) (fun _ _ _ h => h) (fun w h => h) (q_ldb Y3 rfl (fun w h => h.zae (i := 0) rfl) rfl) ?_
            refine a_purew 6 rfl rfl (za4 rfl rfl rfl (congrArg Value.bool hb24)) (by kernel_rfl) (fun _ _ _ h => h) (q_f F72_1 rfl) ?_
            refine a_takew 7 rfl rfl (za4 rfl rfl rfl (congrArg Value.bool hb24)) (by kernel_rfl) (fun _ _ _ h => h) (fun w h => h) (q_ldb Y3 rfl (fun w h => h.zae (i := 0) rfl) rfl) ?_
            refine a_purew 8 rfl rfl (za4 rfl rfl rfl (congrArg Value.bool hb24)) (by kernel_rfl) (fun _ _ _ h => h) (q_gtr rfl rfl) ?_
            refine zab 9 rfl rfl rfl (by kernel_rfl) (fun _ _ _ h => h) (zas false (congrArg Value.bool hb24) rfl) ?_
            refine zab 10 rfl rfl rfl (by kernel_rfl) (fun _ _ _ h => h) (za2 rfl) ?_
            refine byB (decide (y9.f1 < y9.f0)) (fun hb25 => ?_) (fun hb25 => ?_)
            · replace h := br_t hb25 h
              refine a_no 11 rfl rfl (za3 rfl rfl rfl (congrArg Value.bool hb25) rfl) (by kernel_rfl) (fun _ _ _ h => h) ?_
              refine a_no 12 rfl rfl (za3 rfl rfl rfl (congrArg Value.bool hb25) rfl) (by kernel_rfl) (fun _ _ _ h => h) ?_
              refine a_no 13 rfl rfl (za3 rfl rfl rfl (congrArg Value.bool hb25) rfl) (by kernel_rfl) (fun _ _ _ h => h) ?_
              refine a_no 14 rfl rfl (za3 rfl rfl rfl (congrArg Value.bool hb25) rfl) (by kernel_rfl) (fun _ _ _ h => h) ?_
              refine a_no 15 rfl rfl (za3 rfl rfl rfl (congrArg Value.bool hb25) rfl) (by kernel_rfl) (fun _ _ _ h => h) ?_
              refine a_no 16 rfl rfl (za3 rfl rfl rfl (congrArg Value.bool hb25) rfl) (by kernel_rfl) (fun _ _ _ h => h) ?_
              refine a_no 17 rfl rfl (za3 rfl rfl rfl (congrArg Value.bool hb25) rfl) (by kernel_rfl) (fun _ _ _ h => h) ?_
              refine a_no 18 rfl rfl (za3 rfl rfl rfl (congrArg Value.bool hb25) rfl) (by kernel_rfl) (fun _ _ _ h => h) ?_
              refine a_no 19 rfl rfl (za3 rfl rfl rfl (congrArg Value.bool hb25) rfl) (by kernel_rfl) (fun _ _ _ h => h) ?_
              refine zab 20 rfl rfl rfl (by kernel_rfl) (fun _ _ _ h => h) (zas true (congrArg Value.bool hb25) rfl) ?_
              refine zay (by kernel_rfl) ?_
              refine za1 ?_
              refine c_true rfl ?_
              refine c_seq ?_
              refine za0 ?_
              refine o_q rfl rfl (q_asg rfl) ?_
              refine o_end ?_
              refine za1 ?_
              refine c_ret ?_
              refine zah ?_
              refine za5 ?_
              refine za5 ?_
              have e_ := Option.some.inj h; replace h := hR14; rw [← e_] at h; clear e_
              refine zah ?_
              refine za5 ?_
              have e0_ := Option.some.inj h; clear h
              subst e0_
              exact x_r1 () Tryz.results35 (zaf rfl) rfl (fun w h => za7 [] (by decide) rfl w h)
            · replace h := br_f hb25 h
              refine a_purew 11 rfl rfl (za4 rfl rfl rfl (congrArg Value.bool hb25)) (by kernel_rfl) (fun _ _ _ h => h) (q_f F72_1 rfl) ?_
              refine a_takew 12 rfl rfl (za4 rfl rfl rfl (congrArg Value.bool hb25)) (by kernel_rfl) (fun _ _ _ h => h) (fun w h => h) (q_ldb Y3 rfl (fun w h => h.zae (i := 0) rfl) rfl) ?_
              refine a_takew 13 rfl rfl (za4 rfl rfl rfl (congrArg Value.bool hb25)) (by kernel_rfl) (fun _ _ _ h => h) (fun w h => h) (q_ldb Y100 rfl (fun w h => h.zae (i := 1) rfl) rfl) ?_
              refine a_purew 14 rfl rfl (za4 rfl rfl rfl (congrArg Value.bool hb25)) (by kernel_rfl) (fun _ _ _ h => h) (q_nil rfl) ?_
              refine a_purew 15 rfl rfl (za4 rfl rfl rfl (congrArg Value.bool hb25)) (by kernel_rfl) (fun _ _ _ h => h) (q_f F27_0 rfl) ?_
              refine a_takew 16 rfl rfl (za4 rfl rfl rfl (congrArg Value.bool hb25)) (by kernel_rfl) (fun _ _ _ h => h) (fun w h => h) (q_ldb Y3 rfl (fun w h => B0.now Z h) rfl) ?_
              refine a_purew 17 rfl rfl (za4 rfl rfl rfl (congrArg Value.bool hb25)) (by kernel_rfl) (fun _ _ _ h => h) (za2 rfl) ?_
              refine a_purew 18 rfl rfl (za4 rfl rfl rfl (congrArg Value.bool hb25)) (by kernel_rfl) (fun _ _ _ h => h) (q_add64 rfl rfl) ?_
              refine a_purew 19 rfl rfl (za4 rfl rfl rfl (congrArg Value.bool hb25)) (by kernel_rfl) (fun _ _ _ h => h) (q_geq rfl rfl) ?_
              refine zab 20 rfl rfl rfl (by kernel_rfl) (fun _ _ _ h => h) (zas false (congrArg Value.bool hb25) rfl) ?_
              refine zay (by kernel_rfl) ?_
              refine za1 ?_
              refine zaq _ rfl (fun hb26 => ?_) (fun hb26 => ?_)
              · skip
                replace h := br_t hb26 h
                refine c_seq ?_
                refine za0 ?_
                refine o_q rfl rfl (q_asg rfl) ?_
                refine o_end ?_
                refine za1 ?_
                refine c_ret ?_
                refine zah ?_
                refine za5 ?_
                refine za5 ?_
                have e_ := Option.some.inj h; replace h := hR14; rw [← e_] at h; clear e_
                refine zah ?_
                refine za5 ?_
                have e0_ := Option.some.inj h; clear h
                subst e0_
                exact x_r1 () Tryz.results35 (zaf rfl) rfl (fun w h => za7 [] (by decide) rfl w h)
              · skip
                replace h := br_f hb26 h
                refine zak ?_
                refine zaw ?_
                refine za1 ?_
                refine za0 ?_
                refine o_q rfl rfl (q_up rfl rfl (hr12.up hm13)) ?_
                refine o_q rfl rfl (za2 rfl) ?_
                refine o_end ?_
                refine zao ys10.length (ys10, i8 + 1) (by rw [← hk18]; exact Nat.lt_succ_self _) ⟨hr12.step, rfl, h⟩ ⟨rfl, trivial⟩ (fun w h => za7 [1] (by decide) rfl w h) ?_
                repeat (first | exact zac _ _ | refine zai rfl ?_ | refine zad rfl ?_ | refine zaj rfl ?_)
  · replace h := bb_f hb5 h
    refine @o_n _ _ _ _ _ _ _ _ _ _ _ 12 (za3 rfl rfl rfl (congrArg (fun b => Value.bool (!(b))) hb5) rfl) (Eq.refl (some 12)) ?_
    refine @o_n _ _ _ _ _ _ _ _ _ _ _ 13 (za3 rfl rfl rfl (congrArg (fun b => Value.bool (!(b))) hb5) rfl) (Eq.refl (some 13)) ?_
    refine @o_n _ _ _ _ _ _ _ _ _ _ _ 14 (za3 rfl rfl rfl (congrArg (fun b => Value.bool (!(b))) hb5) rfl) (Eq.refl (some 14)) ?_
    refine @o_n _ _ _ _ _ _ _ _ _ _ _ 15 (za3 rfl rfl rfl (congrArg (fun b => Value.bool (!(b))) hb5) rfl) (Eq.refl (some 15)) ?_
    refine @o_n _ _ _ _ _ _ _ _ _ _ _ 16 (za3 rfl rfl rfl (congrArg (fun b => Value.bool (!(b))) hb5) rfl) (Eq.refl (some 16)) ?_
    refine @o_n _ _ _ _ _ _ _ _ _ _ _ 17 (za3 rfl rfl rfl (congrArg (fun b => Value.bool (!(b))) hb5) rfl) (Eq.refl (some 17)) ?_
    refine o_q rfl rfl (zas true (congrArg (fun b => Value.bool (!(b))) hb5) rfl) ?_
    refine o_q rfl rfl (za2 rfl) ?_
    refine @o_n _ _ _ _ _ _ _ _ _ _ _ 20 (za3 rfl rfl rfl rfl rfl) (Eq.refl (some 20)) ?_
    refine @o_n _ _ _ _ _ _ _ _ _ _ _ 21 (za3 rfl rfl rfl rfl rfl) (Eq.refl (some 21)) ?_
    refine @o_n _ _ _ _ _ _ _ _ _ _ _ 22 (za3 rfl rfl rfl rfl rfl) (Eq.refl (some 22)) ?_
    refine @o_n _ _ _ _ _ _ _ _ _ _ _ 23 (za3 rfl rfl rfl rfl rfl) (Eq.refl (some 23)) ?_
    refine @o_n _ _ _ _ _ _ _ _ _ _ _ 24 (za3 rfl rfl rfl rfl rfl) (Eq.refl (some 24)) ?_
    refine @o_n _ _ _ _ _ _ _ _ _ _ _ 25 (za3 rfl rfl rfl rfl rfl) (Eq.refl (some 25)) ?_
    refine o_q rfl rfl (zas true rfl rfl) ?_
    refine o_end ?_
    refine za1 ?_
    refine c_true rfl ?_
    refine c_seq ?_
    refine za0 ?_
    refine o_q rfl rfl (q_asg rfl) ?_
    refine o_end ?_
    refine za1 ?_
    refine c_ret ?_
    refine za5 ?_
    have e0_ := Option.some.inj h; clear h
    subst e0_
    exact x_r1 () Tryz.results35 (zaf rfl) rfl (fun w h => za7 [] (by decide) rfl w h)

/-! ### (*loop.example/g01098/impl.Plan).exponents: function 37 -/
def impl_Plan_exponents.l2 (l20 : List (List Int)) (y25 : SStep) : (List Int) → (List Int) → Int → Option (List Int)
  | [], l45, i48 => some l45
  | y49 :: ys50, l45, i48 => (gt l20 y25.f1).bind fun y70 => (gt y70 i48).bind fun y74 => (ap l45 ([mn (w64 (y49 + y74)) 1000001] : List Int)).bind fun l78 => impl_Plan_exponents.l2 l20 y25 ys50 l78 (i48 + 1)
def impl_Plan_exponents.l1 : (List SStep) → (List (List Int)) → Int → Option (List (List Int))
  | [], l20, i24 => some l20
  | y25 :: ys26, l20, i24 => (gt l20 y25.f0).bind fun y43 => (impl_Plan_exponents.l2 l20 y25 y43 ([] : List Int) 0).bind fun l45 => (ap l20 ([l45] : List (List Int))).bind fun l63 => impl_Plan_exponents.l1 ys26 l63 (i24 + 1)
def impl_Plan_exponents.l0 (a0_0 : Int) : Nat → (List (List Int)) → Int → Option (List (List Int))
  | 0, l4, i8 => some l4
  | k11 + 1, l4, i8 => (mk0 a0_0 (0 : Int)).bind fun l82 => (gt l82 i8).bind fun y89 => (st l82 i8 1).bind fun l90 => (ap l4 ([l90] : List (List Int))).bind fun l96 => impl_Plan_exponents.l0 a0_0 k11 l96 (i8 + 1)
def impl_Plan_exponents.f (a0_0 : Int) (l0_1 : List SStep) (l0_2 : List Int) : Option (List (List Int)) := (bd a0_0).bind fun _ => (impl_Plan_exponents.l0 a0_0 ((a0_0).toNat) ([] : List (List Int)) 0).bind fun l4 => (impl_Plan_exponents.l1 l0_1 l4 0).bind fun l20 => some l20
set_option maxHeartbeats 600000 in
set_option maxRecDepth 100000 in
theorem impl_Plan_exponents.calls {w0 ws : World} {P0 : Nat → Prop} (g0 : Nat) (a0_0 : Int) (A0_1 : Option Addr) (c0_1 : Nat) (n0_1 : Nat) (l0_1 : List SStep) (A0_2 : Option Addr) (c0_2 : Nat) (n0_2 : Nat) (l0_2 : List Int) (Z : Below w0.heap.size w0 ws) (hF : Fr w0 ws P0 [] ws) (R0_1 : Stable ws P0 (fun w => Kd.C kStep w A0_1 n0_1 l0_1)) (hc0_1 : n0_1 ≤ c0_1) (R0_2 : Stable ws P0 (fun w => Kd.C (Kd.int .i64) w A0_2 n0_2 l0_2)) (hc0_2 : n0_2 ≤ c0_2) (B0 : Stable ws P0 (fun w => w.heap[g0]? = some (.cells #[.int .i64 a0_0, .slice A0_1 n0_1 c0_1, .slice A0_2 n0_2 c0_2] 27 (0, 0)))) (r_1 : List (List Int)) (h : impl_Plan_exponents.f a0_0 l0_1 l0_2 = some r_1) :
    Calls Tryz.prog 37 #[.pointer (some ⟨g0, 0, none⟩)] ws (Post1 w0 ws P0 (fun ((q_2, q_3, q_4) : (Option Addr) × Nat × Hd) => .slice q_2 r_1.length q_3) (fun ((q_2, q_3, q_4) : (Option Addr) × Nat × Hd) => [row (gk 3 (Kd.int .i64)) 25 (.slice q_2 r_1.length q_3) (zp q_4 r_1)])) := by
  unfold impl_Plan_exponents.f at h
  obtain rfl := (R0_1 ws (KeptB.refl _ _)).1
  obtain rfl := (R0_2 ws (KeptB.refl _ _)).1
  refine enter Tryz.func37 rfl Tryz.ntmps37 rfl hF ?_
  refine c_seq ?_
  refine za0 ?_
  refine o_q rfl rfl (q_asg rfl) ?_
  refine o_end ?_
  refine za1 ?_
  refine c_seq ?_
  refine za0 ?_
  refine o_e rfl (e_lit0 (gk 3 (Kd.int .i64)) Tryz.underlying60 I25) (cur2 (fun A1 c2 => ?_))
  refine o_q rfl rfl (q_asg rfl) ?_
  refine o_end ?_
  refine za1 ?_
  refine c_seq ?_
  refine c_seq ?_
  refine za0 ?_
  refine o_q rfl rfl (za2 rfl) ?_
  refine o_q rfl rfl (q_nil rfl) ?_
  refine o_q rfl rfl (q_f F27_0 rfl) ?_
  refine o_q rfl rfl (q_ldb Y3 rfl (fun w h => B0.now Z h) rfl) ?_
  refine o_q rfl rfl (za2 rfl) ?_
  refine o_end ?_
  refine za1 ?_
  refine zal ?_
  refine za6 h (fun _ hbd17 h => ?_) rfl
  refine za6 h (fun o16 hl15 hR14 => ?_) rfl
  clear h
  have hm13 : a0_0 ≤ 9223372036854775807 := bd_le hbd17
  refine zb1 (σ := (List (List Int)) × Int × (Option Addr) × Nat × Hd) (fun k11 ((l4, i8, A5, c6, H7) : (List (List Int)) × Int × (Option Addr) × Nat × Hd) => Cn a0_0 i8 k11 ∧ impl_Plan_exponents.l0 a0_0 k11 l4 i8 = some o16) [3, 4, 5, 16, 17, 18, 19, 20, 21, 22, 23, 24, 25, 26, 27, 28, 29, 30, 31] (fun ((l4, i8, A5, c6, H7) : (List (List Int)) × Int × (Option Addr) × Nat × Hd) => [(3, .slice A5 l4.length c6), (16, .int .i64 i8)]) (fun ((l4, i8, A5, c6, H7) : (List (List Int)) × Int × (Option Addr) × Nat × Hd) => [row (gk 3 (Kd.int .i64)) 25 (.slice A5 l4.length c6) (zp H7 l4)]) (a0_0).toNat (([] : List (List Int)), 0, A1, c2, ([] : Hd)) ⟨Cn.start hm13, hl15⟩ ⟨rfl, rfl, trivial⟩ (fun w h => h) ?_
  refine natC (cur5 (fun l4 i8 A5 c6 H7 => fun U18 hJ_ => ?_)) (fun k11 => (cur5 (fun l4 i8 A5 c6 H7 => fun U18 hJ_ => ?_)))
  · skip
    clear hl15
    have hr12 := hJ_.1; have h := hJ_.2; clear hJ_
    replace h : impl_Plan_exponents.l0 a0_0 0 l4 i8 = some o16 := h
    rw [impl_Plan_exponents.l0] at h
    refine c_seq ?_
    refine za0 ?_
    refine o_q rfl rfl (q_lss rfl rfl) ?_
    refine o_end ?_
    refine za1 ?_
    refine c_seq ?_
    refine c_false (congrArg Value.bool hr12.ge) ?_
    refine c_exit ?_
    refine zaa ?_
    refine zaa ?_
    have e_ := Option.some.inj h; replace h := hR14; rw [← e_] at h; clear e_
    refine x_hit ?_
    refine za1 ?_
    refine c_seq ?_
    refine c_seq ?_
    refine za0 ?_
    refine o_q rfl rfl (za2 rfl) ?_
    refine o_q rfl rfl (q_nil rfl) ?_
    refine o_q rfl rfl (q_f F27_1 rfl) ?_
    refine o_q rfl rfl (q_ldb Y24 rfl (fun w h => B0.now Z h) rfl) ?_
    refine o_q rfl rfl (q_len Tryz.underlying24 rfl) ?_
    refine o_q rfl rfl (za2 rfl) ?_
    refine o_end ?_
    refine za1 ?_
    refine zal ?_
    refine za6 h (fun o32 hl31 hR30 => ?_) rfl
    clear h
    refine c_fact (p := l0_1.length ≤ 9223372036854775807) (fun w h => (R0_1.now Z h).2.1) (fun hm29 => ?_)
    refine zb1 (σ := (List SStep) × (List (List Int)) × Int × (Option Addr) × Nat × Hd) (fun k27 ((ys26, l20, i24, A21, c22, H23) : (List SStep) × (List (List Int)) × Int × (Option Addr) × Nat × Hd) => Rg l0_1 i24 ys26 ∧ ys26.length = k27 ∧ impl_Plan_exponents.l1 ys26 l20 i24 = some o32) [3, 7, 8, 9, 10, 37, 38, 39, 40, 41, 42, 43, 44, 45, 46, 47, 48, 49, 50, 51, 52, 53, 54, 55, 56, 57, 58, 59, 60, 61, 62, 63, 64, 65, 66, 67, 68, 69, 70, 71, 72] (fun ((ys26, l20, i24, A21, c22, H23) : (List SStep) × (List (List Int)) × Int × (Option Addr) × Nat × Hd) => [(3, .slice A21 l20.length c22), (37, .int .i64 i24)]) (fun ((ys26, l20, i24, A21, c22, H23) : (List SStep) × (List (List Int)) × Int × (Option Addr) × Nat × Hd) => [row (gk 3 (Kd.int .i64)) 25 (.slice A21 l20.length c22) (zp H23 l20)]) l0_1.length (l0_1, l4, 0, A5, c6, H7) ⟨Rg.start _, rfl, hl31⟩ ⟨rfl, rfl, trivial⟩ (fun w h => h) ?_
    refine fun k27 => cur6 (listC (fun l20 i24 A21 c22 H23 U33 hJ_ => ?_) (fun y25 ys26 l20 i24 A21 c22 H23 U33 hJ_ => ?_))
    · skip
      clear hl31
      have hr28 := hJ_.1; have hk34 := hJ_.2.1; have h := hJ_.2.2; clear hJ_
      replace h : impl_Plan_exponents.l1 [] l20 i24 = some o32 := h
      rw [impl_Plan_exponents.l1] at h
      refine c_seq ?_
      refine za0 ?_
      refine o_q rfl rfl (q_lss rfl rfl) ?_
      refine o_end ?_
      refine za1 ?_
      refine c_seq ?_
      refine c_false (congrArg Value.bool hr28.ge) ?_
      refine c_exit ?_
      refine zaa ?_
      refine zaa ?_
      have e_ := Option.some.inj h; replace h := hR30; rw [← e_] at h; clear e_
      refine x_hit ?_
      refine za1 ?_
      refine c_seq ?_
      refine za0 ?_
      refine o_q rfl rfl (za2 rfl) ?_
      refine o_q rfl rfl (q_asg rfl) ?_
      refine o_end ?_
      refine za1 ?_
      refine c_ret ?_
      have e0_ := Option.some.inj h; clear h
      subst e0_
      exact x_r1 (A21, c22, H23) Tryz.results37 (zaf rfl) rfl (fun w h => za7 [0] (by decide) rfl w h)
    · skip
      clear hl31
      have hr28 := hJ_.1; have hk34 := hJ_.2.1; have h := hJ_.2.2; clear hJ_
      replace h : impl_Plan_exponents.l1 (y25 :: ys26) l20 i24 = some o32 := h
      rw [impl_Plan_exponents.l1] at h
      refine c_seq ?_
      refine za0 ?_
      refine o_q rfl rfl (q_lss rfl rfl) ?_
      refine o_end ?_
      refine za1 ?_
      refine c_seq ?_
      refine c_true (congrArg Value.bool hr28.lt) ?_
      refine zak ?_
      refine za1 ?_
      refine c_seq ?_
      refine zal ?_
      refine c_seq ?_
      refine za0 ?_
      refine zb2 (p := Sh A0_1 l0_1.length l0_1.length) (fun w h => f_sh (dk := kStep) h (fun w h => R0_1.now Z h)) (fun hq35 => ?_)
      refine o_q rfl rfl (q_ix Tryz.underlying24 Z72 rfl rfl hq35 hr28.get) ?_
      refine o_q rfl rfl (q_ldE G72 Z72 rfl rfl (fun w h => R0_1.now Z h) hr28.get (fun _ _ h => h) rfl) ?_
      refine o_e rfl (zau V72 rfl) (fun g36 => ?_)
      refine o_e rfl (zam (i := 0) rfl rfl rfl Z72 rfl rfl) (fun _ => ?_)
      refine o_end ?_
      refine za1 ?_
      refine c_seq ?_
      refine za0 ?_
      refine o_e rfl (e_lit0 (Kd.int .i64) Tryz.underlying25 I3) (cur2 (fun A38 c39 => ?_))
      refine o_q rfl rfl (q_asg rfl) ?_
      refine o_end ?_
      refine za1 ?_
      refine c_seq ?_
      refine c_seq ?_
      refine za0 ?_
      refine o_q rfl rfl (za2 rfl) ?_
      refine o_q rfl rfl (q_f F72_0 rfl) ?_
      refine o_q rfl rfl (q_ldb Y3 rfl (fun w h => h.zae (i := 1) rfl) rfl) ?_
      refine zb2 (p := Sh A21 l20.length (zp H23 l20).length) (fun w h => f_sh (dk := (gk 3 (Kd.int .i64))) h (fun w h => h.zan (i := 2) rfl)) (fun hq41 => ?_)
      refine za6 h (fun y43 hg42 h => ?_) rfl
      refine o_q rfl rfl (q_ix Tryz.underlying60 Z25 rfl rfl hq41 (gt_zp hg42)) ?_
      refine zb2 (p := y43.length ≤ hC H23 y25.f0) (fun w h => (K_in (h.zan (i := 2) rfl) hg42).1) (fun hc44 => ?_)
      refine o_q rfl rfl (q_lde (off := 0) Y25 rfl rfl (fun w h => h.zan (i := 2) rfl) (gt_zp hg42) (fun _ _ h => h.1) rfl) ?_
      refine o_q rfl rfl (q_len Tryz.underlying25 rfl) ?_
      refine o_q rfl rfl (za2 rfl) ?_
      refine o_end ?_
      refine za1 ?_
      refine zal ?_
      refine za6 h (fun o56 hl55 hR54 => ?_) rfl
      clear h
      refine c_fact (p := y43.length ≤ 9223372036854775807) (fun w h => (C_in (h.zan (i := 2) rfl) hg42).2.1) (fun hm53 => ?_)
      refine zb1 (σ := (List Int) × (List Int) × Int × (Option Addr) × Nat) (fun k51 ((ys50, l45, i48, A46, c47) : (List Int) × (List Int) × Int × (Option Addr) × Nat) => Rg y43 i48 ys50 ∧ ys50.length = k51 ∧ impl_Plan_exponents.l2 l20 y25 ys50 l45 i48 = some o56) [8, 9, 10, 48, 49, 50, 51, 52, 53, 54, 55, 56, 57, 58, 59, 60, 61, 62, 63, 64, 65, 66, 67] (fun ((ys50, l45, i48, A46, c47) : (List Int) × (List Int) × Int × (Option Addr) × Nat) => [(8, .slice A46 l45.length c47), (48, .int .i64 i48)]) (fun ((ys50, l45, i48, A46, c47) : (List Int) × (List Int) × Int × (Option Addr) × Nat) => [row (Kd.int .i64) 3 (.slice A46 l45.length c47) l45, box g36 72 #[.int .i64 y25.f0, .int .i64 y25.f1], row (gk 3 (Kd.int .i64)) 25 (.slice A21 l20.length c22) (zp H23 l20)]) y43.length (y43, ([] : List Int), 0, A38, c39) ⟨Rg.start _, rfl, hl55⟩ ⟨rfl, rfl, trivial⟩ (fun w h => h) ?_
      refine fun k51 => cur5 (listC (fun l45 i48 A46 c47 U57 hJ_ => ?_) (fun y49 ys50 l45 i48 A46 c47 U57 hJ_ => ?_))
      · skip
        clear hl55
        have hr52 := hJ_.1; have hk58 := hJ_.2.1; have h := hJ_.2.2; clear hJ_
        replace h : impl_Plan_exponents.l2 l20 y25 [] l45 i48 = some o56 := h
        rw [impl_Plan_exponents.l2] at h
        refine c_seq ?_
        refine za0 ?_
        refine o_q rfl rfl (q_lss rfl rfl) ?_
        refine o_end ?_
        refine za1 ?_
        refine c_seq ?_
        refine c_false (congrArg Value.bool hr52.ge) ?_
        refine c_exit ?_
        refine zaa ?_
        refine zaa ?_
        have e_ := Option.some.inj h; replace h := hR54; rw [← e_] at h; clear e_
        refine x_hit ?_
        refine za1 ?_
        refine za0 ?_
        refine o_q rfl rfl (za2 rfl) ?_
        refine o_q rfl rfl (za2 rfl) ?_
        refine o_e rfl (e_litG (j := 0) (ue := 3) (dk := (Kd.int .i64)) (ys := l45) Tryz.underlying60 I25 rfl rfl rfl) (cur3 (fun A59 c60 H62 => ?_))
        refine za6 h (fun l63 ha64 h => ?_) rfl
        refine o_e rfl (e_appG (i := 3) (j := 0) Tryz.underlying60 I25 rfl (by decide) rfl rfl rfl rfl rfl ha64) (cur3 (fun A65 c66 H67 => ?_))
        refine o_q rfl rfl (q_asg rfl) ?_
        refine o_end ?_
        refine zaw ?_
        refine za1 ?_
        refine za0 ?_
        refine o_q rfl rfl (q_up rfl rfl (hr28.up hm29)) ?_
        refine o_q rfl rfl (za2 rfl) ?_
        refine o_end ?_
        refine zao ys26.length (ys26, l63, i24 + 1, A65, c66, H67) (by rw [← hk34]; exact Nat.lt_succ_self _) ⟨hr28.step, rfl, h⟩ ⟨rfl, rfl, trivial⟩ (fun w h => za7 [3] (by decide) rfl w h) ?_
        repeat (first | exact zac _ _ | refine zai rfl ?_ | refine zad rfl ?_ | refine zaj rfl ?_)
      · skip
        clear hl55
        have hr52 := hJ_.1; have hk58 := hJ_.2.1; have h := hJ_.2.2; clear hJ_
        replace h : impl_Plan_exponents.l2 l20 y25 (y49 :: ys50) l45 i48 = some o56 := h
        rw [impl_Plan_exponents.l2] at h
        refine c_seq ?_
        refine za0 ?_
        refine o_q rfl rfl (q_lss rfl rfl) ?_
        refine o_end ?_
        refine za1 ?_
        refine c_seq ?_
        refine c_true (congrArg Value.bool hr52.lt) ?_
        refine zak ?_
        refine za1 ?_
        refine c_seq ?_
        refine zal ?_
        refine c_seq ?_
        refine za0 ?_
        refine o_q rfl rfl (za2 rfl) ?_
        refine zb2 (p := Sh (hA H23 y25.f0) y43.length y43.length) (fun w h => f_sh (dk := (Kd.int .i64)) h (fun w h => C_in (h.zan (i := 2) rfl) hg42)) (fun hq68 => ?_)
        refine o_q rfl rfl (q_ix Tryz.underlying25 Z3 rfl rfl hq68 hr52.get) ?_
        refine o_q rfl rfl (q_lde (off := 0) Y3 rfl rfl (fun w h => C_in (h.zan (i := 2) rfl) hg42) hr52.get (fun _ _ h => h) rfl) ?_
        refine o_q rfl rfl (q_asg rfl) ?_
        refine o_q rfl rfl (q_asg rfl) ?_
        refine o_end ?_
        refine za1 ?_
        refine za0 ?_
        refine o_q rfl rfl (za2 rfl) ?_
        refine o_q rfl rfl (za2 rfl) ?_
        refine o_q rfl rfl (za2 rfl) ?_
        refine o_q rfl rfl (q_f F72_1 rfl) ?_
        refine o_q rfl rfl (q_ldb Y3 rfl (fun w h => h.zae (i := 1) rfl) rfl) ?_
        refine za6 h (fun y70 hg69 h => ?_) rfl
        refine o_q rfl rfl (q_ix Tryz.underlying60 Z25 rfl rfl hq41 (gt_zp hg69)) ?_
        refine zb2 (p := y70.length ≤ hC H23 y25.f1) (fun w h => (K_in (h.zan (i := 2) rfl) hg69).1) (fun hc71 => ?_)
        refine o_q rfl rfl (q_lde (off := 0) Y25 rfl rfl (fun w h => h.zan (i := 2) rfl) (gt_zp hg69) (fun _ _ h => h.1) rfl) ?_
        refine o_q rfl rfl (za2 rfl) ?_
        refine zb2 (p := Sh (hA H23 y25.f1) y70.length y70.length) (fun w h => f_sh (dk := (Kd.int .i64)) h (fun w h => C_in (h.zan (i := 2) rfl) hg69)) (fun hq72 => ?_)
        refine za6 h (fun y74 hg73 h => ?_) rfl
        refine o_q rfl rfl (q_ix Tryz.underlying25 Z3 rfl rfl hq72 hg73) ?_
        refine o_q rfl rfl (q_lde (off := 0) Y3 rfl rfl (fun w h => C_in (h.zan (i := 2) rfl) hg69) hg73 (fun _ _ h => h) rfl) ?_
        refine o_q rfl rfl (q_add64 rfl rfl) ?_
        refine o_q rfl rfl (q_min rfl rfl) ?_
        refine o_e rfl (e_lit (vs := [(0, .int .i64 (mn (w64 (y49 + y74)) 1000001))]) (cs := [.int .i64 (mn (w64 (y49 + y74)) 1000001)]) (Kd.int .i64) ([mn (w64 (y49 + y74)) 1000001] : List Int) Tryz.underlying25 I3 (by decide) rfl (by decide) rfl rfl (fun _ _ => Kd.zav _)) (cur2 (fun A75 c76 => ?_))
        refine za6 h (fun l78 ha79 h => ?_) rfl
        refine o_e rfl (e_app (i := 1) (j := 0) Tryz.underlying25 I3 rfl (by decide) (by decide) rfl rfl rfl rfl rfl ha79) (cur2 (fun A80 c81 => ?_))
        refine o_q rfl rfl (q_asg rfl) ?_
        refine o_end ?_
        refine zaw ?_
        refine za1 ?_
        refine za0 ?_
        refine o_q rfl rfl (q_up rfl rfl (hr52.up hm53)) ?_
        refine o_q rfl rfl (za2 rfl) ?_
        refine o_end ?_
        refine zao ys50.length (ys50, l78, i48 + 1, A80, c81) (by rw [← hk58]; exact Nat.lt_succ_self _) ⟨hr52.step, rfl, h⟩ ⟨rfl, rfl, trivial⟩ (fun w h => za7 [1, 2, 3] (by decide) rfl w h) ?_
        repeat (first | exact zac _ _ | refine zai rfl ?_ | refine zad rfl ?_ | refine zaj rfl ?_)
  · skip
    clear hl15
    have hr12 := hJ_.1; have h := hJ_.2; clear hJ_
    replace h : impl_Plan_exponents.l0 a0_0 (k11 + 1) l4 i8 = some o16 := h
    rw [impl_Plan_exponents.l0] at h
    refine c_seq ?_
    refine za0 ?_
    refine o_q rfl rfl (q_lss rfl rfl) ?_
    refine o_end ?_
    refine za1 ?_
    refine c_seq ?_
    refine c_true (congrArg Value.bool hr12.lt) ?_
    refine zak ?_
    refine za1 ?_
    refine c_seq ?_
    refine zal ?_
    refine c_seq ?_
    refine za0 ?_
    refine o_q rfl rfl (za2 rfl) ?_
    refine o_q rfl rfl (q_asg rfl) ?_
    refine o_end ?_
    refine za1 ?_
    refine c_seq ?_
    refine za0 ?_
    refine o_q rfl rfl (za2 rfl) ?_
    refine o_q rfl rfl (q_nil rfl) ?_
    refine o_q rfl rfl (q_f F27_0 rfl) ?_
    refine o_q rfl rfl (q_ldb Y3 rfl (fun w h => B0.now Z h) rfl) ?_
    refine za6 h (fun l82 hm83 h => ?_) rfl
    refine o_e rfl (e_make (Kd.int .i64) (0 : Int) Tryz.underlying25 I3 rfl (by decide) (by decide) (fun _ _ => rfl) rfl rfl hm83) (cur2 (fun A84 c85 => ?_))
    refine o_q rfl rfl (q_asg rfl) ?_
    refine o_end ?_
    refine za1 ?_
    refine c_seq ?_
    refine za0 ?_
    refine o_q rfl rfl (za2 rfl) ?_
    refine o_q rfl rfl (za2 rfl) ?_
    refine zb2 (p := Sh A84 l82.length l82.length) (fun w h => f_sh (dk := (Kd.int .i64)) h (fun w h => h.zan (i := 0) rfl)) (fun hq87 => ?_)
    refine za6 h (fun y89 hg88 h => ?_) rfl
    refine o_q rfl rfl (q_ix Tryz.underlying25 Z3 rfl rfl hq87 hg88) ?_
    refine za6 h (fun l90 hs91 h => ?_) rfl
    refine o_e rfl (e_set (i := 0) rfl rfl rfl Z3 hs91) (fun _ => ?_)
    refine o_end ?_
    refine za1 ?_
    refine za0 ?_
    refine o_q rfl rfl (za2 rfl) ?_
    refine o_q rfl rfl (za2 rfl) ?_
    refine o_e rfl (e_litG (j := 0) (ue := 3) (dk := (Kd.int .i64)) (ys := l90) Tryz.underlying60 I25 rfl rfl rfl) (cur3 (fun A92 c93 H95 => ?_))
    refine za6 h (fun l96 ha97 h => ?_) rfl
    refine o_e rfl (e_appG (i := 2) (j := 0) Tryz.underlying60 I25 rfl (by decide) rfl rfl rfl rfl rfl ha97) (cur3 (fun A98 c99 H100 => ?_))
    refine o_q rfl rfl (q_asg rfl) ?_
    refine o_end ?_
    refine zaw ?_
    refine za1 ?_
    refine za0 ?_
    refine o_q rfl rfl (q_up rfl rfl hr12.up) ?_
    refine o_q rfl rfl (za2 rfl) ?_
    refine o_end ?_
    refine zao k11 (l96, i8 + 1, A98, c99, H100) (Nat.lt_succ_self _) ⟨hr12.step, h⟩ ⟨rfl, rfl, trivial⟩ (fun w h => za7 [2] (by decide) rfl w h) ?_
    repeat (first | exact zac _ _ | refine zai rfl ?_ | refine zad rfl ?_ | refine zaj rfl ?_)

/-! ### slices.Max[[]int,int]: function 39 -/
def slices_Max_int_int.l0 (l0 : List Int) : Nat → Int → Int → Option Int
  | 0, _, _ => none
  | k9 + 1, i5, i6 => if i6 < (l0.length : Int) then ((gt l0 i6).bind fun y19 => slices_Max_int_int.l0 l0 k9 (mx i5 y19) (w64 (i6 + 1))) else (some i5)
def slices_Max_int_int.f (k : Nat) (l0 : List Int) : Option Int := if (l0.length : Int) < 1 then (none) else ((gt l0 0).bind fun y4 => (slices_Max_int_int.l0 l0 k y4 1).bind fun i5 => some i5)
set_option maxHeartbeats 600000 in
set_option maxRecDepth 100000 in
theorem slices_Max_int_int.calls (k : Nat) {w0 ws : World} {P0 : Nat → Prop} (A0 : Option Addr) (c0 : Nat) (n0 : Nat) (l0 : List Int) (Z : Below w0.heap.size w0 ws) (hF : Fr w0 ws P0 [] ws) (R0 : Stable ws P0 (fun w => Kd.C (Kd.int .i64) w A0 n0 l0)) (hc0 : n0 ≤ c0) (r_1 : Int) (h : slices_Max_int_int.f k l0 = some r_1) :
    Calls Tryz.prog 39 #[.slice A0 n0 c0] ws (Post1 w0 ws P0 (fun (_ : Unit) => .int .i64 r_1) (fun (_ : Unit) => [])) := by
  unfold slices_Max_int_int.f at h
  obtain rfl := (R0 ws (KeptB.refl _ _)).1
  refine enter Tryz.func39 rfl Tryz.ntmps39 rfl hF ?_
  refine c_seq ?_
  refine za0 ?_
  refine o_q rfl rfl (q_asg rfl) ?_
  refine o_end ?_
  refine za1 ?_
  refine c_seq ?_
  refine c_seq ?_
  refine za0 ?_
  refine o_q rfl rfl (za2 rfl) ?_
  refine o_q rfl rfl (q_len Tryz.underlying25 rfl) ?_
  refine o_q rfl rfl (q_lss rfl rfl) ?_
  refine o_end ?_
  refine za1 ?_
  refine zaq _ rfl (fun hb1 => ?_) (fun hb1 => ?_)
  · skip
    replace h := br_t hb1 h
    refine za0 ?_
    exact noneE h
  · skip
    replace h := br_f hb1 h
    refine zak ?_
    refine za1 ?_
    refine c_seq ?_
    refine za0 ?_
    refine o_q rfl rfl (za2 rfl) ?_
    refine zb2 (p := Sh A0 l0.length l0.length) (fun w h => f_sh (dk := (Kd.int .i64)) h (fun w h => R0.now Z h)) (fun hq2 => ?_)
    refine za6 h (fun y4 hg3 h => ?_) rfl
    refine o_q rfl rfl (q_ix Tryz.underlying25 Z3 rfl rfl hq2 hg3) ?_
    refine o_q rfl rfl (q_lde (off := 0) Y3 rfl rfl (fun w h => R0.now Z h) hg3 (fun _ _ h => h) rfl) ?_
    refine o_q rfl rfl (q_asg rfl) ?_
    refine o_end ?_
    refine za1 ?_
    refine c_seq ?_
    refine c_seq ?_
    refine za0 ?_
    refine o_q rfl rfl (q_asg rfl) ?_
    refine o_end ?_
    refine za1 ?_
    refine zal ?_
    refine za6 h (fun o14 hl13 hR12 => ?_) rfl
    clear h
    refine zb1 (σ := Int × Int) (fun k9 ((i5, i6) : Int × Int) => slices_Max_int_int.l0 l0 k9 i5 i6 = some o14) [3, 4, 12, 13, 14, 15, 16, 17, 18, 19, 20, 21, 22, 23] (fun ((i5, i6) : Int × Int) => [(3, .int .i64 i5), (4, .int .i64 i6)]) (fun ((i5, i6) : Int × Int) => []) k (y4, 1) hl13 ⟨rfl, rfl, trivial⟩ (fun w h => h) ?_
    refine natC (cur2 (fun i5 i6 => fun U15 hJ_ => ?_)) (fun k9 => (cur2 (fun i5 i6 => fun U15 hJ_ => ?_)))
    · skip
      replace hJ_ : slices_Max_int_int.l0 l0 0 i5 i6 = some o14 := hJ_
      rw [slices_Max_int_int.l0] at hJ_
      exact noneE hJ_
    · skip
      clear hl13
      have h := hJ_; clear hJ_
      replace h : slices_Max_int_int.l0 l0 (k9 + 1) i5 i6 = some o14 := h
      rw [slices_Max_int_int.l0] at h
      refine c_seq ?_
      refine c_seq ?_
      refine za0 ?_
      refine o_q rfl rfl (za2 rfl) ?_
      refine o_q rfl rfl (za2 rfl) ?_
      refine o_q rfl rfl (q_len Tryz.underlying25 rfl) ?_
      refine o_q rfl rfl (q_lss rfl rfl) ?_
      refine o_end ?_
      refine za1 ?_
      refine zaq _ rfl (fun hb17 => ?_) (fun hb17 => ?_)
      · skip
        replace h := br_t hb17 h
        refine zak ?_
        refine za1 ?_
        refine c_seq ?_
        refine zal ?_
        refine za0 ?_
        refine o_q rfl rfl (za2 rfl) ?_
        refine o_q rfl rfl (za2 rfl) ?_
        refine o_q rfl rfl (za2 rfl) ?_
        refine za6 h (fun y19 hg18 h => ?_) rfl
        refine o_q rfl rfl (q_ix Tryz.underlying25 Z3 rfl rfl hq2 hg18) ?_
        refine o_q rfl rfl (q_lde (off := 0) Y3 rfl rfl (fun w h => R0.now Z h) hg18 (fun _ _ h => h) rfl) ?_
        refine o_q rfl rfl (q_max rfl rfl) ?_
        refine o_q rfl rfl (q_asg rfl) ?_
        refine o_end ?_
        refine zaw ?_
        refine za1 ?_
        refine za0 ?_
        refine o_q rfl rfl (za2 rfl) ?_
        refine o_q rfl rfl (q_add64 rfl rfl) ?_
        refine o_q rfl rfl (q_asg rfl) ?_
        refine o_end ?_
        refine zao k9 (mx i5 y19, w64 (i6 + 1)) (Nat.lt_succ_self _) h ⟨rfl, rfl, trivial⟩ (fun w h => za7 [] (by decide) rfl w h) ?_
        repeat (first | exact zac _ _ | refine zai rfl ?_ | refine zad rfl ?_ | refine zaj rfl ?_)
      · skip
        replace h := br_f hb17 h
        refine c_exit ?_
        refine zaa ?_
        refine zaa ?_
        have e_ := Option.some.inj h; replace h := hR12; rw [← e_] at h; clear e_
        refine x_hit ?_
        refine za1 ?_
        refine c_seq ?_
        refine za0 ?_
        refine o_q rfl rfl (za2 rfl) ?_
        refine o_q rfl rfl (q_asg rfl) ?_
        refine o_end ?_
        refine za1 ?_
        refine c_ret ?_
        have e0_ := Option.some.inj h; clear h
        subst e0_
        exact x_r1 () Tryz.results39 (zaf rfl) rfl (fun w h => za7 [] (by decide) rfl w h)

/-! ### loop.example/g01098/impl.IsPlan$1: function 38 -/
def impl_IsPlan_1.f (k : Nat) (l0 : List Int) : Option Bool := (slices_Max_int_int.f k l0).bind fun i2 => some (decide (1000000 < i2))
set_option maxHeartbeats 600000 in
set_option maxRecDepth 100000 in
theorem impl_IsPlan_1.calls (k : Nat) {w0 ws : World} {P0 : Nat → Prop} (A0 : Option Addr) (c0 : Nat) (n0 : Nat) (l0 : List Int) (Z : Below w0.heap.size w0 ws) (hF : Fr w0 ws P0 [] ws) (R0 : Stable ws P0 (fun w => Kd.C (Kd.int .i64) w A0 n0 l0)) (hc0 : n0 ≤ c0) (r_1 : Bool) (h : impl_IsPlan_1.f k l0 = some r_1) :
    Calls Tryz.prog 38 #[.slice A0 n0 c0] ws (Post1 w0 ws P0 (fun (_ : Unit) => .bool r_1) (fun (_ : Unit) => [])) := by
  unfold impl_IsPlan_1.f at h
  obtain rfl := (R0 ws (KeptB.refl _ _)).1
  refine enter Tryz.func38 rfl Tryz.ntmps38 rfl hF ?_
  refine c_seq ?_
  refine za0 ?_
  refine o_q rfl rfl (q_asg rfl) ?_
  refine o_end ?_
  refine za1 ?_
  refine c_seq ?_
  refine za0 ?_
  refine o_q rfl rfl (za2 rfl) ?_
  refine za6 h (fun i2 hx1 h => ?_) rfl
  refine o_e rfl (za9 0 Z Tryz.func39 N39 rfl rfl rfl (fun w P1 hF hB hS hT => slices_Max_int_int.calls k A0 c0 l0.length l0 hB hF (hS _ R0) hc0 _ hx1)) (fun _ => ?_)
  refine o_q rfl rfl (q_gtr rfl rfl) ?_
  refine o_q rfl rfl (q_asg rfl) ?_
  refine o_end ?_
  refine za1 ?_
  refine c_ret ?_
  have e0_ := Option.some.inj h; clear h
  subst e0_
  exact x_r1 () Tryz.results38 (zaf rfl) rfl (fun w h => za7 [] (by decide) rfl w h)

/-! ### slices.IndexFunc[[][]int,[]int]: function 92 -/
def slices_IndexFunc_int_int_2.l0 (k : Nat) : (List (List Int)) → Int → Option ((Int) ⊕ (Unit))
  | [], i1 => some (.inr ())
  | y2 :: ys3, i1 => (impl_IsPlan_1.f k y2).bind fun b15 => if b15 = true then (some (.inl i1)) else (slices_IndexFunc_int_int_2.l0 k ys3 (i1 + 1))
def slices_IndexFunc_int_int_2.f (k : Nat) (l0 : List (List Int)) : Option Int := (slices_IndexFunc_int_int_2.l0 k l0 0).bind fun o_ => match o_ with | .inl r_ => some r_ | .inr _ => some (-1)
set_option maxHeartbeats 600000 in
set_option maxRecDepth 100000 in
theorem slices_IndexFunc_int_int_2.calls (k : Nat) {w0 ws : World} {P0 : Nat → Prop} (A0 : Option Addr) (c0 : Nat) (n0 : Nat) (H0 : Hd) (l0 : List (List Int)) (Z : Below w0.heap.size w0 ws) (hF : Fr w0 ws P0 [] ws) (R0 : Stable ws P0 (fun w => Kd.C (gk 3 (Kd.int .i64)) w A0 n0 (zp H0 l0))) (hc0 : n0 ≤ c0) (r_1 : Int) (h : slices_IndexFunc_int_int_2.f k l0 = some r_1) :
    Calls Tryz.prog 92 #[.slice A0 n0 c0, .func (.func 38) #[] #[]] ws (Post1 w0 ws P0 (fun (_ : Unit) => .int .i64 r_1) (fun (_ : Unit) => [])) := by
  unfold slices_IndexFunc_int_int_2.f at h
  obtain rfl := (zp_len _ _).symm.trans (R0 ws (KeptB.refl _ _)).1
  refine enter Tryz.func92 rfl Tryz.ntmps92 rfl hF ?_
  refine c_seq ?_
  refine za0 ?_
  refine o_q rfl rfl (q_asg rfl) ?_
  refine o_end ?_
  refine za1 ?_
  refine c_seq ?_
  refine c_seq ?_
  refine za0 ?_
  refine o_q rfl rfl (za2 rfl) ?_
  refine o_q rfl rfl (q_len Tryz.underlying60 rfl) ?_
  refine o_q rfl rfl (za2 rfl) ?_
  refine o_end ?_
  refine za1 ?_
  refine zal ?_
  refine za6 h (fun o9 hl8 hR7 => ?_) rfl
  clear h
  refine c_fact (p := l0.length ≤ 9223372036854775807) (fun w h => (R0.now Z h).2.1) (fun hm6 => ?_)
  refine zb1 (σ := (List (List Int)) × Int) (fun k4 ((ys3, i1) : (List (List Int)) × Int) => Rg l0 i1 ys3 ∧ ys3.length = k4 ∧ slices_IndexFunc_int_int_2.l0 k ys3 i1 = some o9) [4, 5, 8, 9, 10, 11, 12, 13, 14, 15, 16, 17, 18] (fun ((ys3, i1) : (List (List Int)) × Int) => [(8, .int .i64 i1)]) (fun ((ys3, i1) : (List (List Int)) × Int) => []) l0.length (l0, 0) ⟨Rg.start _, rfl, hl8⟩ ⟨rfl, trivial⟩ (fun w h => h) ?_
  refine fun k4 => cur2 (listC (fun i1 U10 hJ_ => ?_) (fun y2 ys3 i1 U10 hJ_ => ?_))
  · skip
    clear hl8
    have hr5 := hJ_.1; have hk11 := hJ_.2.1; have h := hJ_.2.2; clear hJ_
    replace h : slices_IndexFunc_int_int_2.l0 k [] i1 = some o9 := h
    rw [slices_IndexFunc_int_int_2.l0] at h
    refine c_seq ?_
    refine za0 ?_
    refine o_q rfl rfl (q_lss rfl rfl) ?_
    refine o_end ?_
    refine za1 ?_
    refine c_seq ?_
    refine c_false (congrArg Value.bool hr5.ge) ?_
    refine c_exit ?_
    refine zaa ?_
    refine zaa ?_
    have e_ := Option.some.inj h; replace h := hR7; rw [← e_] at h; clear e_
    refine x_hit ?_
    refine za1 ?_
    refine c_seq ?_
    refine za0 ?_
    refine o_q rfl rfl (q_asg rfl) ?_
    refine o_end ?_
    refine za1 ?_
    refine c_ret ?_
    have e0_ := Option.some.inj h; clear h
    subst e0_
    exact x_r1 () Tryz.results92 (zaf rfl) rfl (fun w h => za7 [] (by decide) rfl w h)
  · skip
    clear hl8
    have hr5 := hJ_.1; have hk11 := hJ_.2.1; have h := hJ_.2.2; clear hJ_
    replace h : slices_IndexFunc_int_int_2.l0 k (y2 :: ys3) i1 = some o9 := h
    rw [slices_IndexFunc_int_int_2.l0] at h
    refine c_seq ?_
    refine za0 ?_
    refine o_q rfl rfl (q_lss rfl rfl) ?_
    refine o_end ?_
    refine za1 ?_
    refine c_seq ?_
    refine c_true (congrArg Value.bool hr5.lt) ?_
    refine zak ?_
    refine za1 ?_
    refine c_seq ?_
    refine zal ?_
    refine c_seq ?_
    refine za0 ?_
    refine o_q rfl rfl (za2 rfl) ?_
    refine o_q rfl rfl (q_asg rfl) ?_
    refine o_end ?_
    refine za1 ?_
    refine c_seq ?_
    refine za0 ?_
    refine o_q rfl rfl (za2 rfl) ?_
    refine o_q rfl rfl (za2 rfl) ?_
    refine o_q rfl rfl (za2 rfl) ?_
    refine zb2 (p := Sh A0 l0.length (zp H0 l0).length) (fun w h => f_sh (dk := (gk 3 (Kd.int .i64))) h (fun w h => R0.now Z h)) (fun hq12 => ?_)
    refine o_q rfl rfl (q_ix Tryz.underlying60 Z25 rfl rfl hq12 (gt_zp hr5.get)) ?_
    refine zb2 (p := y2.length ≤ hC H0 i1) (fun w h => (K_in (R0.now Z h) hr5.get).1) (fun hc13 => ?_)
    refine o_q rfl rfl (q_lde (off := 0) Y25 rfl rfl (fun w h => R0.now Z h) (gt_zp hr5.get) (fun _ _ h => h.1) rfl) ?_
    refine za6 h (fun b15 hx14 h => ?_) rfl
    refine o_e rfl (za9 0 Z Tryz.func38 N38 rfl rfl rfl (fun w P1 hF hB hS hT => impl_IsPlan_1.calls k (hA H0 i1) (hC H0 i1) y2.length y2 hB hF (stab_in (hS _ R0) hr5.get) hc13 _ hx14)) (fun _ => ?_)
    refine o_end ?_
    refine za1 ?_
    refine zaq _ rfl (fun hb16 => ?_) (fun hb16 => ?_)
    · skip
      replace h := bb_t hb16 h
      refine c_seq ?_
      refine za0 ?_
      refine o_q rfl rfl (za2 rfl) ?_
      refine o_q rfl rfl (q_asg rfl) ?_
      refine o_end ?_
      refine za1 ?_
      refine c_ret ?_
      refine zah ?_
      refine za5 ?_
      refine za5 ?_
      have e_ := Option.some.inj h; replace h := hR7; rw [← e_] at h; clear e_
      refine zah ?_
      refine za5 ?_
      have e0_ := Option.some.inj h; clear h
      subst e0_
      exact x_r1 () Tryz.results92 (zaf rfl) rfl (fun w h => za7 [] (by decide) rfl w h)
    · skip
      replace h := bb_f hb16 h
      refine zak ?_
      refine zaw ?_
      refine za1 ?_
      refine za0 ?_
      refine o_q rfl rfl (q_up rfl rfl (hr5.up hm6)) ?_
      refine o_q rfl rfl (za2 rfl) ?_
      refine o_end ?_
      refine zao ys3.length (ys3, i1 + 1) (by rw [← hk11]; exact Nat.lt_succ_self _) ⟨hr5.step, rfl, h⟩ ⟨rfl, trivial⟩ (fun w h => za7 [] (by decide) rfl w h) ?_
      repeat (first | exact zac _ _ | refine zai rfl ?_ | refine zad rfl ?_ | refine zaj rfl ?_)

/-! ### slices.ContainsFunc[[][]int,[]int]: function 36 -/
def slices_ContainsFunc_int_int_2.f (k : Nat) (l0 : List (List Int)) : Option Bool := (slices_IndexFunc_int_int_2.f k l0).bind fun i2 => some (decide (0 ≤ i2))
set_option maxHeartbeats 600000 in
set_option maxRecDepth 100000 in
theorem slices_ContainsFunc_int_int_2.calls (k : Nat) {w0 ws : World} {P0 : Nat → Prop} (A0 : Option Addr) (c0 : Nat) (n0 : Nat) (H0 : Hd) (l0 : List (List Int)) (Z : Below w0.heap.size w0 ws) (hF : Fr w0 ws P0 [] ws) (R0 : Stable ws P0 (fun w => Kd.C (gk 3 (Kd.int .i64)) w A0 n0 (zp H0 l0))) (hc0 : n0 ≤ c0) (r_1 : Bool) (h : slices_ContainsFunc_int_int_2.f k l0 = some r_1) :
    Calls Tryz.prog 36 #[.slice A0 n0 c0, .func (.func 38) #[] #[]] ws (Post1 w0 ws P0 (fun (_ : Unit) => .bool r_1) (fun (_ : Unit) => [])) := by
  unfold slices_ContainsFunc_int_int_2.f at h
  obtain rfl := (zp_len _ _).symm.trans (R0 ws (KeptB.refl _ _)).1
  refine enter Tryz.func36 rfl Tryz.ntmps36 rfl hF ?_
  refine c_seq ?_
  refine za0 ?_
  refine o_q rfl rfl (q_asg rfl) ?_
  refine o_end ?_
  refine za1 ?_
  refine c_seq ?_
  refine za0 ?_
  refine o_q rfl rfl (za2 rfl) ?_
  refine o_q rfl rfl (za2 rfl) ?_
  refine za6 h (fun i2 hx1 h => ?_) rfl
  refine o_e rfl (za9 0 Z Tryz.func92 N92 rfl rfl rfl (fun w P1 hF hB hS hT => slices_IndexFunc_int_int_2.calls k A0 c0 l0.length H0 l0 hB hF (hS _ R0) hc0 _ hx1)) (fun _ => ?_)
  refine o_q rfl rfl (q_geq rfl rfl) ?_
  refine o_q rfl rfl (q_asg rfl) ?_
  refine o_end ?_
  refine za1 ?_
  refine c_ret ?_
  have e0_ := Option.some.inj h; clear h
  subst e0_
  exact x_r1 () Tryz.results36 (zaf rfl) rfl (fun w h => za7 [] (by decide) rfl w h)

/-! ### loop.example/g01098/impl.IsPlan: function 10 -/
def impl_IsPlan.f (k : Nat) (a0_0 : Int) (l0_1 : List SStep) (l0_2 : List Int) : Option Bool := (impl_Plan_formed.f a0_0 l0_1 l0_2).bind fun b4 => if b4 = true then ((impl_Plan_exponents.f a0_0 l0_1 l0_2).bind fun l7 => (slices_ContainsFunc_int_int_2.f k l7).bind fun b12 => some (!b12)) else (some false)
set_option maxHeartbeats 600000 in
set_option maxRecDepth 100000 in
theorem impl_IsPlan.calls (k : Nat) {w0 ws : World} {P0 : Nat → Prop} (a0_0 : Int) (A0_1 : Option Addr) (c0_1 : Nat) (n0_1 : Nat) (l0_1 : List SStep) (A0_2 : Option Addr) (c0_2 : Nat) (n0_2 : Nat) (l0_2 : List Int) (Z : Below w0.heap.size w0 ws) (hF : Fr w0 ws P0 [] ws) (R0_1 : Stable ws P0 (fun w => Kd.C kStep w A0_1 n0_1 l0_1)) (hc0_1 : n0_1 ≤ c0_1) (R0_2 : Stable ws P0 (fun w => Kd.C (Kd.int .i64) w A0_2 n0_2 l0_2)) (hc0_2 : n0_2 ≤ c0_2) (r_1 : Bool) (h : impl_IsPlan.f k a0_0 l0_1 l0_2 = some r_1) :
    Calls Tryz.prog 10 #[.agg #[.int .i64 a0_0, .slice A0_1 n0_1 c0_1, .slice A0_2 n0_2 c0_2]] ws (Post1 w0 ws P0 (fun (_ : Unit) => .bool r_1) (fun (_ : Unit) => [])) := by
  unfold impl_IsPlan.f at h
  obtain rfl := (R0_1 ws (KeptB.refl _ _)).1
  obtain rfl := (R0_2 ws (KeptB.refl _ _)).1
  refine enter Tryz.func10 rfl Tryz.ntmps10 rfl hF ?_
  refine c_seq ?_
  refine za0 ?_
  refine o_e rfl (e_box rfl) (fun g1 => ?_)
  refine o_q rfl rfl (q_asg rfl) ?_
  refine o_end ?_
  refine za1 ?_
  refine c_seq ?_
  refine za0 ?_
  refine za6 h (fun b4 hx3 h => ?_) rfl
  refine o_e rfl (za9 0 Z Tryz.func35 N35 rfl rfl rfl (fun w P1 hF hB hS hT => impl_Plan_formed.calls g1 a0_0 A0_1 c0_1 l0_1.length l0_1 A0_2 c0_2 l0_2.length l0_2 hB hF (hS _ R0_1) hc0_1 (hS _ R0_2) hc0_2 (hT 0 _ rfl).box _ hx3)) (fun _ => ?_)
  refine o_q rfl rfl (za2 rfl) ?_
  refine byB b4 (fun hb5 => ?_) (fun hb5 => ?_)
  · replace h := bb_t hb5 h
    refine za6 h (fun l7 hx6 h => ?_) rfl
    refine o_ew (za4 rfl rfl rfl (congrArg Value.bool hb5)) (za9 0 Z Tryz.func37 N37 rfl rfl rfl (fun w P1 hF hB hS hT => impl_Plan_exponents.calls g1 a0_0 A0_1 c0_1 l0_1.length l0_1 A0_2 c0_2 l0_2.length l0_2 hB hF (hS _ R0_1) hc0_1 (hS _ R0_2) hc0_2 (hT 0 _ rfl).box _ hx6)) (cur3 (fun A8 c9 H10 => ?_))
    refine za6 h (fun b12 hx11 h => ?_) rfl
    refine o_ew (za4 rfl rfl rfl (congrArg Value.bool hb5)) (za9 0 Z Tryz.func36 N36 rfl rfl rfl (fun w P1 hF hB hS hT => slices_ContainsFunc_int_int_2.calls k A8 c9 l7.length H10 l7 hB hF (hT 0 _ rfl).row (hT 0 _ rfl).cap _ hx11)) (fun _ => ?_)
    refine o_w (za4 rfl rfl rfl (congrArg Value.bool hb5)) rfl (q_not rfl) ?_
    refine o_q rfl rfl (zas true (congrArg Value.bool hb5) rfl) ?_
    refine o_q rfl rfl (q_asg rfl) ?_
    refine o_end ?_
    refine za1 ?_
    refine c_ret ?_
    have e0_ := Option.some.inj h; clear h
    subst e0_
    exact x_r1 () Tryz.results10 (zaf rfl) rfl (fun w h => za7 [] (by decide) rfl w h)
  · replace h := bb_f hb5 h
    refine @o_n _ _ _ _ _ _ _ _ _ _ _ 5 (za3 rfl rfl rfl (congrArg Value.bool hb5) rfl) (Eq.refl (some 5)) ?_
    refine @o_n _ _ _ _ _ _ _ _ _ _ _ 6 (za3 rfl rfl rfl (congrArg Value.bool hb5) rfl) (Eq.refl (some 6)) ?_
    refine @o_n _ _ _ _ _ _ _ _ _ _ _ 7 (za3 rfl rfl rfl (congrArg Value.bool hb5) rfl) (Eq.refl (some 7)) ?_
    refine o_q rfl rfl (zas false (congrArg Value.bool hb5) rfl) ?_
    refine o_q rfl rfl (q_asg rfl) ?_
    refine o_end ?_
    refine za1 ?_
    refine c_ret ?_
    have e0_ := Option.some.inj h; clear h
    subst e0_
    exact x_r1 () Tryz.results10 (zaf rfl) rfl (fun w h => za7 [] (by decide) rfl w h)

/-! ### loop.example/g01098/spec.l1Split: function 50 -/
def spec_l1Split.l0 (a0 : ByteArray) (a1 : Int) : Nat → (List ByteArray) → Int → Int → Option ((List ByteArray) × Int)
  | 0, _, _, _ => none
  | k9 + 1, l2, i5, i6 => if i6 < (a0.size : Int) then ((gts a0 i6).bind fun y18 => if y18 = a1 then ((cts a0 i5 i6).bind fun s21 => (ap l2 ([s21] : List ByteArray)).bind fun l26 => spec_l1Split.l0 a0 a1 k9 l26 (w64 (i6 + 1)) (w64 (i6 + 1))) else (spec_l1Split.l0 a0 a1 k9 l2 i5 (w64 (i6 + 1)))) else (some (l2, i5))
def spec_l1Split.f (k : Nat) (a0 : ByteArray) (a1 : Int) : Option (List ByteArray) := (spec_l1Split.l0 a0 a1 k ([] : List ByteArray) 0 0).bind fun (l2, i5) => (cts a0 i5 (a0.size : Int)).bind fun s30 => (ap l2 ([s30] : List ByteArray)).bind fun l35 => some l35
set_option maxHeartbeats 600000 in
set_option maxRecDepth 100000 in
theorem spec_l1Split.calls (k : Nat) {w0 ws : World} {P0 : Nat → Prop} (a0 : ByteArray) (a1 : Int) (Z : Below w0.heap.size w0 ws) (hF : Fr w0 ws P0 [] ws)  (r_1 : List ByteArray) (h : spec_l1Split.f k a0 a1 = some r_1) :
    Calls Tryz.prog 50 #[.string a0, .int .u8 a1] ws (Post1 w0 ws P0 (fun ((q_2, q_3) : (Option Addr) × Nat) => .slice q_2 r_1.length q_3) (fun ((q_2, q_3) : (Option Addr) × Nat) => [row Kd.string 9 (.slice q_2 r_1.length q_3) r_1])) := by
  unfold spec_l1Split.f at h
  refine enter Tryz.func50 rfl Tryz.ntmps50 rfl hF ?_
  refine c_seq ?_
  refine za0 ?_
  refine o_q rfl rfl (q_asg rfl) ?_
  refine o_end ?_
  refine za1 ?_
  refine c_seq ?_
  refine za0 ?_
  refine o_q rfl rfl (q_asg rfl) ?_
  refine o_end ?_
  refine za1 ?_
  refine c_seq ?_
  refine za0 ?_
  refine o_q rfl rfl (q_asg rfl) ?_
  refine o_end ?_
  refine za1 ?_
  refine c_seq ?_
  refine c_seq ?_
  refine za0 ?_
  refine o_q rfl rfl (q_asg rfl) ?_
  refine o_end ?_
  refine za1 ?_
  refine zal ?_
  refine c_nil Kd.string 9 ?_
  refine za6 h (fun o14 hl13 hR12 => ?_) rfl
  clear h
  refine zb1 (σ := (List ByteArray) × Int × Int × (Option Addr) × Nat) (fun k9 ((l2, i5, i6, A3, c4) : (List ByteArray) × Int × Int × (Option Addr) × Nat) => spec_l1Split.l0 a0 a1 k9 l2 i5 i6 = some o14) [5, 6, 7, 8, 9, 10, 11, 12, 13, 14, 15, 16, 17, 18, 19, 20, 21, 22, 23, 24, 25, 26, 27] (fun ((l2, i5, i6, A3, c4) : (List ByteArray) × Int × Int × (Option Addr) × Nat) => [(5, .slice A3 l2.length c4), (6, .int .i64 i5), (7, .int .i64 i6)]) (fun ((l2, i5, i6, A3, c4) : (List ByteArray) × Int × Int × (Option Addr) × Nat) => [row Kd.string 9 (.slice A3 l2.length c4) l2]) k (([] : List ByteArray), 0, 0, none, 0) hl13 ⟨rfl, rfl, rfl, trivial⟩ (fun w h => h) ?_
  refine natC (cur5 (fun l2 i5 i6 A3 c4 => fun U15 hJ_ => ?_)) (fun k9 => (cur5 (fun l2 i5 i6 A3 c4 => fun U15 hJ_ => ?_)))
  · skip
    replace hJ_ : spec_l1Split.l0 a0 a1 0 l2 i5 i6 = some o14 := hJ_
    rw [spec_l1Split.l0] at hJ_
    exact noneE hJ_
  · skip
    clear hl13
    have h := hJ_; clear hJ_
    replace h : spec_l1Split.l0 a0 a1 (k9 + 1) l2 i5 i6 = some o14 := h
    rw [spec_l1Split.l0] at h
    refine c_seq ?_
    refine c_seq ?_
    refine za0 ?_
    refine o_q rfl rfl (za2 rfl) ?_
    refine o_q rfl rfl (za2 rfl) ?_
    refine o_q rfl rfl (q_lens Tryz.underlying9 rfl) ?_
    refine o_q rfl rfl (q_lss rfl rfl) ?_
    refine o_end ?_
    refine za1 ?_
    refine zaq _ rfl (fun hb17 => ?_) (fun hb17 => ?_)
    · skip
      replace h := br_t hb17 h
      refine zak ?_
      refine za1 ?_
      refine c_seq ?_
      refine zal ?_
      refine c_seq ?_
      refine za0 ?_
      refine o_q rfl rfl (za2 rfl) ?_
      refine o_q rfl rfl (za2 rfl) ?_
      refine za6 h (fun y18 hy19 h => ?_) rfl
      refine o_q rfl rfl (q_idxs Tryz.underlying9 rfl ⟨_, rfl⟩ hy19) ?_
      refine o_q rfl rfl (za2 rfl) ?_
      refine o_q rfl rfl (q_eql rfl rfl) ?_
      refine o_end ?_
      refine za1 ?_
      refine zaq _ rfl (fun hb20 => ?_) (fun hb20 => ?_)
      · skip
        replace h := br_t hb20 h
        refine c_seq ?_
        refine za0 ?_
        refine o_q rfl rfl (za2 rfl) ?_
        refine o_q rfl rfl (za2 rfl) ?_
        refine o_q rfl rfl (za2 rfl) ?_
        refine o_q rfl rfl (za2 rfl) ?_
        refine za6 h (fun s21 hz22 h => ?_) rfl
        refine o_q rfl rfl (q_cts Tryz.underlying9 rfl ⟨_, rfl⟩ ⟨_, rfl⟩ hz22) ?_
        refine o_e rfl (e_lit (vs := [(0, .string s21)]) (cs := [.string s21]) Kd.string ([s21] : List ByteArray) Tryz.underlying64 I9 (by decide) rfl (by decide) rfl rfl (fun _ _ => Kd.zav _)) (cur2 (fun A23 c24 => ?_))
        refine za6 h (fun l26 ha27 h => ?_) rfl
        refine o_e rfl (e_app (i := 1) (j := 0) Tryz.underlying64 I9 rfl (by decide) (by decide) rfl rfl rfl rfl rfl ha27) (cur2 (fun A28 c29 => ?_))
        refine o_q rfl rfl (q_asg rfl) ?_
        refine o_end ?_
        refine za1 ?_
        refine za0 ?_
        refine o_q rfl rfl (za2 rfl) ?_
        refine o_q rfl rfl (q_add64 rfl rfl) ?_
        refine o_q rfl rfl (q_asg rfl) ?_
        refine o_end ?_
        refine zaw ?_
        refine za1 ?_
        refine za0 ?_
        refine o_q rfl rfl (za2 rfl) ?_
        refine o_q rfl rfl (q_add64 rfl rfl) ?_
        refine o_q rfl rfl (q_asg rfl) ?_
        refine o_end ?_
        refine zao k9 (l26, w64 (i6 + 1), w64 (i6 + 1), A28, c29) (Nat.lt_succ_self _) h ⟨rfl, rfl, rfl, trivial⟩ (fun w h => za7 [1] (by decide) rfl w h) ?_
        repeat (first | exact zac _ _ | refine zai rfl ?_ | refine zad rfl ?_ | refine zaj rfl ?_)
      · skip
        replace h := br_f hb20 h
        refine zak ?_
        refine zaw ?_
        refine za1 ?_
        refine za0 ?_
        refine o_q rfl rfl (za2 rfl) ?_
        refine o_q rfl rfl (q_add64 rfl rfl) ?_
        refine o_q rfl rfl (q_asg rfl) ?_
        refine o_end ?_
        refine zao k9 (l2, i5, w64 (i6 + 1), A3, c4) (Nat.lt_succ_self _) h ⟨rfl, rfl, rfl, trivial⟩ (fun w h => za7 [0] (by decide) rfl w h) ?_
        repeat (first | exact zac _ _ | refine zai rfl ?_ | refine zad rfl ?_ | refine zaj rfl ?_)
    · skip
      replace h := br_f hb17 h
      refine c_exit ?_
      refine zaa ?_
      refine zaa ?_
      have e_ := Option.some.inj h; replace h := hR12; rw [← e_] at h; clear e_
      refine x_hit ?_
      refine za1 ?_
      refine c_seq ?_
      refine za0 ?_
      refine o_q rfl rfl (za2 rfl) ?_
      refine o_q rfl rfl (za2 rfl) ?_
      refine o_q rfl rfl (za2 rfl) ?_
      refine za6 h (fun s30 hz31 h => ?_) rfl
      refine o_q rfl rfl (q_cts Tryz.underlying9 rfl ⟨_, rfl⟩ rfl hz31) ?_
      refine o_e rfl (e_lit (vs := [(0, .string s30)]) (cs := [.string s30]) Kd.string ([s30] : List ByteArray) Tryz.underlying64 I9 (by decide) rfl (by decide) rfl rfl (fun _ _ => Kd.zav _)) (cur2 (fun A32 c33 => ?_))
      refine za6 h (fun l35 ha36 h => ?_) rfl
      refine o_e rfl (e_app (i := 1) (j := 0) Tryz.underlying64 I9 rfl (by decide) (by decide) rfl rfl rfl rfl rfl ha36) (cur2 (fun A37 c38 => ?_))
      refine o_q rfl rfl (q_asg rfl) ?_
      refine o_end ?_
      refine za1 ?_
      refine c_ret ?_
      have e0_ := Option.some.inj h; clear h
      subst e0_
      exact x_r1 (A37, c38) Tryz.results50 (zaf rfl) rfl (fun w h => za7 [1] (by decide) rfl w h)

/-! ### loop.example/g01098/spec.l1In: function 84 -/
def spec_l1In.f (a0 : Int) (a1 : Int) (a2 : Int) : Option Bool := if a1 ≤ a0 then (some (decide (a0 ≤ a2))) else (some false)
set_option maxHeartbeats 600000 in
set_option maxRecDepth 100000 in
theorem spec_l1In.calls {w0 ws : World} {P0 : Nat → Prop} (a0 : Int) (a1 : Int) (a2 : Int) (Z : Below w0.heap.size w0 ws) (hF : Fr w0 ws P0 [] ws)  (r_1 : Bool) (h : spec_l1In.f a0 a1 a2 = some r_1) :
    Calls Tryz.prog 84 #[.int .i64 a0, .int .i64 a1, .int .i64 a2] ws (Post1 w0 ws P0 (fun (_ : Unit) => .bool r_1) (fun (_ : Unit) => [])) := by
  unfold spec_l1In.f at h
  refine enter Tryz.func84 rfl Tryz.ntmps84 rfl hF ?_
  refine c_seq ?_
  refine za0 ?_
  refine o_q rfl rfl (q_asg rfl) ?_
  refine o_end ?_
  refine za1 ?_
  refine c_seq ?_
  refine za0 ?_
  refine o_q rfl rfl (za2 rfl) ?_
  refine o_q rfl rfl (za2 rfl) ?_
  refine o_q rfl rfl (q_geq rfl rfl) ?_
  refine o_q rfl rfl (za2 rfl) ?_
  refine byB (decide (a1 ≤ a0)) (fun hb1 => ?_) (fun hb1 => ?_)
  · replace h := br_t hb1 h
    refine o_w (za4 rfl rfl rfl (congrArg Value.bool hb1)) rfl (za2 rfl) ?_
    refine o_w (za4 rfl rfl rfl (congrArg Value.bool hb1)) rfl (za2 rfl) ?_
    refine o_w (za4 rfl rfl rfl (congrArg Value.bool hb1)) rfl (q_leq rfl rfl) ?_
    refine o_q rfl rfl (zas true (congrArg Value.bool hb1) rfl) ?_
    refine o_q rfl rfl (q_asg rfl) ?_
    refine o_end ?_
    refine za1 ?_
    refine c_ret ?_
    have e0_ := Option.some.inj h; clear h
    subst e0_
    exact x_r1 () Tryz.results84 (zaf rfl) rfl (fun w h => za7 [] (by decide) rfl w h)
  · replace h := br_f hb1 h
    refine @o_n _ _ _ _ _ _ _ _ _ _ _ 11 (za3 rfl rfl rfl (congrArg Value.bool hb1) rfl) (Eq.refl (some 11)) ?_
    refine @o_n _ _ _ _ _ _ _ _ _ _ _ 12 (za3 rfl rfl rfl (congrArg Value.bool hb1) rfl) (Eq.refl (some 12)) ?_
    refine @o_n _ _ _ _ _ _ _ _ _ _ _ 13 (za3 rfl rfl rfl (congrArg Value.bool hb1) rfl) (Eq.refl (some 13)) ?_
    refine o_q rfl rfl (zas false (congrArg Value.bool hb1) rfl) ?_
    refine o_q rfl rfl (q_asg rfl) ?_
    refine o_end ?_
    refine za1 ?_
    refine c_ret ?_
    have e0_ := Option.some.inj h; clear h
    subst e0_
    exact x_r1 () Tryz.results84 (zaf rfl) rfl (fun w h => za7 [] (by decide) rfl w h)

/-! ### loop.example/g01098/spec.l1Read: function 51 -/
def spec_l1Read.l0 (a0 : ByteArray) : Nat → Int → Int → Option ((Int) ⊕ (Int))
  | 0, _, _ => none
  | k24 + 1, i20, i21 => if i21 < (a0.size : Int) then ((gts a0 i21).bind fun y33 => if y33 < 48 then (some (.inl (-1))) else ((gts a0 i21).bind fun y36 => if 57 < y36 then (some (.inl (-1))) else ((gts a0 i21).bind fun y39 => spec_l1Read.l0 a0 k24 (w64 (w64 (10 * i20) + (w64 (IntKind.u8.wrap (y39 - 48))))) (w64 (i21 + 1))))) else (some (.inr i20))
def spec_l1Read.f (k : Nat) (a0 : ByteArray) : Option Int := ((spec_l1In.f (a0.size : Int) 1 6).bind fun b14 => if b14 = true then ((gts a0 0).bind fun y16 => if y16 = 48 then (if 1 < (a0.size : Int) then (some (.inl (-1))) else (some (.inr ()))) else (some (.inr ()))) else (some (.inl (-1))) : Option ((Int) ⊕ (Unit))).bind fun o_ => match o_ with | .inl r_ => some r_ | .inr _ => (spec_l1Read.l0 a0 k 0 0).bind fun o_ => match o_ with | .inl r_ => some r_ | .inr i20 => some i20
set_option maxHeartbeats 600000 in
set_option maxRecDepth 100000 in
theorem spec_l1Read.calls (k : Nat) {w0 ws : World} {P0 : Nat → Prop} (a0 : ByteArray) (Z : Below w0.heap.size w0 ws) (hF : Fr w0 ws P0 [] ws)  (r_1 : Int) (h : spec_l1Read.f k a0 = some r_1) :
    Calls Tryz.prog 51 #[.string a0] ws (Post1 w0 ws P0 (fun (_ : Unit) => .int .i64 r_1) (fun (_ : Unit) => [])) := by
  unfold spec_l1Read.f at h
  refine enter Tryz.func51 rfl Tryz.ntmps51 rfl hF ?_
  refine c_seq ?_
  refine za0 ?_
  refine o_q rfl rfl (q_asg rfl) ?_
  refine o_end ?_
  refine za1 ?_
  refine za6 h (fun o8 hl9 hR10 => ?_) rfl
  clear h
  refine c_cutJ (σ := Unit) (fun _ => some (.inr ()) = some o8) [2, 5, 6, 7, 8, 9, 10, 11, 12, 13, 14, 15, 16, 17, 18] (fun _ => []) (fun _ => []) ?_ ?_
  · skip
    have h := hl9; clear hl9
    refine c_seq ?_
    refine za0 ?_
    refine o_q rfl rfl (za2 rfl) ?_
    refine o_q rfl rfl (q_lens Tryz.underlying9 rfl) ?_
    refine za6 h (fun b14 hx13 h => ?_) rfl
    refine o_e rfl (za9 0 Z Tryz.func84 N84 rfl rfl rfl (fun w P1 hF hB hS hT => spec_l1In.calls (a0.size : Int) 1 6 hB hF _ hx13)) (fun _ => ?_)
    refine o_q rfl rfl (q_not rfl) ?_
    refine o_q rfl rfl (za2 rfl) ?_
    refine byB b14 (fun hb15 => ?_) (fun hb15 => ?_)
    · replace h := bb_t hb15 h
      refine o_w (za4 rfl rfl rfl (congrArg (fun b => Value.bool (!(b))) hb15)) rfl (za2 rfl) ?_
      refine za6 h (fun y16 hy17 h => ?_) rfl
      refine o_w (za4 rfl rfl rfl (congrArg (fun b => Value.bool (!(b))) hb15)) rfl (q_idxs Tryz.underlying9 rfl ⟨_, rfl⟩ hy17) ?_
      refine o_w (za4 rfl rfl rfl (congrArg (fun b => Value.bool (!(b))) hb15)) rfl (q_eql rfl rfl) ?_
      refine o_w (za4 rfl rfl rfl (congrArg (fun b => Value.bool (!(b))) hb15)) rfl (za2 rfl) ?_
      refine byB (decide (y16 = 48)) (fun hb18 => ?_) (fun hb18 => ?_)
      · replace h := br_t hb18 h
        refine o_w (za4 rfl rfl rfl (congrArg Value.bool hb18)) rfl (za2 rfl) ?_
        refine o_w (za4 rfl rfl rfl (congrArg Value.bool hb18)) rfl (q_lens Tryz.underlying9 rfl) ?_
        refine o_w (za4 rfl rfl rfl (congrArg Value.bool hb18)) rfl (q_gtr rfl rfl) ?_
        refine o_w (za4 rfl rfl rfl (congrArg (fun b => Value.bool (!(b))) hb15)) rfl (zas true (congrArg Value.bool hb18) rfl) ?_
        refine o_q rfl rfl (zas false (congrArg (fun b => Value.bool (!(b))) hb15) rfl) ?_
        refine o_end ?_
        refine za1 ?_
        refine zaq _ rfl (fun hb19 => ?_) (fun hb19 => ?_)
        · skip
          replace h := br_t hb19 h
          refine c_seq ?_
          refine za0 ?_
          refine o_q rfl rfl (q_asg rfl) ?_
          refine o_end ?_
          refine za1 ?_
          refine c_ret ?_
          refine za5 ?_
          have e_ := Option.some.inj h; replace h := hR10; rw [← e_] at h; clear e_
          have e0_ := Option.some.inj h; clear h
          subst e0_
          exact x_r1 () Tryz.results51 (zaf rfl) rfl (fun w h => za7 [] (by decide) rfl w h)
        · skip
          replace h := br_f hb19 h
          refine zak ?_
          refine zat () h trivial (fun w h => za7 [] (by decide) rfl w h) ?_
          repeat (first | exact zac _ _ | refine zai rfl ?_ | refine zad rfl ?_ | refine zaj rfl ?_)
      · replace h := br_f hb18 h
        refine @o_n _ _ _ _ _ _ _ _ _ _ _ 14 (za3 rfl rfl rfl (congrArg Value.bool hb18) rfl) (Eq.refl (some 14)) ?_
        refine @o_n _ _ _ _ _ _ _ _ _ _ _ 15 (za3 rfl rfl rfl (congrArg Value.bool hb18) rfl) (Eq.refl (some 15)) ?_
        refine @o_n _ _ _ _ _ _ _ _ _ _ _ 16 (za3 rfl rfl rfl (congrArg Value.bool hb18) rfl) (Eq.refl (some 16)) ?_
        refine o_w (za4 rfl rfl rfl (congrArg (fun b => Value.bool (!(b))) hb15)) rfl (zas false (congrArg Value.bool hb18) rfl) ?_
        refine o_q rfl rfl (zas false (congrArg (fun b => Value.bool (!(b))) hb15) rfl) ?_
        refine o_end ?_
        refine za1 ?_
        refine c_false rfl ?_
        refine zak ?_
        refine zat () h trivial (fun w h => za7 [] (by decide) rfl w h) ?_
        repeat (first | exact zac _ _ | refine zai rfl ?_ | refine zad rfl ?_ | refine zaj rfl ?_)
    · replace h := bb_f hb15 h
      refine @o_n _ _ _ _ _ _ _ _ _ _ _ 10 (za3 rfl rfl rfl (congrArg (fun b => Value.bool (!(b))) hb15) rfl) (Eq.refl (some 10)) ?_
      refine @o_n _ _ _ _ _ _ _ _ _ _ _ 11 (za3 rfl rfl rfl (congrArg (fun b => Value.bool (!(b))) hb15) rfl) (Eq.refl (some 11)) ?_
      refine @o_n _ _ _ _ _ _ _ _ _ _ _ 12 (za3 rfl rfl rfl (congrArg (fun b => Value.bool (!(b))) hb15) rfl) (Eq.refl (some 12)) ?_
      refine @o_n _ _ _ _ _ _ _ _ _ _ _ 13 (za3 rfl rfl rfl (congrArg (fun b => Value.bool (!(b))) hb15) rfl) (Eq.refl (some 13)) ?_
      refine @o_n _ _ _ _ _ _ _ _ _ _ _ 14 (wanted_un rfl rfl rfl rfl) (Eq.refl (some 14)) ?_
      refine @o_n _ _ _ _ _ _ _ _ _ _ _ 15 (wanted_un rfl rfl rfl rfl) (Eq.refl (some 15)) ?_
      refine @o_n _ _ _ _ _ _ _ _ _ _ _ 16 (wanted_un rfl rfl rfl rfl) (Eq.refl (some 16)) ?_
      refine @o_n _ _ _ _ _ _ _ _ _ _ _ 17 (za3 rfl rfl rfl (congrArg (fun b => Value.bool (!(b))) hb15) rfl) (Eq.refl (some 17)) ?_
      refine o_q rfl rfl (zas true (congrArg (fun b => Value.bool (!(b))) hb15) rfl) ?_
      refine o_end ?_
      refine za1 ?_
      refine c_true rfl ?_
      refine c_seq ?_
      refine za0 ?_
      refine o_q rfl rfl (q_asg rfl) ?_
      refine o_end ?_
      refine za1 ?_
      refine c_ret ?_
      refine za5 ?_
      have e_ := Option.some.inj h; replace h := hR10; rw [← e_] at h; clear e_
      have e0_ := Option.some.inj h; clear h
      subst e0_
      exact x_r1 () Tryz.results51 (zaf rfl) rfl (fun w h => za7 [] (by decide) rfl w h)
  · skip
    refine (fun _ => fun U11 hJ12 => ?_)
    have e_ := Option.some.inj hJ12; have h := hR10; rw [← e_] at h; clear e_ hJ12 hR10 hl9
    refine c_seq ?_
    refine za0 ?_
    refine o_q rfl rfl (q_asg rfl) ?_
    refine o_end ?_
    refine za1 ?_
    refine c_seq ?_
    refine c_seq ?_
    refine za0 ?_
    refine o_q rfl rfl (q_asg rfl) ?_
    refine o_end ?_
    refine za1 ?_
    refine zal ?_
    refine za6 h (fun o29 hl28 hR27 => ?_) rfl
    clear h
    refine zb1 (σ := Int × Int) (fun k24 ((i20, i21) : Int × Int) => spec_l1Read.l0 a0 k24 i20 i21 = some o29) [2, 3, 4, 19, 20, 21, 22, 23, 24, 25, 26, 27, 28, 29, 30, 31, 32, 33, 34, 35, 36, 37, 38, 39, 40, 41, 42] (fun ((i20, i21) : Int × Int) => [(3, .int .i64 i20), (4, .int .i64 i21)]) (fun ((i20, i21) : Int × Int) => []) k (0, 0) hl28 ⟨rfl, rfl, trivial⟩ (fun w h => h) ?_
    refine natC (cur2 (fun i20 i21 => fun U30 hJ_ => ?_)) (fun k24 => (cur2 (fun i20 i21 => fun U30 hJ_ => ?_)))
    · skip
      replace hJ_ : spec_l1Read.l0 a0 0 i20 i21 = some o29 := hJ_
      rw [spec_l1Read.l0] at hJ_
      exact noneE hJ_
    · skip
      clear hl28
      have h := hJ_; clear hJ_
      replace h : spec_l1Read.l0 a0 (k24 + 1) i20 i21 = some o29 := h
      rw [spec_l1Read.l0] at h
      refine c_seq ?_
      refine c_seq ?_
      refine za0 ?_
      refine o_q rfl rfl (za2 rfl) ?_
      refine o_q rfl rfl (za2 rfl) ?_
      refine o_q rfl rfl (q_lens Tryz.underlying9 rfl) ?_
      refine o_q rfl rfl (q_lss rfl rfl) ?_
      refine o_end ?_
      refine za1 ?_
      refine zaq _ rfl (fun hb32 => ?_) (fun hb32 => ?_)
      · skip
        replace h := br_t hb32 h
        refine zak ?_
        refine za1 ?_
        refine c_seq ?_
        refine zal ?_
        refine c_seq ?_
        refine c_seq ?_
        refine za0 ?_
        refine o_q rfl rfl (za2 rfl) ?_
        refine o_q rfl rfl (za2 rfl) ?_
        refine za6 h (fun y33 hy34 h => ?_) rfl
        refine o_q rfl rfl (q_idxs Tryz.underlying9 rfl ⟨_, rfl⟩ hy34) ?_
        refine o_q rfl rfl (q_lss rfl rfl) ?_
        refine o_q rfl rfl (za2 rfl) ?_
        refine byB (decide (y33 < 48)) (fun hb35 => ?_) (fun hb35 => ?_)
        · replace h := br_t hb35 h
          refine @o_n _ _ _ _ _ _ _ _ _ _ _ 30 (za3 rfl rfl rfl (congrArg Value.bool hb35) rfl) (Eq.refl (some 30)) ?_
          refine @o_n _ _ _ _ _ _ _ _ _ _ _ 31 (za3 rfl rfl rfl (congrArg Value.bool hb35) rfl) (Eq.refl (some 31)) ?_
          refine @o_n _ _ _ _ _ _ _ _ _ _ _ 32 (za3 rfl rfl rfl (congrArg Value.bool hb35) rfl) (Eq.refl (some 32)) ?_
          refine @o_n _ _ _ _ _ _ _ _ _ _ _ 33 (za3 rfl rfl rfl (congrArg Value.bool hb35) rfl) (Eq.refl (some 33)) ?_
          refine o_q rfl rfl (zas true (congrArg Value.bool hb35) rfl) ?_
          refine o_end ?_
          refine za1 ?_
          refine c_true rfl ?_
          refine c_seq ?_
          refine za0 ?_
          refine o_q rfl rfl (q_asg rfl) ?_
          refine o_end ?_
          refine za1 ?_
          refine c_ret ?_
          refine za5 ?_
          refine zah ?_
          refine za5 ?_
          refine za5 ?_
          have e_ := Option.some.inj h; replace h := hR27; rw [← e_] at h; clear e_
          refine zah ?_
          refine za5 ?_
          have e0_ := Option.some.inj h; clear h
          subst e0_
          exact x_r1 () Tryz.results51 (zaf rfl) rfl (fun w h => za7 [] (by decide) rfl w h)
        · replace h := br_f hb35 h
          refine o_w (za4 rfl rfl rfl (congrArg Value.bool hb35)) rfl (za2 rfl) ?_
          refine o_w (za4 rfl rfl rfl (congrArg Value.bool hb35)) rfl (za2 rfl) ?_
          refine za6 h (fun y36 hy37 h => ?_) rfl
          refine o_w (za4 rfl rfl rfl (congrArg Value.bool hb35)) rfl (q_idxs Tryz.underlying9 rfl ⟨_, rfl⟩ hy37) ?_
          refine o_w (za4 rfl rfl rfl (congrArg Value.bool hb35)) rfl (q_gtr rfl rfl) ?_
          refine o_q rfl rfl (zas false (congrArg Value.bool hb35) rfl) ?_
          refine o_end ?_
          refine za1 ?_
          refine zaq _ rfl (fun hb38 => ?_) (fun hb38 => ?_)
          · skip
            replace h := br_t hb38 h
            refine c_seq ?_
            refine za0 ?_
            refine o_q rfl rfl (q_asg rfl) ?_
            refine o_end ?_
            refine za1 ?_
            refine c_ret ?_
            refine za5 ?_
            refine zah ?_
            refine za5 ?_
            refine za5 ?_
            have e_ := Option.some.inj h; replace h := hR27; rw [← e_] at h; clear e_
            refine zah ?_
            refine za5 ?_
            have e0_ := Option.some.inj h; clear h
            subst e0_
            exact x_r1 () Tryz.results51 (zaf rfl) rfl (fun w h => za7 [] (by decide) rfl w h)
          · skip
            replace h := br_f hb38 h
            refine zak ?_
            refine za1 ?_
            refine za0 ?_
            refine o_q rfl rfl (za2 rfl) ?_
            refine o_q rfl rfl (q_mul64 rfl rfl) ?_
            refine o_q rfl rfl (za2 rfl) ?_
            refine o_q rfl rfl (za2 rfl) ?_
            refine za6 h (fun y39 hy40 h => ?_) rfl
            refine o_q rfl rfl (q_idxs Tryz.underlying9 rfl ⟨_, rfl⟩ hy40) ?_
            refine o_q rfl rfl (q_sub rfl rfl) ?_
            refine o_q rfl rfl (q_conv (by rw [Tryz.underlying5]; rfl) Tryz.underlying3 rfl) ?_
            refine o_q rfl rfl (q_add64 rfl rfl) ?_
            refine o_q rfl rfl (q_asg rfl) ?_
            refine o_end ?_
            refine zaw ?_
            refine za1 ?_
            refine za0 ?_
            refine o_q rfl rfl (za2 rfl) ?_
            refine o_q rfl rfl (q_add64 rfl rfl) ?_
            refine o_q rfl rfl (q_asg rfl) ?_
            refine o_end ?_
            refine zao k24 (w64 (w64 (10 * i20) + (w64 (IntKind.u8.wrap (y39 - 48)))), w64 (i21 + 1)) (Nat.lt_succ_self _) h ⟨rfl, rfl, trivial⟩ (fun w h => za7 [] (by decide) rfl w h) ?_
            repeat (first | exact zac _ _ | refine zai rfl ?_ | refine zad rfl ?_ | refine zaj rfl ?_)
      · skip
        replace h := br_f hb32 h
        refine c_exit ?_
        refine zaa ?_
        refine zaa ?_
        have e_ := Option.some.inj h; replace h := hR27; rw [← e_] at h; clear e_
        refine x_hit ?_
        refine za1 ?_
        refine c_seq ?_
        refine za0 ?_
        refine o_q rfl rfl (za2 rfl) ?_
        refine o_q rfl rfl (q_asg rfl) ?_
        refine o_end ?_
        refine za1 ?_
        refine c_ret ?_
        have e0_ := Option.some.inj h; clear h
        subst e0_
        exact x_r1 () Tryz.results51 (zaf rfl) rfl (fun w h => za7 [] (by decide) rfl w h)

/-! ### loop.example/g01098/spec.reOps: function 54 -/
def spec_reOps.l0 (k : Nat) : (List ByteArray) → (List SRegOp) → Int → Option (((List SRegOp) × Bool) ⊕ ((List SRegOp)))
  | [], l7, i10 => some (.inr l7)
  | y11 :: ys12, l7, i10 => (spec_l1Split.f k y11 61).bind fun l23 => if (l23.length : Int) ≠ 2 then (some (.inl (([] : List SRegOp), false))) else ((gt l23 1).bind fun y29 => (spec_l1Split.f k y29 42).bind fun l31 => if (l31.length : Int) ≠ 2 then (some (.inl (([] : List SRegOp), false))) else ((gt l23 0).bind fun y36 => (gt l31 0).bind fun y39 => (gt l31 1).bind fun y41 => (spec_l1Read.f k y36).bind fun i43 => (spec_l1Read.f k y39).bind fun i45 => (spec_l1Read.f k y41).bind fun i47 => (ap l7 ([(⟨i43, i45, i47⟩ : SRegOp)] : List SRegOp)).bind fun l51 => spec_reOps.l0 k ys12 l51 (i10 + 1)))
def spec_reOps.f (k : Nat) (a0 : ByteArray) : Option ((List SRegOp) × Bool) := if a0 = (⟨#[45]⟩ : ByteArray) then (some (([] : List SRegOp), true)) else ((spec_l1Split.f k a0 44).bind fun l3 => (spec_reOps.l0 k l3 ([] : List SRegOp) 0).bind fun o_ => match o_ with | .inl r_ => some r_ | .inr l7 => some (l7, true))
set_option maxHeartbeats 600000 in
set_option maxRecDepth 100000 in
theorem spec_reOps.calls (k : Nat) {w0 ws : World} {P0 : Nat → Prop} (a0 : ByteArray) (Z : Below w0.heap.size w0 ws) (hF : Fr w0 ws P0 [] ws)  (r_1 : List SRegOp) (r_4 : Bool) (h : spec_reOps.f k a0 = some (r_1, r_4)) :
    Calls Tryz.prog 54 #[.string a0] ws (Post1 w0 ws P0 (fun ((q_2, q_3) : (Option Addr) × Nat) => .tuple #[.slice q_2 r_1.length q_3, .bool r_4]) (fun ((q_2, q_3) : (Option Addr) × Nat) => [row zax 84 (.slice q_2 r_1.length q_3) r_1])) := by
  unfold spec_reOps.f at h
  refine enter Tryz.func54 rfl Tryz.ntmps54 rfl hF ?_
  refine c_seq ?_
  refine za0 ?_
  refine o_q rfl rfl (q_asg rfl) ?_
  refine o_q rfl rfl (q_asg rfl) ?_
  refine o_end ?_
  refine za1 ?_
  refine c_seq ?_
  refine c_seq ?_
  refine za0 ?_
  refine o_q rfl rfl (za2 rfl) ?_
  refine o_q rfl rfl (q_seql rfl rfl) ?_
  refine o_end ?_
  refine za1 ?_
  refine zaq _ rfl (fun hb1 => ?_) (fun hb1 => ?_)
  · skip
    replace h := br_t hb1 h
    refine c_seq ?_
    refine za0 ?_
    refine o_q rfl rfl (q_asg rfl) ?_
    refine o_q rfl rfl (q_asg rfl) ?_
    refine o_end ?_
    refine za1 ?_
    refine c_ret ?_
    refine za5 ?_
    refine x_nil zax 84 ?_
    have e0_ := Option.some.inj h; clear h
    have d0_ := (Prod.mk.inj e0_).1; have e1_ := (Prod.mk.inj e0_).2; clear e0_; subst d0_
    subst e1_
    exact x_r2 (none, 0) Tryz.results54 (zaf rfl) (zaf rfl) rfl (fun w h => za7 [0] (by decide) rfl w h)
  · skip
    replace h := br_f hb1 h
    refine zak ?_
    refine za1 ?_
    refine c_seq ?_
    refine za0 ?_
    refine o_q rfl rfl (q_asg rfl) ?_
    refine o_end ?_
    refine za1 ?_
    refine c_seq ?_
    refine c_seq ?_
    refine za0 ?_
    refine o_q rfl rfl (za2 rfl) ?_
    refine za6 h (fun l3 hx2 h => ?_) rfl
    refine o_e rfl (za9 0 Z Tryz.func50 N50 rfl rfl rfl (fun w P1 hF hB hS hT => spec_l1Split.calls k a0 44 hB hF _ hx2)) (cur2 (fun A4 c5 => ?_))
    refine o_q rfl rfl (q_len Tryz.underlying64 rfl) ?_
    refine o_q rfl rfl (za2 rfl) ?_
    refine o_end ?_
    refine za1 ?_
    refine zal ?_
    refine c_nil zax 84 ?_
    refine za6 h (fun o18 hl17 hR16 => ?_) rfl
    clear h
    refine c_fact (p := l3.length ≤ 9223372036854775807) (fun w h => (h.zan (i := 1) rfl).2.1) (fun hm15 => ?_)
    refine zb1 (σ := (List ByteArray) × (List SRegOp) × Int × (Option Addr) × Nat) (fun k13 ((ys12, l7, i10, A8, c9) : (List ByteArray) × (List SRegOp) × Int × (Option Addr) × Nat) => Rg l3 i10 ys12 ∧ ys12.length = k13 ∧ spec_reOps.l0 k ys12 l7 i10 = some o18) [2, 3, 4, 6, 7, 8, 14, 15, 16, 17, 18, 19, 20, 21, 22, 23, 24, 25, 26, 27, 28, 29, 30, 31, 32, 33, 34, 35, 36, 37, 38, 39, 40, 41, 42, 43, 44, 45, 46] (fun ((ys12, l7, i10, A8, c9) : (List ByteArray) × (List SRegOp) × Int × (Option Addr) × Nat) => [(4, .slice A8 l7.length c9), (14, .int .i64 i10)]) (fun ((ys12, l7, i10, A8, c9) : (List ByteArray) × (List SRegOp) × Int × (Option Addr) × Nat) => [row zax 84 (.slice A8 l7.length c9) l7, row Kd.string 9 (.slice A4 l3.length c5) l3]) l3.length (l3, ([] : List SRegOp), 0, none, 0) ⟨Rg.start _, rfl, hl17⟩ ⟨rfl, rfl, trivial⟩ (fun w h => h) ?_
    refine fun k13 => cur5 (listC (fun l7 i10 A8 c9 U19 hJ_ => ?_) (fun y11 ys12 l7 i10 A8 c9 U19 hJ_ => ?_))
    · skip
      clear hl17
      have hr14 := hJ_.1; have hk20 := hJ_.2.1; have h := hJ_.2.2; clear hJ_
      replace h : spec_reOps.l0 k [] l7 i10 = some o18 := h
      rw [spec_reOps.l0] at h
      refine c_seq ?_
      refine za0 ?_
      refine o_q rfl rfl (q_lss rfl rfl) ?_
      refine o_end ?_
      refine za1 ?_
      refine c_seq ?_
      refine c_false (congrArg Value.bool hr14.ge) ?_
      refine c_exit ?_
      refine zaa ?_
      refine zaa ?_
      have e_ := Option.some.inj h; replace h := hR16; rw [← e_] at h; clear e_
      refine x_hit ?_
      refine za1 ?_
      refine c_seq ?_
      refine za0 ?_
      refine o_q rfl rfl (za2 rfl) ?_
      refine o_q rfl rfl (q_asg rfl) ?_
      refine o_q rfl rfl (q_asg rfl) ?_
      refine o_end ?_
      refine za1 ?_
      refine c_ret ?_
      have e0_ := Option.some.inj h; clear h
      have d0_ := (Prod.mk.inj e0_).1; have e1_ := (Prod.mk.inj e0_).2; clear e0_; subst d0_
      subst e1_
      exact x_r2 (A8, c9) Tryz.results54 (zaf rfl) (zaf rfl) rfl (fun w h => za7 [0] (by decide) rfl w h)
    · skip
      clear hl17
      have hr14 := hJ_.1; have hk20 := hJ_.2.1; have h := hJ_.2.2; clear hJ_
      replace h : spec_reOps.l0 k (y11 :: ys12) l7 i10 = some o18 := h
      rw [spec_reOps.l0] at h
      refine c_seq ?_
      refine za0 ?_
      refine o_q rfl rfl (q_lss rfl rfl) ?_
      refine o_end ?_
      refine za1 ?_
      refine c_seq ?_
      refine c_true (congrArg Value.bool hr14.lt) ?_
      refine zak ?_
      refine za1 ?_
      refine c_seq ?_
      refine zal ?_
      refine c_seq ?_
      refine za0 ?_
      refine zb2 (p := Sh A4 l3.length l3.length) (fun w h => f_sh (dk := Kd.string) h (fun w h => h.zan (i := 1) rfl)) (fun hq21 => ?_)
      refine o_q rfl rfl (q_ix Tryz.underlying64 Z9 rfl rfl hq21 hr14.get) ?_
      refine o_q rfl rfl (q_lde (off := 0) Y9 rfl rfl (fun w h => h.zan (i := 1) rfl) hr14.get (fun _ _ h => h) rfl) ?_
      refine o_q rfl rfl (q_asg rfl) ?_
      refine o_end ?_
      refine za1 ?_
      refine c_seq ?_
      refine za0 ?_
      refine o_q rfl rfl (za2 rfl) ?_
      refine za6 h (fun l23 hx22 h => ?_) rfl
      refine o_e rfl (za9 0 Z Tryz.func50 N50 rfl rfl rfl (fun w P1 hF hB hS hT => spec_l1Split.calls k y11 61 hB hF _ hx22)) (cur2 (fun A24 c25 => ?_))
      refine o_q rfl rfl (q_asg rfl) ?_
      refine o_end ?_
      refine za1 ?_
      refine c_seq ?_
      refine c_seq ?_
      refine za0 ?_
      refine o_q rfl rfl (za2 rfl) ?_
      refine o_q rfl rfl (q_len Tryz.underlying64 rfl) ?_
      refine o_q rfl rfl (q_neq rfl rfl) ?_
      refine o_end ?_
      refine za1 ?_
      refine zaq _ rfl (fun hb26 => ?_) (fun hb26 => ?_)
      · skip
        replace h := br_t hb26 h
        refine c_seq ?_
        refine za0 ?_
        refine o_q rfl rfl (q_asg rfl) ?_
        refine o_q rfl rfl (q_asg rfl) ?_
        refine o_end ?_
        refine za1 ?_
        refine c_ret ?_
        refine za5 ?_
        refine zah ?_
        refine za5 ?_
        refine za5 ?_
        have e_ := Option.some.inj h; replace h := hR16; rw [← e_] at h; clear e_
        refine zah ?_
        refine za5 ?_
        refine x_nil zax 84 ?_
        have e0_ := Option.some.inj h; clear h
        have d0_ := (Prod.mk.inj e0_).1; have e1_ := (Prod.mk.inj e0_).2; clear e0_; subst d0_
        subst e1_
        exact x_r2 (none, 0) Tryz.results54 (zaf rfl) (zaf rfl) rfl (fun w h => za7 [0] (by decide) rfl w h)
      · skip
        replace h := br_f hb26 h
        refine zak ?_
        refine za1 ?_
        refine c_seq ?_
        refine za0 ?_
        refine o_q rfl rfl (za2 rfl) ?_
        refine zb2 (p := Sh A24 l23.length l23.length) (fun w h => f_sh (dk := Kd.string) h (fun w h => h.zan (i := 0) rfl)) (fun hq27 => ?_)
        refine za6 h (fun y29 hg28 h => ?_) rfl
        refine o_q rfl rfl (q_ix Tryz.underlying64 Z9 rfl rfl hq27 hg28) ?_
        refine o_q rfl rfl (q_lde (off := 0) Y9 rfl rfl (fun w h => h.zan (i := 0) rfl) hg28 (fun _ _ h => h) rfl) ?_
        refine za6 h (fun l31 hx30 h => ?_) rfl
        refine o_e rfl (za9 0 Z Tryz.func50 N50 rfl rfl rfl (fun w P1 hF hB hS hT => spec_l1Split.calls k y29 42 hB hF _ hx30)) (cur2 (fun A32 c33 => ?_))
        refine o_q rfl rfl (q_asg rfl) ?_
        refine o_end ?_
        refine za1 ?_
        refine c_seq ?_
        refine c_seq ?_
        refine za0 ?_
        refine o_q rfl rfl (za2 rfl) ?_
        refine o_q rfl rfl (q_len Tryz.underlying64 rfl) ?_
        refine o_q rfl rfl (q_neq rfl rfl) ?_
        refine o_end ?_
        refine za1 ?_
        refine zaq _ rfl (fun hb34 => ?_) (fun hb34 => ?_)
        · skip
          replace h := br_t hb34 h
          refine c_seq ?_
          refine za0 ?_
          refine o_q rfl rfl (q_asg rfl) ?_
          refine o_q rfl rfl (q_asg rfl) ?_
          refine o_end ?_
          refine za1 ?_
          refine c_ret ?_
          refine za5 ?_
          refine zah ?_
          refine za5 ?_
          refine za5 ?_
          have e_ := Option.some.inj h; replace h := hR16; rw [← e_] at h; clear e_
          refine zah ?_
          refine za5 ?_
          refine x_nil zax 84 ?_
          have e0_ := Option.some.inj h; clear h
          have d0_ := (Prod.mk.inj e0_).1; have e1_ := (Prod.mk.inj e0_).2; clear e0_; subst d0_
          subst e1_
          exact x_r2 (none, 0) Tryz.results54 (zaf rfl) (zaf rfl) rfl (fun w h => za7 [0] (by decide) rfl w h)
        · skip
          replace h := br_f hb34 h
          refine zak ?_
          refine za1 ?_
          refine a_startS (ds := []) [some 0, some 1, none, some 3] MO rfl ?_
          refine zab 0 rfl rfl rfl (by kernel_rfl) (fun _ _ _ h => h) (za2 rfl) ?_
          refine zab 1 rfl rfl rfl (by kernel_rfl) (fun _ _ _ h => h) (za2 rfl) ?_
          refine za6 h (fun y36 hg35 h => ?_) rfl
          refine zab 2 rfl rfl rfl (by kernel_rfl) (fun _ _ _ h => h) (q_ix Tryz.underlying64 Z9 rfl rfl hq27 hg35) ?_
          refine zaz 3 rfl rfl rfl (by kernel_rfl) (fun _ _ _ h => h) (fun w h => za8 [some 0, some 1, none, some 3] (by decide) w h rfl) (q_lde (off := 0) Y9 rfl rfl (fun w h => h.zan (i := 1) rfl) hg35 (fun _ _ h => h) rfl) ?_
          refine zab 5 rfl rfl rfl (by kernel_rfl) (fun _ _ _ h => h) (za2 rfl) ?_
          refine a_fact (p := Sh A32 l31.length l31.length) (fun w h => f_sh (dk := Kd.string) h (fun w h => h.zan (i := 0) rfl)) (fun hq37 => ?_)
          refine za6 h (fun y39 hg38 h => ?_) rfl
          refine zab 6 rfl rfl rfl (by kernel_rfl) (fun _ _ _ h => h) (q_ix Tryz.underlying64 Z9 rfl rfl hq37 hg38) ?_
          refine zaz 7 rfl rfl rfl (by kernel_rfl) (fun _ _ _ h => h) (fun w h => za8 [some 0, some 1, none, some 3] (by decide) w h rfl) (q_lde (off := 0) Y9 rfl rfl (fun w h => h.zan (i := 0) rfl) hg38 (fun _ _ h => h) rfl) ?_
          refine zab 9 rfl rfl rfl (by kernel_rfl) (fun _ _ _ h => h) (za2 rfl) ?_
          refine za6 h (fun y41 hg40 h => ?_) rfl
          refine zab 10 rfl rfl rfl (by kernel_rfl) (fun _ _ _ h => h) (q_ix Tryz.underlying64 Z9 rfl rfl hq37 hg40) ?_
          refine zaz 11 rfl rfl rfl (by kernel_rfl) (fun _ _ _ h => h) (fun w h => za8 [some 0, some 1, none, some 3] (by decide) w h rfl) (q_lde (off := 0) Y9 rfl rfl (fun w h => h.zan (i := 0) rfl) hg40 (fun _ _ h => h) rfl) ?_
          refine za6 h (fun i43 hx42 h => ?_) rfl
          refine a_one 4 rfl rfl (by kernel_rfl) rfl (za9 0 Z Tryz.func51 N51 rfl rfl rfl (fun w P1 hF hB hS hT => spec_l1Read.calls k y36 hB hF _ hx42)) (fun s w h => za8 [some 0, some 1, none, some 3] (by decide) w h rfl) (fun _ => ?_)
          refine za6 h (fun i45 hx44 h => ?_) rfl
          refine a_one 8 rfl rfl (by kernel_rfl) rfl (za9 0 Z Tryz.func51 N51 rfl rfl rfl (fun w P1 hF hB hS hT => spec_l1Read.calls k y39 hB hF _ hx44)) (fun s w h => za8 [some 0, some 1, none, some 3] (by decide) w h rfl) (fun _ => ?_)
          refine za6 h (fun i47 hx46 h => ?_) rfl
          refine a_one 12 rfl rfl (by kernel_rfl) rfl (za9 0 Z Tryz.func51 N51 rfl rfl rfl (fun w P1 hF hB hS hT => spec_l1Read.calls k y41 hB hF _ hx46)) (fun s w h => za8 [some 0, some 1, none, some 3] (by decide) w h rfl) (fun _ => ?_)
          refine zab 13 rfl rfl rfl (by kernel_rfl) (fun _ _ _ h => h) (q_build (vs := [(0, .int .i64 i43), (1, .int .i64 i45), (2, .int .i64 i47)]) (cs := [.int .i64 i43, .int .i64 i45, .int .i64 i47]) rfl rfl) ?_
          refine a_one 14 rfl rfl (by kernel_rfl) rfl (e_lit (vs := [(0, .agg #[.int .i64 i43, .int .i64 i45, .int .i64 i47])]) (cs := [.int .i64 i43, .int .i64 i45, .int .i64 i47]) zax ([(⟨i43, i45, i47⟩ : SRegOp)] : List SRegOp) Tryz.underlying36 I84 (by decide) rfl (by decide) rfl rfl (fun _ _ => reps_flat _)) (fun s w h => za8 [some 1, some 2, none, some 4] (by decide) w h rfl) (cur2 (fun A48 c49 => ?_))
          refine za6 h (fun l51 ha52 h => ?_) rfl
          refine a_one 15 rfl rfl (by kernel_rfl) rfl (e_app (i := 3) (j := 0) Tryz.underlying36 I84 rfl (by decide) (by decide) rfl rfl rfl rfl rfl ha52) (fun s w h => za8 [some 1, some 2, none, some 4] (by decide) w h rfl) (cur2 (fun A53 c54 => ?_))
          refine zab 16 rfl rfl rfl (by kernel_rfl) (fun _ _ _ h => h) (q_asg rfl) ?_
          refine zay (by kernel_rfl) ?_
          refine zaw ?_
          refine za1 ?_
          refine za0 ?_
          refine o_q rfl rfl (q_up rfl rfl (hr14.up hm15)) ?_
          refine o_q rfl rfl (za2 rfl) ?_
          refine o_end ?_
          refine zao ys12.length (ys12, l51, i10 + 1, A53, c54) (by rw [← hk20]; exact Nat.lt_succ_self _) ⟨hr14.step, rfl, h⟩ ⟨rfl, rfl, trivial⟩ (fun w h => za7 [3, 4] (by decide) rfl w h) ?_
          repeat (first | exact zac _ _ | refine zai rfl ?_ | refine zad rfl ?_ | refine zaj rfl ?_)

/-! ### loop.example/g01098/spec.reNumbers: function 55 -/
def spec_reNumbers.l0 (k : Nat) : (List ByteArray) → (List Int) → Int → Option (List Int)
  | [], l7, i10 => some l7
  | y11 :: ys12, l7, i10 => (spec_l1Read.f k y11).bind fun i23 => (ap l7 ([i23] : List Int)).bind fun l27 => spec_reNumbers.l0 k ys12 l27 (i10 + 1)
def spec_reNumbers.f (k : Nat) (a0 : ByteArray) : Option (List Int) := if a0 = (⟨#[45]⟩ : ByteArray) then (some ([] : List Int)) else ((spec_l1Split.f k a0 44).bind fun l3 => (spec_reNumbers.l0 k l3 ([] : List Int) 0).bind fun l7 => some l7)
set_option maxHeartbeats 600000 in
set_option maxRecDepth 100000 in
theorem spec_reNumbers.calls (k : Nat) {w0 ws : World} {P0 : Nat → Prop} (a0 : ByteArray) (Z : Below w0.heap.size w0 ws) (hF : Fr w0 ws P0 [] ws)  (r_1 : List Int) (h : spec_reNumbers.f k a0 = some r_1) :
    Calls Tryz.prog 55 #[.string a0] ws (Post1 w0 ws P0 (fun ((q_2, q_3) : (Option Addr) × Nat) => .slice q_2 r_1.length q_3) (fun ((q_2, q_3) : (Option Addr) × Nat) => [row (Kd.int .i64) 3 (.slice q_2 r_1.length q_3) r_1])) := by
  unfold spec_reNumbers.f at h
  refine enter Tryz.func55 rfl Tryz.ntmps55 rfl hF ?_
  refine c_seq ?_
  refine za0 ?_
  refine o_q rfl rfl (q_asg rfl) ?_
  refine o_end ?_
  refine za1 ?_
  refine c_seq ?_
  refine c_seq ?_
  refine za0 ?_
  refine o_q rfl rfl (za2 rfl) ?_
  refine o_q rfl rfl (q_seql rfl rfl) ?_
  refine o_end ?_
  refine za1 ?_
  refine zaq _ rfl (fun hb1 => ?_) (fun hb1 => ?_)
  · skip
    replace h := br_t hb1 h
    refine c_seq ?_
    refine za0 ?_
    refine o_q rfl rfl (q_asg rfl) ?_
    refine o_end ?_
    refine za1 ?_
    refine c_ret ?_
    refine za5 ?_
    refine x_nil (Kd.int .i64) 3 ?_
    have e0_ := Option.some.inj h; clear h
    subst e0_
    exact x_r1 (none, 0) Tryz.results55 (zaf rfl) rfl (fun w h => za7 [0] (by decide) rfl w h)
  · skip
    replace h := br_f hb1 h
    refine zak ?_
    refine za1 ?_
    refine c_seq ?_
    refine za0 ?_
    refine o_q rfl rfl (q_asg rfl) ?_
    refine o_end ?_
    refine za1 ?_
    refine c_seq ?_
    refine c_seq ?_
    refine za0 ?_
    refine o_q rfl rfl (za2 rfl) ?_
    refine za6 h (fun l3 hx2 h => ?_) rfl
    refine o_e rfl (za9 0 Z Tryz.func50 N50 rfl rfl rfl (fun w P1 hF hB hS hT => spec_l1Split.calls k a0 44 hB hF _ hx2)) (cur2 (fun A4 c5 => ?_))
    refine o_q rfl rfl (q_len Tryz.underlying64 rfl) ?_
    refine o_q rfl rfl (za2 rfl) ?_
    refine o_end ?_
    refine za1 ?_
    refine zal ?_
    refine c_nil (Kd.int .i64) 3 ?_
    refine za6 h (fun o18 hl17 hR16 => ?_) rfl
    clear h
    refine c_fact (p := l3.length ≤ 9223372036854775807) (fun w h => (h.zan (i := 1) rfl).2.1) (fun hm15 => ?_)
    refine zb1 (σ := (List ByteArray) × (List Int) × Int × (Option Addr) × Nat) (fun k13 ((ys12, l7, i10, A8, c9) : (List ByteArray) × (List Int) × Int × (Option Addr) × Nat) => Rg l3 i10 ys12 ∧ ys12.length = k13 ∧ spec_reNumbers.l0 k ys12 l7 i10 = some o18) [3, 5, 11, 12, 13, 14, 15, 16, 17, 18, 19, 20] (fun ((ys12, l7, i10, A8, c9) : (List ByteArray) × (List Int) × Int × (Option Addr) × Nat) => [(3, .slice A8 l7.length c9), (11, .int .i64 i10)]) (fun ((ys12, l7, i10, A8, c9) : (List ByteArray) × (List Int) × Int × (Option Addr) × Nat) => [row (Kd.int .i64) 3 (.slice A8 l7.length c9) l7, row Kd.string 9 (.slice A4 l3.length c5) l3]) l3.length (l3, ([] : List Int), 0, none, 0) ⟨Rg.start _, rfl, hl17⟩ ⟨rfl, rfl, trivial⟩ (fun w h => h) ?_
    refine fun k13 => cur5 (listC (fun l7 i10 A8 c9 U19 hJ_ => ?_) (fun y11 ys12 l7 i10 A8 c9 U19 hJ_ => ?_))
    · skip
      clear hl17
      have hr14 := hJ_.1; have hk20 := hJ_.2.1; have h := hJ_.2.2; clear hJ_
      replace h : spec_reNumbers.l0 k [] l7 i10 = some o18 := h
      rw [spec_reNumbers.l0] at h
      refine c_seq ?_
      refine za0 ?_
      refine o_q rfl rfl (q_lss rfl rfl) ?_
      refine o_end ?_
      refine za1 ?_
      refine c_seq ?_
      refine c_false (congrArg Value.bool hr14.ge) ?_
      refine c_exit ?_
      refine zaa ?_
      refine zaa ?_
      have e_ := Option.some.inj h; replace h := hR16; rw [← e_] at h; clear e_
      refine x_hit ?_
      refine za1 ?_
      refine c_seq ?_
      refine za0 ?_
      refine o_q rfl rfl (za2 rfl) ?_
      refine o_q rfl rfl (q_asg rfl) ?_
      refine o_end ?_
      refine za1 ?_
      refine c_ret ?_
      have e0_ := Option.some.inj h; clear h
      subst e0_
      exact x_r1 (A8, c9) Tryz.results55 (zaf rfl) rfl (fun w h => za7 [0] (by decide) rfl w h)
    · skip
      clear hl17
      have hr14 := hJ_.1; have hk20 := hJ_.2.1; have h := hJ_.2.2; clear hJ_
      replace h : spec_reNumbers.l0 k (y11 :: ys12) l7 i10 = some o18 := h
      rw [spec_reNumbers.l0] at h
      refine c_seq ?_
      refine za0 ?_
      refine o_q rfl rfl (q_lss rfl rfl) ?_
      refine o_end ?_
      refine za1 ?_
      refine c_seq ?_
      refine c_true (congrArg Value.bool hr14.lt) ?_
      refine zak ?_
      refine za1 ?_
      refine c_seq ?_
      refine zal ?_
      refine c_seq ?_
      refine za0 ?_
      refine zb2 (p := Sh A4 l3.length l3.length) (fun w h => f_sh (dk := Kd.string) h (fun w h => h.zan (i := 1) rfl)) (fun hq21 => ?_)
      refine o_q rfl rfl (q_ix Tryz.underlying64 Z9 rfl rfl hq21 hr14.get) ?_
      refine o_q rfl rfl (q_lde (off := 0) Y9 rfl rfl (fun w h => h.zan (i := 1) rfl) hr14.get (fun _ _ h => h) rfl) ?_
      refine o_q rfl rfl (q_asg rfl) ?_
      refine o_end ?_
      refine za1 ?_
      refine za0 ?_
      refine o_q rfl rfl (za2 rfl) ?_
      refine o_q rfl rfl (za2 rfl) ?_
      refine za6 h (fun i23 hx22 h => ?_) rfl
      refine o_e rfl (za9 0 Z Tryz.func51 N51 rfl rfl rfl (fun w P1 hF hB hS hT => spec_l1Read.calls k y11 hB hF _ hx22)) (fun _ => ?_)
      refine o_e rfl (e_lit (vs := [(0, .int .i64 i23)]) (cs := [.int .i64 i23]) (Kd.int .i64) ([i23] : List Int) Tryz.underlying25 I3 (by decide) rfl (by decide) rfl rfl (fun _ _ => Kd.zav _)) (cur2 (fun A24 c25 => ?_))
      refine za6 h (fun l27 ha28 h => ?_) rfl
      refine o_e rfl (e_app (i := 1) (j := 0) Tryz.underlying25 I3 rfl (by decide) (by decide) rfl rfl rfl rfl rfl ha28) (cur2 (fun A29 c30 => ?_))
      refine o_q rfl rfl (q_asg rfl) ?_
      refine o_end ?_
      refine zaw ?_
      refine za1 ?_
      refine za0 ?_
      refine o_q rfl rfl (q_up rfl rfl (hr14.up hm15)) ?_
      refine o_q rfl rfl (za2 rfl) ?_
      refine o_end ?_
      refine zao ys12.length (ys12, l27, i10 + 1, A29, c30) (by rw [← hk20]; exact Nat.lt_succ_self _) ⟨hr14.step, rfl, h⟩ ⟨rfl, rfl, trivial⟩ (fun w h => za7 [1, 2] (by decide) rfl w h) ?_
      repeat (first | exact zac _ _ | refine zai rfl ?_ | refine zad rfl ?_ | refine zaj rfl ?_)

/-! ### loop.example/g01098/spec.l1Has: function 72 -/
def spec_l1Has.l0 (a1 : Int) : (List Int) → Int → Option ((Bool) ⊕ (Unit))
  | [], i1 => some (.inr ())
  | y2 :: ys3, i1 => if y2 = a1 then (some (.inl true)) else (spec_l1Has.l0 a1 ys3 (i1 + 1))
def spec_l1Has.f (l0 : List Int) (a1 : Int) : Option Bool := (spec_l1Has.l0 a1 l0 0).bind fun o_ => match o_ with | .inl r_ => some r_ | .inr _ => some false
set_option maxHeartbeats 600000 in
set_option maxRecDepth 100000 in
theorem spec_l1Has.calls {w0 ws : World} {P0 : Nat → Prop} (A0 : Option Addr) (c0 : Nat) (n0 : Nat) (l0 : List Int) (a1 : Int) (Z : Below w0.heap.size w0 ws) (hF : Fr w0 ws P0 [] ws) (R0 : Stable ws P0 (fun w => Kd.C (Kd.int .i64) w A0 n0 l0)) (hc0 : n0 ≤ c0) (r_1 : Bool) (h : spec_l1Has.f l0 a1 = some r_1) :
    Calls Tryz.prog 72 #[.slice A0 n0 c0, .int .i64 a1] ws (Post1 w0 ws P0 (fun (_ : Unit) => .bool r_1) (fun (_ : Unit) => [])) := by
  unfold spec_l1Has.f at h
  obtain rfl := (R0 ws (KeptB.refl _ _)).1
  refine enter Tryz.func72 rfl Tryz.ntmps72 rfl hF ?_
  refine c_seq ?_
  refine za0 ?_
  refine o_q rfl rfl (q_asg rfl) ?_
  refine o_end ?_
  refine za1 ?_
  refine c_seq ?_
  refine c_seq ?_
  refine za0 ?_
  refine o_q rfl rfl (za2 rfl) ?_
  refine o_q rfl rfl (q_len Tryz.underlying25 rfl) ?_
  refine o_q rfl rfl (za2 rfl) ?_
  refine o_end ?_
  refine za1 ?_
  refine zal ?_
  refine za6 h (fun o9 hl8 hR7 => ?_) rfl
  clear h
  refine c_fact (p := l0.length ≤ 9223372036854775807) (fun w h => (R0.now Z h).2.1) (fun hm6 => ?_)
  refine zb1 (σ := (List Int) × Int) (fun k4 ((ys3, i1) : (List Int) × Int) => Rg l0 i1 ys3 ∧ ys3.length = k4 ∧ spec_l1Has.l0 a1 ys3 i1 = some o9) [4, 6, 9, 10, 11, 12, 13, 14, 15, 16] (fun ((ys3, i1) : (List Int) × Int) => [(9, .int .i64 i1)]) (fun ((ys3, i1) : (List Int) × Int) => []) l0.length (l0, 0) ⟨Rg.start _, rfl, hl8⟩ ⟨rfl, trivial⟩ (fun w h => h) ?_
  refine fun k4 => cur2 (listC (fun i1 U10 hJ_ => ?_) (fun y2 ys3 i1 U10 hJ_ => ?_))
  · skip
    clear hl8
    have hr5 := hJ_.1; have hk11 := hJ_.2.1; have h := hJ_.2.2; clear hJ_
    replace h : spec_l1Has.l0 a1 [] i1 = some o9 := h
    rw [spec_l1Has.l0] at h
    refine c_seq ?_
    refine za0 ?_
    refine o_q rfl rfl (q_lss rfl rfl) ?_
    refine o_end ?_
    refine za1 ?_
    refine c_seq ?_
    refine c_false (congrArg Value.bool hr5.ge) ?_
    refine c_exit ?_
    refine zaa ?_
    refine zaa ?_
    have e_ := Option.some.inj h; replace h := hR7; rw [← e_] at h; clear e_
    refine x_hit ?_
    refine za1 ?_
    refine c_seq ?_
    refine za0 ?_
    refine o_q rfl rfl (q_asg rfl) ?_
    refine o_end ?_
    refine za1 ?_
    refine c_ret ?_
    have e0_ := Option.some.inj h; clear h
    subst e0_
    exact x_r1 () Tryz.results72 (zaf rfl) rfl (fun w h => za7 [] (by decide) rfl w h)
  · skip
    clear hl8
    have hr5 := hJ_.1; have hk11 := hJ_.2.1; have h := hJ_.2.2; clear hJ_
    replace h : spec_l1Has.l0 a1 (y2 :: ys3) i1 = some o9 := h
    rw [spec_l1Has.l0] at h
    refine c_seq ?_
    refine za0 ?_
    refine o_q rfl rfl (q_lss rfl rfl) ?_
    refine o_end ?_
    refine za1 ?_
    refine c_seq ?_
    refine c_true (congrArg Value.bool hr5.lt) ?_
    refine zak ?_
    refine za1 ?_
    refine c_seq ?_
    refine zal ?_
    refine c_seq ?_
    refine za0 ?_
    refine zb2 (p := Sh A0 l0.length l0.length) (fun w h => f_sh (dk := (Kd.int .i64)) h (fun w h => R0.now Z h)) (fun hq12 => ?_)
    refine o_q rfl rfl (q_ix Tryz.underlying25 Z3 rfl rfl hq12 hr5.get) ?_
    refine o_q rfl rfl (q_lde (off := 0) Y3 rfl rfl (fun w h => R0.now Z h) hr5.get (fun _ _ h => h) rfl) ?_
    refine o_q rfl rfl (q_asg rfl) ?_
    refine o_end ?_
    refine za1 ?_
    refine c_seq ?_
    refine za0 ?_
    refine o_q rfl rfl (za2 rfl) ?_
    refine o_q rfl rfl (za2 rfl) ?_
    refine o_q rfl rfl (q_eql rfl rfl) ?_
    refine o_end ?_
    refine za1 ?_
    refine zaq _ rfl (fun hb13 => ?_) (fun hb13 => ?_)
    · skip
      replace h := br_t hb13 h
      refine c_seq ?_
      refine za0 ?_
      refine o_q rfl rfl (q_asg rfl) ?_
      refine o_end ?_
      refine za1 ?_
      refine c_ret ?_
      refine zah ?_
      refine za5 ?_
      refine za5 ?_
      have e_ := Option.some.inj h; replace h := hR7; rw [← e_] at h; clear e_
      refine zah ?_
      refine za5 ?_
      have e0_ := Option.some.inj h; clear h
      subst e0_
      exact x_r1 () Tryz.results72 (zaf rfl) rfl (fun w h => za7 [] (by decide) rfl w h)
    · skip
      replace h := br_f hb13 h
      refine zak ?_
      refine zaw ?_
      refine za1 ?_
      refine za0 ?_
      refine o_q rfl rfl (q_up rfl rfl (hr5.up hm6)) ?_
      refine o_q rfl rfl (za2 rfl) ?_
      refine o_end ?_
      refine zao ys3.length (ys3, i1 + 1) (by rw [← hk11]; exact Nat.lt_succ_self _) ⟨hr5.step, rfl, h⟩ ⟨rfl, trivial⟩ (fun w h => za7 [] (by decide) rfl w h) ?_
      repeat (first | exact zac _ _ | refine zai rfl ?_ | refine zad rfl ?_ | refine zaj rfl ?_)

/-! ### loop.example/g01098/spec.l1All: function 71 -/
def spec_l1All.l0 (a1 : Int) (a2 : Int) : (List Int) → Int → Option ((Bool) ⊕ (Unit))
  | [], i1 => some (.inr ())
  | y2 :: ys3, i1 => (spec_l1In.f y2 a1 a2).bind fun b14 => if b14 = true then (spec_l1All.l0 a1 a2 ys3 (i1 + 1)) else (some (.inl false))
def spec_l1All.f (l0 : List Int) (a1 : Int) (a2 : Int) : Option Bool := (spec_l1All.l0 a1 a2 l0 0).bind fun o_ => match o_ with | .inl r_ => some r_ | .inr _ => some true
set_option maxHeartbeats 600000 in
set_option maxRecDepth 100000 in
theorem spec_l1All.calls {w0 ws : World} {P0 : Nat → Prop} (A0 : Option Addr) (c0 : Nat) (n0 : Nat) (l0 : List Int) (a1 : Int) (a2 : Int) (Z : Below w0.heap.size w0 ws) (hF : Fr w0 ws P0 [] ws) (R0 : Stable ws P0 (fun w => Kd.C (Kd.int .i64) w A0 n0 l0)) (hc0 : n0 ≤ c0) (r_1 : Bool) (h : spec_l1All.f l0 a1 a2 = some r_1) :
    Calls Tryz.prog 71 #[.slice A0 n0 c0, .int .i64 a1, .int .i64 a2] ws (Post1 w0 ws P0 (fun (_ : Unit) => .bool r_1) (fun (_ : Unit) => [])) := by
  unfold spec_l1All.f at h
  obtain rfl := (R0 ws (KeptB.refl _ _)).1
  refine enter Tryz.func71 rfl Tryz.ntmps71 rfl hF ?_
  refine c_seq ?_
  refine za0 ?_
  refine o_q rfl rfl (q_asg rfl) ?_
  refine o_end ?_
  refine za1 ?_
  refine c_seq ?_
  refine c_seq ?_
  refine za0 ?_
  refine o_q rfl rfl (za2 rfl) ?_
  refine o_q rfl rfl (q_len Tryz.underlying25 rfl) ?_
  refine o_q rfl rfl (za2 rfl) ?_
  refine o_end ?_
  refine za1 ?_
  refine zal ?_
  refine za6 h (fun o9 hl8 hR7 => ?_) rfl
  clear h
  refine c_fact (p := l0.length ≤ 9223372036854775807) (fun w h => (R0.now Z h).2.1) (fun hm6 => ?_)
  refine zb1 (σ := (List Int) × Int) (fun k4 ((ys3, i1) : (List Int) × Int) => Rg l0 i1 ys3 ∧ ys3.length = k4 ∧ spec_l1All.l0 a1 a2 ys3 i1 = some o9) [6, 8, 11, 12, 13, 14, 15, 16, 17, 18, 19, 20] (fun ((ys3, i1) : (List Int) × Int) => [(11, .int .i64 i1)]) (fun ((ys3, i1) : (List Int) × Int) => []) l0.length (l0, 0) ⟨Rg.start _, rfl, hl8⟩ ⟨rfl, trivial⟩ (fun w h => h) ?_
  refine fun k4 => cur2 (listC (fun i1 U10 hJ_ => ?_) (fun y2 ys3 i1 U10 hJ_ => ?_))
  · skip
    clear hl8
    have hr5 := hJ_.1; have hk11 := hJ_.2.1; have h := hJ_.2.2; clear hJ_
    replace h : spec_l1All.l0 a1 a2 [] i1 = some o9 := h
    rw [spec_l1All.l0] at h
    refine c_seq ?_
    refine za0 ?_
    refine o_q rfl rfl (q_lss rfl rfl) ?_
    refine o_end ?_
    refine za1 ?_
    refine c_seq ?_
    refine c_false (congrArg Value.bool hr5.ge) ?_
    refine c_exit ?_
    refine zaa ?_
    refine zaa ?_
    have e_ := Option.some.inj h; replace h := hR7; rw [← e_] at h; clear e_
    refine x_hit ?_
    refine za1 ?_
    refine c_seq ?_
    refine za0 ?_
    refine o_q rfl rfl (q_asg rfl) ?_
    refine o_end ?_
    refine za1 ?_
    refine c_ret ?_
    have e0_ := Option.some.inj h; clear h
    subst e0_
    exact x_r1 () Tryz.results71 (zaf rfl) rfl (fun w h => za7 [] (by decide) rfl w h)
  · skip
    clear hl8
    have hr5 := hJ_.1; have hk11 := hJ_.2.1; have h := hJ_.2.2; clear hJ_
    replace h : spec_l1All.l0 a1 a2 (y2 :: ys3) i1 = some o9 := h
    rw [spec_l1All.l0] at h
    refine c_seq ?_
    refine za0 ?_
    refine o_q rfl rfl (q_lss rfl rfl) ?_
    refine o_end ?_
    refine za1 ?_
    refine c_seq ?_
    refine c_true (congrArg Value.bool hr5.lt) ?_
    refine zak ?_
    refine za1 ?_
    refine c_seq ?_
    refine zal ?_
    refine c_seq ?_
    refine za0 ?_
    refine zb2 (p := Sh A0 l0.length l0.length) (fun w h => f_sh (dk := (Kd.int .i64)) h (fun w h => R0.now Z h)) (fun hq12 => ?_)
    refine o_q rfl rfl (q_ix Tryz.underlying25 Z3 rfl rfl hq12 hr5.get) ?_
    refine o_q rfl rfl (q_lde (off := 0) Y3 rfl rfl (fun w h => R0.now Z h) hr5.get (fun _ _ h => h) rfl) ?_
    refine o_q rfl rfl (q_asg rfl) ?_
    refine o_end ?_
    refine za1 ?_
    refine c_seq ?_
    refine za0 ?_
    refine o_q rfl rfl (za2 rfl) ?_
    refine o_q rfl rfl (za2 rfl) ?_
    refine o_q rfl rfl (za2 rfl) ?_
    refine za6 h (fun b14 hx13 h => ?_) rfl
    refine o_e rfl (za9 0 Z Tryz.func84 N84 rfl rfl rfl (fun w P1 hF hB hS hT => spec_l1In.calls y2 a1 a2 hB hF _ hx13)) (fun _ => ?_)
    refine o_q rfl rfl (q_not rfl) ?_
    refine o_end ?_
    refine za1 ?_
    refine zaq _ rfl (fun hb15 => ?_) (fun hb15 => ?_)
    · replace hb15 := nt_t hb15
      replace h := bb_f hb15 h
      refine c_seq ?_
      refine za0 ?_
      refine o_q rfl rfl (q_asg rfl) ?_
      refine o_end ?_
      refine za1 ?_
      refine c_ret ?_
      refine zah ?_
      refine za5 ?_
      refine za5 ?_
      have e_ := Option.some.inj h; replace h := hR7; rw [← e_] at h; clear e_
      refine zah ?_
      refine za5 ?_
      have e0_ := Option.some.inj h; clear h
      subst e0_
      exact x_r1 () Tryz.results71 (zaf rfl) rfl (fun w h => za7 [] (by decide) rfl w h)
    · replace hb15 := nt_f hb15
      replace h := bb_t hb15 h
      refine zak ?_
      refine zaw ?_
      refine za1 ?_
      refine za0 ?_
      refine o_q rfl rfl (q_up rfl rfl (hr5.up hm6)) ?_
      refine o_q rfl rfl (za2 rfl) ?_
      refine o_end ?_
      refine zao ys3.length (ys3, i1 + 1) (by rw [← hk11]; exact Nat.lt_succ_self _) ⟨hr5.step, rfl, h⟩ ⟨rfl, trivial⟩ (fun w h => za7 [] (by decide) rfl w h) ?_
      repeat (first | exact zac _ _ | refine zai rfl ?_ | refine zad rfl ?_ | refine zaj rfl ?_)

/-! ### loop.example/g01098/spec.reShape: function 123 -/
def spec_reShape.l1 (a0_0 : Int) : (List SRegOp) → Int → Option ((Bool) ⊕ (Unit))
  | [], i22 => some (.inr ())
  | y23 :: ys24, i22 => (spec_l1All.f ([y23.f0, y23.f1, y23.f2] : List Int) 0 (w64 (a0_0 - 1))).bind fun b45 => if b45 = true then (spec_reShape.l1 a0_0 ys24 (i22 + 1)) else (some (.inl false))
def spec_reShape.l0 (l0_1 : List Int) : (List Int) → Int → Option ((Bool) ⊕ (Unit))
  | [], i11 => some (.inr ())
  | y12 :: ys13, i11 => (ct l0_1 (0 : Int) i11).bind fun l48 => (spec_l1Has.f l48 y12).bind fun b51 => if b51 = true then (some (.inl false)) else (spec_reShape.l0 l0_1 ys13 (i11 + 1))
def spec_reShape.f (a0_0 : Int) (l0_1 : List Int) (l0_2 : List SRegOp) (l0_3 : List Int) : Option Bool := (spec_l1In.f a0_0 1 46).bind fun b4 => if b4 = true then ((spec_l1In.f (l0_1.length : Int) 1 6).bind fun b7 => if b7 = true then (if 40 < (l0_2.length : Int) then (some false) else (if 6 < (l0_3.length : Int) then (some false) else ((spec_reShape.l0 l0_1 l0_1 0).bind fun o_ => match o_ with | .inl r_ => some r_ | .inr _ => (spec_reShape.l1 a0_0 l0_2 0).bind fun o_ => match o_ with | .inl r_ => some r_ | .inr _ => (spec_l1All.f l0_1 0 (w64 (a0_0 - 1))).bind fun b34 => if b34 = true then ((spec_l1All.f l0_3 0 (w64 (a0_0 - 1))).bind fun b37 => some b37) else (some false)))) else (some false)) else (some false)
set_option maxHeartbeats 600000 in
set_option maxRecDepth 100000 in
theorem spec_reShape.calls {w0 ws : World} {P0 : Nat → Prop} (a0_0 : Int) (A0_1 : Option Addr) (c0_1 : Nat) (n0_1 : Nat) (l0_1 : List Int) (A0_2 : Option Addr) (c0_2 : Nat) (n0_2 : Nat) (l0_2 : List SRegOp) (A0_3 : Option Addr) (c0_3 : Nat) (n0_3 : Nat) (l0_3 : List Int) (Z : Below w0.heap.size w0 ws) (hF : Fr w0 ws P0 [] ws) (R0_1 : Stable ws P0 (fun w => Kd.C (Kd.int .i64) w A0_1 n0_1 l0_1)) (hc0_1 : n0_1 ≤ c0_1) (R0_2 : Stable ws P0 (fun w => Kd.C zax w A0_2 n0_2 l0_2)) (hc0_2 : n0_2 ≤ c0_2) (R0_3 : Stable ws P0 (fun w => Kd.C (Kd.int .i64) w A0_3 n0_3 l0_3)) (hc0_3 : n0_3 ≤ c0_3) (r_1 : Bool) (h : spec_reShape.f a0_0 l0_1 l0_2 l0_3 = some r_1) :
    Calls Tryz.prog 123 #[.agg #[.int .i64 a0_0, .slice A0_1 n0_1 c0_1, .slice A0_2 n0_2 c0_2, .slice A0_3 n0_3 c0_3]] ws (Post1 w0 ws P0 (fun (_ : Unit) => .bool r_1) (fun (_ : Unit) => [])) := by
  unfold spec_reShape.f at h
  obtain rfl := (R0_1 ws (KeptB.refl _ _)).1
  obtain rfl := (R0_2 ws (KeptB.refl _ _)).1
  obtain rfl := (R0_3 ws (KeptB.refl _ _)).1
  refine enter Tryz.func123 rfl Tryz.ntmps123 rfl hF ?_
  refine c_seq ?_
  refine za0 ?_
  refine o_e rfl (e_box rfl) (fun g1 => ?_)
  refine o_q rfl rfl (q_asg rfl) ?_
  refine o_end ?_
  refine za1 ?_
  refine c_seq ?_
  refine c_seq ?_
  refine za0 ?_
  refine o_q rfl rfl (q_f F38_0 rfl) ?_
  refine o_q rfl rfl (q_ldb Y3 rfl (fun w h => h.zae (i := 0) rfl) rfl) ?_
  refine za6 h (fun b4 hx3 h => ?_) rfl
  refine o_e rfl (za9 0 Z Tryz.func84 N84 rfl rfl rfl (fun w P1 hF hB hS hT => spec_l1In.calls a0_0 1 46 hB hF _ hx3)) (fun _ => ?_)
  refine o_q rfl rfl (q_not rfl) ?_
  refine o_q rfl rfl (za2 rfl) ?_
  refine byB b4 (fun hb5 => ?_) (fun hb5 => ?_)
  · replace h := bb_t hb5 h
    refine o_w (za4 rfl rfl rfl (congrArg (fun b => Value.bool (!(b))) hb5)) rfl (q_f F38_1 rfl) ?_
    refine o_w (za4 rfl rfl rfl (congrArg (fun b => Value.bool (!(b))) hb5)) rfl (q_ldb Y25 rfl (fun w h => h.zae (i := 0) rfl) rfl) ?_
    refine o_w (za4 rfl rfl rfl (congrArg (fun b => Value.bool (!(b))) hb5)) rfl (q_len Tryz.underlying25 rfl) ?_
    refine za6 h (fun b7 hx6 h => ?_) rfl
    refine o_ew (za4 rfl rfl rfl (congrArg (fun b => Value.bool (!(b))) hb5)) (za9 0 Z Tryz.func84 N84 rfl rfl rfl (fun w P1 hF hB hS hT => spec_l1In.calls (l0_1.length : Int) 1 6 hB hF _ hx6)) (fun _ => ?_)
    refine o_w (za4 rfl rfl rfl (congrArg (fun b => Value.bool (!(b))) hb5)) rfl (q_not rfl) ?_
    refine o_q rfl rfl (zas false (congrArg (fun b => Value.bool (!(b))) hb5) rfl) ?_
    refine o_q rfl rfl (za2 rfl) ?_
    refine byB b7 (fun hb8 => ?_) (fun hb8 => ?_)
    · replace h := bb_t hb8 h
      refine o_w (za4 rfl rfl rfl (congrArg (fun b => Value.bool (!(b))) hb8)) rfl (q_f F38_2 rfl) ?_
      refine o_w (za4 rfl rfl rfl (congrArg (fun b => Value.bool (!(b))) hb8)) rfl (q_ldb Y36 rfl (fun w h => h.zae (i := 0) rfl) rfl) ?_
      refine o_w (za4 rfl rfl rfl (congrArg (fun b => Value.bool (!(b))) hb8)) rfl (q_len Tryz.underlying36 rfl) ?_
      refine o_w (za4 rfl rfl rfl (congrArg (fun b => Value.bool (!(b))) hb8)) rfl (q_gtr rfl rfl) ?_
      refine o_q rfl rfl (zas false (congrArg (fun b => Value.bool (!(b))) hb8) rfl) ?_
      refine o_q rfl rfl (za2 rfl) ?_
      refine byB (decide (40 < (l0_2.length : Int))) (fun hb9 => ?_) (fun hb9 => ?_)
      · replace h := br_t hb9 h
        refine @o_n _ _ _ _ _ _ _ _ _ _ _ 25 (za3 rfl rfl rfl (congrArg Value.bool hb9) rfl) (Eq.refl (some 25)) ?_
        refine @o_n _ _ _ _ _ _ _ _ _ _ _ 26 (za3 rfl rfl rfl (congrArg Value.bool hb9) rfl) (Eq.refl (some 26)) ?_
        refine @o_n _ _ _ _ _ _ _ _ _ _ _ 27 (za3 rfl rfl rfl (congrArg Value.bool hb9) rfl) (Eq.refl (some 27)) ?_
        refine @o_n _ _ _ _ _ _ _ _ _ _ _ 28 (za3 rfl rfl rfl (congrArg Value.bool hb9) rfl) (Eq.refl (some 28)) ?_
        refine o_q rfl rfl (zas true (congrArg Value.bool hb9) rfl) ?_
        refine o_end ?_
        refine za1 ?_
        refine c_true rfl ?_
        refine c_seq ?_
        refine za0 ?_
        refine o_q rfl rfl (q_asg rfl) ?_
        refine o_end ?_
        refine za1 ?_
        refine c_ret ?_
        refine za5 ?_
        have e0_ := Option.some.inj h; clear h
        subst e0_
        exact x_r1 () Tryz.results123 (zaf rfl) rfl (fun w h => za7 [] (by decide) rfl w h)
      · replace h := br_f hb9 h
        refine o_w (za4 rfl rfl rfl (congrArg Value.bool hb9)) rfl (q_f F38_3 rfl) ?_
        refine o_w (za4 rfl rfl rfl (congrArg Value.bool hb9)) rfl (q_ldb Y25 rfl (fun w h => h.zae (i := 0) rfl) rfl) ?_
        refine o_w (za4 rfl rfl rfl (congrArg Value.bool hb9)) rfl (q_len Tryz.underlying25 rfl) ?_
        refine o_w (za4 rfl rfl rfl (congrArg Value.bool hb9)) rfl (q_gtr rfl rfl) ?_
        refine o_q rfl rfl (zas false (congrArg Value.bool hb9) rfl) ?_
        refine o_end ?_
        refine za1 ?_
        refine zaq _ rfl (fun hb10 => ?_) (fun hb10 => ?_)
        · skip
          replace h := br_t hb10 h
          refine c_seq ?_
          refine za0 ?_
          refine o_q rfl rfl (q_asg rfl) ?_
          refine o_end ?_
          refine za1 ?_
          refine c_ret ?_
          refine za5 ?_
          have e0_ := Option.some.inj h; clear h
          subst e0_
          exact x_r1 () Tryz.results123 (zaf rfl) rfl (fun w h => za7 [] (by decide) rfl w h)
        · skip
          replace h := br_f hb10 h
          refine zak ?_
          refine za1 ?_
          refine c_seq ?_
          refine c_seq ?_
          refine za0 ?_
          refine o_q rfl rfl (q_f F38_1 rfl) ?_
          refine o_q rfl rfl (q_ldb Y25 rfl (fun w h => h.zae (i := 0) rfl) rfl) ?_
          refine o_q rfl rfl (q_len Tryz.underlying25 rfl) ?_
          refine o_q rfl rfl (za2 rfl) ?_
          refine o_end ?_
          refine za1 ?_
          refine zal ?_
          refine za6 h (fun o19 hl18 hR17 => ?_) rfl
          clear h
          refine c_fact (p := l0_1.length ≤ 9223372036854775807) (fun w h => (R0_1.now Z h).2.1) (fun hm16 => ?_)
          refine zb1 (σ := (List Int) × Int) (fun k14 ((ys13, i11) : (List Int) × Int) => Rg l0_1 i11 ys13 ∧ ys13.length = k14 ∧ spec_reShape.l0 l0_1 ys13 i11 = some o19) [2, 3, 4, 33, 34, 35, 36, 37, 38, 39, 40, 41, 42, 43, 44] (fun ((ys13, i11) : (List Int) × Int) => [(33, .int .i64 i11)]) (fun ((ys13, i11) : (List Int) × Int) => [box g1 38 #[.int .i64 a0_0, .slice A0_1 l0_1.length c0_1, .slice A0_2 l0_2.length c0_2, .slice A0_3 l0_3.length c0_3]]) l0_1.length (l0_1, 0) ⟨Rg.start _, rfl, hl18⟩ ⟨rfl, trivial⟩ (fun w h => h) ?_
          refine fun k14 => cur2 (listC (fun i11 U20 hJ_ => ?_) (fun y12 ys13 i11 U20 hJ_ => ?_))
          · skip
            clear hl18
            have hr15 := hJ_.1; have hk21 := hJ_.2.1; have h := hJ_.2.2; clear hJ_
            replace h : spec_reShape.l0 l0_1 [] i11 = some o19 := h
            rw [spec_reShape.l0] at h
            refine c_seq ?_
            refine za0 ?_
            refine o_q rfl rfl (q_lss rfl rfl) ?_
            refine o_end ?_
            refine za1 ?_
            refine c_seq ?_
            refine c_false (congrArg Value.bool hr15.ge) ?_
            refine c_exit ?_
            refine zaa ?_
            refine zaa ?_
            have e_ := Option.some.inj h; replace h := hR17; rw [← e_] at h; clear e_
            refine x_hit ?_
            refine za1 ?_
            refine c_seq ?_
            refine c_seq ?_
            refine za0 ?_
            refine o_q rfl rfl (q_f F38_2 rfl) ?_
            refine o_q rfl rfl (q_ldb Y36 rfl (fun w h => h.zae (i := 0) rfl) rfl) ?_
            refine o_q rfl rfl (q_len Tryz.underlying36 rfl) ?_
            refine o_q rfl rfl (za2 rfl) ?_
            refine o_end ?_
            refine za1 ?_
            refine zal ?_
            refine za6 h (fun o30 hl29 hR28 => ?_) rfl
            clear h
            refine c_fact (p := l0_2.length ≤ 9223372036854775807) (fun w h => (R0_2.now Z h).2.1) (fun hm27 => ?_)
            refine zb1 (σ := (List SRegOp) × Int) (fun k25 ((ys24, i22) : (List SRegOp) × Int) => Rg l0_2 i22 ys24 ∧ ys24.length = k25 ∧ spec_reShape.l1 a0_0 ys24 i22 = some o30) [2, 6, 48, 49, 50, 51, 52, 53, 54, 55, 56, 57, 58, 59, 60, 61, 62, 63, 64] (fun ((ys24, i22) : (List SRegOp) × Int) => [(48, .int .i64 i22)]) (fun ((ys24, i22) : (List SRegOp) × Int) => [box g1 38 #[.int .i64 a0_0, .slice A0_1 l0_1.length c0_1, .slice A0_2 l0_2.length c0_2, .slice A0_3 l0_3.length c0_3]]) l0_2.length (l0_2, 0) ⟨Rg.start _, rfl, hl29⟩ ⟨rfl, trivial⟩ (fun w h => h) ?_
            refine fun k25 => cur2 (listC (fun i22 U31 hJ_ => ?_) (fun y23 ys24 i22 U31 hJ_ => ?_))
            · skip
              clear hl29
              have hr26 := hJ_.1; have hk32 := hJ_.2.1; have h := hJ_.2.2; clear hJ_
              replace h : spec_reShape.l1 a0_0 [] i22 = some o30 := h
              rw [spec_reShape.l1] at h
              refine c_seq ?_
              refine za0 ?_
              refine o_q rfl rfl (q_lss rfl rfl) ?_
              refine o_end ?_
              refine za1 ?_
              refine c_seq ?_
              refine c_false (congrArg Value.bool hr26.ge) ?_
              refine c_exit ?_
              refine zaa ?_
              refine zaa ?_
              have e_ := Option.some.inj h; replace h := hR28; rw [← e_] at h; clear e_
              refine x_hit ?_
              refine za1 ?_
              refine c_seq ?_
              refine za0 ?_
              refine o_q rfl rfl (q_f F38_1 rfl) ?_
              refine o_q rfl rfl (q_ldb Y25 rfl (fun w h => h.zae (i := 0) rfl) rfl) ?_
              refine o_q rfl rfl (q_f F38_0 rfl) ?_
              refine o_q rfl rfl (q_ldb Y3 rfl (fun w h => h.zae (i := 0) rfl) rfl) ?_
              refine o_q rfl rfl (q_sub64 rfl rfl) ?_
              refine za6 h (fun b34 hx33 h => ?_) rfl
              refine o_e rfl (za9 0 Z Tryz.func71 N71 rfl rfl rfl (fun w P1 hF hB hS hT => spec_l1All.calls A0_1 c0_1 l0_1.length l0_1 0 (w64 (a0_0 - 1)) hB hF (hS _ R0_1) hc0_1 _ hx33)) (fun _ => ?_)
              refine o_q rfl rfl (za2 rfl) ?_
              refine byB b34 (fun hb35 => ?_) (fun hb35 => ?_)
              · replace h := bb_t hb35 h
                refine o_w (za4 rfl rfl rfl (congrArg Value.bool hb35)) rfl (q_f F38_3 rfl) ?_
                refine o_w (za4 rfl rfl rfl (congrArg Value.bool hb35)) rfl (q_ldb Y25 rfl (fun w h => h.zae (i := 0) rfl) rfl) ?_
                refine o_w (za4 rfl rfl rfl (congrArg Value.bool hb35)) rfl (q_f F38_0 rfl) ?_
                refine o_w (za4 rfl rfl rfl (congrArg Value.bool hb35)) rfl (q_ldb Y3 rfl (fun w h => h.zae (i := 0) rfl) rfl) ?_
                refine o_w (za4 rfl rfl rfl (congrArg Value.bool hb35)) rfl (q_sub64 rfl rfl) ?_
                refine za6 h (fun b37 hx36 h => ?_) rfl
                refine o_ew (za4 rfl rfl rfl (congrArg Value.bool hb35)) (za9 0 Z Tryz.func71 N71 rfl rfl rfl (fun w P1 hF hB hS hT => spec_l1All.calls A0_3 c0_3 l0_3.length l0_3 0 (w64 (a0_0 - 1)) hB hF (hS _ R0_3) hc0_3 _ hx36)) (fun _ => ?_)
                refine o_q rfl rfl (zas true (congrArg Value.bool hb35) rfl) ?_
                refine o_q rfl rfl (q_asg rfl) ?_
                refine o_end ?_
                refine za1 ?_
                refine c_ret ?_
                have e0_ := Option.some.inj h; clear h
                subst e0_
                exact x_r1 () Tryz.results123 (zaf rfl) rfl (fun w h => za7 [] (by decide) rfl w h)
              · replace h := bb_f hb35 h
                refine @o_n _ _ _ _ _ _ _ _ _ _ _ 72 (za3 rfl rfl rfl (congrArg Value.bool hb35) rfl) (Eq.refl (some 72)) ?_
                refine @o_n _ _ _ _ _ _ _ _ _ _ _ 73 (za3 rfl rfl rfl (congrArg Value.bool hb35) rfl) (Eq.refl (some 73)) ?_
                refine @o_n _ _ _ _ _ _ _ _ _ _ _ 74 (za3 rfl rfl rfl (congrArg Value.bool hb35) rfl) (Eq.refl (some 74)) ?_
                refine @o_n _ _ _ _ _ _ _ _ _ _ _ 75 (za3 rfl rfl rfl (congrArg Value.bool hb35) rfl) (Eq.refl (some 75)) ?_
                refine @o_n _ _ _ _ _ _ _ _ _ _ _ 76 (za3 rfl rfl rfl (congrArg Value.bool hb35) rfl) (Eq.refl (some 76)) ?_
                refine @o_n _ _ _ _ _ _ _ _ _ _ _ 77 (za3 rfl rfl rfl (congrArg Value.bool hb35) rfl) (Eq.refl (some 77)) ?_
                refine o_q rfl rfl (zas false (congrArg Value.bool hb35) rfl) ?_
                refine o_q rfl rfl (q_asg rfl) ?_
                refine o_end ?_
                refine za1 ?_
                refine c_ret ?_
                have e0_ := Option.some.inj h; clear h
                subst e0_
                exact x_r1 () Tryz.results123 (zaf rfl) rfl (fun w h => za7 [] (by decide) rfl w h)
            · skip
              clear hl29
              have hr26 := hJ_.1; have hk32 := hJ_.2.1; have h := hJ_.2.2; clear hJ_
              replace h : spec_reShape.l1 a0_0 (y23 :: ys24) i22 = some o30 := h
              rw [spec_reShape.l1] at h
              refine c_seq ?_
              refine za0 ?_
              refine o_q rfl rfl (q_lss rfl rfl) ?_
              refine o_end ?_
              refine za1 ?_
              refine c_seq ?_
              refine c_true (congrArg Value.bool hr26.lt) ?_
              refine zak ?_
              refine za1 ?_
              refine c_seq ?_
              refine zal ?_
              refine c_seq ?_
              refine za0 ?_
              refine zb2 (p := Sh A0_2 l0_2.length l0_2.length) (fun w h => f_sh (dk := zax) h (fun w h => R0_2.now Z h)) (fun hq38 => ?_)
              refine o_q rfl rfl (q_ix Tryz.underlying36 Z84 rfl rfl hq38 hr26.get) ?_
              refine o_q rfl rfl (q_ldE G84 Z84 rfl rfl (fun w h => R0_2.now Z h) hr26.get (fun _ _ h => h) rfl) ?_
              refine o_e rfl (zau V84 rfl) (fun g39 => ?_)
              refine o_e rfl (zam (i := 0) rfl rfl rfl Z84 rfl rfl) (fun _ => ?_)
              refine o_end ?_
              refine za1 ?_
              refine c_seq ?_
              refine za0 ?_
              refine o_q rfl rfl (q_f F84_0 rfl) ?_
              refine o_q rfl rfl (q_ldb Y3 rfl (fun w h => h.zae (i := 0) rfl) rfl) ?_
              refine o_q rfl rfl (q_f F84_1 rfl) ?_
              refine o_q rfl rfl (q_ldb Y3 rfl (fun w h => h.zae (i := 0) rfl) rfl) ?_
              refine o_q rfl rfl (q_f F84_2 rfl) ?_
              refine o_q rfl rfl (q_ldb Y3 rfl (fun w h => h.zae (i := 0) rfl) rfl) ?_
              refine o_e rfl (e_lit (vs := [(0, .int .i64 y23.f0), (1, .int .i64 y23.f1), (2, .int .i64 y23.f2)]) (cs := [.int .i64 y23.f0, .int .i64 y23.f1, .int .i64 y23.f2]) (Kd.int .i64) ([y23.f0, y23.f1, y23.f2] : List Int) Tryz.underlying25 I3 (by decide) rfl (by decide) rfl rfl (fun _ _ => Kd.zav _)) (cur2 (fun A41 c42 => ?_))
              refine o_q rfl rfl (q_f F38_0 rfl) ?_
              refine o_q rfl rfl (q_ldb Y3 rfl (fun w h => h.zae (i := 2) rfl) rfl) ?_
              refine o_q rfl rfl (q_sub64 rfl rfl) ?_
              refine za6 h (fun b45 hx44 h => ?_) rfl
              refine o_e rfl (za9 0 Z Tryz.func71 N71 rfl rfl rfl (fun w P1 hF hB hS hT => spec_l1All.calls A41 c42 (([y23.f0, y23.f1, y23.f2] : List Int).length) ([y23.f0, y23.f1, y23.f2] : List Int) 0 (w64 (a0_0 - 1)) hB hF (hT 0 _ rfl).row (hT 0 _ rfl).cap _ hx44)) (fun _ => ?_)
              refine o_q rfl rfl (q_not rfl) ?_
              refine o_end ?_
              refine za1 ?_
              refine zaq _ rfl (fun hb46 => ?_) (fun hb46 => ?_)
              · replace hb46 := nt_t hb46
                replace h := bb_f hb46 h
                refine c_seq ?_
                refine za0 ?_
                refine o_q rfl rfl (q_asg rfl) ?_
                refine o_end ?_
                refine za1 ?_
                refine c_ret ?_
                refine zah ?_
                refine za5 ?_
                refine za5 ?_
                have e_ := Option.some.inj h; replace h := hR28; rw [← e_] at h; clear e_
                refine zah ?_
                refine za5 ?_
                have e0_ := Option.some.inj h; clear h
                subst e0_
                exact x_r1 () Tryz.results123 (zaf rfl) rfl (fun w h => za7 [] (by decide) rfl w h)
              · replace hb46 := nt_f hb46
                replace h := bb_t hb46 h
                refine zak ?_
                refine zaw ?_
                refine za1 ?_
                refine za0 ?_
                refine o_q rfl rfl (q_up rfl rfl (hr26.up hm27)) ?_
                refine o_q rfl rfl (za2 rfl) ?_
                refine o_end ?_
                refine zao ys24.length (ys24, i22 + 1) (by rw [← hk32]; exact Nat.lt_succ_self _) ⟨hr26.step, rfl, h⟩ ⟨rfl, trivial⟩ (fun w h => za7 [2] (by decide) rfl w h) ?_
                repeat (first | exact zac _ _ | refine zai rfl ?_ | refine zad rfl ?_ | refine zaj rfl ?_)
          · skip
            clear hl18
            have hr15 := hJ_.1; have hk21 := hJ_.2.1; have h := hJ_.2.2; clear hJ_
            replace h : spec_reShape.l0 l0_1 (y12 :: ys13) i11 = some o19 := h
            rw [spec_reShape.l0] at h
            refine c_seq ?_
            refine za0 ?_
            refine o_q rfl rfl (q_lss rfl rfl) ?_
            refine o_end ?_
            refine za1 ?_
            refine c_seq ?_
            refine c_true (congrArg Value.bool hr15.lt) ?_
            refine zak ?_
            refine za1 ?_
            refine c_seq ?_
            refine zal ?_
            refine c_seq ?_
            refine za0 ?_
            refine o_q rfl rfl (za2 rfl) ?_
            refine zb2 (p := Sh A0_1 l0_1.length l0_1.length) (fun w h => f_sh (dk := (Kd.int .i64)) h (fun w h => R0_1.now Z h)) (fun hq47 => ?_)
            refine o_q rfl rfl (q_ix Tryz.underlying25 Z3 rfl rfl hq47 hr15.get) ?_
            refine o_q rfl rfl (q_lde (off := 0) Y3 rfl rfl (fun w h => R0_1.now Z h) hr15.get (fun _ _ h => h) rfl) ?_
            refine o_q rfl rfl (q_asg rfl) ?_
            refine o_q rfl rfl (q_asg rfl) ?_
            refine o_end ?_
            refine za1 ?_
            refine c_seq ?_
            refine za0 ?_
            refine o_q rfl rfl (q_f F38_1 rfl) ?_
            refine o_q rfl rfl (q_ldb Y25 rfl (fun w h => h.zae (i := 0) rfl) rfl) ?_
            refine o_q rfl rfl (za2 rfl) ?_
            refine za6 h (fun l48 hz49 h => ?_) rfl
            refine o_q rfl rfl (q_ctv Tryz.underlying25 Z3 rfl rfl ⟨_, rfl⟩ rfl hc0_1 hz49) ?_
            refine o_q rfl rfl (za2 rfl) ?_
            refine za6 h (fun b51 hx50 h => ?_) rfl
            refine o_e rfl (za9 0 Z Tryz.func72 N72 rfl rfl rfl (fun w P1 hF hB hS hT => spec_l1Has.calls (cutA A0_1 c0_1 (0 : Int).toNat 1) (c0_1 - (0 : Int).toNat) l48.length l48 y12 hB hF (stab_cut (dk := (Kd.int .i64)) rfl hz49 hc0_1 (hS _ R0_1)) (ct_cap hz49 rfl hc0_1) _ hx50)) (fun _ => ?_)
            refine o_end ?_
            refine za1 ?_
            refine zaq _ rfl (fun hb52 => ?_) (fun hb52 => ?_)
            · skip
              replace h := bb_t hb52 h
              refine c_seq ?_
              refine za0 ?_
              refine o_q rfl rfl (q_asg rfl) ?_
              refine o_end ?_
              refine za1 ?_
              refine c_ret ?_
              refine zah ?_
              refine za5 ?_
              refine za5 ?_
              have e_ := Option.some.inj h; replace h := hR17; rw [← e_] at h; clear e_
              refine zah ?_
              refine za5 ?_
              have e0_ := Option.some.inj h; clear h
              subst e0_
              exact x_r1 () Tryz.results123 (zaf rfl) rfl (fun w h => za7 [] (by decide) rfl w h)
            · skip
              replace h := bb_f hb52 h
              refine zak ?_
              refine zaw ?_
              refine za1 ?_
              refine za0 ?_
              refine o_q rfl rfl (q_up rfl rfl (hr15.up hm16)) ?_
              refine o_q rfl rfl (za2 rfl) ?_
              refine o_end ?_
              refine zao ys13.length (ys13, i11 + 1) (by rw [← hk21]; exact Nat.lt_succ_self _) ⟨hr15.step, rfl, h⟩ ⟨rfl, trivial⟩ (fun w h => za7 [0] (by decide) rfl w h) ?_
              repeat (first | exact zac _ _ | refine zai rfl ?_ | refine zad rfl ?_ | refine zaj rfl ?_)
    · replace h := bb_f hb8 h
      refine @o_n _ _ _ _ _ _ _ _ _ _ _ 19 (za3 rfl rfl rfl (congrArg (fun b => Value.bool (!(b))) hb8) rfl) (Eq.refl (some 19)) ?_
      refine @o_n _ _ _ _ _ _ _ _ _ _ _ 20 (za3 rfl rfl rfl (congrArg (fun b => Value.bool (!(b))) hb8) rfl) (Eq.refl (some 20)) ?_
      refine @o_n _ _ _ _ _ _ _ _ _ _ _ 21 (za3 rfl rfl rfl (congrArg (fun b => Value.bool (!(b))) hb8) rfl) (Eq.refl (some 21)) ?_
      refine @o_n _ _ _ _ _ _ _ _ _ _ _ 22 (za3 rfl rfl rfl (congrArg (fun b => Value.bool (!(b))) hb8) rfl) (Eq.refl (some 22)) ?_
      refine o_q rfl rfl (zas true (congrArg (fun b => Value.bool (!(b))) hb8) rfl) ?_
      refine o_q rfl rfl (za2 rfl) ?_
      refine @o_n _ _ _ _ _ _ _ _ _ _ _ 25 (za3 rfl rfl rfl rfl rfl) (Eq.refl (some 25)) ?_
      refine @o_n _ _ _ _ _ _ _ _ _ _ _ 26 (za3 rfl rfl rfl rfl rfl) (Eq.refl (some 26)) ?_
      refine @o_n _ _ _ _ _ _ _ _ _ _ _ 27 (za3 rfl rfl rfl rfl rfl) (Eq.refl (some 27)) ?_
      refine @o_n _ _ _ _ _ _ _ _ _ _ _ 28 (za3 rfl rfl rfl rfl rfl) (Eq.refl (some 28)) ?_
      refine o_q rfl rfl (zas true rfl rfl) ?_
      refine o_end ?_
      refine za1 ?_
      refine c_true rfl ?_
      refine c_seq ?_
      refine za0 ?_
      refine o_q rfl rfl (q_asg rfl) ?_
      refine o_end ?_
      refine za1 ?_
      refine c_ret ?_
      refine za5 ?_
      have e0_ := Option.some.inj h; clear h
      subst e0_
      exact x_r1 () Tryz.results123 (zaf rfl) rfl (fun w h => za7 [] (by decide) rfl w h)
  · replace h := bb_f hb5 h
    refine @o_n _ _ _ _ _ _ _ _ _ _ _ 12 (za3 rfl rfl rfl (congrArg (fun b => Value.bool (!(b))) hb5) rfl) (Eq.refl (some 12)) ?_
    refine @o_n _ _ _ _ _ _ _ _ _ _ _ 13 (za3 rfl rfl rfl (congrArg (fun b => Value.bool (!(b))) hb5) rfl) (Eq.refl (some 13)) ?_
    refine @o_n _ _ _ _ _ _ _ _ _ _ _ 14 (za3 rfl rfl rfl (congrArg (fun b => Value.bool (!(b))) hb5) rfl) (Eq.refl (some 14)) ?_
    refine @o_n _ _ _ _ _ _ _ _ _ _ _ 15 (za3 rfl rfl rfl (congrArg (fun b => Value.bool (!(b))) hb5) rfl) (Eq.refl (some 15)) ?_
    refine @o_n _ _ _ _ _ _ _ _ _ _ _ 16 (za3 rfl rfl rfl (congrArg (fun b => Value.bool (!(b))) hb5) rfl) (Eq.refl (some 16)) ?_
    refine o_q rfl rfl (zas true (congrArg (fun b => Value.bool (!(b))) hb5) rfl) ?_
    refine o_q rfl rfl (za2 rfl) ?_
    refine @o_n _ _ _ _ _ _ _ _ _ _ _ 19 (za3 rfl rfl rfl rfl rfl) (Eq.refl (some 19)) ?_
    refine @o_n _ _ _ _ _ _ _ _ _ _ _ 20 (za3 rfl rfl rfl rfl rfl) (Eq.refl (some 20)) ?_
    refine @o_n _ _ _ _ _ _ _ _ _ _ _ 21 (za3 rfl rfl rfl rfl rfl) (Eq.refl (some 21)) ?_
    refine @o_n _ _ _ _ _ _ _ _ _ _ _ 22 (za3 rfl rfl rfl rfl rfl) (Eq.refl (some 22)) ?_
    refine o_q rfl rfl (zas true rfl rfl) ?_
    refine o_q rfl rfl (za2 rfl) ?_
    refine @o_n _ _ _ _ _ _ _ _ _ _ _ 25 (za3 rfl rfl rfl rfl rfl) (Eq.refl (some 25)) ?_
    refine @o_n _ _ _ _ _ _ _ _ _ _ _ 26 (za3 rfl rfl rfl rfl rfl) (Eq.refl (some 26)) ?_
    refine @o_n _ _ _ _ _ _ _ _ _ _ _ 27 (za3 rfl rfl rfl rfl rfl) (Eq.refl (some 27)) ?_
    refine @o_n _ _ _ _ _ _ _ _ _ _ _ 28 (za3 rfl rfl rfl rfl rfl) (Eq.refl (some 28)) ?_
    refine o_q rfl rfl (zas true rfl rfl) ?_
    refine o_end ?_
    refine za1 ?_
    refine c_true rfl ?_
    refine c_seq ?_
    refine za0 ?_
    refine o_q rfl rfl (q_asg rfl) ?_
    refine o_end ?_
    refine za1 ?_
    refine c_ret ?_
    refine za5 ?_
    have e0_ := Option.some.inj h; clear h
    subst e0_
    exact x_r1 () Tryz.results123 (zaf rfl) rfl (fun w h => za7 [] (by decide) rfl w h)

end Go.Proofs.YtnnlfipcoahcnaaGreatDoor.G1
