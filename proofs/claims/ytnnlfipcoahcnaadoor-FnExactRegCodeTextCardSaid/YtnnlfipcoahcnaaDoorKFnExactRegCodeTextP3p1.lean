import Derived.Test.YtnnlfipcoahcnaaDoorKFnExactRegCodeTextHand
import Derived.Test.YtnnlfipcoahcnaaDoorKFnExactRegCodeTextOpr
import Derived.Test.YtnnlfipcoahcnaaDoorKFnExactRegCodeTextOps
import Derived.Test.YtnnlfipcoahcnaaDoorKFnExactRegCodeTextTxt
import Derived.Test.YtnnlfipcoahcnaaDoorProg
import Derived.Test.YtnnlfipcoahcnaaDoorKFnExactRegCodeTextWMore
import Derived.KernelRfl
namespace Go.Proofs.YtnnlfipcoahcnaaDoor.P3
open Go.RowKit Go.Proofs.YtnnlfipcoahcnaaDoor.Frame Go.Proofs.YtnnlfipcoahcnaaDoorW.PrintLast Go.Proofs.YtnnlfipcoahcnaaDoor.Hand
open Go.Proofs.YtnnlfipcoahcnaaDoorW.PrintWords hiding mn mx
set_option linter.unusedVariables false
structure SStep where
  f0 : Int
  f1 : Int
def kStep : Kd SStep := flat (fun x => [.int .i64 x.f0, .int .i64 x.f1]) 2 (fun _ => rfl) (fun x u hu => by
  simp only [List.mem_cons, List.not_mem_nil, or_false] at hu
  rcases hu with rfl | rfl <;> rfl)
structure SRegOp where
  f0 : Int
  f1 : Int
  f2 : Int
def kRegOp : Kd SRegOp := flat (fun x => [.int .i64 x.f0, .int .i64 x.f1, .int .i64 x.f2]) 3 (fun _ => rfl) (fun x u hu => by
  simp only [List.mem_cons, List.not_mem_nil, or_false] at hu
  rcases hu with rfl | rfl | rfl <;> rfl)
theorem F31_0 : fldOff Tryd.prog 31 0 = some 0 := by kernel_rfl
theorem F31_1 : fldOff Tryd.prog 31 1 = some 1 := by kernel_rfl
theorem F31_2 : fldOff Tryd.prog 31 2 = some 2 := by kernel_rfl
theorem F37_0 : fldOff Tryd.prog 37 0 = some 0 := by kernel_rfl
theorem F37_1 : fldOff Tryd.prog 37 1 = some 1 := by kernel_rfl
theorem F37_2 : fldOff Tryd.prog 37 2 = some 2 := by kernel_rfl
theorem F37_3 : fldOff Tryd.prog 37 3 = some 3 := by kernel_rfl
theorem F42_0 : fldOff Tryd.prog 42 0 = some 0 := by kernel_rfl
theorem F42_1 : fldOff Tryd.prog 42 1 = some 1 := by kernel_rfl
theorem F42_2 : fldOff Tryd.prog 42 2 = some 2 := by kernel_rfl
theorem F42_3 : fldOff Tryd.prog 42 3 = some 3 := by kernel_rfl
theorem F69_0 : fldOff Tryd.prog 69 0 = some 0 := by kernel_rfl
theorem F69_1 : fldOff Tryd.prog 69 1 = some 1 := by kernel_rfl
theorem F95_0 : fldOff Tryd.prog 95 0 = some 0 := by kernel_rfl
theorem F95_1 : fldOff Tryd.prog 95 1 = some 1 := by kernel_rfl
theorem F95_2 : fldOff Tryd.prog 95 2 = some 2 := by kernel_rfl
theorem F97_0 : fldOff Tryd.prog 97 0 = some 0 := by kernel_rfl
theorem F97_1 : fldOff Tryd.prog 97 1 = some 1 := by kernel_rfl
theorem F97_2 : fldOff Tryd.prog 97 2 = some 2 := by kernel_rfl
theorem G31 : aggTy (Tryd.prog.underlying 31) = true := by kernel_rfl
theorem G37 : aggTy (Tryd.prog.underlying 37) = true := by kernel_rfl
theorem G42 : aggTy (Tryd.prog.underlying 42) = true := by kernel_rfl
theorem G69 : aggTy (Tryd.prog.underlying 69) = true := by kernel_rfl
theorem G95 : aggTy (Tryd.prog.underlying 95) = true := by kernel_rfl
theorem G97 : aggTy (Tryd.prog.underlying 97) = true := by kernel_rfl
theorem I23 : (Tryd.prog.info? 23).map (fun i => (i.zero, i.size, i.bytes)) = some (some (.slice none 0 0), 1, 24) := by kernel_rfl
theorem I3 : (Tryd.prog.info? 3).map (fun i => (i.zero, i.size, i.bytes)) = some (some (.int .i64 0), 1, 8) := by kernel_rfl
theorem I5 : (Tryd.prog.info? 5).map (fun i => (i.zero, i.size, i.bytes)) = some (some (.int .u8 0), 1, 1) := by kernel_rfl
theorem I69 : (Tryd.prog.info? 69).map (fun i => (i.zero, i.size, i.bytes)) = some (some (.agg #[.int .i64 0, .int .i64 0]), 2, 16) := by kernel_rfl
theorem I9 : (Tryd.prog.info? 9).map (fun i => (i.zero, i.size, i.bytes)) = some (some (.string (⟨#[]⟩ : ByteArray)), 1, 16) := by kernel_rfl
theorem I95 : (Tryd.prog.info? 95).map (fun i => (i.zero, i.size, i.bytes)) = some (some (.agg #[.int .i64 0, .int .i64 0, .int .i64 0]), 3, 24) := by kernel_rfl
theorem MO : Tryd.prog.follows .mixedOrders = true := by kernel_rfl
theorem N100 : (Tryd.f100.name == "runtime.NumGoroutine") = false := by kernel_rfl
theorem N101 : (Tryd.f101.name == "runtime.NumGoroutine") = false := by kernel_rfl
theorem N11 : (Tryd.f11.name == "runtime.NumGoroutine") = false := by kernel_rfl
theorem N12 : (Tryd.f12.name == "runtime.NumGoroutine") = false := by kernel_rfl
theorem N120 : (Tryd.f120.name == "runtime.NumGoroutine") = false := by kernel_rfl
theorem N13 : (Tryd.f13.name == "runtime.NumGoroutine") = false := by kernel_rfl
theorem N14 : (Tryd.f14.name == "runtime.NumGoroutine") = false := by kernel_rfl
theorem N15 : (Tryd.f15.name == "runtime.NumGoroutine") = false := by kernel_rfl
theorem N21 : (Tryd.f21.name == "runtime.NumGoroutine") = false := by kernel_rfl
theorem N22 : (Tryd.f22.name == "runtime.NumGoroutine") = false := by kernel_rfl
theorem N25 : (Tryd.f25.name == "runtime.NumGoroutine") = false := by kernel_rfl
theorem N26 : (Tryd.f26.name == "runtime.NumGoroutine") = false := by kernel_rfl
theorem N29 : (Tryd.f29.name == "runtime.NumGoroutine") = false := by kernel_rfl
theorem N30 : (Tryd.f30.name == "runtime.NumGoroutine") = false := by kernel_rfl
theorem N31 : (Tryd.f31.name == "runtime.NumGoroutine") = false := by kernel_rfl
theorem N32 : (Tryd.f32.name == "runtime.NumGoroutine") = false := by kernel_rfl
theorem N33 : (Tryd.f33.name == "runtime.NumGoroutine") = false := by kernel_rfl
theorem N34 : (Tryd.f34.name == "runtime.NumGoroutine") = false := by kernel_rfl
theorem N35 : (Tryd.f35.name == "runtime.NumGoroutine") = false := by kernel_rfl
theorem N36 : (Tryd.f36.name == "runtime.NumGoroutine") = false := by kernel_rfl
theorem N50 : (Tryd.f50.name == "runtime.NumGoroutine") = false := by kernel_rfl
theorem N51 : (Tryd.f51.name == "runtime.NumGoroutine") = false := by kernel_rfl
theorem N52 : (Tryd.f52.name == "runtime.NumGoroutine") = false := by kernel_rfl
theorem N53 : (Tryd.f53.name == "runtime.NumGoroutine") = false := by kernel_rfl
theorem N56 : (Tryd.f56.name == "runtime.NumGoroutine") = false := by kernel_rfl
theorem N57 : (Tryd.f57.name == "runtime.NumGoroutine") = false := by kernel_rfl
theorem N58 : (Tryd.f58.name == "runtime.NumGoroutine") = false := by kernel_rfl
theorem N59 : (Tryd.f59.name == "runtime.NumGoroutine") = false := by kernel_rfl
theorem N60 : (Tryd.f60.name == "runtime.NumGoroutine") = false := by kernel_rfl
theorem N61 : (Tryd.f61.name == "runtime.NumGoroutine") = false := by kernel_rfl
theorem N62 : (Tryd.f62.name == "runtime.NumGoroutine") = false := by kernel_rfl
theorem N63 : (Tryd.f63.name == "runtime.NumGoroutine") = false := by kernel_rfl
theorem N65 : (Tryd.f65.name == "runtime.NumGoroutine") = false := by kernel_rfl
theorem N66 : (Tryd.f66.name == "runtime.NumGoroutine") = false := by kernel_rfl
theorem N67 : (Tryd.f67.name == "runtime.NumGoroutine") = false := by kernel_rfl
theorem N68 : (Tryd.f68.name == "runtime.NumGoroutine") = false := by kernel_rfl
theorem N69 : (Tryd.f69.name == "runtime.NumGoroutine") = false := by kernel_rfl
theorem N70 : (Tryd.f70.name == "runtime.NumGoroutine") = false := by kernel_rfl
theorem N74 : (Tryd.f74.name == "runtime.NumGoroutine") = false := by kernel_rfl
theorem N75 : (Tryd.f75.name == "runtime.NumGoroutine") = false := by kernel_rfl
theorem N76 : (Tryd.f76.name == "runtime.NumGoroutine") = false := by kernel_rfl
theorem N77 : (Tryd.f77.name == "runtime.NumGoroutine") = false := by kernel_rfl
theorem N78 : (Tryd.f78.name == "runtime.NumGoroutine") = false := by kernel_rfl
theorem N79 : (Tryd.f79.name == "runtime.NumGoroutine") = false := by kernel_rfl
theorem N81 : (Tryd.f81.name == "runtime.NumGoroutine") = false := by kernel_rfl
theorem N82 : (Tryd.f82.name == "runtime.NumGoroutine") = false := by kernel_rfl
theorem N83 : (Tryd.f83.name == "runtime.NumGoroutine") = false := by kernel_rfl
theorem N84 : (Tryd.f84.name == "runtime.NumGoroutine") = false := by kernel_rfl
theorem N94 : (Tryd.f94.name == "runtime.NumGoroutine") = false := by kernel_rfl
theorem N95 : (Tryd.f95.name == "runtime.NumGoroutine") = false := by kernel_rfl
theorem N97 : (Tryd.f97.name == "runtime.NumGoroutine") = false := by kernel_rfl
theorem N98 : (Tryd.f98.name == "runtime.NumGoroutine") = false := by kernel_rfl
theorem N99 : (Tryd.f99.name == "runtime.NumGoroutine") = false := by kernel_rfl
theorem V23 : (Tryd.prog.info? 23).bind (·.zero) = some (.slice none 0 0) := by kernel_rfl
theorem V31 : (Tryd.prog.info? 31).bind (·.zero) = some (.agg #[.int .i64 0, .slice none 0 0, .slice none 0 0]) := by kernel_rfl
theorem V42 : (Tryd.prog.info? 42).bind (·.zero) = some (.agg #[.int .i64 0, .slice none 0 0, .slice none 0 0, .slice none 0 0]) := by kernel_rfl
theorem V69 : (Tryd.prog.info? 69).bind (·.zero) = some (.agg #[.int .i64 0, .int .i64 0]) := by kernel_rfl
theorem V95 : (Tryd.prog.info? 95).bind (·.zero) = some (.agg #[.int .i64 0, .int .i64 0, .int .i64 0]) := by kernel_rfl
theorem Y23 : cellTy (Tryd.prog.underlying 23) = true := by kernel_rfl
theorem Y29 : cellTy (Tryd.prog.underlying 29) = true := by kernel_rfl
theorem Y3 : cellTy (Tryd.prog.underlying 3) = true := by kernel_rfl
theorem Y35 : cellTy (Tryd.prog.underlying 35) = true := by kernel_rfl
theorem Y40 : cellTy (Tryd.prog.underlying 40) = true := by kernel_rfl
theorem Y90 : cellTy (Tryd.prog.underlying 90) = true := by kernel_rfl
theorem Z23 : (Tryd.prog.info? 23).map (·.size) = some 1 := by kernel_rfl
theorem Z29 : (Tryd.prog.info? 29).map (·.size) = some 1 := by kernel_rfl
theorem Z3 : (Tryd.prog.info? 3).map (·.size) = some 1 := by kernel_rfl
theorem Z31 : (Tryd.prog.info? 31).map (·.size) = some 3 := by kernel_rfl
theorem Z37 : (Tryd.prog.info? 37).map (·.size) = some 4 := by kernel_rfl
theorem Z40 : (Tryd.prog.info? 40).map (·.size) = some 1 := by kernel_rfl
theorem Z42 : (Tryd.prog.info? 42).map (·.size) = some 4 := by kernel_rfl
theorem Z69 : (Tryd.prog.info? 69).map (·.size) = some 2 := by kernel_rfl
theorem Z95 : (Tryd.prog.info? 95).map (·.size) = some 3 := by kernel_rfl
theorem Z97 : (Tryd.prog.info? 97).map (·.size) = some 3 := by kernel_rfl
/-! ### loop.example/g01098/impl.in: function 75 -/
def impl_in.f (a0 : Int) (a1 : Int) (a2 : Int) : Option Bool := if a1 ≤ a0 then (some (decide (a0 ≤ a2))) else (some false)
set_option maxHeartbeats 600000 in
set_option maxRecDepth 100000 in
theorem impl_in.calls {w0 ws : World} {P0 : Nat → Prop} (a0 : Int) (a1 : Int) (a2 : Int) (Z : Below w0.heap.size w0 ws) (hF : Fr w0 ws P0 [] ws)  (r_1 : Bool) (h : impl_in.f a0 a1 a2 = some r_1) :
    Calls Tryd.prog 75 #[.int .i64 a0, .int .i64 a1, .int .i64 a2] ws (Post1 w0 ws P0 (fun (_ : Unit) => .bool r_1) (fun (_ : Unit) => [])) := by
  unfold impl_in.f at h
  refine enter Tryd.func75 rfl Tryd.ntmps75 rfl hF ?_
  refine c_seq ?_
  refine za0 ?_
  refine o_q rfl rfl (q_asg rfl) ?_
  refine o_end ?_
  refine za1 ?_
  refine c_seq ?_
  refine za0 ?_
  refine o_q rfl rfl (za3 rfl) ?_
  refine o_q rfl rfl (za3 rfl) ?_
  refine o_q rfl rfl (q_geq rfl rfl) ?_
  refine o_q rfl rfl (za3 rfl) ?_
  refine byB (decide (a1 ≤ a0)) (fun hb1 => ?_) (fun hb1 => ?_)
  · replace h := br_t hb1 h
    refine o_w (za4 rfl rfl rfl (congrArg Value.bool hb1)) rfl (za3 rfl) ?_
    refine o_w (za4 rfl rfl rfl (congrArg Value.bool hb1)) rfl (za3 rfl) ?_
    refine o_w (za4 rfl rfl rfl (congrArg Value.bool hb1)) rfl (q_leq rfl rfl) ?_
    refine o_q rfl rfl (zao true (congrArg Value.bool hb1) rfl) ?_
    refine o_q rfl rfl (q_asg rfl) ?_
    refine o_end ?_
    refine za1 ?_
    refine c_ret ?_
    have e0_ := Option.some.inj h; clear h
    subst e0_
    exact x_r1 () Tryd.results75 (zad rfl) rfl (fun w h => za7 [] (by decide) rfl w h)
  · replace h := br_f hb1 h
    refine @o_n _ _ _ _ _ _ _ _ _ _ _ 11 (za2 rfl rfl rfl (congrArg Value.bool hb1) rfl) (Eq.refl (some 11)) ?_
    refine @o_n _ _ _ _ _ _ _ _ _ _ _ 12 (za2 rfl rfl rfl (congrArg Value.bool hb1) rfl) (Eq.refl (some 12)) ?_
    refine @o_n _ _ _ _ _ _ _ _ _ _ _ 13 (za2 rfl rfl rfl (congrArg Value.bool hb1) rfl) (Eq.refl (some 13)) ?_
    refine o_q rfl rfl (zao false (congrArg Value.bool hb1) rfl) ?_
    refine o_q rfl rfl (q_asg rfl) ?_
    refine o_end ?_
    refine za1 ?_
    refine c_ret ?_
    have e0_ := Option.some.inj h; clear h
    subst e0_
    exact x_r1 () Tryd.results75 (zad rfl) rfl (fun w h => za7 [] (by decide) rfl w h)

/-! ### (*loop.example/g01098/impl.Plan).many: function 78 -/
def impl_Plan_many.f (a0_0 : Int) (l0_1 : List SStep) (l0_2 : List Int) : Option Unit := some ()
set_option maxHeartbeats 600000 in
set_option maxRecDepth 100000 in
theorem impl_Plan_many.calls {w0 ws : World} {P0 : Nat → Prop} (g0 : Nat) (a0_0 : Int) (A0_1 : Option Addr) (c0_1 : Nat) (n0_1 : Nat) (l0_1 : List SStep) (A0_2 : Option Addr) (c0_2 : Nat) (n0_2 : Nat) (l0_2 : List Int) (Z : Below w0.heap.size w0 ws) (hF : Fr w0 ws P0 [] ws) (R0_1 : Stable ws P0 (fun w => Kd.C kStep w A0_1 n0_1 l0_1)) (hc0_1 : n0_1 ≤ c0_1) (R0_2 : Stable ws P0 (fun w => Kd.C (Kd.int .i64) w A0_2 n0_2 l0_2)) (hc0_2 : n0_2 ≤ c0_2) (B0 : Stable ws P0 (fun w => w.heap[g0]? = some (.cells #[.int .i64 a0_0, .slice A0_1 n0_1 c0_1, .slice A0_2 n0_2 c0_2] 31 (0, 0))))  (h : impl_Plan_many.f a0_0 l0_1 l0_2 = some ()) :
    Calls Tryd.prog 78 #[.pointer (some ⟨g0, 0, none⟩)] ws (Post1 w0 ws P0 (fun (_ : Unit) => .int .i64 (w64 (a0_0 + (l0_1.length : Int)))) (fun (_ : Unit) => [])) := by
  unfold impl_Plan_many.f at h
  obtain rfl := (R0_1 ws (KeptB.refl _ _)).1
  obtain rfl := (R0_2 ws (KeptB.refl _ _)).1
  refine enter Tryd.func78 rfl Tryd.ntmps78 rfl hF ?_
  refine c_seq ?_
  refine za0 ?_
  refine o_q rfl rfl (q_asg rfl) ?_
  refine o_end ?_
  refine za1 ?_
  refine c_seq ?_
  refine a_start (ds := []) MO rfl ?_
  refine zab 0 rfl rfl rfl (by kernel_rfl) (fun _ _ _ h => h) (za3 rfl) ?_
  refine zab 1 rfl rfl rfl (by kernel_rfl) (fun _ _ _ h => h) (q_nil rfl) ?_
  refine zab 2 rfl rfl rfl (by kernel_rfl) (fun _ _ _ h => h) (q_f F31_0 rfl) ?_
  refine a_take 3 rfl rfl rfl (by kernel_rfl) (fun _ _ _ h => h) (fun w h => h) (q_ldb Y3 rfl (fun w h => B0.now Z h) rfl) ?_
  refine zab 4 rfl rfl rfl (by kernel_rfl) (fun _ _ _ h => h) (za3 rfl) ?_
  refine zab 5 rfl rfl rfl (by kernel_rfl) (fun _ _ _ h => h) (q_nil rfl) ?_
  refine zab 6 rfl rfl rfl (by kernel_rfl) (fun _ _ _ h => h) (q_f F31_1 rfl) ?_
  refine a_take 7 rfl rfl rfl (by kernel_rfl) (fun _ _ _ h => h) (fun w h => h) (q_ldb Y29 rfl (fun w h => B0.now Z h) rfl) ?_
  refine zab 8 rfl rfl rfl (by kernel_rfl) (fun _ _ _ h => h) (q_len Tryd.underlying29 rfl) ?_
  refine zab 9 rfl rfl rfl (by kernel_rfl) (fun _ _ _ h => h) (q_add64 rfl rfl) ?_
  refine zab 10 rfl rfl rfl (by kernel_rfl) (fun _ _ _ h => h) (q_asg rfl) ?_
  refine a_done (by kernel_rfl) ?_
  refine za1 ?_
  refine c_ret ?_
  exact x_r1 () Tryd.results78 (zad rfl) rfl (fun w h => za7 [] (by decide) rfl w h)

/-! ### (*loop.example/g01098/impl.Plan).formed$1: function 77 -/
def impl_Plan_formed_1.f (a0 : Int) (a1_0_0 : Int) (l1_0_1 : List SStep) (l1_0_2 : List Int) : Option Bool := (impl_Plan_many.f a1_0_0 l1_0_1 l1_0_2).bind fun _ => (impl_in.f a0 0 (w64 (w64 (a1_0_0 + (l1_0_1.length : Int)) - 1))).bind fun b3 => some (!b3)
set_option maxHeartbeats 600000 in
set_option maxRecDepth 100000 in
theorem impl_Plan_formed_1.calls {w0 ws : World} {P0 : Nat → Prop} (a0 : Int) (g1 : Nat) (g1_0 : Nat) (a1_0_0 : Int) (A1_0_1 : Option Addr) (c1_0_1 : Nat) (n1_0_1 : Nat) (l1_0_1 : List SStep) (A1_0_2 : Option Addr) (c1_0_2 : Nat) (n1_0_2 : Nat) (l1_0_2 : List Int) (Z : Below w0.heap.size w0 ws) (hF : Fr w0 ws P0 [] ws) (R1_0_1 : Stable ws P0 (fun w => Kd.C kStep w A1_0_1 n1_0_1 l1_0_1)) (hc1_0_1 : n1_0_1 ≤ c1_0_1) (R1_0_2 : Stable ws P0 (fun w => Kd.C (Kd.int .i64) w A1_0_2 n1_0_2 l1_0_2)) (hc1_0_2 : n1_0_2 ≤ c1_0_2) (B1_0 : Stable ws P0 (fun w => w.heap[g1_0]? = some (.cells #[.int .i64 a1_0_0, .slice A1_0_1 n1_0_1 c1_0_1, .slice A1_0_2 n1_0_2 c1_0_2] 31 (0, 0)))) (B1 : Stable ws P0 (fun w => w.heap[g1]? = some (.cells #[.pointer (some ⟨g1_0, 0, none⟩)] 90 (0, 0)))) (r_1 : Bool) (h : impl_Plan_formed_1.f a0 a1_0_0 l1_0_1 l1_0_2 = some r_1) :
    Calls Tryd.prog 77 #[.int .i64 a0, .pointer (some ⟨g1, 0, none⟩)] ws (Post1 w0 ws P0 (fun (_ : Unit) => .bool r_1) (fun (_ : Unit) => [])) := by
  unfold impl_Plan_formed_1.f at h
  obtain rfl := (R1_0_1 ws (KeptB.refl _ _)).1
  obtain rfl := (R1_0_2 ws (KeptB.refl _ _)).1
  refine enter Tryd.func77 rfl Tryd.ntmps77 rfl hF ?_
  refine c_seq ?_
  refine za0 ?_
  refine o_q rfl rfl (q_asg rfl) ?_
  refine o_end ?_
  refine za1 ?_
  refine c_seq ?_
  refine za0 ?_
  refine o_q rfl rfl (za3 rfl) ?_
  refine o_q rfl rfl (q_ldb Y90 rfl (fun w h => B1.now Z h) rfl) ?_
  refine za6 h (fun _ hx1 h => ?_) rfl
  refine o_e rfl (zac 0 Z Tryd.func78 N78 rfl rfl rfl (fun w P1 hF hB hS hT => impl_Plan_many.calls g1_0 a1_0_0 A1_0_1 c1_0_1 l1_0_1.length l1_0_1 A1_0_2 c1_0_2 l1_0_2.length l1_0_2 hB hF (hS _ R1_0_1) hc1_0_1 (hS _ R1_0_2) hc1_0_2 (hS _ B1_0) hx1)) (fun _ => ?_)
  refine o_q rfl rfl (q_sub64 rfl rfl) ?_
  refine za6 h (fun b3 hx2 h => ?_) rfl
  refine o_e rfl (zac 0 Z Tryd.func75 N75 rfl rfl rfl (fun w P1 hF hB hS hT => impl_in.calls a0 0 (w64 (w64 (a1_0_0 + (l1_0_1.length : Int)) - 1)) hB hF _ hx2)) (fun _ => ?_)
  refine o_q rfl rfl (q_not rfl) ?_
  refine o_q rfl rfl (q_asg rfl) ?_
  refine o_end ?_
  refine za1 ?_
  refine c_ret ?_
  have e0_ := Option.some.inj h; clear h
  subst e0_
  exact x_r1 () Tryd.results77 (zad rfl) rfl (fun w h => za7 [] (by decide) rfl w h)

/-! ### slices.IndexFunc[[]int,int]: function 95 -/
def slices_IndexFunc_int_int.l0 (a1_c0_0_0 : Int) (l1_c0_0_1 : List SStep) (l1_c0_0_2 : List Int) : (List Int) → Int → Option ((Int) ⊕ (Unit))
  | [], i1 => some (.inr ())
  | y2 :: ys3, i1 => (impl_Plan_formed_1.f y2 a1_c0_0_0 l1_c0_0_1 l1_c0_0_2).bind fun b14 => if b14 = true then (some (.inl i1)) else (slices_IndexFunc_int_int.l0 a1_c0_0_0 l1_c0_0_1 l1_c0_0_2 ys3 (i1 + 1))
def slices_IndexFunc_int_int.f (l0 : List Int) (a1_c0_0_0 : Int) (l1_c0_0_1 : List SStep) (l1_c0_0_2 : List Int) : Option Int := (slices_IndexFunc_int_int.l0 a1_c0_0_0 l1_c0_0_1 l1_c0_0_2 l0 0).bind fun o_ => match o_ with | .inl r_ => some r_ | .inr _ => some (-1)
set_option maxHeartbeats 600000 in
set_option maxRecDepth 100000 in
theorem slices_IndexFunc_int_int.calls {w0 ws : World} {P0 : Nat → Prop} (A0 : Option Addr) (c0 : Nat) (n0 : Nat) (l0 : List Int) (g1_c0 : Nat) (g1_c0_0 : Nat) (a1_c0_0_0 : Int) (A1_c0_0_1 : Option Addr) (c1_c0_0_1 : Nat) (n1_c0_0_1 : Nat) (l1_c0_0_1 : List SStep) (A1_c0_0_2 : Option Addr) (c1_c0_0_2 : Nat) (n1_c0_0_2 : Nat) (l1_c0_0_2 : List Int) (Z : Below w0.heap.size w0 ws) (hF : Fr w0 ws P0 [] ws) (R0 : Stable ws P0 (fun w => Kd.C (Kd.int .i64) w A0 n0 l0)) (hc0 : n0 ≤ c0) (R1_c0_0_1 : Stable ws P0 (fun w => Kd.C kStep w A1_c0_0_1 n1_c0_0_1 l1_c0_0_1)) (hc1_c0_0_1 : n1_c0_0_1 ≤ c1_c0_0_1) (R1_c0_0_2 : Stable ws P0 (fun w => Kd.C (Kd.int .i64) w A1_c0_0_2 n1_c0_0_2 l1_c0_0_2)) (hc1_c0_0_2 : n1_c0_0_2 ≤ c1_c0_0_2) (B1_c0_0 : Stable ws P0 (fun w => w.heap[g1_c0_0]? = some (.cells #[.int .i64 a1_c0_0_0, .slice A1_c0_0_1 n1_c0_0_1 c1_c0_0_1, .slice A1_c0_0_2 n1_c0_0_2 c1_c0_0_2] 31 (0, 0)))) (B1_c0 : Stable ws P0 (fun w => w.heap[g1_c0]? = some (.cells #[.pointer (some ⟨g1_c0_0, 0, none⟩)] 90 (0, 0)))) (r_1 : Int) (h : slices_IndexFunc_int_int.f l0 a1_c0_0_0 l1_c0_0_1 l1_c0_0_2 = some r_1) :
    Calls Tryd.prog 95 #[.slice A0 n0 c0, .func (.func 77) #[] #[.pointer (some ⟨g1_c0, 0, none⟩)]] ws (Post1 w0 ws P0 (fun (_ : Unit) => .int .i64 r_1) (fun (_ : Unit) => [])) := by
  unfold slices_IndexFunc_int_int.f at h
  obtain rfl := (R0 ws (KeptB.refl _ _)).1
  obtain rfl := (R1_c0_0_1 ws (KeptB.refl _ _)).1
  obtain rfl := (R1_c0_0_2 ws (KeptB.refl _ _)).1
  refine enter Tryd.func95 rfl Tryd.ntmps95 rfl hF ?_
  refine c_seq ?_
  refine za0 ?_
  refine o_q rfl rfl (q_asg rfl) ?_
  refine o_end ?_
  refine za1 ?_
  refine c_seq ?_
  refine c_seq ?_
  refine za0 ?_
  refine o_q rfl rfl (za3 rfl) ?_
  refine o_q rfl rfl (q_len Tryd.underlying23 rfl) ?_
  refine o_q rfl rfl (za3 rfl) ?_
  refine o_end ?_
  refine za1 ?_
  refine zak ?_
  refine za6 h (fun o9 hl8 hR7 => ?_) rfl
  clear h
  refine c_fact (p := l0.length ≤ 9223372036854775807) (fun w h => (R0.now Z h).2.1) (fun hm6 => ?_)
  refine c_loopL (σ := (List Int) × Int) (fun k4 ((ys3, i1) : (List Int) × Int) => Rg l0 i1 ys3 ∧ ys3.length = k4 ∧ slices_IndexFunc_int_int.l0 a1_c0_0_0 l1_c0_0_1 l1_c0_0_2 ys3 i1 = some o9) [4, 5, 8, 9, 10, 11, 12, 13, 14, 15, 16, 17, 18] (fun ((ys3, i1) : (List Int) × Int) => [(8, .int .i64 i1)]) (fun ((ys3, i1) : (List Int) × Int) => []) l0.length (l0, 0) ⟨Rg.start _, rfl, hl8⟩ ⟨rfl, trivial⟩ (fun w h => h) ?_
  refine fun k4 => cur2 (listC (fun i1 U10 hJ_ => ?_) (fun y2 ys3 i1 U10 hJ_ => ?_))
  · skip
    clear hl8
    have hr5 := hJ_.1; have hk11 := hJ_.2.1; have h := hJ_.2.2; clear hJ_
    replace h : slices_IndexFunc_int_int.l0 a1_c0_0_0 l1_c0_0_1 l1_c0_0_2 [] i1 = some o9 := h
    rw [slices_IndexFunc_int_int.l0] at h
    refine c_seq ?_
    refine za0 ?_
    refine o_q rfl rfl (q_lss rfl rfl) ?_
    refine o_end ?_
    refine za1 ?_
    refine c_seq ?_
    refine c_false (congrArg Value.bool hr5.ge) ?_
    refine c_exit ?_
    refine za8 ?_
    refine za8 ?_
    have e_ := Option.some.inj h; replace h := hR7; rw [← e_] at h; clear e_
    refine x_hit ?_
    refine za1 ?_
    refine c_seq ?_
    refine za0 ?_
    refine o_q rfl rfl (q_asg rfl) ?_
    refine o_end ?_
    refine za1 ?_
    refine c_ret ?_
    have e0_ := Option.some.inj h; clear h
    subst e0_
    exact x_r1 () Tryd.results95 (zad rfl) rfl (fun w h => za7 [] (by decide) rfl w h)
  · skip
    clear hl8
    have hr5 := hJ_.1; have hk11 := hJ_.2.1; have h := hJ_.2.2; clear hJ_
    replace h : slices_IndexFunc_int_int.l0 a1_c0_0_0 l1_c0_0_1 l1_c0_0_2 (y2 :: ys3) i1 = some o9 := h
    rw [slices_IndexFunc_int_int.l0] at h
    refine c_seq ?_
    refine za0 ?_
    refine o_q rfl rfl (q_lss rfl rfl) ?_
    refine o_end ?_
    refine za1 ?_
    refine c_seq ?_
    refine c_true (congrArg Value.bool hr5.lt) ?_
    refine zal ?_
    refine za1 ?_
    refine c_seq ?_
    refine zak ?_
    refine c_seq ?_
    refine za0 ?_
    refine o_q rfl rfl (za3 rfl) ?_
    refine o_q rfl rfl (q_asg rfl) ?_
    refine o_end ?_
    refine za1 ?_
    refine c_seq ?_
    refine za0 ?_
    refine o_q rfl rfl (za3 rfl) ?_
    refine o_q rfl rfl (za3 rfl) ?_
    refine o_q rfl rfl (za3 rfl) ?_
    refine o_fact (p := Sh A0 l0.length l0.length) (fun w h => f_sh (dk := (Kd.int .i64)) h (fun w h => R0.now Z h)) (fun hq12 => ?_)
    refine o_q rfl rfl (q_ix Tryd.underlying23 Z3 rfl rfl hq12 hr5.get) ?_
    refine o_q rfl rfl (q_lde (off := 0) Y3 rfl rfl (fun w h => R0.now Z h) hr5.get (fun _ _ h => h) rfl) ?_
    refine za6 h (fun b14 hx13 h => ?_) rfl
    refine o_e rfl (zac 0 Z Tryd.func77 N77 rfl rfl rfl (fun w P1 hF hB hS hT => impl_Plan_formed_1.calls y2 g1_c0 g1_c0_0 a1_c0_0_0 A1_c0_0_1 c1_c0_0_1 l1_c0_0_1.length l1_c0_0_1 A1_c0_0_2 c1_c0_0_2 l1_c0_0_2.length l1_c0_0_2 hB hF (hS _ R1_c0_0_1) hc1_c0_0_1 (hS _ R1_c0_0_2) hc1_c0_0_2 (hS _ B1_c0_0) (hS _ B1_c0) _ hx13)) (fun _ => ?_)
    refine o_end ?_
    refine za1 ?_
    refine zaq _ rfl (fun hb15 => ?_) (fun hb15 => ?_)
    · skip
      replace h := bb_t hb15 h
      refine c_seq ?_
      refine za0 ?_
      refine o_q rfl rfl (za3 rfl) ?_
      refine o_q rfl rfl (q_asg rfl) ?_
      refine o_end ?_
      refine za1 ?_
      refine c_ret ?_
      refine zah ?_
      refine za5 ?_
      refine za5 ?_
      have e_ := Option.some.inj h; replace h := hR7; rw [← e_] at h; clear e_
      refine zah ?_
      refine za5 ?_
      have e0_ := Option.some.inj h; clear h
      subst e0_
      exact x_r1 () Tryd.results95 (zad rfl) rfl (fun w h => za7 [] (by decide) rfl w h)
    · skip
      replace h := bb_f hb15 h
      refine zal ?_
      refine x_block ?_
      refine za1 ?_
      refine za0 ?_
      refine o_q rfl rfl (q_up rfl rfl (hr5.up hm6)) ?_
      refine o_q rfl rfl (za3 rfl) ?_
      refine o_end ?_
      refine zar ys3.length (ys3, i1 + 1) (by rw [← hk11]; exact Nat.lt_succ_self _) ⟨hr5.step, rfl, h⟩ ⟨rfl, trivial⟩ (fun w h => za7 [] (by decide) rfl w h) ?_
      repeat (first | exact zae _ _ | refine zai rfl ?_ | refine zaf rfl ?_ | refine zaj rfl ?_)

/-! ### slices.ContainsFunc[[]int,int]: function 76 -/
def slices_ContainsFunc_int_int.f (l0 : List Int) (a1_c0_0_0 : Int) (l1_c0_0_1 : List SStep) (l1_c0_0_2 : List Int) : Option Bool := (slices_IndexFunc_int_int.f l0 a1_c0_0_0 l1_c0_0_1 l1_c0_0_2).bind fun i2 => some (decide (0 ≤ i2))
set_option maxHeartbeats 600000 in
set_option maxRecDepth 100000 in
theorem slices_ContainsFunc_int_int.calls {w0 ws : World} {P0 : Nat → Prop} (A0 : Option Addr) (c0 : Nat) (n0 : Nat) (l0 : List Int) (g1_c0 : Nat) (g1_c0_0 : Nat) (a1_c0_0_0 : Int) (A1_c0_0_1 : Option Addr) (c1_c0_0_1 : Nat) (n1_c0_0_1 : Nat) (l1_c0_0_1 : List SStep) (A1_c0_0_2 : Option Addr) (c1_c0_0_2 : Nat) (n1_c0_0_2 : Nat) (l1_c0_0_2 : List Int) (Z : Below w0.heap.size w0 ws) (hF : Fr w0 ws P0 [] ws) (R0 : Stable ws P0 (fun w => Kd.C (Kd.int .i64) w A0 n0 l0)) (hc0 : n0 ≤ c0) (R1_c0_0_1 : Stable ws P0 (fun w => Kd.C kStep w A1_c0_0_1 n1_c0_0_1 l1_c0_0_1)) (hc1_c0_0_1 : n1_c0_0_1 ≤ c1_c0_0_1) (R1_c0_0_2 : Stable ws P0 (fun w => Kd.C (Kd.int .i64) w A1_c0_0_2 n1_c0_0_2 l1_c0_0_2)) (hc1_c0_0_2 : n1_c0_0_2 ≤ c1_c0_0_2) (B1_c0_0 : Stable ws P0 (fun w => w.heap[g1_c0_0]? = some (.cells #[.int .i64 a1_c0_0_0, .slice A1_c0_0_1 n1_c0_0_1 c1_c0_0_1, .slice A1_c0_0_2 n1_c0_0_2 c1_c0_0_2] 31 (0, 0)))) (B1_c0 : Stable ws P0 (fun w => w.heap[g1_c0]? = some (.cells #[.pointer (some ⟨g1_c0_0, 0, none⟩)] 90 (0, 0)))) (r_1 : Bool) (h : slices_ContainsFunc_int_int.f l0 a1_c0_0_0 l1_c0_0_1 l1_c0_0_2 = some r_1) :
    Calls Tryd.prog 76 #[.slice A0 n0 c0, .func (.func 77) #[] #[.pointer (some ⟨g1_c0, 0, none⟩)]] ws (Post1 w0 ws P0 (fun (_ : Unit) => .bool r_1) (fun (_ : Unit) => [])) := by
  unfold slices_ContainsFunc_int_int.f at h
  obtain rfl := (R0 ws (KeptB.refl _ _)).1
  obtain rfl := (R1_c0_0_1 ws (KeptB.refl _ _)).1
  obtain rfl := (R1_c0_0_2 ws (KeptB.refl _ _)).1
  refine enter Tryd.func76 rfl Tryd.ntmps76 rfl hF ?_
  refine c_seq ?_
  refine za0 ?_
  refine o_q rfl rfl (q_asg rfl) ?_
  refine o_end ?_
  refine za1 ?_
  refine c_seq ?_
  refine za0 ?_
  refine o_q rfl rfl (za3 rfl) ?_
  refine o_q rfl rfl (za3 rfl) ?_
  refine za6 h (fun i2 hx1 h => ?_) rfl
  refine o_e rfl (zac 0 Z Tryd.func95 N95 rfl rfl rfl (fun w P1 hF hB hS hT => slices_IndexFunc_int_int.calls A0 c0 l0.length l0 g1_c0 g1_c0_0 a1_c0_0_0 A1_c0_0_1 c1_c0_0_1 l1_c0_0_1.length l1_c0_0_1 A1_c0_0_2 c1_c0_0_2 l1_c0_0_2.length l1_c0_0_2 hB hF (hS _ R0) hc0 (hS _ R1_c0_0_1) hc1_c0_0_1 (hS _ R1_c0_0_2) hc1_c0_0_2 (hS _ B1_c0_0) (hS _ B1_c0) _ hx1)) (fun _ => ?_)
  refine o_q rfl rfl (q_geq rfl rfl) ?_
  refine o_q rfl rfl (q_asg rfl) ?_
  refine o_end ?_
  refine za1 ?_
  refine c_ret ?_
  have e0_ := Option.some.inj h; clear h
  subst e0_
  exact x_r1 () Tryd.results76 (zad rfl) rfl (fun w h => za7 [] (by decide) rfl w h)

/-! ### (*loop.example/g01098/impl.Plan).formed: function 56 -/
def impl_Plan_formed.l0 (a0_0 : Int) : (List SStep) → Int → Option ((Bool) ⊕ (Unit))
  | [], i8 => some (.inr ())
  | y9 :: ys10, i8 => if y9.f0 < 0 then (some (.inl false)) else (if y9.f1 < y9.f0 then (some (.inl false)) else (if w64 (a0_0 + i8) ≤ y9.f1 then (some (.inl false)) else (impl_Plan_formed.l0 a0_0 ys10 (i8 + 1))))
def impl_Plan_formed.f (a0_0 : Int) (l0_1 : List SStep) (l0_2 : List Int) : Option Bool := (impl_in.f a0_0 1 6).bind fun b4 => if b4 = true then (if 40 < (l0_1.length : Int) then (some false) else (if 6 < (l0_2.length : Int) then (some false) else ((impl_Plan_formed.l0 a0_0 l0_1 0).bind fun o_ => match o_ with | .inl r_ => some r_ | .inr _ => (slices_ContainsFunc_int_int.f l0_2 a0_0 l0_1 l0_2).bind fun b20 => some (!b20)))) else (some false)
set_option maxHeartbeats 600000 in
set_option maxRecDepth 100000 in
theorem impl_Plan_formed.calls {w0 ws : World} {P0 : Nat → Prop} (g0 : Nat) (a0_0 : Int) (A0_1 : Option Addr) (c0_1 : Nat) (n0_1 : Nat) (l0_1 : List SStep) (A0_2 : Option Addr) (c0_2 : Nat) (n0_2 : Nat) (l0_2 : List Int) (Z : Below w0.heap.size w0 ws) (hF : Fr w0 ws P0 [] ws) (R0_1 : Stable ws P0 (fun w => Kd.C kStep w A0_1 n0_1 l0_1)) (hc0_1 : n0_1 ≤ c0_1) (R0_2 : Stable ws P0 (fun w => Kd.C (Kd.int .i64) w A0_2 n0_2 l0_2)) (hc0_2 : n0_2 ≤ c0_2) (B0 : Stable ws P0 (fun w => w.heap[g0]? = some (.cells #[.int .i64 a0_0, .slice A0_1 n0_1 c0_1, .slice A0_2 n0_2 c0_2] 31 (0, 0)))) (r_1 : Bool) (h : impl_Plan_formed.f a0_0 l0_1 l0_2 = some r_1) :
    Calls Tryd.prog 56 #[.pointer (some ⟨g0, 0, none⟩)] ws (Post1 w0 ws P0 (fun (_ : Unit) => .bool r_1) (fun (_ : Unit) => [])) := by
  unfold impl_Plan_formed.f at h
  obtain rfl := (R0_1 ws (KeptB.refl _ _)).1
  obtain rfl := (R0_2 ws (KeptB.refl _ _)).1
  refine enter Tryd.func56 rfl Tryd.ntmps56 rfl hF ?_
  refine c_seq ?_
  refine za0 ?_
  refine o_e rfl (e_box rfl) (fun g1 => ?_)
  refine o_q rfl rfl (q_asg rfl) ?_
  refine o_end ?_
  refine za1 ?_
  refine c_seq ?_
  refine c_seq ?_
  refine za0 ?_
  refine o_q rfl rfl (q_ldb Y90 rfl (fun w h => h.zaa (i := 0) rfl) rfl) ?_
  refine o_q rfl rfl (q_nil rfl) ?_
  refine o_q rfl rfl (q_f F31_0 rfl) ?_
  refine o_q rfl rfl (q_ldb Y3 rfl (fun w h => B0.now Z h) rfl) ?_
  refine za6 h (fun b4 hx3 h => ?_) rfl
  refine o_e rfl (zac 0 Z Tryd.func75 N75 rfl rfl rfl (fun w P1 hF hB hS hT => impl_in.calls a0_0 1 6 hB hF _ hx3)) (fun _ => ?_)
  refine o_q rfl rfl (q_not rfl) ?_
  refine o_q rfl rfl (za3 rfl) ?_
  refine byB b4 (fun hb5 => ?_) (fun hb5 => ?_)
  · replace h := bb_t hb5 h
    refine o_w (za4 rfl rfl rfl (congrArg (fun b => Value.bool (!(b))) hb5)) rfl (q_ldb Y90 rfl (fun w h => h.zaa (i := 0) rfl) rfl) ?_
    refine o_w (za4 rfl rfl rfl (congrArg (fun b => Value.bool (!(b))) hb5)) rfl (q_nil rfl) ?_
    refine o_w (za4 rfl rfl rfl (congrArg (fun b => Value.bool (!(b))) hb5)) rfl (q_f F31_1 rfl) ?_
    refine o_w (za4 rfl rfl rfl (congrArg (fun b => Value.bool (!(b))) hb5)) rfl (q_ldb Y29 rfl (fun w h => B0.now Z h) rfl) ?_
    refine o_w (za4 rfl rfl rfl (congrArg (fun b => Value.bool (!(b))) hb5)) rfl (q_len Tryd.underlying29 rfl) ?_
    refine o_w (za4 rfl rfl rfl (congrArg (fun b => Value.bool (!(b))) hb5)) rfl (q_gtr rfl rfl) ?_
    refine o_q rfl rfl (zao false (congrArg (fun b => Value.bool (!(b))) hb5) rfl) ?_
    refine o_q rfl rfl (za3 rfl) ?_
    refine byB (decide (40 < (l0_1.length : Int))) (fun hb6 => ?_) (fun hb6 => ?_)
    · replace h := br_t hb6 h
      refine @o_n _ _ _ _ _ _ _ _ _ _ _ 20 (za2 rfl rfl rfl (congrArg Value.bool hb6) rfl) (Eq.refl (some 20)) ?_
      refine @o_n _ _ _ _ _ _ _ _ _ _ _ 21 (za2 rfl rfl rfl (congrArg Value.bool hb6) rfl) (Eq.refl (some 21)) ?_
      refine @o_n _ _ _ _ _ _ _ _ _ _ _ 22 (za2 rfl rfl rfl (congrArg Value.bool hb6) rfl) (Eq.refl (some 22)) ?_
      refine @o_n _ _ _ _ _ _ _ _ _ _ _ 23 (za2 rfl rfl rfl (congrArg Value.bool hb6) rfl) (Eq.refl (some 23)) ?_
      refine @o_n _ _ _ _ _ _ _ _ _ _ _ 24 (za2 rfl rfl rfl (congrArg Value.bool hb6) rfl) (Eq.refl (some 24)) ?_
      refine @o_n _ _ _ _ _ _ _ _ _ _ _ 25 (za2 rfl rfl rfl (congrArg Value.bool hb6) rfl) (Eq.refl (some 25)) ?_
      refine o_q rfl rfl (zao true (congrArg Value.bool hb6) rfl) ?_
      refine o_end ?_
      refine za1 ?_
      refine c_true rfl ?_
      refine c_seq ?_
      refine za0 ?_
      refine o_q rfl rfl (q_asg rfl) ?_
      refine o_end ?_
      refine za1 ?_
      refine c_ret ?_
      refine za5 ?_
      have e0_ := Option.some.inj h; clear h
      subst e0_
      exact x_r1 () Tryd.results56 (zad rfl) rfl (fun w h => za7 [] (by decide) rfl w h)
    · replace h := br_f hb6 h
      refine o_w (za4 rfl rfl rfl (congrArg Value.bool hb6)) rfl (q_ldb Y90 rfl (fun w h => h.zaa (i := 0) rfl) rfl) ?_
      refine o_w (za4 rfl rfl rfl (congrArg Value.bool hb6)) rfl (q_nil rfl) ?_
      refine o_w (za4 rfl rfl rfl (congrArg Value.bool hb6)) rfl (q_f F31_2 rfl) ?_
      refine o_w (za4 rfl rfl rfl (congrArg Value.bool hb6)) rfl (q_ldb Y23 rfl (fun w h => B0.now Z h) rfl) ?_
      refine o_w (za4 rfl rfl rfl (congrArg Value.bool hb6)) rfl (q_len Tryd.underlying23 rfl) ?_
      refine o_w (za4 rfl rfl rfl (congrArg Value.bool hb6)) rfl (q_gtr rfl rfl) ?_
      refine o_q rfl rfl (zao false (congrArg Value.bool hb6) rfl) ?_
      refine o_end ?_
      refine za1 ?_
      refine zaq _ rfl (fun hb7 => ?_) (fun hb7 => ?_)
      · skip
        replace h := br_t hb7 h
        refine c_seq ?_
        refine za0 ?_
        refine o_q rfl rfl (q_asg rfl) ?_
        refine o_end ?_
        refine za1 ?_
        refine c_ret ?_
        refine za5 ?_
        have e0_ := Option.some.inj h; clear h
        subst e0_
        exact x_r1 () Tryd.results56 (zad rfl) rfl (fun w h => za7 [] (by decide) rfl w h)
      · skip
        replace h := br_f hb7 h
        refine zal ?_
        refine za1 ?_
        refine c_seq ?_
        refine c_seq ?_
        refine za0 ?_
        refine o_q rfl rfl (q_ldb Y90 rfl (fun w h => h.zaa (i := 0) rfl) rfl) ?_
        refine o_q rfl rfl (q_nil rfl) ?_
        refine o_q rfl rfl (q_f F31_1 rfl) ?_
        refine o_q rfl rfl (q_ldb Y29 rfl (fun w h => B0.now Z h) rfl) ?_
        refine o_q rfl rfl (q_len Tryd.underlying29 rfl) ?_
        refine o_q rfl rfl (za3 rfl) ?_
        refine o_end ?_
        refine za1 ?_
        refine zak ?_
        refine za6 h (fun o16 hl15 hR14 => ?_) rfl
        clear h
        refine c_fact (p := l0_1.length ≤ 9223372036854775807) (fun w h => (R0_1.now Z h).2.1) (fun hm13 => ?_)
        refine c_loopL (σ := (List SStep) × Int) (fun k11 ((ys10, i8) : (List SStep) × Int) => Rg l0_1 i8 ys10 ∧ ys10.length = k11 ∧ impl_Plan_formed.l0 a0_0 ys10 i8 = some o16) [2, 3, 4, 32, 33, 34, 35, 36, 37, 38, 39, 40, 41, 42, 43, 44, 45, 46, 47, 48, 49, 50, 51, 52, 53, 54, 55, 56, 57, 58] (fun ((ys10, i8) : (List SStep) × Int) => [(32, .int .i64 i8)]) (fun ((ys10, i8) : (List SStep) × Int) => [box g1 90 #[.pointer (some ⟨g0, 0, none⟩)]]) l0_1.length (l0_1, 0) ⟨Rg.start _, rfl, hl15⟩ ⟨rfl, trivial⟩ (fun w h => h) ?_
        refine fun k11 => cur2 (listC (fun i8 U17 hJ_ => ?_) (fun y9 ys10 i8 U17 hJ_ => ?_))
        · skip
          clear hl15
          have hr12 := hJ_.1; have hk18 := hJ_.2.1; have h := hJ_.2.2; clear hJ_
          replace h : impl_Plan_formed.l0 a0_0 [] i8 = some o16 := h
          rw [impl_Plan_formed.l0] at h
          refine c_seq ?_
          refine za0 ?_
          refine o_q rfl rfl (q_lss rfl rfl) ?_
          refine o_end ?_
          refine za1 ?_
          refine c_seq ?_
          refine c_false (congrArg Value.bool hr12.ge) ?_
          refine c_exit ?_
          refine za8 ?_
          refine za8 ?_
          have e_ := Option.some.inj h; replace h := hR14; rw [← e_] at h; clear e_
          refine x_hit ?_
          refine za1 ?_
          refine c_seq ?_
          refine za0 ?_
          refine o_q rfl rfl (q_ldb Y90 rfl (fun w h => h.zaa (i := 0) rfl) rfl) ?_
          refine o_q rfl rfl (q_nil rfl) ?_
          refine o_q rfl rfl (q_f F31_2 rfl) ?_
          refine o_q rfl rfl (q_ldb Y23 rfl (fun w h => B0.now Z h) rfl) ?_
          refine o_q rfl rfl (q_func rfl rfl) ?_
          refine za6 h (fun b20 hx19 h => ?_) rfl
          refine o_e rfl (zac 0 Z Tryd.func76 N76 rfl rfl rfl (fun w P1 hF hB hS hT => slices_ContainsFunc_int_int.calls A0_2 c0_2 l0_2.length l0_2 g1 g0 a0_0 A0_1 c0_1 l0_1.length l0_1 A0_2 c0_2 l0_2.length l0_2 hB hF (hS _ R0_2) hc0_2 (hS _ R0_1) hc0_1 (hS _ R0_2) hc0_2 (hS _ B0) (hT 0 _ rfl).box _ hx19)) (fun _ => ?_)
          refine o_q rfl rfl (q_not rfl) ?_
          refine o_q rfl rfl (q_asg rfl) ?_
          refine o_end ?_
          refine za1 ?_
          refine c_ret ?_
          have e0_ := Option.some.inj h; clear h
          subst e0_
          exact x_r1 () Tryd.results56 (zad rfl) rfl (fun w h => za7 [] (by decide) rfl w h)
        · skip
          clear hl15
          have hr12 := hJ_.1; have hk18 := hJ_.2.1; have h := hJ_.2.2; clear hJ_
          replace h : impl_Plan_formed.l0 a0_0 (y9 :: ys10) i8 = some o16 := h
          rw [impl_Plan_formed.l0] at h
          refine c_seq ?_
          refine za0 ?_
          refine o_q rfl rfl (q_lss rfl rfl) ?_
          refine o_end ?_
          refine za1 ?_
          refine c_seq ?_
          refine c_true (congrArg Value.bool hr12.lt) ?_
          refine zal ?_
          refine za1 ?_
          refine c_seq ?_
          refine zak ?_
          refine c_seq ?_
          refine za0 ?_
          refine o_q rfl rfl (za3 rfl) ?_
          refine o_fact (p := Sh A0_1 l0_1.length l0_1.length) (fun w h => f_sh (dk := kStep) h (fun w h => R0_1.now Z h)) (fun hq21 => ?_)
          refine o_q rfl rfl (q_ix Tryd.underlying29 Z69 rfl rfl hq21 hr12.get) ?_
          refine o_q rfl rfl (q_ldE G69 Z69 rfl rfl (fun w h => R0_1.now Z h) hr12.get (fun _ _ h => h) rfl) ?_
          refine o_e rfl (zas V69 rfl) (fun g22 => ?_)
          refine o_q rfl rfl (q_asg rfl) ?_
          refine o_e rfl (zan (i := 0) rfl rfl rfl Z69 rfl rfl) (fun _ => ?_)
          refine o_end ?_
          refine za1 ?_
          refine c_seq ?_
          refine a_start (ds := []) MO rfl ?_
          refine zab 0 rfl rfl rfl (by kernel_rfl) (fun _ _ _ h => h) (q_f F69_0 rfl) ?_
          refine a_take 1 rfl rfl rfl (by kernel_rfl) (fun _ _ _ h => h) (fun w h => h) (q_ldb Y3 rfl (fun w h => h.zaa (i := 0) rfl) rfl) ?_
          refine zab 2 rfl rfl rfl (by kernel_rfl) (fun _ _ _ h => h) (q_lss rfl rfl) ?_
          refine zab 3 rfl rfl rfl (by kernel_rfl) (fun _ _ _ h => h) (za3 rfl) ?_
          refine byB (decide (y9.f0 < 0)) (fun hb24 => ?_) (fun hb24 => ?_)
          · replace h := br_t hb24 h
            refine a_no 4 rfl rfl (za2 rfl rfl rfl (congrArg Value.bool hb24) rfl) (by kernel_rfl) (fun _ _ _ h => h) ?_
            refine a_no 5 rfl rfl (za2 rfl rfl rfl (congrArg Value.bool hb24) rfl) (by kernel_rfl) (fun _ _ _ h => h) ?_
            refine a_no 6 rfl rfl (za2 rfl rfl rfl (congrArg Value.bool hb24) rfl) (by kernel_rfl) (fun _ _ _ h => h) ?_
            refine a_no 7 rfl rfl (za2 rfl rfl rfl (congrArg Value.bool hb24) rfl) (by kernel_rfl) (fun _ _ _ h => h) ?_
            refine a_no 8 rfl rfl (za2 rfl rfl rfl (congrArg Value.bool hb24) rfl) (by kernel_rfl) (fun _ _ _ h => h) ?_
            refine zab 9 rfl rfl rfl (by kernel_rfl) (fun _ _ _ h => h) (zao true (congrArg Value.bool hb24) rfl) ?_
            refine zab 10 rfl rfl rfl (by kernel_rfl) (fun _ _ _ h => h) (za3 rfl) ?_
            refine a_no 11 rfl rfl (za2 rfl rfl rfl rfl rfl) (by kernel_rfl) (fun _ _ _ h => h) ?_
            refine a_no 12 rfl rfl (za2 rfl rfl rfl rfl rfl) (by kernel_rfl) (fun _ _ _ h => h) ?_
            refine a_no 13 rfl rfl (za2 rfl rfl rfl rfl rfl) (by kernel_rfl) (fun _ _ _ h => h) ?_
            refine a_no 14 rfl rfl (za2 rfl rfl rfl rfl rfl) (by kernel_rfl) (fun _ _ _ h => h) ?_
            refine a_no 15 rfl rfl (za2 rfl rfl rfl rfl rfl) (by kernel_rfl) (fun _ _ _ h => h) ?_
            refine a_no 16 rfl rfl (za2 rfl rfl rfl rfl rfl) (by kernel_rfl) (fun _ _ _ h => h) ?_
            refine a_no 17 rfl rfl (za2 rfl rfl rfl rfl rfl) (by kernel_rfl) (fun _ _ _ h => h) ?_
            refine a_no 18 rfl rfl (za2 rfl rfl rfl rfl rfl) (by kernel_rfl) (fun _ _ _ h => h) ?_
            refine a_no 19 rfl rfl (za2 rfl rfl rfl rfl rfl) (by kernel_rfl) (fun _ _ _ h => h) ?_
            refine zab 20 rfl rfl rfl (by kernel_rfl) (fun _ _ _ h => h) (zao true rfl rfl) ?_
            refine a_done (by kernel_rfl) ?_
            refine za1 ?_
            refine c_true rfl ?_
            refine c_seq ?_
            refine za0 ?_
            refine o_q rfl rfl (q_asg rfl) ?_
            refine o_end ?_
            refine za1 ?_
            refine c_ret ?_
            refine zah ?_
            refine za5 ?_
            refine za5 ?_
            have e_ := Option.some.inj h; replace h := hR14; rw [← e_] at h; clear e_
            refine zah ?_
            refine za5 ?_
            have e0_ := Option.some.inj h; clear h
            subst e0_
            exact x_r1 () Tryd.results56 (zad rfl) rfl (fun w h => za7 [] (by decide) rfl w h)
          · replace h := br_f hb24 h
            refine a_purew 4 rfl rfl (za4 rfl rfl rfl (congrArg Value.bool hb24)) (by kernel_rfl) (fun _ _ _ h => h) (q_f F69_0 rfl) ?_
            refine a_takew 5 rfl rfl (za4 rfl rfl rfl (congrArg Value.bool hb24)) (by kernel_rfl) (fun _ _ _ h => h) (fun w h => h) (q_ldb Y3 rfl (fun w h => h.zaa (i := 0) rfl) rfl) ?_
            refine a_purew 6 rfl rfl (za4 rfl rfl rfl (congrArg Value.bool hb24)) (by kernel_rfl) (fun _ _ _ h => h) (q_f F69_1 rfl) ?_
            refine a_takew 7 rfl rfl (za4 rfl rfl rfl (congrArg Value.bool hb24)) (by kernel_rfl) (fun _ _ _ h => h) (fun w h => h) (q_ldb Y3 rfl (fun w h => h.zaa (i := 0) rfl) rfl) ?_
            refine a_purew 8 rfl rfl (za4 rfl rfl rfl (congrArg Value.bool hb24)) (by kernel_rfl) (fun _ _ _ h => h) (q_gtr rfl rfl) ?_
            refine zab 9 rfl rfl rfl (by kernel_rfl) (fun _ _ _ h => h) (zao false (congrArg Value.bool hb24) rfl) ?_
            refine zab 10 rfl rfl rfl (by kernel_rfl) (fun _ _ _ h => h) (za3 rfl) ?_
            refine byB (decide (y9.f1 < y9.f0)) (fun hb25 => ?_) (fun hb25 => ?_)
            · replace h := br_t hb25 h
              refine a_no 11 rfl rfl (za2 rfl rfl rfl (congrArg Value.bool hb25) rfl) (by kernel_rfl) (fun _ _ _ h => h) ?_
              refine a_no 12 rfl rfl (za2 rfl rfl rfl (congrArg Value.bool hb25) rfl) (by kernel_rfl) (fun _ _ _ h => h) ?_
              refine a_no 13 rfl rfl (za2 rfl rfl rfl (congrArg Value.bool hb25) rfl) (by kernel_rfl) (fun _ _ _ h => h) ?_
              refine a_no 14 rfl rfl (za2 rfl rfl rfl (congrArg Value.bool hb25) rfl) (by kernel_rfl) (fun _ _ _ h => h) ?_
              refine a_no 15 rfl rfl (za2 rfl rfl rfl (congrArg Value.bool hb25) rfl) (by kernel_rfl) (fun _ _ _ h => h) ?_
              refine a_no 16 rfl rfl (za2 rfl rfl rfl (congrArg Value.bool hb25) rfl) (by kernel_rfl) (fun _ _ _ h => h) ?_
              refine a_no 17 rfl rfl (za2 rfl rfl rfl (congrArg Value.bool hb25) rfl) (by kernel_rfl) (fun _ _ _ h => h) ?_
              refine a_no 18 rfl rfl (za2 rfl rfl rfl (congrArg Value.bool hb25) rfl) (by kernel_rfl) (fun _ _ _ h => h) ?_
              refine a_no 19 rfl rfl (za2 rfl rfl rfl (congrArg Value.bool hb25) rfl) (by kernel_rfl) (fun _ _ _ h => h) ?_
              refine zab 20 rfl rfl rfl (by kernel_rfl) (fun _ _ _ h => h) (zao true (congrArg Value.bool hb25) rfl) ?_
              refine a_done (by kernel_rfl) ?_
              refine za1 ?_
              refine c_true rfl ?_
              refine c_seq ?_
              refine za0 ?_
              refine o_q rfl rfl (q_asg rfl) ?_
              refine o_end ?_
              refine za1 ?_
              refine c_ret ?_
              refine zah ?_
              refine za5 ?_
              refine za5 ?_
              have e_ := Option.some.inj h; replace h := hR14; rw [← e_] at h; clear e_
              refine zah ?_
              refine za5 ?_
              have e0_ := Option.some.inj h; clear h
              subst e0_
              exact x_r1 () Tryd.results56 (zad rfl) rfl (fun w h => za7 [] (by decide) rfl w h)
            · replace h := br_f hb25 h
              refine a_purew 11 rfl rfl (za4 rfl rfl rfl (congrArg Value.bool hb25)) (by kernel_rfl) (fun _ _ _ h => h) (q_f F69_1 rfl) ?_
              refine a_takew 12 rfl rfl (za4 rfl rfl rfl (congrArg Value.bool hb25)) (by kernel_rfl) (fun _ _ _ h => h) (fun w h => h) (q_ldb Y3 rfl (fun w h => h.zaa (i := 0) rfl) rfl) ?_
              refine a_takew 13 rfl rfl (za4 rfl rfl rfl (congrArg Value.bool hb25)) (by kernel_rfl) (fun _ _ _ h => h) (fun w h => h) (q_ldb Y90 rfl (fun w h => h.zaa (i := 1) rfl) rfl) ?_
              refine a_purew 14 rfl rfl (za4 rfl rfl rfl (congrArg Value.bool hb25)) (by kernel_rfl) (fun _ _ _ h => h) (q_nil rfl) ?_
              refine a_purew 15 rfl rfl (za4 rfl rfl rfl (congrArg Value.bool hb25)) (by kernel_rfl) (fun _ _ _ h => h) (q_f F31_0 rfl) ?_
              refine a_takew 16 rfl rfl (za4 rfl rfl rfl (congrArg Value.bool hb25)) (by kernel_rfl) (fun _ _ _ h => h) (fun w h => h) (q_ldb Y3 rfl (fun w h => B0.now Z h) rfl) ?_
              refine a_purew 17 rfl rfl (za4 rfl rfl rfl (congrArg Value.bool hb25)) (by kernel_rfl) (fun _ _ _ h => h) (za3 rfl) ?_
              refine a_purew 18 rfl rfl (za4 rfl rfl rfl (congrArg Value.bool hb25)) (by kernel_rfl) (fun _ _ _ h => h) (q_add64 rfl rfl) ?_
              refine a_purew 19 rfl rfl (za4 rfl rfl rfl (congrArg Value.bool hb25)) (by kernel_rfl) (fun _ _ _ h => h) (q_geq rfl rfl) ?_
              refine zab 20 rfl rfl rfl (by kernel_rfl) (fun _ _ _ h => h) (zao false (congrArg Value.bool hb25) rfl) ?_
              refine a_done (by kernel_rfl) ?_
              refine za1 ?_
              refine zaq _ rfl (fun hb26 => ?_) (fun hb26 => ?_)
              · skip
                replace h := br_t hb26 h
                refine c_seq ?_
                refine za0 ?_
                refine o_q rfl rfl (q_asg rfl) ?_
                refine o_end ?_
                refine za1 ?_
                refine c_ret ?_
                refine zah ?_
                refine za5 ?_
                refine za5 ?_
                have e_ := Option.some.inj h; replace h := hR14; rw [← e_] at h; clear e_
                refine zah ?_
                refine za5 ?_
                have e0_ := Option.some.inj h; clear h
                subst e0_
                exact x_r1 () Tryd.results56 (zad rfl) rfl (fun w h => za7 [] (by decide) rfl w h)
              · skip
                replace h := br_f hb26 h
                refine zal ?_
                refine x_block ?_
                refine za1 ?_
                refine za0 ?_
                refine o_q rfl rfl (q_up rfl rfl (hr12.up hm13)) ?_
                refine o_q rfl rfl (za3 rfl) ?_
                refine o_end ?_
                refine zar ys10.length (ys10, i8 + 1) (by rw [← hk18]; exact Nat.lt_succ_self _) ⟨hr12.step, rfl, h⟩ ⟨rfl, trivial⟩ (fun w h => za7 [1] (by decide) rfl w h) ?_
                repeat (first | exact zae _ _ | refine zai rfl ?_ | refine zaf rfl ?_ | refine zaj rfl ?_)
  · replace h := bb_f hb5 h
    refine @o_n _ _ _ _ _ _ _ _ _ _ _ 12 (za2 rfl rfl rfl (congrArg (fun b => Value.bool (!(b))) hb5) rfl) (Eq.refl (some 12)) ?_
    refine @o_n _ _ _ _ _ _ _ _ _ _ _ 13 (za2 rfl rfl rfl (congrArg (fun b => Value.bool (!(b))) hb5) rfl) (Eq.refl (some 13)) ?_
    refine @o_n _ _ _ _ _ _ _ _ _ _ _ 14 (za2 rfl rfl rfl (congrArg (fun b => Value.bool (!(b))) hb5) rfl) (Eq.refl (some 14)) ?_
    refine @o_n _ _ _ _ _ _ _ _ _ _ _ 15 (za2 rfl rfl rfl (congrArg (fun b => Value.bool (!(b))) hb5) rfl) (Eq.refl (some 15)) ?_
    refine @o_n _ _ _ _ _ _ _ _ _ _ _ 16 (za2 rfl rfl rfl (congrArg (fun b => Value.bool (!(b))) hb5) rfl) (Eq.refl (some 16)) ?_
    refine @o_n _ _ _ _ _ _ _ _ _ _ _ 17 (za2 rfl rfl rfl (congrArg (fun b => Value.bool (!(b))) hb5) rfl) (Eq.refl (some 17)) ?_
    refine o_q rfl rfl (zao true (congrArg (fun b => Value.bool (!(b))) hb5) rfl) ?_
    refine o_q rfl rfl (za3 rfl) ?_
    refine @o_n _ _ _ _ _ _ _ _ _ _ _ 20 (za2 rfl rfl rfl rfl rfl) (Eq.refl (some 20)) ?_
    refine @o_n _ _ _ _ _ _ _ _ _ _ _ 21 (za2 rfl rfl rfl rfl rfl) (Eq.refl (some 21)) ?_
    refine @o_n _ _ _ _ _ _ _ _ _ _ _ 22 (za2 rfl rfl rfl rfl rfl) (Eq.refl (some 22)) ?_
    refine @o_n _ _ _ _ _ _ _ _ _ _ _ 23 (za2 rfl rfl rfl rfl rfl) (Eq.refl (some 23)) ?_
    refine @o_n _ _ _ _ _ _ _ _ _ _ _ 24 (za2 rfl rfl rfl rfl rfl) (Eq.refl (some 24)) ?_
    refine @o_n _ _ _ _ _ _ _ _ _ _ _ 25 (za2 rfl rfl rfl rfl rfl) (Eq.refl (some 25)) ?_
    refine o_q rfl rfl (zao true rfl rfl) ?_
    refine o_end ?_
    refine za1 ?_
    refine c_true rfl ?_
    refine c_seq ?_
    refine za0 ?_
    refine o_q rfl rfl (q_asg rfl) ?_
    refine o_end ?_
    refine za1 ?_
    refine c_ret ?_
    refine za5 ?_
    have e0_ := Option.some.inj h; clear h
    subst e0_
    exact x_r1 () Tryd.results56 (zad rfl) rfl (fun w h => za7 [] (by decide) rfl w h)

/-! ### (*loop.example/g01098/impl.Plan).exponents: function 58 -/
def impl_Plan_exponents.l2 (l20 : List (List Int)) (y25 : SStep) : (List Int) → (List Int) → Int → Option (List Int)
  | [], l45, i48 => some l45
  | y49 :: ys50, l45, i48 => (gt l20 y25.f1).bind fun y70 => (gt y70 i48).bind fun y74 => (ap l45 ([mn (w64 (y49 + y74)) 1000001] : List Int)).bind fun l78 => impl_Plan_exponents.l2 l20 y25 ys50 l78 (i48 + 1)
def impl_Plan_exponents.l1 : (List SStep) → (List (List Int)) → Int → Option (List (List Int))
  | [], l20, i24 => some l20
  | y25 :: ys26, l20, i24 => (gt l20 y25.f0).bind fun y43 => (impl_Plan_exponents.l2 l20 y25 y43 ([] : List Int) 0).bind fun l45 => (ap l20 ([l45] : List (List Int))).bind fun l63 => impl_Plan_exponents.l1 ys26 l63 (i24 + 1)
def impl_Plan_exponents.l0 (a0_0 : Int) : Nat → (List (List Int)) → Int → Option (List (List Int))
  | 0, l4, i8 => some l4
  | k11 + 1, l4, i8 => (mk0 a0_0 (0 : Int)).bind fun l82 => (gt l82 i8).bind fun y89 => (st l82 i8 1).bind fun l90 => (ap l4 ([l90] : List (List Int))).bind fun l96 => impl_Plan_exponents.l0 a0_0 k11 l96 (i8 + 1)
def impl_Plan_exponents.f (a0_0 : Int) (l0_1 : List SStep) (l0_2 : List Int) : Option (List (List Int)) := (bd a0_0).bind fun _ => (impl_Plan_exponents.l0 a0_0 ((a0_0).toNat) ([] : List (List Int)) 0).bind fun l4 => (impl_Plan_exponents.l1 l0_1 l4 0).bind fun l20 => some l20
set_option maxHeartbeats 600000 in
set_option maxRecDepth 100000 in
theorem impl_Plan_exponents.calls {w0 ws : World} {P0 : Nat → Prop} (g0 : Nat) (a0_0 : Int) (A0_1 : Option Addr) (c0_1 : Nat) (n0_1 : Nat) (l0_1 : List SStep) (A0_2 : Option Addr) (c0_2 : Nat) (n0_2 : Nat) (l0_2 : List Int) (Z : Below w0.heap.size w0 ws) (hF : Fr w0 ws P0 [] ws) (R0_1 : Stable ws P0 (fun w => Kd.C kStep w A0_1 n0_1 l0_1)) (hc0_1 : n0_1 ≤ c0_1) (R0_2 : Stable ws P0 (fun w => Kd.C (Kd.int .i64) w A0_2 n0_2 l0_2)) (hc0_2 : n0_2 ≤ c0_2) (B0 : Stable ws P0 (fun w => w.heap[g0]? = some (.cells #[.int .i64 a0_0, .slice A0_1 n0_1 c0_1, .slice A0_2 n0_2 c0_2] 31 (0, 0)))) (r_1 : List (List Int)) (h : impl_Plan_exponents.f a0_0 l0_1 l0_2 = some r_1) :
    Calls Tryd.prog 58 #[.pointer (some ⟨g0, 0, none⟩)] ws (Post1 w0 ws P0 (fun ((q_2, q_3, q_4) : (Option Addr) × Nat × Hd) => .slice q_2 r_1.length q_3) (fun ((q_2, q_3, q_4) : (Option Addr) × Nat × Hd) => [row (gk 3 (Kd.int .i64)) 23 (.slice q_2 r_1.length q_3) (zp q_4 r_1)])) := by
  unfold impl_Plan_exponents.f at h
  obtain rfl := (R0_1 ws (KeptB.refl _ _)).1
  obtain rfl := (R0_2 ws (KeptB.refl _ _)).1
  refine enter Tryd.func58 rfl Tryd.ntmps58 rfl hF ?_
  refine c_seq ?_
  refine za0 ?_
  refine o_q rfl rfl (q_asg rfl) ?_
  refine o_end ?_
  refine za1 ?_
  refine c_seq ?_
  refine za0 ?_
  refine o_e rfl (e_lit0 (gk 3 (Kd.int .i64)) Tryd.underlying78 I23) (cur2 (fun A1 c2 => ?_))
  refine o_q rfl rfl (q_asg rfl) ?_
  refine o_end ?_
  refine za1 ?_
  refine c_seq ?_
  refine c_seq ?_
  refine za0 ?_
  refine o_q rfl rfl (za3 rfl) ?_
  refine o_q rfl rfl (q_nil rfl) ?_
  refine o_q rfl rfl (q_f F31_0 rfl) ?_
  refine o_q rfl rfl (q_ldb Y3 rfl (fun w h => B0.now Z h) rfl) ?_
  refine o_q rfl rfl (za3 rfl) ?_
  refine o_end ?_
  refine za1 ?_
  refine zak ?_
  refine za6 h (fun _ hbd17 h => ?_) rfl
  refine za6 h (fun o16 hl15 hR14 => ?_) rfl
  clear h
  have hm13 : a0_0 ≤ 9223372036854775807 := bd_le hbd17
  refine c_loopL (σ := (List (List Int)) × Int × (Option Addr) × Nat × Hd) (fun k11 ((l4, i8, A5, c6, H7) : (List (List Int)) × Int × (Option Addr) × Nat × Hd) => Cn a0_0 i8 k11 ∧ impl_Plan_exponents.l0 a0_0 k11 l4 i8 = some o16) [3, 4, 5, 16, 17, 18, 19, 20, 21, 22, 23, 24, 25, 26, 27, 28, 29, 30, 31] (fun ((l4, i8, A5, c6, H7) : (List (List Int)) × Int × (Option Addr) × Nat × Hd) => [(3, .slice A5 l4.length c6), (16, .int .i64 i8)]) (fun ((l4, i8, A5, c6, H7) : (List (List Int)) × Int × (Option Addr) × Nat × Hd) => [row (gk 3 (Kd.int .i64)) 23 (.slice A5 l4.length c6) (zp H7 l4)]) (a0_0).toNat (([] : List (List Int)), 0, A1, c2, ([] : Hd)) ⟨Cn.start hm13, hl15⟩ ⟨rfl, rfl, trivial⟩ (fun w h => h) ?_
  refine natC (cur5 (fun l4 i8 A5 c6 H7 => fun U18 hJ_ => ?_)) (fun k11 => (cur5 (fun l4 i8 A5 c6 H7 => fun U18 hJ_ => ?_)))
  · skip
    clear hl15
    have hr12 := hJ_.1; have h := hJ_.2; clear hJ_
    replace h : impl_Plan_exponents.l0 a0_0 0 l4 i8 = some o16 := h
    rw [impl_Plan_exponents.l0] at h
    refine c_seq ?_
    refine za0 ?_
    refine o_q rfl rfl (q_lss rfl rfl) ?_
    refine o_end ?_
    refine za1 ?_
    refine c_seq ?_
    refine c_false (congrArg Value.bool hr12.ge) ?_
    refine c_exit ?_
    refine za8 ?_
    refine za8 ?_
    have e_ := Option.some.inj h; replace h := hR14; rw [← e_] at h; clear e_
    refine x_hit ?_
    refine za1 ?_
    refine c_seq ?_
    refine c_seq ?_
    refine za0 ?_
    refine o_q rfl rfl (za3 rfl) ?_
    refine o_q rfl rfl (q_nil rfl) ?_
    refine o_q rfl rfl (q_f F31_1 rfl) ?_
    refine o_q rfl rfl (q_ldb Y29 rfl (fun w h => B0.now Z h) rfl) ?_
    refine o_q rfl rfl (q_len Tryd.underlying29 rfl) ?_
    refine o_q rfl rfl (za3 rfl) ?_
    refine o_end ?_
    refine za1 ?_
    refine zak ?_
    refine za6 h (fun o32 hl31 hR30 => ?_) rfl
    clear h
    refine c_fact (p := l0_1.length ≤ 9223372036854775807) (fun w h => (R0_1.now Z h).2.1) (fun hm29 => ?_)
    refine c_loopL (σ := (List SStep) × (List (List Int)) × Int × (Option Addr) × Nat × Hd) (fun k27 ((ys26, l20, i24, A21, c22, H23) : (List SStep) × (List (List Int)) × Int × (Option Addr) × Nat × Hd) => Rg l0_1 i24 ys26 ∧ ys26.length = k27 ∧ impl_Plan_exponents.l1 ys26 l20 i24 = some o32) [3, 7, 8, 9, 10, 37, 38, 39, 40, 41, 42, 43, 44, 45, 46, 47, 48, 49, 50, 51, 52, 53, 54, 55, 56, 57, 58, 59, 60, 61, 62, 63, 64, 65, 66, 67, 68, 69, 70, 71, 72] (fun ((ys26, l20, i24, A21, c22, H23) : (List SStep) × (List (List Int)) × Int × (Option Addr) × Nat × Hd) => [(3, .slice A21 l20.length c22), (37, .int .i64 i24)]) (fun ((ys26, l20, i24, A21, c22, H23) : (List SStep) × (List (List Int)) × Int × (Option Addr) × Nat × Hd) => [row (gk 3 (Kd.int .i64)) 23 (.slice A21 l20.length c22) (zp H23 l20)]) l0_1.length (l0_1, l4, 0, A5, c6, H7) ⟨Rg.start _, rfl, hl31⟩ ⟨rfl, rfl, trivial⟩ (fun w h => h) ?_
    refine fun k27 => cur6 (listC (fun l20 i24 A21 c22 H23 U33 hJ_ => ?_) (fun y25 ys26 l20 i24 A21 c22 H23 U33 hJ_ => ?_))
    · skip
      clear hl31
      have hr28 := hJ_.1; have hk34 := hJ_.2.1; have h := hJ_.2.2; clear hJ_
      replace h : impl_Plan_exponents.l1 [] l20 i24 = some o32 := h
      rw [impl_Plan_exponents.l1] at h
      refine c_seq ?_
      refine za0 ?_
      refine o_q rfl rfl (q_lss rfl rfl) ?_
      refine o_end ?_
      refine za1 ?_
      refine c_seq ?_
      refine c_false (congrArg Value.bool hr28.ge) ?_
      refine c_exit ?_
      refine za8 ?_
      refine za8 ?_
      have e_ := Option.some.inj h; replace h := hR30; rw [← e_] at h; clear e_
      refine x_hit ?_
      refine za1 ?_
      refine c_seq ?_
      refine za0 ?_
      refine o_q rfl rfl (za3 rfl) ?_
      refine o_q rfl rfl (q_asg rfl) ?_
      refine o_end ?_
      refine za1 ?_
      refine c_ret ?_
      have e0_ := Option.some.inj h; clear h
      subst e0_
      exact x_r1 (A21, c22, H23) Tryd.results58 (zad rfl) rfl (fun w h => za7 [0] (by decide) rfl w h)
    · skip
      clear hl31
      have hr28 := hJ_.1; have hk34 := hJ_.2.1; have h := hJ_.2.2; clear hJ_
      replace h : impl_Plan_exponents.l1 (y25 :: ys26) l20 i24 = some o32 := h
      rw [impl_Plan_exponents.l1] at h
      refine c_seq ?_
      refine za0 ?_
      refine o_q rfl rfl (q_lss rfl rfl) ?_
      refine o_end ?_
      refine za1 ?_
      refine c_seq ?_
      refine c_true (congrArg Value.bool hr28.lt) ?_
      refine zal ?_
      refine za1 ?_
      refine c_seq ?_
      refine zak ?_
      refine c_seq ?_
      refine za0 ?_
      refine o_fact (p := Sh A0_1 l0_1.length l0_1.length) (fun w h => f_sh (dk := kStep) h (fun w h => R0_1.now Z h)) (fun hq35 => ?_)
      refine o_q rfl rfl (q_ix Tryd.underlying29 Z69 rfl rfl hq35 hr28.get) ?_
      refine o_q rfl rfl (q_ldE G69 Z69 rfl rfl (fun w h => R0_1.now Z h) hr28.get (fun _ _ h => h) rfl) ?_
      refine o_e rfl (zas V69 rfl) (fun g36 => ?_)
      refine o_e rfl (zan (i := 0) rfl rfl rfl Z69 rfl rfl) (fun _ => ?_)
      refine o_end ?_
      refine za1 ?_
      refine c_seq ?_
      refine za0 ?_
      refine o_e rfl (e_lit0 (Kd.int .i64) Tryd.underlying23 I3) (cur2 (fun A38 c39 => ?_))
      refine o_q rfl rfl (q_asg rfl) ?_
      refine o_end ?_
      refine za1 ?_
      refine c_seq ?_
      refine c_seq ?_
      refine za0 ?_
      refine o_q rfl rfl (za3 rfl) ?_
      refine o_q rfl rfl (q_f F69_0 rfl) ?_
      refine o_q rfl rfl (q_ldb Y3 rfl (fun w h => h.zaa (i := 1) rfl) rfl) ?_
      refine o_fact (p := Sh A21 l20.length (zp H23 l20).length) (fun w h => f_sh (dk := (gk 3 (Kd.int .i64))) h (fun w h => h.zat (i := 2) rfl)) (fun hq41 => ?_)
      refine za6 h (fun y43 hg42 h => ?_) rfl
      refine o_q rfl rfl (q_ix Tryd.underlying78 Z23 rfl rfl hq41 (gt_zp hg42)) ?_
      refine o_fact (p := y43.length ≤ hC H23 y25.f0) (fun w h => (K_in (h.zat (i := 2) rfl) hg42).1) (fun hc44 => ?_)
      refine o_q rfl rfl (q_lde (off := 0) Y23 rfl rfl (fun w h => h.zat (i := 2) rfl) (gt_zp hg42) (fun _ _ h => h.1) rfl) ?_
      refine o_q rfl rfl (q_len Tryd.underlying23 rfl) ?_
      refine o_q rfl rfl (za3 rfl) ?_
      refine o_end ?_
      refine za1 ?_
      refine zak ?_
      refine za6 h (fun o56 hl55 hR54 => ?_) rfl
      clear h
      refine c_fact (p := y43.length ≤ 9223372036854775807) (fun w h => (C_in (h.zat (i := 2) rfl) hg42).2.1) (fun hm53 => ?_)
      refine c_loopL (σ := (List Int) × (List Int) × Int × (Option Addr) × Nat) (fun k51 ((ys50, l45, i48, A46, c47) : (List Int) × (List Int) × Int × (Option Addr) × Nat) => Rg y43 i48 ys50 ∧ ys50.length = k51 ∧ impl_Plan_exponents.l2 l20 y25 ys50 l45 i48 = some o56) [8, 9, 10, 48, 49, 50, 51, 52, 53, 54, 55, 56, 57, 58, 59, 60, 61, 62, 63, 64, 65, 66, 67] (fun ((ys50, l45, i48, A46, c47) : (List Int) × (List Int) × Int × (Option Addr) × Nat) => [(8, .slice A46 l45.length c47), (48, .int .i64 i48)]) (fun ((ys50, l45, i48, A46, c47) : (List Int) × (List Int) × Int × (Option Addr) × Nat) => [row (Kd.int .i64) 3 (.slice A46 l45.length c47) l45, box g36 69 #[.int .i64 y25.f0, .int .i64 y25.f1], row (gk 3 (Kd.int .i64)) 23 (.slice A21 l20.length c22) (zp H23 l20)]) y43.length (y43, ([] : List Int), 0, A38, c39) ⟨Rg.start _, rfl, hl55⟩ ⟨rfl, rfl, trivial⟩ (fun w h => h) ?_
      refine fun k51 => cur5 (listC (fun l45 i48 A46 c47 U57 hJ_ => ?_) (fun y49 ys50 l45 i48 A46 c47 U57 hJ_ => ?_))
      · skip
        clear hl55
        have hr52 := hJ_.1; have hk58 := hJ_.2.1; have h := hJ_.2.2; clear hJ_
        replace h : impl_Plan_exponents.l2 l20 y25 [] l45 i48 = some o56 := h
        rw [impl_Plan_exponents.l2] at h
        refine c_seq ?_
        refine za0 ?_
        refine o_q rfl rfl (q_lss rfl rfl) ?_
        refine o_end ?_
        refine za1 ?_
        refine c_seq ?_
        refine c_false (congrArg Value.bool hr52.ge) ?_
        refine c_exit ?_
        refine za8 ?_
        refine za8 ?_
        have e_ := Option.some.inj h; replace h := hR54; rw [← e_] at h; clear e_
        refine x_hit ?_
        refine za1 ?_
        refine za0 ?_
        refine o_q rfl rfl (za3 rfl) ?_
        refine o_q rfl rfl (za3 rfl) ?_
        refine o_e rfl (e_litG (j := 0) (ue := 3) (dk := (Kd.int .i64)) (ys := l45) Tryd.underlying78 I23 rfl rfl rfl) (cur3 (fun A59 c60 H62 => ?_))
        refine za6 h (fun l63 ha64 h => ?_) rfl
        refine o_e rfl (e_appG (i := 3) (j := 0) Tryd.underlying78 I23 rfl (by decide) rfl rfl rfl rfl rfl ha64) (cur3 (fun A65 c66 H67 => ?_))
        refine o_q rfl rfl (q_asg rfl) ?_
        refine o_end ?_
        refine x_block ?_
        refine za1 ?_
        refine za0 ?_
        refine o_q rfl rfl (q_up rfl rfl (hr28.up hm29)) ?_
        refine o_q rfl rfl (za3 rfl) ?_
        refine o_end ?_
        refine zar ys26.length (ys26, l63, i24 + 1, A65, c66, H67) (by rw [← hk34]; exact Nat.lt_succ_self _) ⟨hr28.step, rfl, h⟩ ⟨rfl, rfl, trivial⟩ (fun w h => za7 [3] (by decide) rfl w h) ?_
        repeat (first | exact zae _ _ | refine zai rfl ?_ | refine zaf rfl ?_ | refine zaj rfl ?_)
      · skip
        clear hl55
        have hr52 := hJ_.1; have hk58 := hJ_.2.1; have h := hJ_.2.2; clear hJ_
        replace h : impl_Plan_exponents.l2 l20 y25 (y49 :: ys50) l45 i48 = some o56 := h
        rw [impl_Plan_exponents.l2] at h
        refine c_seq ?_
        refine za0 ?_
        refine o_q rfl rfl (q_lss rfl rfl) ?_
        refine o_end ?_
        refine za1 ?_
        refine c_seq ?_
        refine c_true (congrArg Value.bool hr52.lt) ?_
        refine zal ?_
        refine za1 ?_
        refine c_seq ?_
        refine zak ?_
        refine c_seq ?_
        refine za0 ?_
        refine o_q rfl rfl (za3 rfl) ?_
        refine o_fact (p := Sh (hA H23 y25.f0) y43.length y43.length) (fun w h => f_sh (dk := (Kd.int .i64)) h (fun w h => C_in (h.zat (i := 2) rfl) hg42)) (fun hq68 => ?_)
        refine o_q rfl rfl (q_ix Tryd.underlying23 Z3 rfl rfl hq68 hr52.get) ?_
        refine o_q rfl rfl (q_lde (off := 0) Y3 rfl rfl (fun w h => C_in (h.zat (i := 2) rfl) hg42) hr52.get (fun _ _ h => h) rfl) ?_
        refine o_q rfl rfl (q_asg rfl) ?_
        refine o_q rfl rfl (q_asg rfl) ?_
        refine o_end ?_
        refine za1 ?_
        refine za0 ?_
        refine o_q rfl rfl (za3 rfl) ?_
        refine o_q rfl rfl (za3 rfl) ?_
        refine o_q rfl rfl (za3 rfl) ?_
        refine o_q rfl rfl (q_f F69_1 rfl) ?_
        refine o_q rfl rfl (q_ldb Y3 rfl (fun w h => h.zaa (i := 1) rfl) rfl) ?_
        refine za6 h (fun y70 hg69 h => ?_) rfl
        refine o_q rfl rfl (q_ix Tryd.underlying78 Z23 rfl rfl hq41 (gt_zp hg69)) ?_
        refine o_fact (p := y70.length ≤ hC H23 y25.f1) (fun w h => (K_in (h.zat (i := 2) rfl) hg69).1) (fun hc71 => ?_)
        refine o_q rfl rfl (q_lde (off := 0) Y23 rfl rfl (fun w h => h.zat (i := 2) rfl) (gt_zp hg69) (fun _ _ h => h.1) rfl) ?_
        refine o_q rfl rfl (za3 rfl) ?_
        refine o_fact (p := Sh (hA H23 y25.f1) y70.length y70.length) (fun w h => f_sh (dk := (Kd.int .i64)) h (fun w h => C_in (h.zat (i := 2) rfl) hg69)) (fun hq72 => ?_)
        refine za6 h (fun y74 hg73 h => ?_) rfl
        refine o_q rfl rfl (q_ix Tryd.underlying23 Z3 rfl rfl hq72 hg73) ?_
        refine o_q rfl rfl (q_lde (off := 0) Y3 rfl rfl (fun w h => C_in (h.zat (i := 2) rfl) hg69) hg73 (fun _ _ h => h) rfl) ?_
        refine o_q rfl rfl (q_add64 rfl rfl) ?_
        refine o_q rfl rfl (q_min rfl rfl) ?_
        refine o_e rfl (e_lit (vs := [(0, .int .i64 (mn (w64 (y49 + y74)) 1000001))]) (cs := [.int .i64 (mn (w64 (y49 + y74)) 1000001)]) (Kd.int .i64) ([mn (w64 (y49 + y74)) 1000001] : List Int) Tryd.underlying23 I3 (by decide) rfl (by decide) rfl rfl (fun _ _ => Kd.zau _)) (cur2 (fun A75 c76 => ?_))
        refine za6 h (fun l78 ha79 h => ?_) rfl
        refine o_e rfl (e_app (i := 1) (j := 0) Tryd.underlying23 I3 rfl (by decide) (by decide) rfl rfl rfl rfl rfl ha79) (cur2 (fun A80 c81 => ?_))
        refine o_q rfl rfl (q_asg rfl) ?_
        refine o_end ?_
        refine x_block ?_
        refine za1 ?_
        refine za0 ?_
        refine o_q rfl rfl (q_up rfl rfl (hr52.up hm53)) ?_
        refine o_q rfl rfl (za3 rfl) ?_
        refine o_end ?_
        refine zar ys50.length (ys50, l78, i48 + 1, A80, c81) (by rw [← hk58]; exact Nat.lt_succ_self _) ⟨hr52.step, rfl, h⟩ ⟨rfl, rfl, trivial⟩ (fun w h => za7 [1, 2, 3] (by decide) rfl w h) ?_
        repeat (first | exact zae _ _ | refine zai rfl ?_ | refine zaf rfl ?_ | refine zaj rfl ?_)
  · skip
    clear hl15
    have hr12 := hJ_.1; have h := hJ_.2; clear hJ_
    replace h : impl_Plan_exponents.l0 a0_0 (k11 + 1) l4 i8 = some o16 := h
    rw [impl_Plan_exponents.l0] at h
    refine c_seq ?_
    refine za0 ?_
    refine o_q rfl rfl (q_lss rfl rfl) ?_
    refine o_end ?_
    refine za1 ?_
    refine c_seq ?_
    refine c_true (congrArg Value.bool hr12.lt) ?_
    refine zal ?_
    refine za1 ?_
    refine c_seq ?_
    refine zak ?_
    refine c_seq ?_
    refine za0 ?_
    refine o_q rfl rfl (za3 rfl) ?_
    refine o_q rfl rfl (q_asg rfl) ?_
    refine o_end ?_
    refine za1 ?_
    refine c_seq ?_
    refine za0 ?_
    refine o_q rfl rfl (za3 rfl) ?_
    refine o_q rfl rfl (q_nil rfl) ?_
    refine o_q rfl rfl (q_f F31_0 rfl) ?_
    refine o_q rfl rfl (q_ldb Y3 rfl (fun w h => B0.now Z h) rfl) ?_
    refine za6 h (fun l82 hm83 h => ?_) rfl
    refine o_e rfl (e_make (Kd.int .i64) (0 : Int) Tryd.underlying23 I3 rfl (by decide) (by decide) (fun _ _ => rfl) rfl rfl hm83) (cur2 (fun A84 c85 => ?_))
    refine o_q rfl rfl (q_asg rfl) ?_
    refine o_end ?_
    refine za1 ?_
    refine c_seq ?_
    refine za0 ?_
    refine o_q rfl rfl (za3 rfl) ?_
    refine o_q rfl rfl (za3 rfl) ?_
    refine o_fact (p := Sh A84 l82.length l82.length) (fun w h => f_sh (dk := (Kd.int .i64)) h (fun w h => h.zat (i := 0) rfl)) (fun hq87 => ?_)
    refine za6 h (fun y89 hg88 h => ?_) rfl
    refine o_q rfl rfl (q_ix Tryd.underlying23 Z3 rfl rfl hq87 hg88) ?_
    refine za6 h (fun l90 hs91 h => ?_) rfl
    refine o_e rfl (e_set (i := 0) rfl rfl rfl Z3 hs91) (fun _ => ?_)
    refine o_end ?_
    refine za1 ?_
    refine za0 ?_
    refine o_q rfl rfl (za3 rfl) ?_
    refine o_q rfl rfl (za3 rfl) ?_
    refine o_e rfl (e_litG (j := 0) (ue := 3) (dk := (Kd.int .i64)) (ys := l90) Tryd.underlying78 I23 rfl rfl rfl) (cur3 (fun A92 c93 H95 => ?_))
    refine za6 h (fun l96 ha97 h => ?_) rfl
    refine o_e rfl (e_appG (i := 2) (j := 0) Tryd.underlying78 I23 rfl (by decide) rfl rfl rfl rfl rfl ha97) (cur3 (fun A98 c99 H100 => ?_))
    refine o_q rfl rfl (q_asg rfl) ?_
    refine o_end ?_
    refine x_block ?_
    refine za1 ?_
    refine za0 ?_
    refine o_q rfl rfl (q_up rfl rfl hr12.up) ?_
    refine o_q rfl rfl (za3 rfl) ?_
    refine o_end ?_
    refine zar k11 (l96, i8 + 1, A98, c99, H100) (Nat.lt_succ_self _) ⟨hr12.step, h⟩ ⟨rfl, rfl, trivial⟩ (fun w h => za7 [2] (by decide) rfl w h) ?_
    repeat (first | exact zae _ _ | refine zai rfl ?_ | refine zaf rfl ?_ | refine zaj rfl ?_)

/-! ### slices.Max[[]int,int]: function 60 -/
def slices_Max_int_int.l0 (l0 : List Int) : Nat → Int → Int → Option Int
  | 0, _, _ => none
  | k9 + 1, i5, i6 => if i6 < (l0.length : Int) then ((gt l0 i6).bind fun y19 => slices_Max_int_int.l0 l0 k9 (mx i5 y19) (w64 (i6 + 1))) else (some i5)
def slices_Max_int_int.f (k : Nat) (l0 : List Int) : Option Int := if (l0.length : Int) < 1 then (none) else ((gt l0 0).bind fun y4 => (slices_Max_int_int.l0 l0 k y4 1).bind fun i5 => some i5)
set_option maxHeartbeats 600000 in
set_option maxRecDepth 100000 in
theorem slices_Max_int_int.calls (k : Nat) {w0 ws : World} {P0 : Nat → Prop} (A0 : Option Addr) (c0 : Nat) (n0 : Nat) (l0 : List Int) (Z : Below w0.heap.size w0 ws) (hF : Fr w0 ws P0 [] ws) (R0 : Stable ws P0 (fun w => Kd.C (Kd.int .i64) w A0 n0 l0)) (hc0 : n0 ≤ c0) (r_1 : Int) (h : slices_Max_int_int.f k l0 = some r_1) :
    Calls Tryd.prog 60 #[.slice A0 n0 c0] ws (Post1 w0 ws P0 (fun (_ : Unit) => .int .i64 r_1) (fun (_ : Unit) => [])) := by
  unfold slices_Max_int_int.f at h
  obtain rfl := (R0 ws (KeptB.refl _ _)).1
  refine enter Tryd.func60 rfl Tryd.ntmps60 rfl hF ?_
  refine c_seq ?_
  refine za0 ?_
  refine o_q rfl rfl (q_asg rfl) ?_
  refine o_end ?_
  refine za1 ?_
  refine c_seq ?_
  refine c_seq ?_
  refine za0 ?_
  refine o_q rfl rfl (za3 rfl) ?_
  refine o_q rfl rfl (q_len Tryd.underlying23 rfl) ?_
  refine o_q rfl rfl (q_lss rfl rfl) ?_
  refine o_end ?_
  refine za1 ?_
  refine zaq _ rfl (fun hb1 => ?_) (fun hb1 => ?_)
  · skip
    replace h := br_t hb1 h
    refine za0 ?_
    exact noneE h
  · skip
    replace h := br_f hb1 h
    refine zal ?_
    refine za1 ?_
    refine c_seq ?_
    refine za0 ?_
    refine o_q rfl rfl (za3 rfl) ?_
    refine o_fact (p := Sh A0 l0.length l0.length) (fun w h => f_sh (dk := (Kd.int .i64)) h (fun w h => R0.now Z h)) (fun hq2 => ?_)
    refine za6 h (fun y4 hg3 h => ?_) rfl
    refine o_q rfl rfl (q_ix Tryd.underlying23 Z3 rfl rfl hq2 hg3) ?_
    refine o_q rfl rfl (q_lde (off := 0) Y3 rfl rfl (fun w h => R0.now Z h) hg3 (fun _ _ h => h) rfl) ?_
    refine o_q rfl rfl (q_asg rfl) ?_
    refine o_end ?_
    refine za1 ?_
    refine c_seq ?_
    refine c_seq ?_
    refine za0 ?_
    refine o_q rfl rfl (q_asg rfl) ?_
    refine o_end ?_
    refine za1 ?_
    refine zak ?_
    refine za6 h (fun o14 hl13 hR12 => ?_) rfl
    clear h
    refine c_loopL (σ := Int × Int) (fun k9 ((i5, i6) : Int × Int) => slices_Max_int_int.l0 l0 k9 i5 i6 = some o14) [3, 4, 12, 13, 14, 15, 16, 17, 18, 19, 20, 21, 22, 23] (fun ((i5, i6) : Int × Int) => [(3, .int .i64 i5), (4, .int .i64 i6)]) (fun ((i5, i6) : Int × Int) => []) k (y4, 1) hl13 ⟨rfl, rfl, trivial⟩ (fun w h => h) ?_
    refine natC (cur2 (fun i5 i6 => fun U15 hJ_ => ?_)) (fun k9 => (cur2 (fun i5 i6 => fun U15 hJ_ => ?_)))
    · skip
      replace hJ_ : slices_Max_int_int.l0 l0 0 i5 i6 = some o14 := hJ_
      rw [slices_Max_int_int.l0] at hJ_
      exact noneE hJ_
    · skip
      clear hl13
      have h := hJ_; clear hJ_
      replace h : slices_Max_int_int.l0 l0 (k9 + 1) i5 i6 = some o14 := h
      rw [slices_Max_int_int.l0] at h
      refine c_seq ?_
      refine c_seq ?_
      refine za0 ?_
      refine o_q rfl rfl (za3 rfl) ?_
      refine o_q rfl rfl (za3 rfl) ?_
      refine o_q rfl rfl (q_len Tryd.underlying23 rfl) ?_
      refine o_q rfl rfl (q_lss rfl rfl) ?_
      refine o_end ?_
      refine za1 ?_
      refine zaq _ rfl (fun hb17 => ?_) (fun hb17 => ?_)
      · skip
        replace h := br_t hb17 h
        refine zal ?_
        refine za1 ?_
        refine c_seq ?_
        refine zak ?_
        refine za0 ?_
        refine o_q rfl rfl (za3 rfl) ?_
        refine o_q rfl rfl (za3 rfl) ?_
        refine o_q rfl rfl (za3 rfl) ?_
        refine za6 h (fun y19 hg18 h => ?_) rfl
        refine o_q rfl rfl (q_ix Tryd.underlying23 Z3 rfl rfl hq2 hg18) ?_
        refine o_q rfl rfl (q_lde (off := 0) Y3 rfl rfl (fun w h => R0.now Z h) hg18 (fun _ _ h => h) rfl) ?_
        refine o_q rfl rfl (q_max rfl rfl) ?_
        refine o_q rfl rfl (q_asg rfl) ?_
        refine o_end ?_
        refine x_block ?_
        refine za1 ?_
        refine za0 ?_
        refine o_q rfl rfl (za3 rfl) ?_
        refine o_q rfl rfl (q_add64 rfl rfl) ?_
        refine o_q rfl rfl (q_asg rfl) ?_
        refine o_end ?_
        refine zar k9 (mx i5 y19, w64 (i6 + 1)) (Nat.lt_succ_self _) h ⟨rfl, rfl, trivial⟩ (fun w h => za7 [] (by decide) rfl w h) ?_
        repeat (first | exact zae _ _ | refine zai rfl ?_ | refine zaf rfl ?_ | refine zaj rfl ?_)
      · skip
        replace h := br_f hb17 h
        refine c_exit ?_
        refine za8 ?_
        refine za8 ?_
        have e_ := Option.some.inj h; replace h := hR12; rw [← e_] at h; clear e_
        refine x_hit ?_
        refine za1 ?_
        refine c_seq ?_
        refine za0 ?_
        refine o_q rfl rfl (za3 rfl) ?_
        refine o_q rfl rfl (q_asg rfl) ?_
        refine o_end ?_
        refine za1 ?_
        refine c_ret ?_
        have e0_ := Option.some.inj h; clear h
        subst e0_
        exact x_r1 () Tryd.results60 (zad rfl) rfl (fun w h => za7 [] (by decide) rfl w h)

/-! ### loop.example/g01098/impl.IsPlan$1: function 59 -/
def impl_IsPlan_1.f (k : Nat) (l0 : List Int) : Option Bool := (slices_Max_int_int.f k l0).bind fun i2 => some (decide (1000000 < i2))
set_option maxHeartbeats 600000 in
set_option maxRecDepth 100000 in
theorem impl_IsPlan_1.calls (k : Nat) {w0 ws : World} {P0 : Nat → Prop} (A0 : Option Addr) (c0 : Nat) (n0 : Nat) (l0 : List Int) (Z : Below w0.heap.size w0 ws) (hF : Fr w0 ws P0 [] ws) (R0 : Stable ws P0 (fun w => Kd.C (Kd.int .i64) w A0 n0 l0)) (hc0 : n0 ≤ c0) (r_1 : Bool) (h : impl_IsPlan_1.f k l0 = some r_1) :
    Calls Tryd.prog 59 #[.slice A0 n0 c0] ws (Post1 w0 ws P0 (fun (_ : Unit) => .bool r_1) (fun (_ : Unit) => [])) := by
  unfold impl_IsPlan_1.f at h
  obtain rfl := (R0 ws (KeptB.refl _ _)).1
  refine enter Tryd.func59 rfl Tryd.ntmps59 rfl hF ?_
  refine c_seq ?_
  refine za0 ?_
  refine o_q rfl rfl (q_asg rfl) ?_
  refine o_end ?_
  refine za1 ?_
  refine c_seq ?_
  refine za0 ?_
  refine o_q rfl rfl (za3 rfl) ?_
  refine za6 h (fun i2 hx1 h => ?_) rfl
  refine o_e rfl (zac 0 Z Tryd.func60 N60 rfl rfl rfl (fun w P1 hF hB hS hT => slices_Max_int_int.calls k A0 c0 l0.length l0 hB hF (hS _ R0) hc0 _ hx1)) (fun _ => ?_)
  refine o_q rfl rfl (q_gtr rfl rfl) ?_
  refine o_q rfl rfl (q_asg rfl) ?_
  refine o_end ?_
  refine za1 ?_
  refine c_ret ?_
  have e0_ := Option.some.inj h; clear h
  subst e0_
  exact x_r1 () Tryd.results59 (zad rfl) rfl (fun w h => za7 [] (by decide) rfl w h)

/-! ### slices.IndexFunc[[][]int,[]int]: function 79 -/
def slices_IndexFunc_int_int_2.l0 (k : Nat) : (List (List Int)) → Int → Option ((Int) ⊕ (Unit))
  | [], i1 => some (.inr ())
  | y2 :: ys3, i1 => (impl_IsPlan_1.f k y2).bind fun b15 => if b15 = true then (some (.inl i1)) else (slices_IndexFunc_int_int_2.l0 k ys3 (i1 + 1))
def slices_IndexFunc_int_int_2.f (k : Nat) (l0 : List (List Int)) : Option Int := (slices_IndexFunc_int_int_2.l0 k l0 0).bind fun o_ => match o_ with | .inl r_ => some r_ | .inr _ => some (-1)
set_option maxHeartbeats 600000 in
set_option maxRecDepth 100000 in
theorem slices_IndexFunc_int_int_2.calls (k : Nat) {w0 ws : World} {P0 : Nat → Prop} (A0 : Option Addr) (c0 : Nat) (n0 : Nat) (H0 : Hd) (l0 : List (List Int)) (Z : Below w0.heap.size w0 ws) (hF : Fr w0 ws P0 [] ws) (R0 : Stable ws P0 (fun w => Kd.C (gk 3 (Kd.int .i64)) w A0 n0 (zp H0 l0))) (hc0 : n0 ≤ c0) (r_1 : Int) (h : slices_IndexFunc_int_int_2.f k l0 = some r_1) :
    Calls Tryd.prog 79 #[.slice A0 n0 c0, .func (.func 59) #[] #[]] ws (Post1 w0 ws P0 (fun (_ : Unit) => .int .i64 r_1) (fun (_ : Unit) => [])) := by
  unfold slices_IndexFunc_int_int_2.f at h
  obtain rfl := (zp_len _ _).symm.trans (R0 ws (KeptB.refl _ _)).1
  refine enter Tryd.func79 rfl Tryd.ntmps79 rfl hF ?_
  refine c_seq ?_
  refine za0 ?_
  refine o_q rfl rfl (q_asg rfl) ?_
  refine o_end ?_
  refine za1 ?_
  refine c_seq ?_
  refine c_seq ?_
  refine za0 ?_
  refine o_q rfl rfl (za3 rfl) ?_
  refine o_q rfl rfl (q_len Tryd.underlying78 rfl) ?_
  refine o_q rfl rfl (za3 rfl) ?_
  refine o_end ?_
  refine za1 ?_
  refine zak ?_
  refine za6 h (fun o9 hl8 hR7 => ?_) rfl
  clear h
  refine c_fact (p := l0.length ≤ 9223372036854775807) (fun w h => (R0.now Z h).2.1) (fun hm6 => ?_)
  refine c_loopL (σ := (List (List Int)) × Int) (fun k4 ((ys3, i1) : (List (List Int)) × Int) => Rg l0 i1 ys3 ∧ ys3.length = k4 ∧ slices_IndexFunc_int_int_2.l0 k ys3 i1 = some o9) [4, 5, 8, 9, 10, 11, 12, 13, 14, 15, 16, 17, 18] (fun ((ys3, i1) : (List (List Int)) × Int) => [(8, .int .i64 i1)]) (fun ((ys3, i1) : (List (List Int)) × Int) => []) l0.length (l0, 0) ⟨Rg.start _, rfl, hl8⟩ ⟨rfl, trivial⟩ (fun w h => h) ?_
  refine fun k4 => cur2 (listC (fun i1 U10 hJ_ => ?_) (fun y2 ys3 i1 U10 hJ_ => ?_))
  · skip
    clear hl8
    have hr5 := hJ_.1; have hk11 := hJ_.2.1; have h := hJ_.2.2; clear hJ_
    replace h : slices_IndexFunc_int_int_2.l0 k [] i1 = some o9 := h
    rw [slices_IndexFunc_int_int_2.l0] at h
    refine c_seq ?_
    refine za0 ?_
    refine o_q rfl rfl (q_lss rfl rfl) ?_
    refine o_end ?_
    refine za1 ?_
    refine c_seq ?_
    refine c_false (congrArg Value.bool hr5.ge) ?_
    refine c_exit ?_
    refine za8 ?_
    refine za8 ?_
    have e_ := Option.some.inj h; replace h := hR7; rw [← e_] at h; clear e_
    refine x_hit ?_
    refine za1 ?_
    refine c_seq ?_
    refine za0 ?_
    refine o_q rfl rfl (q_asg rfl) ?_
    refine o_end ?_
    refine za1 ?_
    refine c_ret ?_
    have e0_ := Option.some.inj h; clear h
    subst e0_
    exact x_r1 () Tryd.results79 (zad rfl) rfl (fun w h => za7 [] (by decide) rfl w h)
  · skip
    clear hl8
    have hr5 := hJ_.1; have hk11 := hJ_.2.1; have h := hJ_.2.2; clear hJ_
    replace h : slices_IndexFunc_int_int_2.l0 k (y2 :: ys3) i1 = some o9 := h
    rw [slices_IndexFunc_int_int_2.l0] at h
    refine c_seq ?_
    refine za0 ?_
    refine o_q rfl rfl (q_lss rfl rfl) ?_
    refine o_end ?_
    refine za1 ?_
    refine c_seq ?_
    refine c_true (congrArg Value.bool hr5.lt) ?_
    refine zal ?_
    refine za1 ?_
    refine c_seq ?_
    refine zak ?_
    refine c_seq ?_
    refine za0 ?_
    refine o_q rfl rfl (za3 rfl) ?_
    refine o_q rfl rfl (q_asg rfl) ?_
    refine o_end ?_
    refine za1 ?_
    refine c_seq ?_
    refine za0 ?_
    refine o_q rfl rfl (za3 rfl) ?_
    refine o_q rfl rfl (za3 rfl) ?_
    refine o_q rfl rfl (za3 rfl) ?_
    refine o_fact (p := Sh A0 l0.length (zp H0 l0).length) (fun w h => f_sh (dk := (gk 3 (Kd.int .i64))) h (fun w h => R0.now Z h)) (fun hq12 => ?_)
    refine o_q rfl rfl (q_ix Tryd.underlying78 Z23 rfl rfl hq12 (gt_zp hr5.get)) ?_
    refine o_fact (p := y2.length ≤ hC H0 i1) (fun w h => (K_in (R0.now Z h) hr5.get).1) (fun hc13 => ?_)
    refine o_q rfl rfl (q_lde (off := 0) Y23 rfl rfl (fun w h => R0.now Z h) (gt_zp hr5.get) (fun _ _ h => h.1) rfl) ?_
    refine za6 h (fun b15 hx14 h => ?_) rfl
    refine o_e rfl (zac 0 Z Tryd.func59 N59 rfl rfl rfl (fun w P1 hF hB hS hT => impl_IsPlan_1.calls k (hA H0 i1) (hC H0 i1) y2.length y2 hB hF (stab_in (hS _ R0) hr5.get) hc13 _ hx14)) (fun _ => ?_)
    refine o_end ?_
    refine za1 ?_
    refine zaq _ rfl (fun hb16 => ?_) (fun hb16 => ?_)
    · skip
      replace h := bb_t hb16 h
      refine c_seq ?_
      refine za0 ?_
      refine o_q rfl rfl (za3 rfl) ?_
      refine o_q rfl rfl (q_asg rfl) ?_
      refine o_end ?_
      refine za1 ?_
      refine c_ret ?_
      refine zah ?_
      refine za5 ?_
      refine za5 ?_
      have e_ := Option.some.inj h; replace h := hR7; rw [← e_] at h; clear e_
      refine zah ?_
      refine za5 ?_
      have e0_ := Option.some.inj h; clear h
      subst e0_
      exact x_r1 () Tryd.results79 (zad rfl) rfl (fun w h => za7 [] (by decide) rfl w h)
    · skip
      replace h := bb_f hb16 h
      refine zal ?_
      refine x_block ?_
      refine za1 ?_
      refine za0 ?_
      refine o_q rfl rfl (q_up rfl rfl (hr5.up hm6)) ?_
      refine o_q rfl rfl (za3 rfl) ?_
      refine o_end ?_
      refine zar ys3.length (ys3, i1 + 1) (by rw [← hk11]; exact Nat.lt_succ_self _) ⟨hr5.step, rfl, h⟩ ⟨rfl, trivial⟩ (fun w h => za7 [] (by decide) rfl w h) ?_
      repeat (first | exact zae _ _ | refine zai rfl ?_ | refine zaf rfl ?_ | refine zaj rfl ?_)

/-! ### slices.ContainsFunc[[][]int,[]int]: function 57 -/
def slices_ContainsFunc_int_int_2.f (k : Nat) (l0 : List (List Int)) : Option Bool := (slices_IndexFunc_int_int_2.f k l0).bind fun i2 => some (decide (0 ≤ i2))
set_option maxHeartbeats 600000 in
set_option maxRecDepth 100000 in
theorem slices_ContainsFunc_int_int_2.calls (k : Nat) {w0 ws : World} {P0 : Nat → Prop} (A0 : Option Addr) (c0 : Nat) (n0 : Nat) (H0 : Hd) (l0 : List (List Int)) (Z : Below w0.heap.size w0 ws) (hF : Fr w0 ws P0 [] ws) (R0 : Stable ws P0 (fun w => Kd.C (gk 3 (Kd.int .i64)) w A0 n0 (zp H0 l0))) (hc0 : n0 ≤ c0) (r_1 : Bool) (h : slices_ContainsFunc_int_int_2.f k l0 = some r_1) :
    Calls Tryd.prog 57 #[.slice A0 n0 c0, .func (.func 59) #[] #[]] ws (Post1 w0 ws P0 (fun (_ : Unit) => .bool r_1) (fun (_ : Unit) => [])) := by
  unfold slices_ContainsFunc_int_int_2.f at h
  obtain rfl := (zp_len _ _).symm.trans (R0 ws (KeptB.refl _ _)).1
  refine enter Tryd.func57 rfl Tryd.ntmps57 rfl hF ?_
  refine c_seq ?_
  refine za0 ?_
  refine o_q rfl rfl (q_asg rfl) ?_
  refine o_end ?_
  refine za1 ?_
  refine c_seq ?_
  refine za0 ?_
  refine o_q rfl rfl (za3 rfl) ?_
  refine o_q rfl rfl (za3 rfl) ?_
  refine za6 h (fun i2 hx1 h => ?_) rfl
  refine o_e rfl (zac 0 Z Tryd.func79 N79 rfl rfl rfl (fun w P1 hF hB hS hT => slices_IndexFunc_int_int_2.calls k A0 c0 l0.length H0 l0 hB hF (hS _ R0) hc0 _ hx1)) (fun _ => ?_)
  refine o_q rfl rfl (q_geq rfl rfl) ?_
  refine o_q rfl rfl (q_asg rfl) ?_
  refine o_end ?_
  refine za1 ?_
  refine c_ret ?_
  have e0_ := Option.some.inj h; clear h
  subst e0_
  exact x_r1 () Tryd.results57 (zad rfl) rfl (fun w h => za7 [] (by decide) rfl w h)

/-! ### loop.example/g01098/impl.IsPlan: function 26 -/
def impl_IsPlan.f (k : Nat) (a0_0 : Int) (l0_1 : List SStep) (l0_2 : List Int) : Option Bool := (impl_Plan_formed.f a0_0 l0_1 l0_2).bind fun b4 => if b4 = true then ((impl_Plan_exponents.f a0_0 l0_1 l0_2).bind fun l7 => (slices_ContainsFunc_int_int_2.f k l7).bind fun b12 => some (!b12)) else (some false)
set_option maxHeartbeats 600000 in
set_option maxRecDepth 100000 in
theorem impl_IsPlan.calls (k : Nat) {w0 ws : World} {P0 : Nat → Prop} (a0_0 : Int) (A0_1 : Option Addr) (c0_1 : Nat) (n0_1 : Nat) (l0_1 : List SStep) (A0_2 : Option Addr) (c0_2 : Nat) (n0_2 : Nat) (l0_2 : List Int) (Z : Below w0.heap.size w0 ws) (hF : Fr w0 ws P0 [] ws) (R0_1 : Stable ws P0 (fun w => Kd.C kStep w A0_1 n0_1 l0_1)) (hc0_1 : n0_1 ≤ c0_1) (R0_2 : Stable ws P0 (fun w => Kd.C (Kd.int .i64) w A0_2 n0_2 l0_2)) (hc0_2 : n0_2 ≤ c0_2) (r_1 : Bool) (h : impl_IsPlan.f k a0_0 l0_1 l0_2 = some r_1) :
    Calls Tryd.prog 26 #[.agg #[.int .i64 a0_0, .slice A0_1 n0_1 c0_1, .slice A0_2 n0_2 c0_2]] ws (Post1 w0 ws P0 (fun (_ : Unit) => .bool r_1) (fun (_ : Unit) => [])) := by
  unfold impl_IsPlan.f at h
  obtain rfl := (R0_1 ws (KeptB.refl _ _)).1
  obtain rfl := (R0_2 ws (KeptB.refl _ _)).1
  refine enter Tryd.func26 rfl Tryd.ntmps26 rfl hF ?_
  refine c_seq ?_
  refine za0 ?_
  refine o_e rfl (e_box rfl) (fun g1 => ?_)
  refine o_q rfl rfl (q_asg rfl) ?_
  refine o_end ?_
  refine za1 ?_
  refine c_seq ?_
  refine za0 ?_
  refine za6 h (fun b4 hx3 h => ?_) rfl
  refine o_e rfl (zac 0 Z Tryd.func56 N56 rfl rfl rfl (fun w P1 hF hB hS hT => impl_Plan_formed.calls g1 a0_0 A0_1 c0_1 l0_1.length l0_1 A0_2 c0_2 l0_2.length l0_2 hB hF (hS _ R0_1) hc0_1 (hS _ R0_2) hc0_2 (hT 0 _ rfl).box _ hx3)) (fun _ => ?_)
  refine o_q rfl rfl (za3 rfl) ?_
  refine byB b4 (fun hb5 => ?_) (fun hb5 => ?_)
  · replace h := bb_t hb5 h
    refine za6 h (fun l7 hx6 h => ?_) rfl
    refine o_ew (za4 rfl rfl rfl (congrArg Value.bool hb5)) (zac 0 Z Tryd.func58 N58 rfl rfl rfl (fun w P1 hF hB hS hT => impl_Plan_exponents.calls g1 a0_0 A0_1 c0_1 l0_1.length l0_1 A0_2 c0_2 l0_2.length l0_2 hB hF (hS _ R0_1) hc0_1 (hS _ R0_2) hc0_2 (hT 0 _ rfl).box _ hx6)) (cur3 (fun A8 c9 H10 => ?_))
    refine za6 h (fun b12 hx11 h => ?_) rfl
    refine o_ew (za4 rfl rfl rfl (congrArg Value.bool hb5)) (zac 0 Z Tryd.func57 N57 rfl rfl rfl (fun w P1 hF hB hS hT => slices_ContainsFunc_int_int_2.calls k A8 c9 l7.length H10 l7 hB hF (hT 0 _ rfl).row (hT 0 _ rfl).cap _ hx11)) (fun _ => ?_)
    refine o_w (za4 rfl rfl rfl (congrArg Value.bool hb5)) rfl (q_not rfl) ?_
    refine o_q rfl rfl (zao true (congrArg Value.bool hb5) rfl) ?_
    refine o_q rfl rfl (q_asg rfl) ?_
    refine o_end ?_
    refine za1 ?_
    refine c_ret ?_
    have e0_ := Option.some.inj h; clear h
    subst e0_
    exact x_r1 () Tryd.results26 (zad rfl) rfl (fun w h => za7 [] (by decide) rfl w h)
  · replace h := bb_f hb5 h
    refine @o_n _ _ _ _ _ _ _ _ _ _ _ 5 (za2 rfl rfl rfl (congrArg Value.bool hb5) rfl) (Eq.refl (some 5)) ?_
    refine @o_n _ _ _ _ _ _ _ _ _ _ _ 6 (za2 rfl rfl rfl (congrArg Value.bool hb5) rfl) (Eq.refl (some 6)) ?_
    refine @o_n _ _ _ _ _ _ _ _ _ _ _ 7 (za2 rfl rfl rfl (congrArg Value.bool hb5) rfl) (Eq.refl (some 7)) ?_
    refine o_q rfl rfl (zao false (congrArg Value.bool hb5) rfl) ?_
    refine o_q rfl rfl (q_asg rfl) ?_
    refine o_end ?_
    refine za1 ?_
    refine c_ret ?_
    have e0_ := Option.some.inj h; clear h
    subst e0_
    exact x_r1 () Tryd.results26 (zad rfl) rfl (fun w h => za7 [] (by decide) rfl w h)

/-! ### loop.example/g01098/laws.szIntS: function 21 -/
def laws_szIntS.f (l0 : List Int) (a1 : Int) : Option Int := if w64 (a1 - (l0.length : Int)) < 0 then (some (-1)) else (some (w64 (a1 - (l0.length : Int))))
set_option maxHeartbeats 600000 in
set_option maxRecDepth 100000 in
theorem laws_szIntS.calls {w0 ws : World} {P0 : Nat → Prop} (A0 : Option Addr) (c0 : Nat) (n0 : Nat) (l0 : List Int) (a1 : Int) (Z : Below w0.heap.size w0 ws) (hF : Fr w0 ws P0 [] ws) (R0 : Stable ws P0 (fun w => Kd.C (Kd.int .i64) w A0 n0 l0)) (hc0 : n0 ≤ c0) (r_1 : Int) (h : laws_szIntS.f l0 a1 = some r_1) :
    Calls Tryd.prog 21 #[.slice A0 n0 c0, .int .i64 a1] ws (Post1 w0 ws P0 (fun (_ : Unit) => .int .i64 r_1) (fun (_ : Unit) => [])) := by
  unfold laws_szIntS.f at h
  obtain rfl := (R0 ws (KeptB.refl _ _)).1
  refine enter Tryd.func21 rfl Tryd.ntmps21 rfl hF ?_
  refine c_seq ?_
  refine za0 ?_
  refine o_q rfl rfl (q_asg rfl) ?_
  refine o_end ?_
  refine za1 ?_
  refine c_seq ?_
  refine za0 ?_
  refine o_q rfl rfl (za3 rfl) ?_
  refine o_q rfl rfl (za3 rfl) ?_
  refine o_q rfl rfl (q_len Tryd.underlying23 rfl) ?_
  refine o_q rfl rfl (q_sub64 rfl rfl) ?_
  refine o_q rfl rfl (q_asg rfl) ?_
  refine o_end ?_
  refine za1 ?_
  refine c_seq ?_
  refine c_seq ?_
  refine za0 ?_
  refine o_q rfl rfl (za3 rfl) ?_
  refine o_q rfl rfl (q_lss rfl rfl) ?_
  refine o_end ?_
  refine za1 ?_
  refine zaq _ rfl (fun hb1 => ?_) (fun hb1 => ?_)
  · skip
    replace h := br_t hb1 h
    refine c_seq ?_
    refine za0 ?_
    refine o_q rfl rfl (q_asg rfl) ?_
    refine o_end ?_
    refine za1 ?_
    refine c_ret ?_
    refine za5 ?_
    have e0_ := Option.some.inj h; clear h
    subst e0_
    exact x_r1 () Tryd.results21 (zad rfl) rfl (fun w h => za7 [] (by decide) rfl w h)
  · skip
    replace h := br_f hb1 h
    refine zal ?_
    refine za1 ?_
    refine c_seq ?_
    refine za0 ?_
    refine o_q rfl rfl (za3 rfl) ?_
    refine o_q rfl rfl (q_asg rfl) ?_
    refine o_end ?_
    refine za1 ?_
    refine c_ret ?_
    have e0_ := Option.some.inj h; clear h
    subst e0_
    exact x_r1 () Tryd.results21 (zad rfl) rfl (fun w h => za7 [] (by decide) rfl w h)

/-! ### loop.example/g01098/laws.szRegOpS: function 30 -/
def laws_szRegOpS.f (l0 : List SRegOp) (a1 : Int) : Option Int := if w64 (a1 - (l0.length : Int)) < 0 then (some (-1)) else (some (w64 (a1 - (l0.length : Int))))
set_option maxHeartbeats 600000 in
set_option maxRecDepth 100000 in
theorem laws_szRegOpS.calls {w0 ws : World} {P0 : Nat → Prop} (A0 : Option Addr) (c0 : Nat) (n0 : Nat) (l0 : List SRegOp) (a1 : Int) (Z : Below w0.heap.size w0 ws) (hF : Fr w0 ws P0 [] ws) (R0 : Stable ws P0 (fun w => Kd.C kRegOp w A0 n0 l0)) (hc0 : n0 ≤ c0) (r_1 : Int) (h : laws_szRegOpS.f l0 a1 = some r_1) :
    Calls Tryd.prog 30 #[.slice A0 n0 c0, .int .i64 a1] ws (Post1 w0 ws P0 (fun (_ : Unit) => .int .i64 r_1) (fun (_ : Unit) => [])) := by
  unfold laws_szRegOpS.f at h
  obtain rfl := (R0 ws (KeptB.refl _ _)).1
  refine enter Tryd.func30 rfl Tryd.ntmps30 rfl hF ?_
  refine c_seq ?_
  refine za0 ?_
  refine o_q rfl rfl (q_asg rfl) ?_
  refine o_end ?_
  refine za1 ?_
  refine c_seq ?_
  refine za0 ?_
  refine o_q rfl rfl (za3 rfl) ?_
  refine o_q rfl rfl (za3 rfl) ?_
  refine o_q rfl rfl (q_len Tryd.underlying35 rfl) ?_
  refine o_q rfl rfl (q_sub64 rfl rfl) ?_
  refine o_q rfl rfl (q_asg rfl) ?_
  refine o_end ?_
  refine za1 ?_
  refine c_seq ?_
  refine c_seq ?_
  refine za0 ?_
  refine o_q rfl rfl (za3 rfl) ?_
  refine o_q rfl rfl (q_lss rfl rfl) ?_
  refine o_end ?_
  refine za1 ?_
  refine zaq _ rfl (fun hb1 => ?_) (fun hb1 => ?_)
  · skip
    replace h := br_t hb1 h
    refine c_seq ?_
    refine za0 ?_
    refine o_q rfl rfl (q_asg rfl) ?_
    refine o_end ?_
    refine za1 ?_
    refine c_ret ?_
    refine za5 ?_
    have e0_ := Option.some.inj h; clear h
    subst e0_
    exact x_r1 () Tryd.results30 (zad rfl) rfl (fun w h => za7 [] (by decide) rfl w h)
  · skip
    replace h := br_f hb1 h
    refine zal ?_
    refine za1 ?_
    refine c_seq ?_
    refine za0 ?_
    refine o_q rfl rfl (za3 rfl) ?_
    refine o_q rfl rfl (q_asg rfl) ?_
    refine o_end ?_
    refine za1 ?_
    refine c_ret ?_
    have e0_ := Option.some.inj h; clear h
    subst e0_
    exact x_r1 () Tryd.results30 (zad rfl) rfl (fun w h => za7 [] (by decide) rfl w h)

/-! ### loop.example/g01098/laws.szRegCode: function 11 -/
def laws_szRegCode.f (a0_0 : Int) (l0_1 : List Int) (l0_2 : List SRegOp) (l0_3 : List Int) (a1 : Int) : Option Int := (laws_szIntS.f l0_1 a1).bind fun i4 => if i4 < 0 then (some (-1)) else ((laws_szRegOpS.f l0_2 i4).bind fun i7 => if i7 < 0 then (some (-1)) else ((laws_szIntS.f l0_3 i7).bind fun i10 => if i10 < 0 then (some (-1)) else (some i10)))
set_option maxHeartbeats 600000 in
set_option maxRecDepth 100000 in
theorem laws_szRegCode.calls {w0 ws : World} {P0 : Nat → Prop} (a0_0 : Int) (A0_1 : Option Addr) (c0_1 : Nat) (n0_1 : Nat) (l0_1 : List Int) (A0_2 : Option Addr) (c0_2 : Nat) (n0_2 : Nat) (l0_2 : List SRegOp) (A0_3 : Option Addr) (c0_3 : Nat) (n0_3 : Nat) (l0_3 : List Int) (a1 : Int) (Z : Below w0.heap.size w0 ws) (hF : Fr w0 ws P0 [] ws) (R0_1 : Stable ws P0 (fun w => Kd.C (Kd.int .i64) w A0_1 n0_1 l0_1)) (hc0_1 : n0_1 ≤ c0_1) (R0_2 : Stable ws P0 (fun w => Kd.C kRegOp w A0_2 n0_2 l0_2)) (hc0_2 : n0_2 ≤ c0_2) (R0_3 : Stable ws P0 (fun w => Kd.C (Kd.int .i64) w A0_3 n0_3 l0_3)) (hc0_3 : n0_3 ≤ c0_3) (r_1 : Int) (h : laws_szRegCode.f a0_0 l0_1 l0_2 l0_3 a1 = some r_1) :
    Calls Tryd.prog 11 #[.agg #[.int .i64 a0_0, .slice A0_1 n0_1 c0_1, .slice A0_2 n0_2 c0_2, .slice A0_3 n0_3 c0_3], .int .i64 a1] ws (Post1 w0 ws P0 (fun (_ : Unit) => .int .i64 r_1) (fun (_ : Unit) => [])) := by
  unfold laws_szRegCode.f at h
  obtain rfl := (R0_1 ws (KeptB.refl _ _)).1
  obtain rfl := (R0_2 ws (KeptB.refl _ _)).1
  obtain rfl := (R0_3 ws (KeptB.refl _ _)).1
  refine enter Tryd.func11 rfl Tryd.ntmps11 rfl hF ?_
  refine c_seq ?_
  refine za0 ?_
  refine o_e rfl (e_box rfl) (fun g1 => ?_)
  refine o_q rfl rfl (q_asg rfl) ?_
  refine o_end ?_
  refine za1 ?_
  refine c_seq ?_
  refine za0 ?_
  refine o_q rfl rfl (q_f F37_1 rfl) ?_
  refine o_q rfl rfl (q_ldb Y23 rfl (fun w h => h.zaa (i := 0) rfl) rfl) ?_
  refine o_q rfl rfl (za3 rfl) ?_
  refine za6 h (fun i4 hx3 h => ?_) rfl
  refine o_e rfl (zac 0 Z Tryd.func21 N21 rfl rfl rfl (fun w P1 hF hB hS hT => laws_szIntS.calls A0_1 c0_1 l0_1.length l0_1 a1 hB hF (hS _ R0_1) hc0_1 _ hx3)) (fun _ => ?_)
  refine o_q rfl rfl (q_asg rfl) ?_
  refine o_end ?_
  refine za1 ?_
  refine c_seq ?_
  refine c_seq ?_
  refine za0 ?_
  refine o_q rfl rfl (za3 rfl) ?_
  refine o_q rfl rfl (q_lss rfl rfl) ?_
  refine o_end ?_
  refine za1 ?_
  refine zaq _ rfl (fun hb5 => ?_) (fun hb5 => ?_)
  · skip
    replace h := br_t hb5 h
    refine c_seq ?_
    refine za0 ?_
    refine o_q rfl rfl (q_asg rfl) ?_
    refine o_end ?_
    refine za1 ?_
    refine c_ret ?_
    refine za5 ?_
    have e0_ := Option.some.inj h; clear h
    subst e0_
    exact x_r1 () Tryd.results11 (zad rfl) rfl (fun w h => za7 [] (by decide) rfl w h)
  · skip
    replace h := br_f hb5 h
    refine zal ?_
    refine za1 ?_
    refine c_seq ?_
    refine za0 ?_
    refine o_q rfl rfl (q_f F37_2 rfl) ?_
    refine o_q rfl rfl (q_ldb Y35 rfl (fun w h => h.zaa (i := 0) rfl) rfl) ?_
    refine o_q rfl rfl (za3 rfl) ?_
    refine za6 h (fun i7 hx6 h => ?_) rfl
    refine o_e rfl (zac 0 Z Tryd.func30 N30 rfl rfl rfl (fun w P1 hF hB hS hT => laws_szRegOpS.calls A0_2 c0_2 l0_2.length l0_2 i4 hB hF (hS _ R0_2) hc0_2 _ hx6)) (fun _ => ?_)
    refine o_q rfl rfl (q_asg rfl) ?_
    refine o_end ?_
    refine za1 ?_
    refine c_seq ?_
    refine c_seq ?_
    refine za0 ?_
    refine o_q rfl rfl (za3 rfl) ?_
    refine o_q rfl rfl (q_lss rfl rfl) ?_
    refine o_end ?_
    refine za1 ?_
    refine zaq _ rfl (fun hb8 => ?_) (fun hb8 => ?_)
    · skip
      replace h := br_t hb8 h
      refine c_seq ?_
      refine za0 ?_
      refine o_q rfl rfl (q_asg rfl) ?_
      refine o_end ?_
      refine za1 ?_
      refine c_ret ?_
      refine za5 ?_
      have e0_ := Option.some.inj h; clear h
      subst e0_
      exact x_r1 () Tryd.results11 (zad rfl) rfl (fun w h => za7 [] (by decide) rfl w h)
    · skip
      replace h := br_f hb8 h
      refine zal ?_
      refine za1 ?_
      refine c_seq ?_
      refine za0 ?_
      refine o_q rfl rfl (q_f F37_3 rfl) ?_
      refine o_q rfl rfl (q_ldb Y23 rfl (fun w h => h.zaa (i := 0) rfl) rfl) ?_
      refine o_q rfl rfl (za3 rfl) ?_
      refine za6 h (fun i10 hx9 h => ?_) rfl
      refine o_e rfl (zac 0 Z Tryd.func21 N21 rfl rfl rfl (fun w P1 hF hB hS hT => laws_szIntS.calls A0_3 c0_3 l0_3.length l0_3 i7 hB hF (hS _ R0_3) hc0_3 _ hx9)) (fun _ => ?_)
      refine o_q rfl rfl (q_asg rfl) ?_
      refine o_end ?_
      refine za1 ?_
      refine c_seq ?_
      refine c_seq ?_
      refine za0 ?_
      refine o_q rfl rfl (za3 rfl) ?_
      refine o_q rfl rfl (q_lss rfl rfl) ?_
      refine o_end ?_
      refine za1 ?_
      refine zaq _ rfl (fun hb11 => ?_) (fun hb11 => ?_)
      · skip
        replace h := br_t hb11 h
        refine c_seq ?_
        refine za0 ?_
        refine o_q rfl rfl (q_asg rfl) ?_
        refine o_end ?_
        refine za1 ?_
        refine c_ret ?_
        refine za5 ?_
        have e0_ := Option.some.inj h; clear h
        subst e0_
        exact x_r1 () Tryd.results11 (zad rfl) rfl (fun w h => za7 [] (by decide) rfl w h)
      · skip
        replace h := br_f hb11 h
        refine zal ?_
        refine za1 ?_
        refine c_seq ?_
        refine za0 ?_
        refine o_q rfl rfl (za3 rfl) ?_
        refine o_q rfl rfl (q_asg rfl) ?_
        refine o_end ?_
        refine za1 ?_
        refine c_ret ?_
        have e0_ := Option.some.inj h; clear h
        subst e0_
        exact x_r1 () Tryd.results11 (zad rfl) rfl (fun w h => za7 [] (by decide) rfl w h)

/-! ### loop.example/g01098/laws.toIntS: function 25 -/
def laws_toIntS.l0 (l0 : List Int) : Nat → (List Int) → Int → Option (List Int)
  | 0, _, _ => none
  | k10 + 1, l6, i7 => if i7 < (l0.length : Int) then ((gt l0 i7).bind fun y21 => (gt l6 i7).bind fun y24 => (st l6 i7 y21).bind fun l25 => laws_toIntS.l0 l0 k10 l25 (w64 (i7 + 1))) else (some l6)
def laws_toIntS.f (k : Nat) (l0 : List Int) : Option (List Int) := (mk0 (l0.length : Int) (0 : Int)).bind fun l1 => (laws_toIntS.l0 l0 k l1 0).bind fun l6 => some l6
set_option maxHeartbeats 600000 in
set_option maxRecDepth 100000 in
theorem laws_toIntS.calls (k : Nat) {w0 ws : World} {P0 : Nat → Prop} (A0 : Option Addr) (c0 : Nat) (n0 : Nat) (l0 : List Int) (Z : Below w0.heap.size w0 ws) (hF : Fr w0 ws P0 [] ws) (R0 : Stable ws P0 (fun w => Kd.C (Kd.int .i64) w A0 n0 l0)) (hc0 : n0 ≤ c0) (r_1 : List Int) (h : laws_toIntS.f k l0 = some r_1) :
    Calls Tryd.prog 25 #[.slice A0 n0 c0] ws (Post1 w0 ws P0 (fun ((q_2, q_3) : (Option Addr) × Nat) => .slice q_2 r_1.length q_3) (fun ((q_2, q_3) : (Option Addr) × Nat) => [row (Kd.int .i64) 3 (.slice q_2 r_1.length q_3) r_1])) := by
  unfold laws_toIntS.f at h
  obtain rfl := (R0 ws (KeptB.refl _ _)).1
  refine enter Tryd.func25 rfl Tryd.ntmps25 rfl hF ?_
  refine c_seq ?_
  refine za0 ?_
  refine o_q rfl rfl (q_asg rfl) ?_
  refine o_end ?_
  refine za1 ?_
  refine c_seq ?_
  refine za0 ?_
  refine o_q rfl rfl (za3 rfl) ?_
  refine o_q rfl rfl (q_len Tryd.underlying23 rfl) ?_
  refine za6 h (fun l1 hm2 h => ?_) rfl
  refine o_e rfl (e_make (Kd.int .i64) (0 : Int) Tryd.underlying23 I3 rfl (by decide) (by decide) (fun _ _ => rfl) rfl rfl hm2) (cur2 (fun A3 c4 => ?_))
  refine o_q rfl rfl (q_asg rfl) ?_
  refine o_end ?_
  refine za1 ?_
  refine c_seq ?_
  refine c_seq ?_
  refine za0 ?_
  refine o_q rfl rfl (q_asg rfl) ?_
  refine o_end ?_
  refine za1 ?_
  refine zak ?_
  refine za6 h (fun o15 hl14 hR13 => ?_) rfl
  clear h
  refine c_loopL (σ := (List Int) × Int) (fun k10 ((l6, i7) : (List Int) × Int) => laws_toIntS.l0 l0 k10 l6 i7 = some o15) [4, 8, 9, 10, 11, 12, 13, 14, 15, 16, 17, 18, 19, 20] (fun ((l6, i7) : (List Int) × Int) => [(4, .int .i64 i7)]) (fun ((l6, i7) : (List Int) × Int) => [row (Kd.int .i64) 3 (.slice A3 l1.length c4) l6]) k (l1, 0) hl14 ⟨rfl, trivial⟩ (fun w h => h) ?_
  refine natC (cur2 (fun l6 i7 => fun U16 hJ_ => ?_)) (fun k10 => (cur2 (fun l6 i7 => fun U16 hJ_ => ?_)))
  · skip
    replace hJ_ : laws_toIntS.l0 l0 0 l6 i7 = some o15 := hJ_
    rw [laws_toIntS.l0] at hJ_
    exact noneE hJ_
  · skip
    clear hl14
    have h := hJ_; clear hJ_
    replace h : laws_toIntS.l0 l0 (k10 + 1) l6 i7 = some o15 := h
    rw [laws_toIntS.l0] at h
    refine c_seq ?_
    refine c_seq ?_
    refine za0 ?_
    refine o_q rfl rfl (za3 rfl) ?_
    refine o_q rfl rfl (za3 rfl) ?_
    refine o_q rfl rfl (q_len Tryd.underlying23 rfl) ?_
    refine o_q rfl rfl (q_lss rfl rfl) ?_
    refine o_end ?_
    refine za1 ?_
    refine zaq _ rfl (fun hb18 => ?_) (fun hb18 => ?_)
    · skip
      replace h := br_t hb18 h
      refine zal ?_
      refine za1 ?_
      refine c_seq ?_
      refine zak ?_
      refine za0 ?_
      refine o_q rfl rfl (za3 rfl) ?_
      refine o_q rfl rfl (za3 rfl) ?_
      refine o_q rfl rfl (za3 rfl) ?_
      refine o_q rfl rfl (za3 rfl) ?_
      refine o_fact (p := Sh A0 l0.length l0.length) (fun w h => f_sh (dk := (Kd.int .i64)) h (fun w h => R0.now Z h)) (fun hq19 => ?_)
      refine za6 h (fun y21 hg20 h => ?_) rfl
      refine o_q rfl rfl (q_ix Tryd.underlying23 Z3 rfl rfl hq19 hg20) ?_
      refine o_q rfl rfl (q_lde (off := 0) Y3 rfl rfl (fun w h => R0.now Z h) hg20 (fun _ _ h => h) rfl) ?_
      refine o_fact (p := Sh A3 l1.length l6.length) (fun w h => f_sh (dk := (Kd.int .i64)) h (fun w h => h.zat (i := 0) rfl)) (fun hq22 => ?_)
      refine za6 h (fun y24 hg23 h => ?_) rfl
      refine o_q rfl rfl (q_ix Tryd.underlying23 Z3 rfl rfl hq22 hg23) ?_
      refine za6 h (fun l25 hs26 h => ?_) rfl
      refine o_e rfl (e_set (i := 0) rfl rfl rfl Z3 hs26) (fun _ => ?_)
      refine o_end ?_
      refine x_block ?_
      refine za1 ?_
      refine za0 ?_
      refine o_q rfl rfl (za3 rfl) ?_
      refine o_q rfl rfl (q_add64 rfl rfl) ?_
      refine o_q rfl rfl (q_asg rfl) ?_
      refine o_end ?_
      refine zar k10 (l25, w64 (i7 + 1)) (Nat.lt_succ_self _) h ⟨rfl, trivial⟩ (fun w h => za7 [0] (by decide) rfl w h) ?_
      repeat (first | exact zae _ _ | refine zai rfl ?_ | refine zaf rfl ?_ | refine zaj rfl ?_)
    · skip
      replace h := br_f hb18 h
      refine c_exit ?_
      refine za8 ?_
      refine za8 ?_
      have e_ := Option.some.inj h; replace h := hR13; rw [← e_] at h; clear e_
      refine x_hit ?_
      refine za1 ?_
      refine c_seq ?_
      refine za0 ?_
      refine o_q rfl rfl (za3 rfl) ?_
      refine o_q rfl rfl (q_asg rfl) ?_
      refine o_end ?_
      refine za1 ?_
      refine c_ret ?_
      refine x_fact (p := l1.length = l6.length) (fun w h => (h.row_C (i := 0) rfl).2.1) (fun hn27 => ?_)
      have e0_ := Option.some.inj h; clear h
      subst e0_
      exact x_r1 (A3, c4) Tryd.results25 (zad (v := .slice A3 l1.length c4) rfl) (by (try rw [hn27]); first | done | rfl) (f_pickE (L1 := [row (Kd.int .i64) 3 (.slice A3 l1.length c4) l6]) rfl [0] (by decide) rfl (by (try rw [hn27]); first | done | rfl))

/-! ### loop.example/g01098/laws.toRegOp: function 67 -/
def laws_toRegOp.f (a0 : SRegOp) : Option Unit := some ()
set_option maxHeartbeats 600000 in
set_option maxRecDepth 100000 in
theorem laws_toRegOp.calls {w0 ws : World} {P0 : Nat → Prop} (a0 : SRegOp) (Z : Below w0.heap.size w0 ws) (hF : Fr w0 ws P0 [] ws)   (h : laws_toRegOp.f a0 = some ()) :
    Calls Tryd.prog 67 #[.agg #[.int .i64 a0.f0, .int .i64 a0.f1, .int .i64 a0.f2]] ws (Post1 w0 ws P0 (fun (_ : Unit) => .agg #[.int .i64 a0.f0, .int .i64 a0.f1, .int .i64 a0.f2]) (fun (_ : Unit) => [])) := by
  unfold laws_toRegOp.f at h
  refine enter Tryd.func67 rfl Tryd.ntmps67 rfl hF ?_
  refine c_seq ?_
  refine za0 ?_
  refine o_e rfl (e_box rfl) (fun g1 => ?_)
  refine o_e rfl (zas V95 rfl) (fun g3 => ?_)
  refine o_end ?_
  refine za1 ?_
  refine c_seq ?_
  refine za0 ?_
  refine o_e rfl (zas V95 rfl) (fun g5 => ?_)
  refine o_end ?_
  refine za1 ?_
  refine c_seq ?_
  refine za0 ?_
  refine o_q rfl rfl (q_f F97_0 rfl) ?_
  refine o_q rfl rfl (q_ldb Y3 rfl (fun w h => h.zaa (i := 2) rfl) rfl) ?_
  refine o_q rfl rfl (q_f F95_0 rfl) ?_
  refine o_e rfl (e_store (i := 0) rfl rfl rfl rfl Z3 rfl rfl) (fun _ => ?_)
  refine o_end ?_
  refine za1 ?_
  refine c_seq ?_
  refine za0 ?_
  refine o_q rfl rfl (q_f F97_1 rfl) ?_
  refine o_q rfl rfl (q_ldb Y3 rfl (fun w h => h.zaa (i := 2) rfl) rfl) ?_
  refine o_q rfl rfl (q_f F95_1 rfl) ?_
  refine o_e rfl (e_store (i := 0) rfl rfl rfl rfl Z3 rfl rfl) (fun _ => ?_)
  refine o_end ?_
  refine za1 ?_
  refine c_seq ?_
  refine za0 ?_
  refine o_q rfl rfl (q_f F97_2 rfl) ?_
  refine o_q rfl rfl (q_ldb Y3 rfl (fun w h => h.zaa (i := 2) rfl) rfl) ?_
  refine o_q rfl rfl (q_f F95_2 rfl) ?_
  refine o_e rfl (e_store (i := 0) rfl rfl rfl rfl Z3 rfl rfl) (fun _ => ?_)
  refine o_end ?_
  refine za1 ?_
  refine c_seq ?_
  refine za0 ?_
  refine o_q rfl rfl (q_ldB G95 Z95 rfl (fun w h => h.zaa (i := 0) rfl) rfl) ?_
  refine o_e rfl (zan (i := 1) rfl rfl rfl Z95 rfl rfl) (fun _ => ?_)
  refine o_end ?_
  refine za1 ?_
  refine c_ret ?_
  exact x_r1 () Tryd.results67 (rv_cell rfl G95 Z95 (fun w h => h.zaa (i := 1) rfl) rfl) rfl (fun w h => za7 [] (by decide) rfl w h)

/-! ### loop.example/g01098/laws.toRegOpS: function 33 -/
def laws_toRegOpS.l0 (l0 : List SRegOp) : Nat → (List SRegOp) → Int → Option (List SRegOp)
  | 0, _, _ => none
  | k10 + 1, l6, i7 => if i7 < (l0.length : Int) then ((gt l0 i7).bind fun y21 => (laws_toRegOp.f y21).bind fun _ => (gt l6 i7).bind fun y25 => (st l6 i7 (⟨y21.f0, y21.f1, y21.f2⟩ : SRegOp)).bind fun l26 => laws_toRegOpS.l0 l0 k10 l26 (w64 (i7 + 1))) else (some l6)
def laws_toRegOpS.f (k : Nat) (l0 : List SRegOp) : Option (List SRegOp) := (mk0 (l0.length : Int) (⟨0, 0, 0⟩ : SRegOp)).bind fun l1 => (laws_toRegOpS.l0 l0 k l1 0).bind fun l6 => some l6
set_option maxHeartbeats 600000 in
set_option maxRecDepth 100000 in
theorem laws_toRegOpS.calls (k : Nat) {w0 ws : World} {P0 : Nat → Prop} (A0 : Option Addr) (c0 : Nat) (n0 : Nat) (l0 : List SRegOp) (Z : Below w0.heap.size w0 ws) (hF : Fr w0 ws P0 [] ws) (R0 : Stable ws P0 (fun w => Kd.C kRegOp w A0 n0 l0)) (hc0 : n0 ≤ c0) (r_1 : List SRegOp) (h : laws_toRegOpS.f k l0 = some r_1) :
    Calls Tryd.prog 33 #[.slice A0 n0 c0] ws (Post1 w0 ws P0 (fun ((q_2, q_3) : (Option Addr) × Nat) => .slice q_2 r_1.length q_3) (fun ((q_2, q_3) : (Option Addr) × Nat) => [row kRegOp 95 (.slice q_2 r_1.length q_3) r_1])) := by
  unfold laws_toRegOpS.f at h
  obtain rfl := (R0 ws (KeptB.refl _ _)).1
  refine enter Tryd.func33 rfl Tryd.ntmps33 rfl hF ?_
  refine c_seq ?_
  refine za0 ?_
  refine o_q rfl rfl (q_asg rfl) ?_
  refine o_end ?_
  refine za1 ?_
  refine c_seq ?_
  refine za0 ?_
  refine o_q rfl rfl (za3 rfl) ?_
  refine o_q rfl rfl (q_len Tryd.underlying35 rfl) ?_
  refine za6 h (fun l1 hm2 h => ?_) rfl
  refine o_e rfl (e_make kRegOp (⟨0, 0, 0⟩ : SRegOp) Tryd.underlying40 I95 rfl (by decide) (by decide) (fun _ _ => rfl) rfl rfl hm2) (cur2 (fun A3 c4 => ?_))
  refine o_q rfl rfl (q_asg rfl) ?_
  refine o_end ?_
  refine za1 ?_
  refine c_seq ?_
  refine c_seq ?_
  refine za0 ?_
  refine o_q rfl rfl (q_asg rfl) ?_
  refine o_end ?_
  refine za1 ?_
  refine zak ?_
  refine za6 h (fun o15 hl14 hR13 => ?_) rfl
  clear h
  refine c_loopL (σ := (List SRegOp) × Int) (fun k10 ((l6, i7) : (List SRegOp) × Int) => laws_toRegOpS.l0 l0 k10 l6 i7 = some o15) [4, 8, 9, 10, 11, 12, 13, 14, 15, 16, 17, 18, 19, 20, 21] (fun ((l6, i7) : (List SRegOp) × Int) => [(4, .int .i64 i7)]) (fun ((l6, i7) : (List SRegOp) × Int) => [row kRegOp 95 (.slice A3 l1.length c4) l6]) k (l1, 0) hl14 ⟨rfl, trivial⟩ (fun w h => h) ?_
  refine natC (cur2 (fun l6 i7 => fun U16 hJ_ => ?_)) (fun k10 => (cur2 (fun l6 i7 => fun U16 hJ_ => ?_)))
  · skip
    replace hJ_ : laws_toRegOpS.l0 l0 0 l6 i7 = some o15 := hJ_
    rw [laws_toRegOpS.l0] at hJ_
    exact noneE hJ_
  · skip
    clear hl14
    have h := hJ_; clear hJ_
    replace h : laws_toRegOpS.l0 l0 (k10 + 1) l6 i7 = some o15 := h
    rw [laws_toRegOpS.l0] at h
    refine c_seq ?_
    refine c_seq ?_
    refine za0 ?_
    refine o_q rfl rfl (za3 rfl) ?_
    refine o_q rfl rfl (za3 rfl) ?_
    refine o_q rfl rfl (q_len Tryd.underlying35 rfl) ?_
    refine o_q rfl rfl (q_lss rfl rfl) ?_
    refine o_end ?_
    refine za1 ?_
    refine zaq _ rfl (fun hb18 => ?_) (fun hb18 => ?_)
    · skip
      replace h := br_t hb18 h
      refine zal ?_
      refine za1 ?_
      refine c_seq ?_
      refine zak ?_
      refine za0 ?_
      refine o_q rfl rfl (za3 rfl) ?_
      refine o_q rfl rfl (za3 rfl) ?_
      refine o_q rfl rfl (za3 rfl) ?_
      refine o_q rfl rfl (za3 rfl) ?_
      refine o_fact (p := Sh A0 l0.length l0.length) (fun w h => f_sh (dk := kRegOp) h (fun w h => R0.now Z h)) (fun hq19 => ?_)
      refine za6 h (fun y21 hg20 h => ?_) rfl
      refine o_q rfl rfl (q_ix Tryd.underlying35 Z97 rfl rfl hq19 hg20) ?_
      refine o_q rfl rfl (q_ldE G97 Z97 rfl rfl (fun w h => R0.now Z h) hg20 (fun _ _ h => h) rfl) ?_
      refine za6 h (fun _ hx22 h => ?_) rfl
      refine o_e rfl (zac 0 Z Tryd.func67 N67 rfl rfl rfl (fun w P1 hF hB hS hT => laws_toRegOp.calls y21 hB hF hx22)) (fun _ => ?_)
      refine o_fact (p := Sh A3 l1.length l6.length) (fun w h => f_sh (dk := kRegOp) h (fun w h => h.zat (i := 0) rfl)) (fun hq23 => ?_)
      refine za6 h (fun y25 hg24 h => ?_) rfl
      refine o_q rfl rfl (q_ix Tryd.underlying40 Z95 rfl rfl hq23 hg24) ?_
      refine za6 h (fun l26 hs27 h => ?_) rfl
      refine o_e rfl (e_setF (i := 0) (off := 0) (vs := [.int .i64 y21.f0, .int .i64 y21.f1, .int .i64 y21.f2]) (q' := (⟨y21.f0, y21.f1, y21.f2⟩ : SRegOp)) rfl rfl rfl rfl rfl rfl Z95 hg24 rfl rfl hs27) (fun _ => ?_)
      refine o_end ?_
      refine x_block ?_
      refine za1 ?_
      refine za0 ?_
      refine o_q rfl rfl (za3 rfl) ?_
      refine o_q rfl rfl (q_add64 rfl rfl) ?_
      refine o_q rfl rfl (q_asg rfl) ?_
      refine o_end ?_
      refine zar k10 (l26, w64 (i7 + 1)) (Nat.lt_succ_self _) h ⟨rfl, trivial⟩ (fun w h => za7 [0] (by decide) rfl w h) ?_
      repeat (first | exact zae _ _ | refine zai rfl ?_ | refine zaf rfl ?_ | refine zaj rfl ?_)
    · skip
      replace h := br_f hb18 h
      refine c_exit ?_
      refine za8 ?_
      refine za8 ?_
      have e_ := Option.some.inj h; replace h := hR13; rw [← e_] at h; clear e_
      refine x_hit ?_
      refine za1 ?_
      refine c_seq ?_
      refine za0 ?_
      refine o_q rfl rfl (za3 rfl) ?_
      refine o_q rfl rfl (q_asg rfl) ?_
      refine o_end ?_
      refine za1 ?_
      refine c_ret ?_
      refine x_fact (p := l1.length = l6.length) (fun w h => (h.row_C (i := 0) rfl).2.1) (fun hn28 => ?_)
      have e0_ := Option.some.inj h; clear h
      subst e0_
      exact x_r1 (A3, c4) Tryd.results33 (zad (v := .slice A3 l1.length c4) rfl) (by (try rw [hn28]); first | done | rfl) (f_pickE (L1 := [row kRegOp 95 (.slice A3 l1.length c4) l6]) rfl [0] (by decide) rfl (by (try rw [hn28]); first | done | rfl))

/-! ### loop.example/g01098/laws.toRegCode: function 13 -/
def laws_toRegCode.f (k : Nat) (a0_0 : Int) (l0_1 : List Int) (l0_2 : List SRegOp) (l0_3 : List Int) : Option ((List Int) × (List SRegOp) × (List Int)) := (laws_toIntS.f k l0_1).bind fun l8 => (laws_toRegOpS.f k l0_2).bind fun l12 => (laws_toIntS.f k l0_3).bind fun l16 => some (l8, l12, l16)
set_option maxHeartbeats 600000 in
set_option maxRecDepth 100000 in
theorem laws_toRegCode.calls (k : Nat) {w0 ws : World} {P0 : Nat → Prop} (a0_0 : Int) (A0_1 : Option Addr) (c0_1 : Nat) (n0_1 : Nat) (l0_1 : List Int) (A0_2 : Option Addr) (c0_2 : Nat) (n0_2 : Nat) (l0_2 : List SRegOp) (A0_3 : Option Addr) (c0_3 : Nat) (n0_3 : Nat) (l0_3 : List Int) (Z : Below w0.heap.size w0 ws) (hF : Fr w0 ws P0 [] ws) (R0_1 : Stable ws P0 (fun w => Kd.C (Kd.int .i64) w A0_1 n0_1 l0_1)) (hc0_1 : n0_1 ≤ c0_1) (R0_2 : Stable ws P0 (fun w => Kd.C kRegOp w A0_2 n0_2 l0_2)) (hc0_2 : n0_2 ≤ c0_2) (R0_3 : Stable ws P0 (fun w => Kd.C (Kd.int .i64) w A0_3 n0_3 l0_3)) (hc0_3 : n0_3 ≤ c0_3) (r_1 : List Int) (r_4 : List SRegOp) (r_7 : List Int) (h : laws_toRegCode.f k a0_0 l0_1 l0_2 l0_3 = some (r_1, r_4, r_7)) :
    Calls Tryd.prog 13 #[.agg #[.int .i64 a0_0, .slice A0_1 n0_1 c0_1, .slice A0_2 n0_2 c0_2, .slice A0_3 n0_3 c0_3]] ws (Post1 w0 ws P0 (fun ((q_2, q_3, q_5, q_6, q_8, q_9) : (Option Addr) × Nat × (Option Addr) × Nat × (Option Addr) × Nat) => .agg #[.int .i64 a0_0, .slice q_2 r_1.length q_3, .slice q_5 r_4.length q_6, .slice q_8 r_7.length q_9]) (fun ((q_2, q_3, q_5, q_6, q_8, q_9) : (Option Addr) × Nat × (Option Addr) × Nat × (Option Addr) × Nat) => [row (Kd.int .i64) 3 (.slice q_2 r_1.length q_3) r_1, row kRegOp 95 (.slice q_5 r_4.length q_6) r_4, row (Kd.int .i64) 3 (.slice q_8 r_7.length q_9) r_7])) := by
  unfold laws_toRegCode.f at h
  obtain rfl := (R0_1 ws (KeptB.refl _ _)).1
  obtain rfl := (R0_2 ws (KeptB.refl _ _)).1
  obtain rfl := (R0_3 ws (KeptB.refl _ _)).1
  refine enter Tryd.func13 rfl Tryd.ntmps13 rfl hF ?_
  refine c_seq ?_
  refine za0 ?_
  refine o_e rfl (e_box rfl) (fun g1 => ?_)
  refine o_e rfl (zas V42 rfl) (fun g3 => ?_)
  refine o_end ?_
  refine za1 ?_
  refine c_seq ?_
  refine za0 ?_
  refine o_e rfl (zas V42 rfl) (fun g5 => ?_)
  refine o_end ?_
  refine za1 ?_
  refine c_seq ?_
  refine za0 ?_
  refine o_q rfl rfl (q_f F37_0 rfl) ?_
  refine o_q rfl rfl (q_ldb Y3 rfl (fun w h => h.zaa (i := 2) rfl) rfl) ?_
  refine o_q rfl rfl (q_f F42_0 rfl) ?_
  refine o_e rfl (e_store (i := 0) rfl rfl rfl rfl Z3 rfl rfl) (fun _ => ?_)
  refine o_end ?_
  refine za1 ?_
  refine c_seq ?_
  refine za0 ?_
  refine o_q rfl rfl (q_f F37_1 rfl) ?_
  refine o_q rfl rfl (q_ldb Y23 rfl (fun w h => h.zaa (i := 2) rfl) rfl) ?_
  refine za6 h (fun l8 hx7 h => ?_) rfl
  refine o_e rfl (zac 0 Z Tryd.func25 N25 rfl rfl rfl (fun w P1 hF hB hS hT => laws_toIntS.calls k A0_1 c0_1 l0_1.length l0_1 hB hF (hS _ R0_1) hc0_1 _ hx7)) (cur2 (fun A9 c10 => ?_))
  refine o_q rfl rfl (q_f F42_1 rfl) ?_
  refine o_e rfl (e_store (i := 1) rfl rfl rfl rfl Z23 rfl rfl) (fun _ => ?_)
  refine o_end ?_
  refine za1 ?_
  refine c_seq ?_
  refine za0 ?_
  refine o_q rfl rfl (q_f F37_2 rfl) ?_
  refine o_q rfl rfl (q_ldb Y35 rfl (fun w h => h.zaa (i := 3) rfl) rfl) ?_
  refine za6 h (fun l12 hx11 h => ?_) rfl
  refine o_e rfl (zac 0 Z Tryd.func33 N33 rfl rfl rfl (fun w P1 hF hB hS hT => laws_toRegOpS.calls k A0_2 c0_2 l0_2.length l0_2 hB hF (hS _ R0_2) hc0_2 _ hx11)) (cur2 (fun A13 c14 => ?_))
  refine o_q rfl rfl (q_f F42_2 rfl) ?_
  refine o_e rfl (e_store (i := 2) rfl rfl rfl rfl Z40 rfl rfl) (fun _ => ?_)
  refine o_end ?_
  refine za1 ?_
  refine c_seq ?_
  refine za0 ?_
  refine o_q rfl rfl (q_f F37_3 rfl) ?_
  refine o_q rfl rfl (q_ldb Y23 rfl (fun w h => h.zaa (i := 4) rfl) rfl) ?_
  refine za6 h (fun l16 hx15 h => ?_) rfl
  refine o_e rfl (zac 0 Z Tryd.func25 N25 rfl rfl rfl (fun w P1 hF hB hS hT => laws_toIntS.calls k A0_3 c0_3 l0_3.length l0_3 hB hF (hS _ R0_3) hc0_3 _ hx15)) (cur2 (fun A17 c18 => ?_))
  refine o_q rfl rfl (q_f F42_3 rfl) ?_
  refine o_e rfl (e_store (i := 3) rfl rfl rfl rfl Z23 rfl rfl) (fun _ => ?_)
  refine o_end ?_
  refine za1 ?_
  refine c_seq ?_
  refine za0 ?_
  refine o_q rfl rfl (q_ldB G42 Z42 rfl (fun w h => h.zaa (i := 3) rfl) rfl) ?_
  refine o_e rfl (zan (i := 4) rfl rfl rfl Z42 rfl rfl) (fun _ => ?_)
  refine o_end ?_
  refine za1 ?_
  refine c_ret ?_
  have e0_ := Option.some.inj h; clear h
  have d0_ := (Prod.mk.inj e0_).1; have e1_ := (Prod.mk.inj e0_).2; clear e0_; subst d0_
  have d1_ := (Prod.mk.inj e1_).1; have e2_ := (Prod.mk.inj e1_).2; clear e1_; subst d1_
  subst e2_
  exact x_r1 (A9, c10, A13, c14, A17, c18) Tryd.results13 (rv_cell rfl G42 Z42 (fun w h => h.zaa (i := 4) rfl) rfl) rfl (fun w h => za7 [2, 1, 0] (by decide) rfl w h)

/-! ### loop.example/g01098/spec.l1In: function 50 -/
def spec_l1In.f (a0 : Int) (a1 : Int) (a2 : Int) : Option Bool := if a1 ≤ a0 then (some (decide (a0 ≤ a2))) else (some false)
set_option maxHeartbeats 600000 in
set_option maxRecDepth 100000 in
theorem spec_l1In.calls {w0 ws : World} {P0 : Nat → Prop} (a0 : Int) (a1 : Int) (a2 : Int) (Z : Below w0.heap.size w0 ws) (hF : Fr w0 ws P0 [] ws)  (r_1 : Bool) (h : spec_l1In.f a0 a1 a2 = some r_1) :
    Calls Tryd.prog 50 #[.int .i64 a0, .int .i64 a1, .int .i64 a2] ws (Post1 w0 ws P0 (fun (_ : Unit) => .bool r_1) (fun (_ : Unit) => [])) := by
  unfold spec_l1In.f at h
  refine enter Tryd.func50 rfl Tryd.ntmps50 rfl hF ?_
  refine c_seq ?_
  refine za0 ?_
  refine o_q rfl rfl (q_asg rfl) ?_
  refine o_end ?_
  refine za1 ?_
  refine c_seq ?_
  refine za0 ?_
  refine o_q rfl rfl (za3 rfl) ?_
  refine o_q rfl rfl (za3 rfl) ?_
  refine o_q rfl rfl (q_geq rfl rfl) ?_
  refine o_q rfl rfl (za3 rfl) ?_
  refine byB (decide (a1 ≤ a0)) (fun hb1 => ?_) (fun hb1 => ?_)
  · replace h := br_t hb1 h
    refine o_w (za4 rfl rfl rfl (congrArg Value.bool hb1)) rfl (za3 rfl) ?_
    refine o_w (za4 rfl rfl rfl (congrArg Value.bool hb1)) rfl (za3 rfl) ?_
    refine o_w (za4 rfl rfl rfl (congrArg Value.bool hb1)) rfl (q_leq rfl rfl) ?_
    refine o_q rfl rfl (zao true (congrArg Value.bool hb1) rfl) ?_
    refine o_q rfl rfl (q_asg rfl) ?_
    refine o_end ?_
    refine za1 ?_
    refine c_ret ?_
    have e0_ := Option.some.inj h; clear h
    subst e0_
    exact x_r1 () Tryd.results50 (zad rfl) rfl (fun w h => za7 [] (by decide) rfl w h)
  · replace h := br_f hb1 h
    refine @o_n _ _ _ _ _ _ _ _ _ _ _ 11 (za2 rfl rfl rfl (congrArg Value.bool hb1) rfl) (Eq.refl (some 11)) ?_
    refine @o_n _ _ _ _ _ _ _ _ _ _ _ 12 (za2 rfl rfl rfl (congrArg Value.bool hb1) rfl) (Eq.refl (some 12)) ?_
    refine @o_n _ _ _ _ _ _ _ _ _ _ _ 13 (za2 rfl rfl rfl (congrArg Value.bool hb1) rfl) (Eq.refl (some 13)) ?_
    refine o_q rfl rfl (zao false (congrArg Value.bool hb1) rfl) ?_
    refine o_q rfl rfl (q_asg rfl) ?_
    refine o_end ?_
    refine za1 ?_
    refine c_ret ?_
    have e0_ := Option.some.inj h; clear h
    subst e0_
    exact x_r1 () Tryd.results50 (zad rfl) rfl (fun w h => za7 [] (by decide) rfl w h)

/-! ### loop.example/g01098/spec.l1Has: function 97 -/
def spec_l1Has.l0 (a1 : Int) : (List Int) → Int → Option ((Bool) ⊕ (Unit))
  | [], i1 => some (.inr ())
  | y2 :: ys3, i1 => if y2 = a1 then (some (.inl true)) else (spec_l1Has.l0 a1 ys3 (i1 + 1))
def spec_l1Has.f (l0 : List Int) (a1 : Int) : Option Bool := (spec_l1Has.l0 a1 l0 0).bind fun o_ => match o_ with | .inl r_ => some r_ | .inr _ => some false
set_option maxHeartbeats 600000 in
set_option maxRecDepth 100000 in
theorem spec_l1Has.calls {w0 ws : World} {P0 : Nat → Prop} (A0 : Option Addr) (c0 : Nat) (n0 : Nat) (l0 : List Int) (a1 : Int) (Z : Below w0.heap.size w0 ws) (hF : Fr w0 ws P0 [] ws) (R0 : Stable ws P0 (fun w => Kd.C (Kd.int .i64) w A0 n0 l0)) (hc0 : n0 ≤ c0) (r_1 : Bool) (h : spec_l1Has.f l0 a1 = some r_1) :
    Calls Tryd.prog 97 #[.slice A0 n0 c0, .int .i64 a1] ws (Post1 w0 ws P0 (fun (_ : Unit) => .bool r_1) (fun (_ : Unit) => [])) := by
  unfold spec_l1Has.f at h
  obtain rfl := (R0 ws (KeptB.refl _ _)).1
  refine enter Tryd.func97 rfl Tryd.ntmps97 rfl hF ?_
  refine c_seq ?_
  refine za0 ?_
  refine o_q rfl rfl (q_asg rfl) ?_
  refine o_end ?_
  refine za1 ?_
  refine c_seq ?_
  refine c_seq ?_
  refine za0 ?_
  refine o_q rfl rfl (za3 rfl) ?_
  refine o_q rfl rfl (q_len Tryd.underlying23 rfl) ?_
  refine o_q rfl rfl (za3 rfl) ?_
  refine o_end ?_
  refine za1 ?_
  refine zak ?_
  refine za6 h (fun o9 hl8 hR7 => ?_) rfl
  clear h
  refine c_fact (p := l0.length ≤ 9223372036854775807) (fun w h => (R0.now Z h).2.1) (fun hm6 => ?_)
  refine c_loopL (σ := (List Int) × Int) (fun k4 ((ys3, i1) : (List Int) × Int) => Rg l0 i1 ys3 ∧ ys3.length = k4 ∧ spec_l1Has.l0 a1 ys3 i1 = some o9) [4, 6, 9, 10, 11, 12, 13, 14, 15, 16] (fun ((ys3, i1) : (List Int) × Int) => [(9, .int .i64 i1)]) (fun ((ys3, i1) : (List Int) × Int) => []) l0.length (l0, 0) ⟨Rg.start _, rfl, hl8⟩ ⟨rfl, trivial⟩ (fun w h => h) ?_
  refine fun k4 => cur2 (listC (fun i1 U10 hJ_ => ?_) (fun y2 ys3 i1 U10 hJ_ => ?_))
  · skip
    clear hl8
    have hr5 := hJ_.1; have hk11 := hJ_.2.1; have h := hJ_.2.2; clear hJ_
    replace h : spec_l1Has.l0 a1 [] i1 = some o9 := h
    rw [spec_l1Has.l0] at h
    refine c_seq ?_
    refine za0 ?_
    refine o_q rfl rfl (q_lss rfl rfl) ?_
    refine o_end ?_
    refine za1 ?_
    refine c_seq ?_
    refine c_false (congrArg Value.bool hr5.ge) ?_
    refine c_exit ?_
    refine za8 ?_
    refine za8 ?_
    have e_ := Option.some.inj h; replace h := hR7; rw [← e_] at h; clear e_
    refine x_hit ?_
    refine za1 ?_
    refine c_seq ?_
    refine za0 ?_
    refine o_q rfl rfl (q_asg rfl) ?_
    refine o_end ?_
    refine za1 ?_
    refine c_ret ?_
    have e0_ := Option.some.inj h; clear h
    subst e0_
    exact x_r1 () Tryd.results97 (zad rfl) rfl (fun w h => za7 [] (by decide) rfl w h)
  · skip
    clear hl8
    have hr5 := hJ_.1; have hk11 := hJ_.2.1; have h := hJ_.2.2; clear hJ_
    replace h : spec_l1Has.l0 a1 (y2 :: ys3) i1 = some o9 := h
    rw [spec_l1Has.l0] at h
    refine c_seq ?_
    refine za0 ?_
    refine o_q rfl rfl (q_lss rfl rfl) ?_
    refine o_end ?_
    refine za1 ?_
    refine c_seq ?_
    refine c_true (congrArg Value.bool hr5.lt) ?_
    refine zal ?_
    refine za1 ?_
    refine c_seq ?_
    refine zak ?_
    refine c_seq ?_
    refine za0 ?_
    refine o_fact (p := Sh A0 l0.length l0.length) (fun w h => f_sh (dk := (Kd.int .i64)) h (fun w h => R0.now Z h)) (fun hq12 => ?_)
    refine o_q rfl rfl (q_ix Tryd.underlying23 Z3 rfl rfl hq12 hr5.get) ?_
    refine o_q rfl rfl (q_lde (off := 0) Y3 rfl rfl (fun w h => R0.now Z h) hr5.get (fun _ _ h => h) rfl) ?_
    refine o_q rfl rfl (q_asg rfl) ?_
    refine o_end ?_
    refine za1 ?_
    refine c_seq ?_
    refine za0 ?_
    refine o_q rfl rfl (za3 rfl) ?_
    refine o_q rfl rfl (za3 rfl) ?_
    refine o_q rfl rfl (q_eql rfl rfl) ?_
    refine o_end ?_
    refine za1 ?_
    refine zaq _ rfl (fun hb13 => ?_) (fun hb13 => ?_)
    · skip
      replace h := br_t hb13 h
      refine c_seq ?_
      refine za0 ?_
      refine o_q rfl rfl (q_asg rfl) ?_
      refine o_end ?_
      refine za1 ?_
      refine c_ret ?_
      refine zah ?_
      refine za5 ?_
      refine za5 ?_
      have e_ := Option.some.inj h; replace h := hR7; rw [← e_] at h; clear e_
      refine zah ?_
      refine za5 ?_
      have e0_ := Option.some.inj h; clear h
      subst e0_
      exact x_r1 () Tryd.results97 (zad rfl) rfl (fun w h => za7 [] (by decide) rfl w h)
    · skip
      replace h := br_f hb13 h
      refine zal ?_
      refine x_block ?_
      refine za1 ?_
      refine za0 ?_
      refine o_q rfl rfl (q_up rfl rfl (hr5.up hm6)) ?_
      refine o_q rfl rfl (za3 rfl) ?_
      refine o_end ?_
      refine zar ys3.length (ys3, i1 + 1) (by rw [← hk11]; exact Nat.lt_succ_self _) ⟨hr5.step, rfl, h⟩ ⟨rfl, trivial⟩ (fun w h => za7 [] (by decide) rfl w h) ?_
      repeat (first | exact zae _ _ | refine zai rfl ?_ | refine zaf rfl ?_ | refine zaj rfl ?_)

/-! ### loop.example/g01098/spec.l1All: function 52 -/
def spec_l1All.l0 (a1 : Int) (a2 : Int) : (List Int) → Int → Option ((Bool) ⊕ (Unit))
  | [], i1 => some (.inr ())
  | y2 :: ys3, i1 => (spec_l1In.f y2 a1 a2).bind fun b14 => if b14 = true then (spec_l1All.l0 a1 a2 ys3 (i1 + 1)) else (some (.inl false))
def spec_l1All.f (l0 : List Int) (a1 : Int) (a2 : Int) : Option Bool := (spec_l1All.l0 a1 a2 l0 0).bind fun o_ => match o_ with | .inl r_ => some r_ | .inr _ => some true
set_option maxHeartbeats 600000 in
set_option maxRecDepth 100000 in
theorem spec_l1All.calls {w0 ws : World} {P0 : Nat → Prop} (A0 : Option Addr) (c0 : Nat) (n0 : Nat) (l0 : List Int) (a1 : Int) (a2 : Int) (Z : Below w0.heap.size w0 ws) (hF : Fr w0 ws P0 [] ws) (R0 : Stable ws P0 (fun w => Kd.C (Kd.int .i64) w A0 n0 l0)) (hc0 : n0 ≤ c0) (r_1 : Bool) (h : spec_l1All.f l0 a1 a2 = some r_1) :
    Calls Tryd.prog 52 #[.slice A0 n0 c0, .int .i64 a1, .int .i64 a2] ws (Post1 w0 ws P0 (fun (_ : Unit) => .bool r_1) (fun (_ : Unit) => [])) := by
  unfold spec_l1All.f at h
  obtain rfl := (R0 ws (KeptB.refl _ _)).1
  refine enter Tryd.func52 rfl Tryd.ntmps52 rfl hF ?_
  refine c_seq ?_
  refine za0 ?_
  refine o_q rfl rfl (q_asg rfl) ?_
  refine o_end ?_
  refine za1 ?_
  refine c_seq ?_
  refine c_seq ?_
  refine za0 ?_
  refine o_q rfl rfl (za3 rfl) ?_
  refine o_q rfl rfl (q_len Tryd.underlying23 rfl) ?_
  refine o_q rfl rfl (za3 rfl) ?_
  refine o_end ?_
  refine za1 ?_
  refine zak ?_
  refine za6 h (fun o9 hl8 hR7 => ?_) rfl
  clear h
  refine c_fact (p := l0.length ≤ 9223372036854775807) (fun w h => (R0.now Z h).2.1) (fun hm6 => ?_)
  refine c_loopL (σ := (List Int) × Int) (fun k4 ((ys3, i1) : (List Int) × Int) => Rg l0 i1 ys3 ∧ ys3.length = k4 ∧ spec_l1All.l0 a1 a2 ys3 i1 = some o9) [6, 8, 11, 12, 13, 14, 15, 16, 17, 18, 19, 20] (fun ((ys3, i1) : (List Int) × Int) => [(11, .int .i64 i1)]) (fun ((ys3, i1) : (List Int) × Int) => []) l0.length (l0, 0) ⟨Rg.start _, rfl, hl8⟩ ⟨rfl, trivial⟩ (fun w h => h) ?_
  refine fun k4 => cur2 (listC (fun i1 U10 hJ_ => ?_) (fun y2 ys3 i1 U10 hJ_ => ?_))
  · skip
    clear hl8
    have hr5 := hJ_.1; have hk11 := hJ_.2.1; have h := hJ_.2.2; clear hJ_
    replace h : spec_l1All.l0 a1 a2 [] i1 = some o9 := h
    rw [spec_l1All.l0] at h
    refine c_seq ?_
    refine za0 ?_
    refine o_q rfl rfl (q_lss rfl rfl) ?_
    refine o_end ?_
    refine za1 ?_
    refine c_seq ?_
    refine c_false (congrArg Value.bool hr5.ge) ?_
    refine c_exit ?_
    refine za8 ?_
    refine za8 ?_
    have e_ := Option.some.inj h; replace h := hR7; rw [← e_] at h; clear e_
    refine x_hit ?_
    refine za1 ?_
    refine c_seq ?_
    refine za0 ?_
    refine o_q rfl rfl (q_asg rfl) ?_
    refine o_end ?_
    refine za1 ?_
    refine c_ret ?_
    have e0_ := Option.some.inj h; clear h
    subst e0_
    exact x_r1 () Tryd.results52 (zad rfl) rfl (fun w h => za7 [] (by decide) rfl w h)
  · skip
    clear hl8
    have hr5 := hJ_.1; have hk11 := hJ_.2.1; have h := hJ_.2.2; clear hJ_
    replace h : spec_l1All.l0 a1 a2 (y2 :: ys3) i1 = some o9 := h
    rw [spec_l1All.l0] at h
    refine c_seq ?_
    refine za0 ?_
    refine o_q rfl rfl (q_lss rfl rfl) ?_
    refine o_end ?_
    refine za1 ?_
    refine c_seq ?_
    refine c_true (congrArg Value.bool hr5.lt) ?_
    refine zal ?_
    refine za1 ?_
    refine c_seq ?_
    refine zak ?_
    refine c_seq ?_
    refine za0 ?_
    refine o_fact (p := Sh A0 l0.length l0.length) (fun w h => f_sh (dk := (Kd.int .i64)) h (fun w h => R0.now Z h)) (fun hq12 => ?_)
    refine o_q rfl rfl (q_ix Tryd.underlying23 Z3 rfl rfl hq12 hr5.get) ?_
    refine o_q rfl rfl (q_lde (off := 0) Y3 rfl rfl (fun w h => R0.now Z h) hr5.get (fun _ _ h => h) rfl) ?_
    refine o_q rfl rfl (q_asg rfl) ?_
    refine o_end ?_
    refine za1 ?_
    refine c_seq ?_
    refine za0 ?_
    refine o_q rfl rfl (za3 rfl) ?_
    refine o_q rfl rfl (za3 rfl) ?_
    refine o_q rfl rfl (za3 rfl) ?_
    refine za6 h (fun b14 hx13 h => ?_) rfl
    refine o_e rfl (zac 0 Z Tryd.func50 N50 rfl rfl rfl (fun w P1 hF hB hS hT => spec_l1In.calls y2 a1 a2 hB hF _ hx13)) (fun _ => ?_)
    refine o_q rfl rfl (q_not rfl) ?_
    refine o_end ?_
    refine za1 ?_
    refine zaq _ rfl (fun hb15 => ?_) (fun hb15 => ?_)
    · replace hb15 := nt_t hb15
      replace h := bb_f hb15 h
      refine c_seq ?_
      refine za0 ?_
      refine o_q rfl rfl (q_asg rfl) ?_
      refine o_end ?_
      refine za1 ?_
      refine c_ret ?_
      refine zah ?_
      refine za5 ?_
      refine za5 ?_
      have e_ := Option.some.inj h; replace h := hR7; rw [← e_] at h; clear e_
      refine zah ?_
      refine za5 ?_
      have e0_ := Option.some.inj h; clear h
      subst e0_
      exact x_r1 () Tryd.results52 (zad rfl) rfl (fun w h => za7 [] (by decide) rfl w h)
    · replace hb15 := nt_f hb15
      replace h := bb_t hb15 h
      refine zal ?_
      refine x_block ?_
      refine za1 ?_
      refine za0 ?_
      refine o_q rfl rfl (q_up rfl rfl (hr5.up hm6)) ?_
      refine o_q rfl rfl (za3 rfl) ?_
      refine o_end ?_
      refine zar ys3.length (ys3, i1 + 1) (by rw [← hk11]; exact Nat.lt_succ_self _) ⟨hr5.step, rfl, h⟩ ⟨rfl, trivial⟩ (fun w h => za7 [] (by decide) rfl w h) ?_
      repeat (first | exact zae _ _ | refine zai rfl ?_ | refine zaf rfl ?_ | refine zaj rfl ?_)

/-! ### loop.example/g01098/spec.reShape: function 81 -/
def spec_reShape.l1 (a0_0 : Int) : (List SRegOp) → Int → Option ((Bool) ⊕ (Unit))
  | [], i22 => some (.inr ())
  | y23 :: ys24, i22 => (spec_l1All.f ([y23.f0, y23.f1, y23.f2] : List Int) 0 (w64 (a0_0 - 1))).bind fun b45 => if b45 = true then (spec_reShape.l1 a0_0 ys24 (i22 + 1)) else (some (.inl false))
def spec_reShape.l0 (l0_1 : List Int) : (List Int) → Int → Option ((Bool) ⊕ (Unit))
  | [], i11 => some (.inr ())
  | y12 :: ys13, i11 => (ct l0_1 (0 : Int) i11).bind fun l48 => (spec_l1Has.f l48 y12).bind fun b51 => if b51 = true then (some (.inl false)) else (spec_reShape.l0 l0_1 ys13 (i11 + 1))
def spec_reShape.f (a0_0 : Int) (l0_1 : List Int) (l0_2 : List SRegOp) (l0_3 : List Int) : Option Bool := (spec_l1In.f a0_0 1 46).bind fun b4 => if b4 = true then ((spec_l1In.f (l0_1.length : Int) 1 6).bind fun b7 => if b7 = true then (if 40 < (l0_2.length : Int) then (some false) else (if 6 < (l0_3.length : Int) then (some false) else ((spec_reShape.l0 l0_1 l0_1 0).bind fun o_ => match o_ with | .inl r_ => some r_ | .inr _ => (spec_reShape.l1 a0_0 l0_2 0).bind fun o_ => match o_ with | .inl r_ => some r_ | .inr _ => (spec_l1All.f l0_1 0 (w64 (a0_0 - 1))).bind fun b34 => if b34 = true then ((spec_l1All.f l0_3 0 (w64 (a0_0 - 1))).bind fun b37 => some b37) else (some false)))) else (some false)) else (some false)
set_option maxHeartbeats 600000 in
set_option maxRecDepth 100000 in
theorem spec_reShape.calls {w0 ws : World} {P0 : Nat → Prop} (a0_0 : Int) (A0_1 : Option Addr) (c0_1 : Nat) (n0_1 : Nat) (l0_1 : List Int) (A0_2 : Option Addr) (c0_2 : Nat) (n0_2 : Nat) (l0_2 : List SRegOp) (A0_3 : Option Addr) (c0_3 : Nat) (n0_3 : Nat) (l0_3 : List Int) (Z : Below w0.heap.size w0 ws) (hF : Fr w0 ws P0 [] ws) (R0_1 : Stable ws P0 (fun w => Kd.C (Kd.int .i64) w A0_1 n0_1 l0_1)) (hc0_1 : n0_1 ≤ c0_1) (R0_2 : Stable ws P0 (fun w => Kd.C kRegOp w A0_2 n0_2 l0_2)) (hc0_2 : n0_2 ≤ c0_2) (R0_3 : Stable ws P0 (fun w => Kd.C (Kd.int .i64) w A0_3 n0_3 l0_3)) (hc0_3 : n0_3 ≤ c0_3) (r_1 : Bool) (h : spec_reShape.f a0_0 l0_1 l0_2 l0_3 = some r_1) :
    Calls Tryd.prog 81 #[.agg #[.int .i64 a0_0, .slice A0_1 n0_1 c0_1, .slice A0_2 n0_2 c0_2, .slice A0_3 n0_3 c0_3]] ws (Post1 w0 ws P0 (fun (_ : Unit) => .bool r_1) (fun (_ : Unit) => [])) := by
  unfold spec_reShape.f at h
  obtain rfl := (R0_1 ws (KeptB.refl _ _)).1
  obtain rfl := (R0_2 ws (KeptB.refl _ _)).1
  obtain rfl := (R0_3 ws (KeptB.refl _ _)).1
  refine enter Tryd.func81 rfl Tryd.ntmps81 rfl hF ?_
  refine c_seq ?_
  refine za0 ?_
  refine o_e rfl (e_box rfl) (fun g1 => ?_)
  refine o_q rfl rfl (q_asg rfl) ?_
  refine o_end ?_
  refine za1 ?_
  refine c_seq ?_
  refine c_seq ?_
  refine za0 ?_
  refine o_q rfl rfl (q_f F42_0 rfl) ?_
  refine o_q rfl rfl (q_ldb Y3 rfl (fun w h => h.zaa (i := 0) rfl) rfl) ?_
  refine za6 h (fun b4 hx3 h => ?_) rfl
  refine o_e rfl (zac 0 Z Tryd.func50 N50 rfl rfl rfl (fun w P1 hF hB hS hT => spec_l1In.calls a0_0 1 46 hB hF _ hx3)) (fun _ => ?_)
  refine o_q rfl rfl (q_not rfl) ?_
  refine o_q rfl rfl (za3 rfl) ?_
  refine byB b4 (fun hb5 => ?_) (fun hb5 => ?_)
  · replace h := bb_t hb5 h
    refine o_w (za4 rfl rfl rfl (congrArg (fun b => Value.bool (!(b))) hb5)) rfl (q_f F42_1 rfl) ?_
    refine o_w (za4 rfl rfl rfl (congrArg (fun b => Value.bool (!(b))) hb5)) rfl (q_ldb Y23 rfl (fun w h => h.zaa (i := 0) rfl) rfl) ?_
    refine o_w (za4 rfl rfl rfl (congrArg (fun b => Value.bool (!(b))) hb5)) rfl (q_len Tryd.underlying23 rfl) ?_
    refine za6 h (fun b7 hx6 h => ?_) rfl
    refine o_ew (za4 rfl rfl rfl (congrArg (fun b => Value.bool (!(b))) hb5)) (zac 0 Z Tryd.func50 N50 rfl rfl rfl (fun w P1 hF hB hS hT => spec_l1In.calls (l0_1.length : Int) 1 6 hB hF _ hx6)) (fun _ => ?_)
    refine o_w (za4 rfl rfl rfl (congrArg (fun b => Value.bool (!(b))) hb5)) rfl (q_not rfl) ?_
    refine o_q rfl rfl (zao false (congrArg (fun b => Value.bool (!(b))) hb5) rfl) ?_
    refine o_q rfl rfl (za3 rfl) ?_
    refine byB b7 (fun hb8 => ?_) (fun hb8 => ?_)
    · replace h := bb_t hb8 h
      refine o_w (za4 rfl rfl rfl (congrArg (fun b => Value.bool (!(b))) hb8)) rfl (q_f F42_2 rfl) ?_
      refine o_w (za4 rfl rfl rfl (congrArg (fun b => Value.bool (!(b))) hb8)) rfl (q_ldb Y40 rfl (fun w h => h.zaa (i := 0) rfl) rfl) ?_
      refine o_w (za4 rfl rfl rfl (congrArg (fun b => Value.bool (!(b))) hb8)) rfl (q_len Tryd.underlying40 rfl) ?_
      refine o_w (za4 rfl rfl rfl (congrArg (fun b => Value.bool (!(b))) hb8)) rfl (q_gtr rfl rfl) ?_
      refine o_q rfl rfl (zao false (congrArg (fun b => Value.bool (!(b))) hb8) rfl) ?_
      refine o_q rfl rfl (za3 rfl) ?_
      refine byB (decide (40 < (l0_2.length : Int))) (fun hb9 => ?_) (fun hb9 => ?_)
      · replace h := br_t hb9 h
        refine @o_n _ _ _ _ _ _ _ _ _ _ _ 25 (za2 rfl rfl rfl (congrArg Value.bool hb9) rfl) (Eq.refl (some 25)) ?_
        refine @o_n _ _ _ _ _ _ _ _ _ _ _ 26 (za2 rfl rfl rfl (congrArg Value.bool hb9) rfl) (Eq.refl (some 26)) ?_
        refine @o_n _ _ _ _ _ _ _ _ _ _ _ 27 (za2 rfl rfl rfl (congrArg Value.bool hb9) rfl) (Eq.refl (some 27)) ?_
        refine @o_n _ _ _ _ _ _ _ _ _ _ _ 28 (za2 rfl rfl rfl (congrArg Value.bool hb9) rfl) (Eq.refl (some 28)) ?_
        refine o_q rfl rfl (zao true (congrArg Value.bool hb9) rfl) ?_
        refine o_end ?_
        refine za1 ?_
        refine c_true rfl ?_
        refine c_seq ?_
        refine za0 ?_
        refine o_q rfl rfl (q_asg rfl) ?_
        refine o_end ?_
        refine za1 ?_
        refine c_ret ?_
        refine za5 ?_
        have e0_ := Option.some.inj h; clear h
        subst e0_
        exact x_r1 () Tryd.results81 (zad rfl) rfl (fun w h => za7 [] (by decide) rfl w h)
      · replace h := br_f hb9 h
        refine o_w (za4 rfl rfl rfl (congrArg Value.bool hb9)) rfl (q_f F42_3 rfl) ?_
        refine o_w (za4 rfl rfl rfl (congrArg Value.bool hb9)) rfl (q_ldb Y23 rfl (fun w h => h.zaa (i := 0) rfl) rfl) ?_
        refine o_w (za4 rfl rfl rfl (congrArg Value.bool hb9)) rfl (q_len Tryd.underlying23 rfl) ?_
        refine o_w (za4 rfl rfl rfl (congrArg Value.bool hb9)) rfl (q_gtr rfl rfl) ?_
        refine o_q rfl rfl (zao false (congrArg Value.bool hb9) rfl) ?_
        refine o_end ?_
        refine za1 ?_
        refine zaq _ rfl (fun hb10 => ?_) (fun hb10 => ?_)
        · skip
          replace h := br_t hb10 h
          refine c_seq ?_
          refine za0 ?_
          refine o_q rfl rfl (q_asg rfl) ?_
          refine o_end ?_
          refine za1 ?_
          refine c_ret ?_
          refine za5 ?_
          have e0_ := Option.some.inj h; clear h
          subst e0_
          exact x_r1 () Tryd.results81 (zad rfl) rfl (fun w h => za7 [] (by decide) rfl w h)
        · skip
          replace h := br_f hb10 h
          refine zal ?_
          refine za1 ?_
          refine c_seq ?_
          refine c_seq ?_
          refine za0 ?_
          refine o_q rfl rfl (q_f F42_1 rfl) ?_
          refine o_q rfl rfl (q_ldb Y23 rfl (fun w h => h.zaa (i := 0) rfl) rfl) ?_
          refine o_q rfl rfl (q_len Tryd.underlying23 rfl) ?_
          refine o_q rfl rfl (za3 rfl) ?_
          refine o_end ?_
          refine za1 ?_
          refine zak ?_
          refine za6 h (fun o19 hl18 hR17 => ?_) rfl
          clear h
          refine c_fact (p := l0_1.length ≤ 9223372036854775807) (fun w h => (R0_1.now Z h).2.1) (fun hm16 => ?_)
          refine c_loopL (σ := (List Int) × Int) (fun k14 ((ys13, i11) : (List Int) × Int) => Rg l0_1 i11 ys13 ∧ ys13.length = k14 ∧ spec_reShape.l0 l0_1 ys13 i11 = some o19) [2, 3, 4, 33, 34, 35, 36, 37, 38, 39, 40, 41, 42, 43, 44] (fun ((ys13, i11) : (List Int) × Int) => [(33, .int .i64 i11)]) (fun ((ys13, i11) : (List Int) × Int) => [box g1 42 #[.int .i64 a0_0, .slice A0_1 l0_1.length c0_1, .slice A0_2 l0_2.length c0_2, .slice A0_3 l0_3.length c0_3]]) l0_1.length (l0_1, 0) ⟨Rg.start _, rfl, hl18⟩ ⟨rfl, trivial⟩ (fun w h => h) ?_
          refine fun k14 => cur2 (listC (fun i11 U20 hJ_ => ?_) (fun y12 ys13 i11 U20 hJ_ => ?_))
          · skip
            clear hl18
            have hr15 := hJ_.1; have hk21 := hJ_.2.1; have h := hJ_.2.2; clear hJ_
            replace h : spec_reShape.l0 l0_1 [] i11 = some o19 := h
            rw [spec_reShape.l0] at h
            refine c_seq ?_
            refine za0 ?_
            refine o_q rfl rfl (q_lss rfl rfl) ?_
            refine o_end ?_
            refine za1 ?_
            refine c_seq ?_
            refine c_false (congrArg Value.bool hr15.ge) ?_
            refine c_exit ?_
            refine za8 ?_
            refine za8 ?_
            have e_ := Option.some.inj h; replace h := hR17; rw [← e_] at h; clear e_
            refine x_hit ?_
            refine za1 ?_
            refine c_seq ?_
            refine c_seq ?_
            refine za0 ?_
            refine o_q rfl rfl (q_f F42_2 rfl) ?_
            refine o_q rfl rfl (q_ldb Y40 rfl (fun w h => h.zaa (i := 0) rfl) rfl) ?_
            refine o_q rfl rfl (q_len Tryd.underlying40 rfl) ?_
            refine o_q rfl rfl (za3 rfl) ?_
            refine o_end ?_
            refine za1 ?_
            refine zak ?_
            refine za6 h (fun o30 hl29 hR28 => ?_) rfl
            clear h
            refine c_fact (p := l0_2.length ≤ 9223372036854775807) (fun w h => (R0_2.now Z h).2.1) (fun hm27 => ?_)
            refine c_loopL (σ := (List SRegOp) × Int) (fun k25 ((ys24, i22) : (List SRegOp) × Int) => Rg l0_2 i22 ys24 ∧ ys24.length = k25 ∧ spec_reShape.l1 a0_0 ys24 i22 = some o30) [2, 6, 48, 49, 50, 51, 52, 53, 54, 55, 56, 57, 58, 59, 60, 61, 62, 63, 64] (fun ((ys24, i22) : (List SRegOp) × Int) => [(48, .int .i64 i22)]) (fun ((ys24, i22) : (List SRegOp) × Int) => [box g1 42 #[.int .i64 a0_0, .slice A0_1 l0_1.length c0_1, .slice A0_2 l0_2.length c0_2, .slice A0_3 l0_3.length c0_3]]) l0_2.length (l0_2, 0) ⟨Rg.start _, rfl, hl29⟩ ⟨rfl, trivial⟩ (fun w h => h) ?_
            refine fun k25 => cur2 (listC (fun i22 U31 hJ_ => ?_) (fun y23 ys24 i22 U31 hJ_ => ?_))
            · skip
              clear hl29
              have hr26 := hJ_.1; have hk32 := hJ_.2.1; have h := hJ_.2.2; clear hJ_
              replace h : spec_reShape.l1 a0_0 [] i22 = some o30 := h
              rw [spec_reShape.l1] at h
              refine c_seq ?_
              refine za0 ?_
              refine o_q rfl rfl (q_lss rfl rfl) ?_
              refine o_end ?_
              refine za1 ?_
              refine c_seq ?_
              refine c_false (congrArg Value.bool hr26.ge) ?_
              refine c_exit ?_
              refine za8 ?_
              refine za8 ?_
              have e_ := Option.some.inj h; replace h := hR28; rw [← e_] at h; clear e_
              refine x_hit ?_
              refine za1 ?_
              refine c_seq ?_
              refine za0 ?_
              refine o_q rfl rfl (q_f F42_1 rfl) ?_
              refine o_q rfl rfl (q_ldb Y23 rfl (fun w h => h.zaa (i := 0) rfl) rfl) ?_
              refine o_q rfl rfl (q_f F42_0 rfl) ?_
              refine o_q rfl rfl (q_ldb Y3 rfl (fun w h => h.zaa (i := 0) rfl) rfl) ?_
              refine o_q rfl rfl (q_sub64 rfl rfl) ?_
              refine za6 h (fun b34 hx33 h => ?_) rfl
              refine o_e rfl (zac 0 Z Tryd.func52 N52 rfl rfl rfl (fun w P1 hF hB hS hT => spec_l1All.calls A0_1 c0_1 l0_1.length l0_1 0 (w64 (a0_0 - 1)) hB hF (hS _ R0_1) hc0_1 _ hx33)) (fun _ => ?_)
              refine o_q rfl rfl (za3 rfl) ?_
              refine byB b34 (fun hb35 => ?_) (fun hb35 => ?_)
              · replace h := bb_t hb35 h
                refine o_w (za4 rfl rfl rfl (congrArg Value.bool hb35)) rfl (q_f F42_3 rfl) ?_
                refine o_w (za4 rfl rfl rfl (congrArg Value.bool hb35)) rfl (q_ldb Y23 rfl (fun w h => h.zaa (i := 0) rfl) rfl) ?_
                refine o_w (za4 rfl rfl rfl (congrArg Value.bool hb35)) rfl (q_f F42_0 rfl) ?_
                refine o_w (za4 rfl rfl rfl (congrArg Value.bool hb35)) rfl (q_ldb Y3 rfl (fun w h => h.zaa (i := 0) rfl) rfl) ?_
                refine o_w (za4 rfl rfl rfl (congrArg Value.bool hb35)) rfl (q_sub64 rfl rfl) ?_
                refine za6 h (fun b37 hx36 h => ?_) rfl
                refine o_ew (za4 rfl rfl rfl (congrArg Value.bool hb35)) (zac 0 Z Tryd.func52 N52 rfl rfl rfl (fun w P1 hF hB hS hT => spec_l1All.calls A0_3 c0_3 l0_3.length l0_3 0 (w64 (a0_0 - 1)) hB hF (hS _ R0_3) hc0_3 _ hx36)) (fun _ => ?_)
                refine o_q rfl rfl (zao true (congrArg Value.bool hb35) rfl) ?_
                refine o_q rfl rfl (q_asg rfl) ?_
                refine o_end ?_
                refine za1 ?_
                refine c_ret ?_
                have e0_ := Option.some.inj h; clear h
                subst e0_
                exact x_r1 () Tryd.results81 (zad rfl) rfl (fun w h => za7 [] (by decide) rfl w h)
              · replace h := bb_f hb35 h
                refine @o_n _ _ _ _ _ _ _ _ _ _ _ 72 (za2 rfl rfl rfl (congrArg Value.bool hb35) rfl) (Eq.refl (some 72)) ?_
                refine @o_n _ _ _ _ _ _ _ _ _ _ _ 73 (za2 rfl rfl rfl (congrArg Value.bool hb35) rfl) (Eq.refl (some 73)) ?_
                refine @o_n _ _ _ _ _ _ _ _ _ _ _ 74 (za2 rfl rfl rfl (congrArg Value.bool hb35) rfl) (Eq.refl (some 74)) ?_
                refine @o_n _ _ _ _ _ _ _ _ _ _ _ 75 (za2 rfl rfl rfl (congrArg Value.bool hb35) rfl) (Eq.refl (some 75)) ?_
                refine @o_n _ _ _ _ _ _ _ _ _ _ _ 76 (za2 rfl rfl rfl (congrArg Value.bool hb35) rfl) (Eq.refl (some 76)) ?_
                refine @o_n _ _ _ _ _ _ _ _ _ _ _ 77 (za2 rfl rfl rfl (congrArg Value.bool hb35) rfl) (Eq.refl (some 77)) ?_
                refine o_q rfl rfl (zao false (congrArg Value.bool hb35) rfl) ?_
                refine o_q rfl rfl (q_asg rfl) ?_
                refine o_end ?_
                refine za1 ?_
                refine c_ret ?_
                have e0_ := Option.some.inj h; clear h
                subst e0_
                exact x_r1 () Tryd.results81 (zad rfl) rfl (fun w h => za7 [] (by decide) rfl w h)
            · skip
              clear hl29
              have hr26 := hJ_.1; have hk32 := hJ_.2.1; have h := hJ_.2.2; clear hJ_
              replace h : spec_reShape.l1 a0_0 (y23 :: ys24) i22 = some o30 := h
              rw [spec_reShape.l1] at h
              refine c_seq ?_
              refine za0 ?_
              refine o_q rfl rfl (q_lss rfl rfl) ?_
              refine o_end ?_
              refine za1 ?_
              refine c_seq ?_
              refine c_true (congrArg Value.bool hr26.lt) ?_
              refine zal ?_
              refine za1 ?_
              refine c_seq ?_
              refine zak ?_
              refine c_seq ?_
              refine za0 ?_
              refine o_fact (p := Sh A0_2 l0_2.length l0_2.length) (fun w h => f_sh (dk := kRegOp) h (fun w h => R0_2.now Z h)) (fun hq38 => ?_)
              refine o_q rfl rfl (q_ix Tryd.underlying40 Z95 rfl rfl hq38 hr26.get) ?_
              refine o_q rfl rfl (q_ldE G95 Z95 rfl rfl (fun w h => R0_2.now Z h) hr26.get (fun _ _ h => h) rfl) ?_
              refine o_e rfl (zas V95 rfl) (fun g39 => ?_)
              refine o_e rfl (zan (i := 0) rfl rfl rfl Z95 rfl rfl) (fun _ => ?_)
              refine o_end ?_
              refine za1 ?_
              refine c_seq ?_
              refine za0 ?_
              refine o_q rfl rfl (q_f F95_0 rfl) ?_
              refine o_q rfl rfl (q_ldb Y3 rfl (fun w h => h.zaa (i := 0) rfl) rfl) ?_
              refine o_q rfl rfl (q_f F95_1 rfl) ?_
              refine o_q rfl rfl (q_ldb Y3 rfl (fun w h => h.zaa (i := 0) rfl) rfl) ?_
              refine o_q rfl rfl (q_f F95_2 rfl) ?_
              refine o_q rfl rfl (q_ldb Y3 rfl (fun w h => h.zaa (i := 0) rfl) rfl) ?_
              refine o_e rfl (e_lit (vs := [(0, .int .i64 y23.f0), (1, .int .i64 y23.f1), (2, .int .i64 y23.f2)]) (cs := [.int .i64 y23.f0, .int .i64 y23.f1, .int .i64 y23.f2]) (Kd.int .i64) ([y23.f0, y23.f1, y23.f2] : List Int) Tryd.underlying23 I3 (by decide) rfl (by decide) rfl rfl (fun _ _ => Kd.zau _)) (cur2 (fun A41 c42 => ?_))
              refine o_q rfl rfl (q_f F42_0 rfl) ?_
              refine o_q rfl rfl (q_ldb Y3 rfl (fun w h => h.zaa (i := 2) rfl) rfl) ?_
              refine o_q rfl rfl (q_sub64 rfl rfl) ?_
              refine za6 h (fun b45 hx44 h => ?_) rfl
              refine o_e rfl (zac 0 Z Tryd.func52 N52 rfl rfl rfl (fun w P1 hF hB hS hT => spec_l1All.calls A41 c42 (([y23.f0, y23.f1, y23.f2] : List Int).length) ([y23.f0, y23.f1, y23.f2] : List Int) 0 (w64 (a0_0 - 1)) hB hF (hT 0 _ rfl).row (hT 0 _ rfl).cap _ hx44)) (fun _ => ?_)
              refine o_q rfl rfl (q_not rfl) ?_
              refine o_end ?_
              refine za1 ?_
              refine zaq _ rfl (fun hb46 => ?_) (fun hb46 => ?_)
              · replace hb46 := nt_t hb46
                replace h := bb_f hb46 h
                refine c_seq ?_
                refine za0 ?_
                refine o_q rfl rfl (q_asg rfl) ?_
                refine o_end ?_
                refine za1 ?_
                refine c_ret ?_
                refine zah ?_
                refine za5 ?_
                refine za5 ?_
                have e_ := Option.some.inj h; replace h := hR28; rw [← e_] at h; clear e_
                refine zah ?_
                refine za5 ?_
                have e0_ := Option.some.inj h; clear h
                subst e0_
                exact x_r1 () Tryd.results81 (zad rfl) rfl (fun w h => za7 [] (by decide) rfl w h)
              · replace hb46 := nt_f hb46
                replace h := bb_t hb46 h
                refine zal ?_
                refine x_block ?_
                refine za1 ?_
                refine za0 ?_
                refine o_q rfl rfl (q_up rfl rfl (hr26.up hm27)) ?_
                refine o_q rfl rfl (za3 rfl) ?_
                refine o_end ?_
                refine zar ys24.length (ys24, i22 + 1) (by rw [← hk32]; exact Nat.lt_succ_self _) ⟨hr26.step, rfl, h⟩ ⟨rfl, trivial⟩ (fun w h => za7 [2] (by decide) rfl w h) ?_
                repeat (first | exact zae _ _ | refine zai rfl ?_ | refine zaf rfl ?_ | refine zaj rfl ?_)
          · skip
            clear hl18
            have hr15 := hJ_.1; have hk21 := hJ_.2.1; have h := hJ_.2.2; clear hJ_
            replace h : spec_reShape.l0 l0_1 (y12 :: ys13) i11 = some o19 := h
            rw [spec_reShape.l0] at h
            refine c_seq ?_
            refine za0 ?_
            refine o_q rfl rfl (q_lss rfl rfl) ?_
            refine o_end ?_
            refine za1 ?_
            refine c_seq ?_
            refine c_true (congrArg Value.bool hr15.lt) ?_
            refine zal ?_
            refine za1 ?_
            refine c_seq ?_
            refine zak ?_
            refine c_seq ?_
            refine za0 ?_
            refine o_q rfl rfl (za3 rfl) ?_
            refine o_fact (p := Sh A0_1 l0_1.length l0_1.length) (fun w h => f_sh (dk := (Kd.int .i64)) h (fun w h => R0_1.now Z h)) (fun hq47 => ?_)
            refine o_q rfl rfl (q_ix Tryd.underlying23 Z3 rfl rfl hq47 hr15.get) ?_
            refine o_q rfl rfl (q_lde (off := 0) Y3 rfl rfl (fun w h => R0_1.now Z h) hr15.get (fun _ _ h => h) rfl) ?_
            refine o_q rfl rfl (q_asg rfl) ?_
            refine o_q rfl rfl (q_asg rfl) ?_
            refine o_end ?_
            refine za1 ?_
            refine c_seq ?_
            refine za0 ?_
            refine o_q rfl rfl (q_f F42_1 rfl) ?_
            refine o_q rfl rfl (q_ldb Y23 rfl (fun w h => h.zaa (i := 0) rfl) rfl) ?_
            refine o_q rfl rfl (za3 rfl) ?_
            refine za6 h (fun l48 hz49 h => ?_) rfl
            refine o_q rfl rfl (q_ctv Tryd.underlying23 Z3 rfl rfl ⟨_, rfl⟩ rfl hc0_1 hz49) ?_
            refine o_q rfl rfl (za3 rfl) ?_
            refine za6 h (fun b51 hx50 h => ?_) rfl
            refine o_e rfl (zac 0 Z Tryd.func97 N97 rfl rfl rfl (fun w P1 hF hB hS hT => spec_l1Has.calls (cutA A0_1 c0_1 (0 : Int).toNat 1) (c0_1 - (0 : Int).toNat) l48.length l48 y12 hB hF (stab_cut (dk := (Kd.int .i64)) rfl hz49 hc0_1 (hS _ R0_1)) (ct_cap hz49 rfl hc0_1) _ hx50)) (fun _ => ?_)
            refine o_end ?_
            refine za1 ?_
            refine zaq _ rfl (fun hb52 => ?_) (fun hb52 => ?_)
            · skip
              replace h := bb_t hb52 h
              refine c_seq ?_
              refine za0 ?_
              refine o_q rfl rfl (q_asg rfl) ?_
              refine o_end ?_
              refine za1 ?_
              refine c_ret ?_
              refine zah ?_
              refine za5 ?_
              refine za5 ?_
              have e_ := Option.some.inj h; replace h := hR17; rw [← e_] at h; clear e_
              refine zah ?_
              refine za5 ?_
              have e0_ := Option.some.inj h; clear h
              subst e0_
              exact x_r1 () Tryd.results81 (zad rfl) rfl (fun w h => za7 [] (by decide) rfl w h)
            · skip
              replace h := bb_f hb52 h
              refine zal ?_
              refine x_block ?_
              refine za1 ?_
              refine za0 ?_
              refine o_q rfl rfl (q_up rfl rfl (hr15.up hm16)) ?_
              refine o_q rfl rfl (za3 rfl) ?_
              refine o_end ?_
              refine zar ys13.length (ys13, i11 + 1) (by rw [← hk21]; exact Nat.lt_succ_self _) ⟨hr15.step, rfl, h⟩ ⟨rfl, trivial⟩ (fun w h => za7 [0] (by decide) rfl w h) ?_
              repeat (first | exact zae _ _ | refine zai rfl ?_ | refine zaf rfl ?_ | refine zaj rfl ?_)
    · replace h := bb_f hb8 h
      refine @o_n _ _ _ _ _ _ _ _ _ _ _ 19 (za2 rfl rfl rfl (congrArg (fun b => Value.bool (!(b))) hb8) rfl) (Eq.refl (some 19)) ?_
      refine @o_n _ _ _ _ _ _ _ _ _ _ _ 20 (za2 rfl rfl rfl (congrArg (fun b => Value.bool (!(b))) hb8) rfl) (Eq.refl (some 20)) ?_
      refine @o_n _ _ _ _ _ _ _ _ _ _ _ 21 (za2 rfl rfl rfl (congrArg (fun b => Value.bool (!(b))) hb8) rfl) (Eq.refl (some 21)) ?_
      refine @o_n _ _ _ _ _ _ _ _ _ _ _ 22 (za2 rfl rfl rfl (congrArg (fun b => Value.bool (!(b))) hb8) rfl) (Eq.refl (some 22)) ?_
      refine o_q rfl rfl (zao true (congrArg (fun b => Value.bool (!(b))) hb8) rfl) ?_
      refine o_q rfl rfl (za3 rfl) ?_
      refine @o_n _ _ _ _ _ _ _ _ _ _ _ 25 (za2 rfl rfl rfl rfl rfl) (Eq.refl (some 25)) ?_
      refine @o_n _ _ _ _ _ _ _ _ _ _ _ 26 (za2 rfl rfl rfl rfl rfl) (Eq.refl (some 26)) ?_
      refine @o_n _ _ _ _ _ _ _ _ _ _ _ 27 (za2 rfl rfl rfl rfl rfl) (Eq.refl (some 27)) ?_
      refine @o_n _ _ _ _ _ _ _ _ _ _ _ 28 (za2 rfl rfl rfl rfl rfl) (Eq.refl (some 28)) ?_
      refine o_q rfl rfl (zao true rfl rfl) ?_
      refine o_end ?_
      refine za1 ?_
      refine c_true rfl ?_
      refine c_seq ?_
      refine za0 ?_
      refine o_q rfl rfl (q_asg rfl) ?_
      refine o_end ?_
      refine za1 ?_
      refine c_ret ?_
      refine za5 ?_
      have e0_ := Option.some.inj h; clear h
      subst e0_
      exact x_r1 () Tryd.results81 (zad rfl) rfl (fun w h => za7 [] (by decide) rfl w h)
  · replace h := bb_f hb5 h
    refine @o_n _ _ _ _ _ _ _ _ _ _ _ 12 (za2 rfl rfl rfl (congrArg (fun b => Value.bool (!(b))) hb5) rfl) (Eq.refl (some 12)) ?_
    refine @o_n _ _ _ _ _ _ _ _ _ _ _ 13 (za2 rfl rfl rfl (congrArg (fun b => Value.bool (!(b))) hb5) rfl) (Eq.refl (some 13)) ?_
    refine @o_n _ _ _ _ _ _ _ _ _ _ _ 14 (za2 rfl rfl rfl (congrArg (fun b => Value.bool (!(b))) hb5) rfl) (Eq.refl (some 14)) ?_
    refine @o_n _ _ _ _ _ _ _ _ _ _ _ 15 (za2 rfl rfl rfl (congrArg (fun b => Value.bool (!(b))) hb5) rfl) (Eq.refl (some 15)) ?_
    refine @o_n _ _ _ _ _ _ _ _ _ _ _ 16 (za2 rfl rfl rfl (congrArg (fun b => Value.bool (!(b))) hb5) rfl) (Eq.refl (some 16)) ?_
    refine o_q rfl rfl (zao true (congrArg (fun b => Value.bool (!(b))) hb5) rfl) ?_
    refine o_q rfl rfl (za3 rfl) ?_
    refine @o_n _ _ _ _ _ _ _ _ _ _ _ 19 (za2 rfl rfl rfl rfl rfl) (Eq.refl (some 19)) ?_
    refine @o_n _ _ _ _ _ _ _ _ _ _ _ 20 (za2 rfl rfl rfl rfl rfl) (Eq.refl (some 20)) ?_
    refine @o_n _ _ _ _ _ _ _ _ _ _ _ 21 (za2 rfl rfl rfl rfl rfl) (Eq.refl (some 21)) ?_
    refine @o_n _ _ _ _ _ _ _ _ _ _ _ 22 (za2 rfl rfl rfl rfl rfl) (Eq.refl (some 22)) ?_
    refine o_q rfl rfl (zao true rfl rfl) ?_
    refine o_q rfl rfl (za3 rfl) ?_
    refine @o_n _ _ _ _ _ _ _ _ _ _ _ 25 (za2 rfl rfl rfl rfl rfl) (Eq.refl (some 25)) ?_
    refine @o_n _ _ _ _ _ _ _ _ _ _ _ 26 (za2 rfl rfl rfl rfl rfl) (Eq.refl (some 26)) ?_
    refine @o_n _ _ _ _ _ _ _ _ _ _ _ 27 (za2 rfl rfl rfl rfl rfl) (Eq.refl (some 27)) ?_
    refine @o_n _ _ _ _ _ _ _ _ _ _ _ 28 (za2 rfl rfl rfl rfl rfl) (Eq.refl (some 28)) ?_
    refine o_q rfl rfl (zao true rfl rfl) ?_
    refine o_end ?_
    refine za1 ?_
    refine c_true rfl ?_
    refine c_seq ?_
    refine za0 ?_
    refine o_q rfl rfl (q_asg rfl) ?_
    refine o_end ?_
    refine za1 ?_
    refine c_ret ?_
    refine za5 ?_
    have e0_ := Option.some.inj h; clear h
    subst e0_
    exact x_r1 () Tryd.results81 (zad rfl) rfl (fun w h => za7 [] (by decide) rfl w h)

end Go.Proofs.YtnnlfipcoahcnaaDoor.P3
