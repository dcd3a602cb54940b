import Derived.Test.YtiaohjciddbpoaaKFnWindowsMakePlansHand
import Derived.Test.YtiaohjciddbpoaaKFnWindowsMakePlansOpr
import Derived.Test.YtiaohjciddbpoaaKFnWindowsMakePlansOpm
import Derived.Test.YtiaohjciddbpoaaProg
import Derived.Test.YtiaohjciddbpoaaKFnWindowsMakePlansWMore
import Derived.KernelRfl
namespace Go.Proofs.Ytiaohjciddbpoaa.H3
open Go.RowKit Go.Proofs.Ytiaohjciddbpoaa.Frame Go.Proofs.YtiaohjciddbpoaaW.PrintLast Go.Proofs.Ytiaohjciddbpoaa.Hand
open Go.Proofs.YtiaohjciddbpoaaW.PrintWords hiding mn mx
set_option linter.unusedVariables false
structure Swindow where
  f0 : Int
  f1 : Int
def kwindow : Kd Swindow := flat (fun x => [.int .i64 x.f0, .int .i64 x.f1]) 2 (fun _ => rfl) (fun x u hu => by
  simp only [List.mem_cons, List.not_mem_nil, or_false] at hu
  rcases hu with rfl | rfl <;> rfl)
structure SStep where
  f0 : Int
  f1 : Int
def kStep : Kd SStep := flat (fun x => [.int .i64 x.f0, .int .i64 x.f1]) 2 (fun _ => rfl) (fun x u hu => by
  simp only [List.mem_cons, List.not_mem_nil, or_false] at hu
  rcases hu with rfl | rfl <;> rfl)
theorem E107 : Try.prog.eqGuardType Try.prog.depth 107 = false := by kernel_rfl
theorem F107_0 : fldOff Try.prog 107 0 = some 0 := by kernel_rfl
theorem F107_1 : fldOff Try.prog 107 1 = some 1 := by kernel_rfl
theorem F25_0 : fldOff Try.prog 25 0 = some 0 := by kernel_rfl
theorem F25_1 : fldOff Try.prog 25 1 = some 1 := by kernel_rfl
theorem F25_2 : fldOff Try.prog 25 2 = some 2 := by kernel_rfl
theorem F76_0 : fldOff Try.prog 76 0 = some 0 := by kernel_rfl
theorem F76_1 : fldOff Try.prog 76 1 = some 1 := by kernel_rfl
theorem F84_0 : fldOff Try.prog 84 0 = some 0 := by kernel_rfl
theorem F84_1 : fldOff Try.prog 84 1 = some 1 := by kernel_rfl
theorem F84_2 : fldOff Try.prog 84 2 = some 2 := by kernel_rfl
theorem F94_0 : fldOff Try.prog 94 0 = some 0 := by kernel_rfl
theorem G107 : aggTy (Try.prog.underlying 107) = true := by kernel_rfl
theorem G25 : aggTy (Try.prog.underlying 25) = true := by kernel_rfl
theorem G76 : aggTy (Try.prog.underlying 76) = true := by kernel_rfl
theorem I107 : (Try.prog.info? 107).map (fun i => (i.zero, i.size, i.bytes)) = some (some (.agg #[.int .i64 0, .int .i64 0]), 2, 16) := by kernel_rfl
theorem I23 : (Try.prog.info? 23).map (fun i => (i.zero, i.size, i.bytes)) = some (some (.slice none 0 0), 1, 24) := by kernel_rfl
theorem I3 : (Try.prog.info? 3).map (fun i => (i.zero, i.size, i.bytes)) = some (some (.int .i64 0), 1, 8) := by kernel_rfl
theorem I4 : (Try.prog.info? 4).map (fun i => (i.zero, i.size, i.bytes)) = some (some (.bool false), 1, 1) := by kernel_rfl
theorem I76 : (Try.prog.info? 76).map (fun i => (i.zero, i.size, i.bytes)) = some (some (.agg #[.int .i64 0, .int .i64 0]), 2, 16) := by kernel_rfl
theorem MO : Try.prog.follows .mixedOrders = true := by kernel_rfl
theorem N10 : (Try.f10.name == "runtime.NumGoroutine") = false := by kernel_rfl
theorem N102 : (Try.f102.name == "runtime.NumGoroutine") = false := by kernel_rfl
theorem N106 : (Try.f106.name == "runtime.NumGoroutine") = false := by kernel_rfl
theorem N107 : (Try.f107.name == "runtime.NumGoroutine") = false := by kernel_rfl
theorem N108 : (Try.f108.name == "runtime.NumGoroutine") = false := by kernel_rfl
theorem N109 : (Try.f109.name == "runtime.NumGoroutine") = false := by kernel_rfl
theorem N11 : (Try.f11.name == "runtime.NumGoroutine") = false := by kernel_rfl
theorem N110 : (Try.f110.name == "runtime.NumGoroutine") = false := by kernel_rfl
theorem N111 : (Try.f111.name == "runtime.NumGoroutine") = false := by kernel_rfl
theorem N112 : (Try.f112.name == "runtime.NumGoroutine") = false := by kernel_rfl
theorem N113 : (Try.f113.name == "runtime.NumGoroutine") = false := by kernel_rfl
theorem N114 : (Try.f114.name == "runtime.NumGoroutine") = false := by kernel_rfl
theorem N115 : (Try.f115.name == "runtime.NumGoroutine") = false := by kernel_rfl
theorem N116 : (Try.f116.name == "runtime.NumGoroutine") = false := by kernel_rfl
theorem N117 : (Try.f117.name == "runtime.NumGoroutine") = false := by kernel_rfl
theorem N118 : (Try.f118.name == "runtime.NumGoroutine") = false := by kernel_rfl
theorem N120 : (Try.f120.name == "runtime.NumGoroutine") = false := by kernel_rfl
theorem N123 : (Try.f123.name == "runtime.NumGoroutine") = false := by kernel_rfl
theorem N124 : (Try.f124.name == "runtime.NumGoroutine") = false := by kernel_rfl
theorem N126 : (Try.f126.name == "runtime.NumGoroutine") = false := by kernel_rfl
theorem N130 : (Try.f130.name == "runtime.NumGoroutine") = false := by kernel_rfl
theorem N136 : (Try.f136.name == "runtime.NumGoroutine") = false := by kernel_rfl
theorem N137 : (Try.f137.name == "runtime.NumGoroutine") = false := by kernel_rfl
theorem N138 : (Try.f138.name == "runtime.NumGoroutine") = false := by kernel_rfl
theorem N139 : (Try.f139.name == "runtime.NumGoroutine") = false := by kernel_rfl
theorem N142 : (Try.f142.name == "runtime.NumGoroutine") = false := by kernel_rfl
theorem N143 : (Try.f143.name == "runtime.NumGoroutine") = false := by kernel_rfl
theorem N146 : (Try.f146.name == "runtime.NumGoroutine") = false := by kernel_rfl
theorem N147 : (Try.f147.name == "runtime.NumGoroutine") = false := by kernel_rfl
theorem N148 : (Try.f148.name == "runtime.NumGoroutine") = false := by kernel_rfl
theorem N149 : (Try.f149.name == "runtime.NumGoroutine") = false := by kernel_rfl
theorem N15 : (Try.f15.name == "runtime.NumGoroutine") = false := by kernel_rfl
theorem N152 : (Try.f152.name == "runtime.NumGoroutine") = false := by kernel_rfl
theorem N154 : (Try.f154.name == "runtime.NumGoroutine") = false := by kernel_rfl
theorem N155 : (Try.f155.name == "runtime.NumGoroutine") = false := by kernel_rfl
theorem N156 : (Try.f156.name == "runtime.NumGoroutine") = false := by kernel_rfl
theorem N157 : (Try.f157.name == "runtime.NumGoroutine") = false := by kernel_rfl
theorem N16 : (Try.f16.name == "runtime.NumGoroutine") = false := by kernel_rfl
theorem N160 : (Try.f160.name == "runtime.NumGoroutine") = false := by kernel_rfl
theorem N161 : (Try.f161.name == "runtime.NumGoroutine") = false := by kernel_rfl
theorem N162 : (Try.f162.name == "runtime.NumGoroutine") = false := by kernel_rfl
theorem N163 : (Try.f163.name == "runtime.NumGoroutine") = false := by kernel_rfl
theorem N164 : (Try.f164.name == "runtime.NumGoroutine") = false := by kernel_rfl
theorem N168 : (Try.f168.name == "runtime.NumGoroutine") = false := by kernel_rfl
theorem N22 : (Try.f22.name == "runtime.NumGoroutine") = false := by kernel_rfl
theorem N23 : (Try.f23.name == "runtime.NumGoroutine") = false := by kernel_rfl
theorem N24 : (Try.f24.name == "runtime.NumGoroutine") = false := by kernel_rfl
theorem N25 : (Try.f25.name == "runtime.NumGoroutine") = false := by kernel_rfl
theorem N26 : (Try.f26.name == "runtime.NumGoroutine") = false := by kernel_rfl
theorem N27 : (Try.f27.name == "runtime.NumGoroutine") = false := by kernel_rfl
theorem N28 : (Try.f28.name == "runtime.NumGoroutine") = false := by kernel_rfl
theorem N29 : (Try.f29.name == "runtime.NumGoroutine") = false := by kernel_rfl
theorem N30 : (Try.f30.name == "runtime.NumGoroutine") = false := by kernel_rfl
theorem N32 : (Try.f32.name == "runtime.NumGoroutine") = false := by kernel_rfl
theorem N45 : (Try.f45.name == "runtime.NumGoroutine") = false := by kernel_rfl
theorem N49 : (Try.f49.name == "runtime.NumGoroutine") = false := by kernel_rfl
theorem N50 : (Try.f50.name == "runtime.NumGoroutine") = false := by kernel_rfl
theorem N51 : (Try.f51.name == "runtime.NumGoroutine") = false := by kernel_rfl
theorem N52 : (Try.f52.name == "runtime.NumGoroutine") = false := by kernel_rfl
theorem N53 : (Try.f53.name == "runtime.NumGoroutine") = false := by kernel_rfl
theorem N54 : (Try.f54.name == "runtime.NumGoroutine") = false := by kernel_rfl
theorem N55 : (Try.f55.name == "runtime.NumGoroutine") = false := by kernel_rfl
theorem N56 : (Try.f56.name == "runtime.NumGoroutine") = false := by kernel_rfl
theorem N57 : (Try.f57.name == "runtime.NumGoroutine") = false := by kernel_rfl
theorem N58 : (Try.f58.name == "runtime.NumGoroutine") = false := by kernel_rfl
theorem N59 : (Try.f59.name == "runtime.NumGoroutine") = false := by kernel_rfl
theorem N60 : (Try.f60.name == "runtime.NumGoroutine") = false := by kernel_rfl
theorem N61 : (Try.f61.name == "runtime.NumGoroutine") = false := by kernel_rfl
theorem N62 : (Try.f62.name == "runtime.NumGoroutine") = false := by kernel_rfl
theorem N66 : (Try.f66.name == "runtime.NumGoroutine") = false := by kernel_rfl
theorem N67 : (Try.f67.name == "runtime.NumGoroutine") = false := by kernel_rfl
theorem N70 : (Try.f70.name == "runtime.NumGoroutine") = false := by kernel_rfl
theorem N71 : (Try.f71.name == "runtime.NumGoroutine") = false := by kernel_rfl
theorem N72 : (Try.f72.name == "runtime.NumGoroutine") = false := by kernel_rfl
theorem N73 : (Try.f73.name == "runtime.NumGoroutine") = false := by kernel_rfl
theorem N74 : (Try.f74.name == "runtime.NumGoroutine") = false := by kernel_rfl
theorem N75 : (Try.f75.name == "runtime.NumGoroutine") = false := by kernel_rfl
theorem N82 : (Try.f82.name == "runtime.NumGoroutine") = false := by kernel_rfl
theorem N86 : (Try.f86.name == "runtime.NumGoroutine") = false := by kernel_rfl
theorem N88 : (Try.f88.name == "runtime.NumGoroutine") = false := by kernel_rfl
theorem N89 : (Try.f89.name == "runtime.NumGoroutine") = false := by kernel_rfl
theorem N90 : (Try.f90.name == "runtime.NumGoroutine") = false := by kernel_rfl
theorem N95 : (Try.f95.name == "runtime.NumGoroutine") = false := by kernel_rfl
theorem N96 : (Try.f96.name == "runtime.NumGoroutine") = false := by kernel_rfl
theorem N98 : (Try.f98.name == "runtime.NumGoroutine") = false := by kernel_rfl
theorem O107 : Try.prog.underlying 107 = some (.struct (Try.prog.fieldsOf 107)) := by kernel_rfl
theorem P107 : Try.prog.stoodInHeld 107 = false := by kernel_rfl
theorem Q107 : ∀ (a0 a1 b0 b1 : Int), fldsEq Try.prog (Try.prog.fieldsOf 107).toList #[.int .i64 a0, .int .i64 a1] #[.int .i64 b0, .int .i64 b1] = some (a0 == b0 && (a1 == b1 && true)) := by intros; kernel_rfl
theorem V107 : (Try.prog.info? 107).bind (·.zero) = some (.agg #[.int .i64 0, .int .i64 0]) := by kernel_rfl
theorem V117 : (Try.prog.info? 117).bind (·.zero) = some (.slice none 0 0) := by kernel_rfl
theorem V23 : (Try.prog.info? 23).bind (·.zero) = some (.slice none 0 0) := by kernel_rfl
theorem V25 : (Try.prog.info? 25).bind (·.zero) = some (.agg #[.int .i64 0, .slice none 0 0, .slice none 0 0]) := by kernel_rfl
theorem V3 : (Try.prog.info? 3).bind (·.zero) = some (.int .i64 0) := by kernel_rfl
theorem V60 : (Try.prog.info? 60).bind (·.zero) = some (.pointer none) := by kernel_rfl
theorem V76 : (Try.prog.info? 76).bind (·.zero) = some (.agg #[.int .i64 0, .int .i64 0]) := by kernel_rfl
theorem Y102 : cellTy (Try.prog.underlying 102) = true := by kernel_rfl
theorem Y117 : cellTy (Try.prog.underlying 117) = true := by kernel_rfl
theorem Y22 : cellTy (Try.prog.underlying 22) = true := by kernel_rfl
theorem Y23 : cellTy (Try.prog.underlying 23) = true := by kernel_rfl
theorem Y3 : cellTy (Try.prog.underlying 3) = true := by kernel_rfl
theorem Y36 : cellTy (Try.prog.underlying 36) = true := by kernel_rfl
theorem Y4 : cellTy (Try.prog.underlying 4) = true := by kernel_rfl
theorem Y5 : cellTy (Try.prog.underlying 5) = true := by kernel_rfl
theorem Y60 : cellTy (Try.prog.underlying 60) = true := by kernel_rfl
theorem Y82 : cellTy (Try.prog.underlying 82) = true := by kernel_rfl
theorem Z107 : (Try.prog.info? 107).map (·.size) = some 2 := by kernel_rfl
theorem Z117 : (Try.prog.info? 117).map (·.size) = some 1 := by kernel_rfl
theorem Z22 : (Try.prog.info? 22).map (·.size) = some 1 := by kernel_rfl
theorem Z23 : (Try.prog.info? 23).map (·.size) = some 1 := by kernel_rfl
theorem Z25 : (Try.prog.info? 25).map (·.size) = some 3 := by kernel_rfl
theorem Z3 : (Try.prog.info? 3).map (·.size) = some 1 := by kernel_rfl
theorem Z4 : (Try.prog.info? 4).map (·.size) = some 1 := by kernel_rfl
theorem Z5 : (Try.prog.info? 5).map (·.size) = some 1 := by kernel_rfl
theorem Z60 : (Try.prog.info? 60).map (·.size) = some 1 := by kernel_rfl
theorem Z76 : (Try.prog.info? 76).map (·.size) = some 2 := by kernel_rfl
theorem Z82 : (Try.prog.info? 82).map (·.size) = some 1 := by kernel_rfl
/-! ### loop.example/g01098/impl.in: function 113 -/
def impl_in.f (a0 : Int) (a1 : Int) (a2 : Int) : Option Bool := if a1 ≤ a0 then (some (decide (a0 ≤ a2))) else (some false)
set_option maxHeartbeats 600000 in
set_option maxRecDepth 100000 in
theorem impl_in.calls {w0 ws : World} {P0 : Nat → Prop} (a0 : Int) (a1 : Int) (a2 : Int) (Z : Below w0.heap.size w0 ws) (hF : Fr w0 ws P0 [] ws)  (r_1 : Bool) (h : impl_in.f a0 a1 a2 = some r_1) :
    Calls Try.prog 113 #[.int .i64 a0, .int .i64 a1, .int .i64 a2] ws (Post1 w0 ws P0 (fun (_ : Unit) => .bool r_1) (fun (_ : Unit) => [])) := by
  unfold impl_in.f at h
  refine enter Try.func113 rfl Try.ntmps113 rfl hF ?_
  refine c_seq ?_
  refine za0 ?_
  refine o_q rfl rfl (q_asg rfl) ?_
  refine o_end ?_
  refine za1 ?_
  refine c_seq ?_
  refine za0 ?_
  refine o_q rfl rfl (za2 rfl) ?_
  refine o_q rfl rfl (za2 rfl) ?_
  refine o_q rfl rfl (q_geq rfl rfl) ?_
  refine o_q rfl rfl (za2 rfl) ?_
  refine byB (decide (a1 ≤ a0)) (fun hb1 => ?_) (fun hb1 => ?_)
  · replace h := br_t hb1 h
    refine o_w (za5 rfl rfl rfl (congrArg Value.bool hb1)) rfl (za2 rfl) ?_
    refine o_w (za5 rfl rfl rfl (congrArg Value.bool hb1)) rfl (za2 rfl) ?_
    refine o_w (za5 rfl rfl rfl (congrArg Value.bool hb1)) rfl (q_leq rfl rfl) ?_
    refine o_q rfl rfl (zau true (congrArg Value.bool hb1) rfl) ?_
    refine o_q rfl rfl (q_asg rfl) ?_
    refine o_end ?_
    refine za1 ?_
    refine c_ret ?_
    have e0_ := Option.some.inj h; clear h
    subst e0_
    exact x_r1 () Try.results113 (zal rfl) rfl (fun w h => za6 [] (by decide) rfl w h)
  · replace h := br_f hb1 h
    refine @o_n _ _ _ _ _ _ _ _ _ _ _ 11 (za4 rfl rfl rfl (congrArg Value.bool hb1) rfl) (Eq.refl (some 11)) ?_
    refine @o_n _ _ _ _ _ _ _ _ _ _ _ 12 (za4 rfl rfl rfl (congrArg Value.bool hb1) rfl) (Eq.refl (some 12)) ?_
    refine @o_n _ _ _ _ _ _ _ _ _ _ _ 13 (za4 rfl rfl rfl (congrArg Value.bool hb1) rfl) (Eq.refl (some 13)) ?_
    refine o_q rfl rfl (zau false (congrArg Value.bool hb1) rfl) ?_
    refine o_q rfl rfl (q_asg rfl) ?_
    refine o_end ?_
    refine za1 ?_
    refine c_ret ?_
    have e0_ := Option.some.inj h; clear h
    subst e0_
    exact x_r1 () Try.results113 (zal rfl) rfl (fun w h => za6 [] (by decide) rfl w h)

/-! ### (*loop.example/g01098/impl.Plan).many: function 115 -/
def impl_Plan_many.f (a0_0 : Int) (l0_1 : List SStep) (l0_2 : List Int) : Option Unit := some ()
set_option maxHeartbeats 600000 in
set_option maxRecDepth 100000 in
theorem impl_Plan_many.calls {w0 ws : World} {P0 : Nat → Prop} (g0 : Nat) (a0_0 : Int) (A0_1 : Option Addr) (c0_1 : Nat) (n0_1 : Nat) (l0_1 : List SStep) (A0_2 : Option Addr) (c0_2 : Nat) (n0_2 : Nat) (l0_2 : List Int) (Z : Below w0.heap.size w0 ws) (hF : Fr w0 ws P0 [] ws) (R0_1 : Stable ws P0 (fun w => Kd.C kStep w A0_1 n0_1 l0_1)) (hc0_1 : n0_1 ≤ c0_1) (R0_2 : Stable ws P0 (fun w => Kd.C (Kd.int .i64) w A0_2 n0_2 l0_2)) (hc0_2 : n0_2 ≤ c0_2) (B0 : Stable ws P0 (fun w => w.heap[g0]? = some (.cells #[.int .i64 a0_0, .slice A0_1 n0_1 c0_1, .slice A0_2 n0_2 c0_2] 25 (0, 0))))  (h : impl_Plan_many.f a0_0 l0_1 l0_2 = some ()) :
    Calls Try.prog 115 #[.pointer (some ⟨g0, 0, none⟩)] ws (Post1 w0 ws P0 (fun (_ : Unit) => .int .i64 (w64 (a0_0 + (l0_1.length : Int)))) (fun (_ : Unit) => [])) := by
  unfold impl_Plan_many.f at h
  obtain rfl := (R0_1 ws (KeptB.refl _ _)).1
  obtain rfl := (R0_2 ws (KeptB.refl _ _)).1
  refine enter Try.func115 rfl Try.ntmps115 rfl hF ?_
  refine c_seq ?_
  refine za0 ?_
  refine o_q rfl rfl (q_asg rfl) ?_
  refine o_end ?_
  refine za1 ?_
  refine c_seq ?_
  refine a_start (ds := []) MO rfl ?_
  refine za7 0 rfl rfl rfl (by kernel_rfl) (fun _ _ _ h => h) (za2 rfl) ?_
  refine za7 1 rfl rfl rfl (by kernel_rfl) (fun _ _ _ h => h) (q_nil rfl) ?_
  refine za7 2 rfl rfl rfl (by kernel_rfl) (fun _ _ _ h => h) (q_f F25_0 rfl) ?_
  refine zb2 3 rfl rfl rfl (by kernel_rfl) (fun _ _ _ h => h) (fun w h => h) (q_ldb Y3 rfl (fun w h => B0.now Z h) rfl) ?_
  refine za7 4 rfl rfl rfl (by kernel_rfl) (fun _ _ _ h => h) (za2 rfl) ?_
  refine za7 5 rfl rfl rfl (by kernel_rfl) (fun _ _ _ h => h) (q_nil rfl) ?_
  refine za7 6 rfl rfl rfl (by kernel_rfl) (fun _ _ _ h => h) (q_f F25_1 rfl) ?_
  refine zb2 7 rfl rfl rfl (by kernel_rfl) (fun _ _ _ h => h) (fun w h => h) (q_ldb Y22 rfl (fun w h => B0.now Z h) rfl) ?_
  refine za7 8 rfl rfl rfl (by kernel_rfl) (fun _ _ _ h => h) (q_len Try.underlying22 rfl) ?_
  refine za7 9 rfl rfl rfl (by kernel_rfl) (fun _ _ _ h => h) (zb7 rfl rfl) ?_
  refine za7 10 rfl rfl rfl (by kernel_rfl) (fun _ _ _ h => h) (q_asg rfl) ?_
  refine zan (by kernel_rfl) ?_
  refine za1 ?_
  refine c_ret ?_
  exact x_r1 () Try.results115 (zal rfl) rfl (fun w h => za6 [] (by decide) rfl w h)

/-! ### (*loop.example/g01098/impl.Plan).formed$1: function 155 -/
def impl_Plan_formed_1.f (a0 : Int) (a1_0_0 : Int) (l1_0_1 : List SStep) (l1_0_2 : List Int) : Option Bool := (impl_Plan_many.f a1_0_0 l1_0_1 l1_0_2).bind fun _ => (impl_in.f a0 0 (w64 (w64 (a1_0_0 + (l1_0_1.length : Int)) - 1))).bind fun b3 => some (!b3)
set_option maxHeartbeats 600000 in
set_option maxRecDepth 100000 in
theorem impl_Plan_formed_1.calls {w0 ws : World} {P0 : Nat → Prop} (a0 : Int) (g1 : Nat) (g1_0 : Nat) (a1_0_0 : Int) (A1_0_1 : Option Addr) (c1_0_1 : Nat) (n1_0_1 : Nat) (l1_0_1 : List SStep) (A1_0_2 : Option Addr) (c1_0_2 : Nat) (n1_0_2 : Nat) (l1_0_2 : List Int) (Z : Below w0.heap.size w0 ws) (hF : Fr w0 ws P0 [] ws) (R1_0_1 : Stable ws P0 (fun w => Kd.C kStep w A1_0_1 n1_0_1 l1_0_1)) (hc1_0_1 : n1_0_1 ≤ c1_0_1) (R1_0_2 : Stable ws P0 (fun w => Kd.C (Kd.int .i64) w A1_0_2 n1_0_2 l1_0_2)) (hc1_0_2 : n1_0_2 ≤ c1_0_2) (B1_0 : Stable ws P0 (fun w => w.heap[g1_0]? = some (.cells #[.int .i64 a1_0_0, .slice A1_0_1 n1_0_1 c1_0_1, .slice A1_0_2 n1_0_2 c1_0_2] 25 (0, 0)))) (B1 : Stable ws P0 (fun w => w.heap[g1]? = some (.cells #[.pointer (some ⟨g1_0, 0, none⟩)] 102 (0, 0)))) (r_1 : Bool) (h : impl_Plan_formed_1.f a0 a1_0_0 l1_0_1 l1_0_2 = some r_1) :
    Calls Try.prog 155 #[.int .i64 a0, .pointer (some ⟨g1, 0, none⟩)] ws (Post1 w0 ws P0 (fun (_ : Unit) => .bool r_1) (fun (_ : Unit) => [])) := by
  unfold impl_Plan_formed_1.f at h
  obtain rfl := (R1_0_1 ws (KeptB.refl _ _)).1
  obtain rfl := (R1_0_2 ws (KeptB.refl _ _)).1
  refine enter Try.func155 rfl Try.ntmps155 rfl hF ?_
  refine c_seq ?_
  refine za0 ?_
  refine o_q rfl rfl (q_asg rfl) ?_
  refine o_end ?_
  refine za1 ?_
  refine c_seq ?_
  refine za0 ?_
  refine o_q rfl rfl (za2 rfl) ?_
  refine o_q rfl rfl (q_ldb Y102 rfl (fun w h => B1.now Z h) rfl) ?_
  refine zab h (fun _ hx1 h => ?_) rfl
  refine o_e rfl (za8 0 Z Try.func115 N115 rfl rfl rfl (fun w P1 hF hB hS hT => impl_Plan_many.calls g1_0 a1_0_0 A1_0_1 c1_0_1 l1_0_1.length l1_0_1 A1_0_2 c1_0_2 l1_0_2.length l1_0_2 hB hF (hS _ R1_0_1) hc1_0_1 (hS _ R1_0_2) hc1_0_2 (hS _ B1_0) hx1)) (fun _ => ?_)
  refine o_q rfl rfl (zb5 rfl rfl) ?_
  refine zab h (fun b3 hx2 h => ?_) rfl
  refine o_e rfl (za8 0 Z Try.func113 N113 rfl rfl rfl (fun w P1 hF hB hS hT => impl_in.calls a0 0 (w64 (w64 (a1_0_0 + (l1_0_1.length : Int)) - 1)) hB hF _ hx2)) (fun _ => ?_)
  refine o_q rfl rfl (q_not rfl) ?_
  refine o_q rfl rfl (q_asg rfl) ?_
  refine o_end ?_
  refine za1 ?_
  refine c_ret ?_
  have e0_ := Option.some.inj h; clear h
  subst e0_
  exact x_r1 () Try.results155 (zal rfl) rfl (fun w h => za6 [] (by decide) rfl w h)

/-! ### slices.IndexFunc[[]int,int]: function 164 -/
def slices_IndexFunc_int_int.l0 (a1_c0_0_0 : Int) (l1_c0_0_1 : List SStep) (l1_c0_0_2 : List Int) : (List Int) → Int → Option ((Int) ⊕ (Unit))
  | [], i1 => some (.inr ())
  | y2 :: ys3, i1 => (impl_Plan_formed_1.f y2 a1_c0_0_0 l1_c0_0_1 l1_c0_0_2).bind fun b14 => if b14 = true then (some (.inl i1)) else (slices_IndexFunc_int_int.l0 a1_c0_0_0 l1_c0_0_1 l1_c0_0_2 ys3 (i1 + 1))
def slices_IndexFunc_int_int.f (l0 : List Int) (a1_c0_0_0 : Int) (l1_c0_0_1 : List SStep) (l1_c0_0_2 : List Int) : Option Int := (slices_IndexFunc_int_int.l0 a1_c0_0_0 l1_c0_0_1 l1_c0_0_2 l0 0).bind fun o_ => match o_ with | .inl r_ => some r_ | .inr _ => some (-1)
set_option maxHeartbeats 600000 in
set_option maxRecDepth 100000 in
theorem slices_IndexFunc_int_int.calls {w0 ws : World} {P0 : Nat → Prop} (A0 : Option Addr) (c0 : Nat) (n0 : Nat) (l0 : List Int) (g1_c0 : Nat) (g1_c0_0 : Nat) (a1_c0_0_0 : Int) (A1_c0_0_1 : Option Addr) (c1_c0_0_1 : Nat) (n1_c0_0_1 : Nat) (l1_c0_0_1 : List SStep) (A1_c0_0_2 : Option Addr) (c1_c0_0_2 : Nat) (n1_c0_0_2 : Nat) (l1_c0_0_2 : List Int) (Z : Below w0.heap.size w0 ws) (hF : Fr w0 ws P0 [] ws) (R0 : Stable ws P0 (fun w => Kd.C (Kd.int .i64) w A0 n0 l0)) (hc0 : n0 ≤ c0) (R1_c0_0_1 : Stable ws P0 (fun w => Kd.C kStep w A1_c0_0_1 n1_c0_0_1 l1_c0_0_1)) (hc1_c0_0_1 : n1_c0_0_1 ≤ c1_c0_0_1) (R1_c0_0_2 : Stable ws P0 (fun w => Kd.C (Kd.int .i64) w A1_c0_0_2 n1_c0_0_2 l1_c0_0_2)) (hc1_c0_0_2 : n1_c0_0_2 ≤ c1_c0_0_2) (B1_c0_0 : Stable ws P0 (fun w => w.heap[g1_c0_0]? = some (.cells #[.int .i64 a1_c0_0_0, .slice A1_c0_0_1 n1_c0_0_1 c1_c0_0_1, .slice A1_c0_0_2 n1_c0_0_2 c1_c0_0_2] 25 (0, 0)))) (B1_c0 : Stable ws P0 (fun w => w.heap[g1_c0]? = some (.cells #[.pointer (some ⟨g1_c0_0, 0, none⟩)] 102 (0, 0)))) (r_1 : Int) (h : slices_IndexFunc_int_int.f l0 a1_c0_0_0 l1_c0_0_1 l1_c0_0_2 = some r_1) :
    Calls Try.prog 164 #[.slice A0 n0 c0, .func (.func 155) #[] #[.pointer (some ⟨g1_c0, 0, none⟩)]] ws (Post1 w0 ws P0 (fun (_ : Unit) => .int .i64 r_1) (fun (_ : Unit) => [])) := by
  unfold slices_IndexFunc_int_int.f at h
  obtain rfl := (R0 ws (KeptB.refl _ _)).1
  obtain rfl := (R1_c0_0_1 ws (KeptB.refl _ _)).1
  obtain rfl := (R1_c0_0_2 ws (KeptB.refl _ _)).1
  refine enter Try.func164 rfl Try.ntmps164 rfl hF ?_
  refine c_seq ?_
  refine za0 ?_
  refine o_q rfl rfl (q_asg rfl) ?_
  refine o_end ?_
  refine za1 ?_
  refine c_seq ?_
  refine c_seq ?_
  refine za0 ?_
  refine o_q rfl rfl (za2 rfl) ?_
  refine o_q rfl rfl (q_len Try.underlying23 rfl) ?_
  refine o_q rfl rfl (za2 rfl) ?_
  refine o_end ?_
  refine za1 ?_
  refine zaq ?_
  refine zab h (fun o9 hl8 hR7 => ?_) rfl
  clear h
  refine c_fact (p := l0.length ≤ 9223372036854775807) (fun w h => (R0.now Z h).2.1) (fun hm6 => ?_)
  refine zb3 (σ := (List Int) × Int) (fun k4 ((ys3, i1) : (List Int) × Int) => Rg l0 i1 ys3 ∧ ys3.length = k4 ∧ slices_IndexFunc_int_int.l0 a1_c0_0_0 l1_c0_0_1 l1_c0_0_2 ys3 i1 = some o9) [4, 5, 8, 9, 10, 11, 12, 13, 14, 15, 16, 17, 18] (fun ((ys3, i1) : (List Int) × Int) => [(8, .int .i64 i1)]) (fun ((ys3, i1) : (List Int) × Int) => []) l0.length (l0, 0) ⟨Rg.start _, rfl, hl8⟩ ⟨rfl, trivial⟩ (fun w h => h) ?_
  refine fun k4 => cur2 (listC (fun i1 U10 hJ_ => ?_) (fun y2 ys3 i1 U10 hJ_ => ?_))
  · skip
    clear hl8
    have hr5 := hJ_.1; have hk11 := hJ_.2.1; have h := hJ_.2.2; clear hJ_
    replace h : slices_IndexFunc_int_int.l0 a1_c0_0_0 l1_c0_0_1 l1_c0_0_2 [] i1 = some o9 := h
    rw [slices_IndexFunc_int_int.l0] at h
    refine c_seq ?_
    refine za0 ?_
    refine o_q rfl rfl (q_lss rfl rfl) ?_
    refine o_end ?_
    refine za1 ?_
    refine c_seq ?_
    refine c_false (congrArg Value.bool hr5.ge) ?_
    refine c_exit ?_
    refine zac ?_
    refine zac ?_
    have e_ := Option.some.inj h; replace h := hR7; rw [← e_] at h; clear e_
    refine x_hit ?_
    refine za1 ?_
    refine c_seq ?_
    refine za0 ?_
    refine o_q rfl rfl (q_asg rfl) ?_
    refine o_end ?_
    refine za1 ?_
    refine c_ret ?_
    have e0_ := Option.some.inj h; clear h
    subst e0_
    exact x_r1 () Try.results164 (zal rfl) rfl (fun w h => za6 [] (by decide) rfl w h)
  · skip
    clear hl8
    have hr5 := hJ_.1; have hk11 := hJ_.2.1; have h := hJ_.2.2; clear hJ_
    replace h : slices_IndexFunc_int_int.l0 a1_c0_0_0 l1_c0_0_1 l1_c0_0_2 (y2 :: ys3) i1 = some o9 := h
    rw [slices_IndexFunc_int_int.l0] at h
    refine c_seq ?_
    refine za0 ?_
    refine o_q rfl rfl (q_lss rfl rfl) ?_
    refine o_end ?_
    refine za1 ?_
    refine c_seq ?_
    refine c_true (congrArg Value.bool hr5.lt) ?_
    refine zat ?_
    refine za1 ?_
    refine c_seq ?_
    refine zaq ?_
    refine c_seq ?_
    refine za0 ?_
    refine o_q rfl rfl (za2 rfl) ?_
    refine o_q rfl rfl (q_asg rfl) ?_
    refine o_end ?_
    refine za1 ?_
    refine c_seq ?_
    refine za0 ?_
    refine o_q rfl rfl (za2 rfl) ?_
    refine o_q rfl rfl (za2 rfl) ?_
    refine o_q rfl rfl (za2 rfl) ?_
    refine zb4 (p := Sh A0 l0.length l0.length) (fun w h => f_sh (dk := (Kd.int .i64)) h (fun w h => R0.now Z h)) (fun hq12 => ?_)
    refine o_q rfl rfl (q_ix Try.underlying23 Z3 rfl rfl hq12 hr5.get) ?_
    refine o_q rfl rfl (q_lde (off := 0) Y3 rfl rfl (fun w h => R0.now Z h) hr5.get (fun _ _ h => h) rfl) ?_
    refine zab h (fun b14 hx13 h => ?_) rfl
    refine o_e rfl (za8 0 Z Try.func155 N155 rfl rfl rfl (fun w P1 hF hB hS hT => impl_Plan_formed_1.calls y2 g1_c0 g1_c0_0 a1_c0_0_0 A1_c0_0_1 c1_c0_0_1 l1_c0_0_1.length l1_c0_0_1 A1_c0_0_2 c1_c0_0_2 l1_c0_0_2.length l1_c0_0_2 hB hF (hS _ R1_c0_0_1) hc1_c0_0_1 (hS _ R1_c0_0_2) hc1_c0_0_2 (hS _ B1_c0_0) (hS _ B1_c0) _ hx13)) (fun _ => ?_)
    refine o_end ?_
    refine za1 ?_
    refine zb0 _ rfl (fun hb15 => ?_) (fun hb15 => ?_)
    · skip
      replace h := bb_t hb15 h
      refine c_seq ?_
      refine za0 ?_
      refine o_q rfl rfl (za2 rfl) ?_
      refine o_q rfl rfl (q_asg rfl) ?_
      refine o_end ?_
      refine za1 ?_
      refine c_ret ?_
      refine zax ?_
      refine zai ?_
      refine zai ?_
      have e_ := Option.some.inj h; replace h := hR7; rw [← e_] at h; clear e_
      refine zax ?_
      refine zai ?_
      have e0_ := Option.some.inj h; clear h
      subst e0_
      exact x_r1 () Try.results164 (zal rfl) rfl (fun w h => za6 [] (by decide) rfl w h)
    · skip
      replace h := bb_f hb15 h
      refine zat ?_
      refine zas ?_
      refine za1 ?_
      refine za0 ?_
      refine o_q rfl rfl (q_up rfl rfl (hr5.up hm6)) ?_
      refine o_q rfl rfl (za2 rfl) ?_
      refine o_end ?_
      refine zar ys3.length (ys3, i1 + 1) (by rw [← hk11]; exact Nat.lt_succ_self _) ⟨hr5.step, rfl, h⟩ ⟨rfl, trivial⟩ (fun w h => za6 [] (by decide) rfl w h) ?_
      repeat (first | exact za9 _ _ | refine zae rfl ?_ | refine zaa rfl ?_ | refine zaf rfl ?_)

/-! ### slices.ContainsFunc[[]int,int]: function 154 -/
def slices_ContainsFunc_int_int.f (l0 : List Int) (a1_c0_0_0 : Int) (l1_c0_0_1 : List SStep) (l1_c0_0_2 : List Int) : Option Bool := (slices_IndexFunc_int_int.f l0 a1_c0_0_0 l1_c0_0_1 l1_c0_0_2).bind fun i2 => some (decide (0 ≤ i2))
set_option maxHeartbeats 600000 in
set_option maxRecDepth 100000 in
theorem slices_ContainsFunc_int_int.calls {w0 ws : World} {P0 : Nat → Prop} (A0 : Option Addr) (c0 : Nat) (n0 : Nat) (l0 : List Int) (g1_c0 : Nat) (g1_c0_0 : Nat) (a1_c0_0_0 : Int) (A1_c0_0_1 : Option Addr) (c1_c0_0_1 : Nat) (n1_c0_0_1 : Nat) (l1_c0_0_1 : List SStep) (A1_c0_0_2 : Option Addr) (c1_c0_0_2 : Nat) (n1_c0_0_2 : Nat) (l1_c0_0_2 : List Int) (Z : Below w0.heap.size w0 ws) (hF : Fr w0 ws P0 [] ws) (R0 : Stable ws P0 (fun w => Kd.C (Kd.int .i64) w A0 n0 l0)) (hc0 : n0 ≤ c0) (R1_c0_0_1 : Stable ws P0 (fun w => Kd.C kStep w A1_c0_0_1 n1_c0_0_1 l1_c0_0_1)) (hc1_c0_0_1 : n1_c0_0_1 ≤ c1_c0_0_1) (R1_c0_0_2 : Stable ws P0 (fun w => Kd.C (Kd.int .i64) w A1_c0_0_2 n1_c0_0_2 l1_c0_0_2)) (hc1_c0_0_2 : n1_c0_0_2 ≤ c1_c0_0_2) (B1_c0_0 : Stable ws P0 (fun w => w.heap[g1_c0_0]? = some (.cells #[.int .i64 a1_c0_0_0, .slice A1_c0_0_1 n1_c0_0_1 c1_c0_0_1, .slice A1_c0_0_2 n1_c0_0_2 c1_c0_0_2] 25 (0, 0)))) (B1_c0 : Stable ws P0 (fun w => w.heap[g1_c0]? = some (.cells #[.pointer (some ⟨g1_c0_0, 0, none⟩)] 102 (0, 0)))) (r_1 : Bool) (h : slices_ContainsFunc_int_int.f l0 a1_c0_0_0 l1_c0_0_1 l1_c0_0_2 = some r_1) :
    Calls Try.prog 154 #[.slice A0 n0 c0, .func (.func 155) #[] #[.pointer (some ⟨g1_c0, 0, none⟩)]] ws (Post1 w0 ws P0 (fun (_ : Unit) => .bool r_1) (fun (_ : Unit) => [])) := by
  unfold slices_ContainsFunc_int_int.f at h
  obtain rfl := (R0 ws (KeptB.refl _ _)).1
  obtain rfl := (R1_c0_0_1 ws (KeptB.refl _ _)).1
  obtain rfl := (R1_c0_0_2 ws (KeptB.refl _ _)).1
  refine enter Try.func154 rfl Try.ntmps154 rfl hF ?_
  refine c_seq ?_
  refine za0 ?_
  refine o_q rfl rfl (q_asg rfl) ?_
  refine o_end ?_
  refine za1 ?_
  refine c_seq ?_
  refine za0 ?_
  refine o_q rfl rfl (za2 rfl) ?_
  refine o_q rfl rfl (za2 rfl) ?_
  refine zab h (fun i2 hx1 h => ?_) rfl
  refine o_e rfl (za8 0 Z Try.func164 N164 rfl rfl rfl (fun w P1 hF hB hS hT => slices_IndexFunc_int_int.calls A0 c0 l0.length l0 g1_c0 g1_c0_0 a1_c0_0_0 A1_c0_0_1 c1_c0_0_1 l1_c0_0_1.length l1_c0_0_1 A1_c0_0_2 c1_c0_0_2 l1_c0_0_2.length l1_c0_0_2 hB hF (hS _ R0) hc0 (hS _ R1_c0_0_1) hc1_c0_0_1 (hS _ R1_c0_0_2) hc1_c0_0_2 (hS _ B1_c0_0) (hS _ B1_c0) _ hx1)) (fun _ => ?_)
  refine o_q rfl rfl (q_geq rfl rfl) ?_
  refine o_q rfl rfl (q_asg rfl) ?_
  refine o_end ?_
  refine za1 ?_
  refine c_ret ?_
  have e0_ := Option.some.inj h; clear h
  subst e0_
  exact x_r1 () Try.results154 (zal rfl) rfl (fun w h => za6 [] (by decide) rfl w h)

/-! ### (*loop.example/g01098/impl.Plan).formed: function 136 -/
def impl_Plan_formed.l0 (a0_0 : Int) : (List SStep) → Int → Option ((Bool) ⊕ (Unit))
  | [], i8 => some (.inr ())
  | y9 :: ys10, i8 => if y9.f0 < 0 then (some (.inl false)) else (if y9.f1 < y9.f0 then (some (.inl false)) else (if w64 (a0_0 + i8) ≤ y9.f1 then (some (.inl false)) else (impl_Plan_formed.l0 a0_0 ys10 (i8 + 1))))
def impl_Plan_formed.f (a0_0 : Int) (l0_1 : List SStep) (l0_2 : List Int) : Option Bool := (impl_in.f a0_0 1 6).bind fun b4 => if b4 = true then (if 40 < (l0_1.length : Int) then (some false) else (if 6 < (l0_2.length : Int) then (some false) else ((impl_Plan_formed.l0 a0_0 l0_1 0).bind fun o_ => match o_ with | .inl r_ => some r_ | .inr _ => (slices_ContainsFunc_int_int.f l0_2 a0_0 l0_1 l0_2).bind fun b20 => some (!b20)))) else (some false)
set_option maxHeartbeats 600000 in
set_option maxRecDepth 100000 in
theorem impl_Plan_formed.calls {w0 ws : World} {P0 : Nat → Prop} (g0 : Nat) (a0_0 : Int) (A0_1 : Option Addr) (c0_1 : Nat) (n0_1 : Nat) (l0_1 : List SStep) (A0_2 : Option Addr) (c0_2 : Nat) (n0_2 : Nat) (l0_2 : List Int) (Z : Below w0.heap.size w0 ws) (hF : Fr w0 ws P0 [] ws) (R0_1 : Stable ws P0 (fun w => Kd.C kStep w A0_1 n0_1 l0_1)) (hc0_1 : n0_1 ≤ c0_1) (R0_2 : Stable ws P0 (fun w => Kd.C (Kd.int .i64) w A0_2 n0_2 l0_2)) (hc0_2 : n0_2 ≤ c0_2) (B0 : Stable ws P0 (fun w => w.heap[g0]? = some (.cells #[.int .i64 a0_0, .slice A0_1 n0_1 c0_1, .slice A0_2 n0_2 c0_2] 25 (0, 0)))) (r_1 : Bool) (h : impl_Plan_formed.f a0_0 l0_1 l0_2 = some r_1) :
    Calls Try.prog 136 #[.pointer (some ⟨g0, 0, none⟩)] ws (Post1 w0 ws P0 (fun (_ : Unit) => .bool r_1) (fun (_ : Unit) => [])) := by
  unfold impl_Plan_formed.f at h
  obtain rfl := (R0_1 ws (KeptB.refl _ _)).1
  obtain rfl := (R0_2 ws (KeptB.refl _ _)).1
  refine enter Try.func136 rfl Try.ntmps136 rfl hF ?_
  refine c_seq ?_
  refine za0 ?_
  refine o_e rfl (e_box rfl) (fun g1 => ?_)
  refine o_q rfl rfl (q_asg rfl) ?_
  refine o_end ?_
  refine za1 ?_
  refine c_seq ?_
  refine c_seq ?_
  refine za0 ?_
  refine o_q rfl rfl (q_ldb Y102 rfl (fun w h => h.zaj (i := 0) rfl) rfl) ?_
  refine o_q rfl rfl (q_nil rfl) ?_
  refine o_q rfl rfl (q_f F25_0 rfl) ?_
  refine o_q rfl rfl (q_ldb Y3 rfl (fun w h => B0.now Z h) rfl) ?_
  refine zab h (fun b4 hx3 h => ?_) rfl
  refine o_e rfl (za8 0 Z Try.func113 N113 rfl rfl rfl (fun w P1 hF hB hS hT => impl_in.calls a0_0 1 6 hB hF _ hx3)) (fun _ => ?_)
  refine o_q rfl rfl (q_not rfl) ?_
  refine o_q rfl rfl (za2 rfl) ?_
  refine byB b4 (fun hb5 => ?_) (fun hb5 => ?_)
  · replace h := bb_t hb5 h
    refine o_w (za5 rfl rfl rfl (congrArg (fun b => Value.bool (!(b))) hb5)) rfl (q_ldb Y102 rfl (fun w h => h.zaj (i := 0) rfl) rfl) ?_
    refine o_w (za5 rfl rfl rfl (congrArg (fun b => Value.bool (!(b))) hb5)) rfl (q_nil rfl) ?_
    refine o_w (za5 rfl rfl rfl (congrArg (fun b => Value.bool (!(b))) hb5)) rfl (q_f F25_1 rfl) ?_
    refine o_w (za5 rfl rfl rfl (congrArg (fun b => Value.bool (!(b))) hb5)) rfl (q_ldb Y22 rfl (fun w h => B0.now Z h) rfl) ?_
    refine o_w (za5 rfl rfl rfl (congrArg (fun b => Value.bool (!(b))) hb5)) rfl (q_len Try.underlying22 rfl) ?_
    refine o_w (za5 rfl rfl rfl (congrArg (fun b => Value.bool (!(b))) hb5)) rfl (q_gtr rfl rfl) ?_
    refine o_q rfl rfl (zau false (congrArg (fun b => Value.bool (!(b))) hb5) rfl) ?_
    refine o_q rfl rfl (za2 rfl) ?_
    refine byB (decide (40 < (l0_1.length : Int))) (fun hb6 => ?_) (fun hb6 => ?_)
    · replace h := br_t hb6 h
      refine @o_n _ _ _ _ _ _ _ _ _ _ _ 20 (za4 rfl rfl rfl (congrArg Value.bool hb6) rfl) (Eq.refl (some 20)) ?_
      refine @o_n _ _ _ _ _ _ _ _ _ _ _ 21 (za4 rfl rfl rfl (congrArg Value.bool hb6) rfl) (Eq.refl (some 21)) ?_
      refine @o_n _ _ _ _ _ _ _ _ _ _ _ 22 (za4 rfl rfl rfl (congrArg Value.bool hb6) rfl) (Eq.refl (some 22)) ?_
      refine @o_n _ _ _ _ _ _ _ _ _ _ _ 23 (za4 rfl rfl rfl (congrArg Value.bool hb6) rfl) (Eq.refl (some 23)) ?_
      refine @o_n _ _ _ _ _ _ _ _ _ _ _ 24 (za4 rfl rfl rfl (congrArg Value.bool hb6) rfl) (Eq.refl (some 24)) ?_
      refine @o_n _ _ _ _ _ _ _ _ _ _ _ 25 (za4 rfl rfl rfl (congrArg Value.bool hb6) rfl) (Eq.refl (some 25)) ?_
      refine o_q rfl rfl (zau true (congrArg Value.bool hb6) rfl) ?_
      refine o_end ?_
      refine za1 ?_
      refine c_true rfl ?_
      refine c_seq ?_
      refine za0 ?_
      refine o_q rfl rfl (q_asg rfl) ?_
      refine o_end ?_
      refine za1 ?_
      refine c_ret ?_
      refine zai ?_
      have e0_ := Option.some.inj h; clear h
      subst e0_
      exact x_r1 () Try.results136 (zal rfl) rfl (fun w h => za6 [] (by decide) rfl w h)
    · replace h := br_f hb6 h
      refine o_w (za5 rfl rfl rfl (congrArg Value.bool hb6)) rfl (q_ldb Y102 rfl (fun w h => h.zaj (i := 0) rfl) rfl) ?_
      refine o_w (za5 rfl rfl rfl (congrArg Value.bool hb6)) rfl (q_nil rfl) ?_
      refine o_w (za5 rfl rfl rfl (congrArg Value.bool hb6)) rfl (q_f F25_2 rfl) ?_
      refine o_w (za5 rfl rfl rfl (congrArg Value.bool hb6)) rfl (q_ldb Y23 rfl (fun w h => B0.now Z h) rfl) ?_
      refine o_w (za5 rfl rfl rfl (congrArg Value.bool hb6)) rfl (q_len Try.underlying23 rfl) ?_
      refine o_w (za5 rfl rfl rfl (congrArg Value.bool hb6)) rfl (q_gtr rfl rfl) ?_
      refine o_q rfl rfl (zau false (congrArg Value.bool hb6) rfl) ?_
      refine o_end ?_
      refine za1 ?_
      refine zb0 _ rfl (fun hb7 => ?_) (fun hb7 => ?_)
      · skip
        replace h := br_t hb7 h
        refine c_seq ?_
        refine za0 ?_
        refine o_q rfl rfl (q_asg rfl) ?_
        refine o_end ?_
        refine za1 ?_
        refine c_ret ?_
        refine zai ?_
        have e0_ := Option.some.inj h; clear h
        subst e0_
        exact x_r1 () Try.results136 (zal rfl) rfl (fun w h => za6 [] (by decide) rfl w h)
      · skip
        replace h := br_f hb7 h
        refine zat ?_
        refine za1 ?_
        refine c_seq ?_
        refine c_seq ?_
        refine za0 ?_
        refine o_q rfl rfl (q_ldb Y102 rfl (fun w h => h.zaj (i := 0) rfl) rfl) ?_
        refine o_q rfl rfl (q_nil rfl) ?_
        refine o_q rfl rfl (q_f F25_1 rfl) ?_
        refine o_q rfl rfl (q_ldb Y22 rfl (fun w h => B0.now Z h) rfl) ?_
        refine o_q rfl rfl (q_len Try.underlying22 rfl) ?_
        refine o_q rfl rfl (za2 rfl) ?_
        refine o_end ?_
        refine za1 ?_
        refine zaq ?_
        refine zab h (fun o16 hl15 hR14 => ?_) rfl
        clear h
        refine c_fact (p := l0_1.length ≤ 9223372036854775807) (fun w h => (R0_1.now Z h).2.1) (fun hm13 => ?_)
        refine zb3 (σ := (List SStep) × Int) (fun k11 ((ys10, i8) : (List SStep) × Int) => Rg l0_1 i8 ys10 ∧ ys10.length = k11 ∧ impl_Plan_formed.l0 a0_0 ys10 i8 = some o16) [2, 3, 4, 32, 33, 34, 35, 36, 37, 38, 39, 40, 41, 42, 43, 44, 45, 46, 47, 48, 49, 50, 51, 52, 53, 54, 55, 56, 57, 58] (fun ((ys10, i8) : (List SStep) × Int) => [(32, .int .i64 i8)]) (fun ((ys10, i8) : (List SStep) × Int) => [box g1 102 #[.pointer (some ⟨g0, 0, none⟩)]]) l0_1.length (l0_1, 0) ⟨Rg.start _, rfl, hl15⟩ ⟨rfl, trivial⟩ (fun w h => h) ?_
        refine fun k11 => cur2 (listC (fun i8 U17 hJ_ => ?_) (fun y9 ys10 i8 U17 hJ_ => ?_))
        · skip
          clear hl15
          have hr12 := hJ_.1; have hk18 := hJ_.2.1; have h := hJ_.2.2; clear hJ_
          replace h : impl_Plan_formed.l0 a0_0 [] i8 = some o16 := h
          rw [impl_Plan_formed.l0] at h
          refine c_seq ?_
          refine za0 ?_
          refine o_q rfl rfl (q_lss rfl rfl) ?_
          refine o_end ?_
          refine za1 ?_
          refine c_seq ?_
          refine c_false (congrArg Value.bool hr12.ge) ?_
          refine c_exit ?_
          refine zac ?_
          refine zac ?_
          have e_ := Option.some.inj h; replace h := hR14; rw [← e_] at h; clear e_
          refine x_hit ?_
          refine za1 ?_
          refine c_seq ?_
          refine za0 ?_
          refine o_q rfl rfl (q_ldb Y102 rfl (fun w h => h.zaj (i := 0) rfl) rfl) ?_
          refine o_q rfl rfl (q_nil rfl) ?_
          refine o_q rfl rfl (q_f F25_2 rfl) ?_
          refine o_q rfl rfl (q_ldb Y23 rfl (fun w h => B0.now Z h) rfl) ?_
          refine o_q rfl rfl (q_func rfl rfl) ?_
          refine zab h (fun b20 hx19 h => ?_) rfl
          refine o_e rfl (za8 0 Z Try.func154 N154 rfl rfl rfl (fun w P1 hF hB hS hT => slices_ContainsFunc_int_int.calls A0_2 c0_2 l0_2.length l0_2 g1 g0 a0_0 A0_1 c0_1 l0_1.length l0_1 A0_2 c0_2 l0_2.length l0_2 hB hF (hS _ R0_2) hc0_2 (hS _ R0_1) hc0_1 (hS _ R0_2) hc0_2 (hS _ B0) (hT 0 _ rfl).box _ hx19)) (fun _ => ?_)
          refine o_q rfl rfl (q_not rfl) ?_
          refine o_q rfl rfl (q_asg rfl) ?_
          refine o_end ?_
          refine za1 ?_
          refine c_ret ?_
          have e0_ := Option.some.inj h; clear h
          subst e0_
          exact x_r1 () Try.results136 (zal rfl) rfl (fun w h => za6 [] (by decide) rfl w h)
        · skip
          clear hl15
          have hr12 := hJ_.1; have hk18 := hJ_.2.1; have h := hJ_.2.2; clear hJ_
          replace h : impl_Plan_formed.l0 a0_0 (y9 :: ys10) i8 = some o16 := h
          rw [impl_Plan_formed.l0] at h
          refine c_seq ?_
          refine za0 ?_
          refine o_q rfl rfl (q_lss rfl rfl) ?_
          refine o_end ?_
          refine za1 ?_
          refine c_seq ?_
          refine c_true (congrArg Value.bool hr12.lt) ?_
          refine zat ?_
          refine za1 ?_
          refine c_seq ?_
          refine zaq ?_
          refine c_seq ?_
          refine za0 ?_
          refine o_q rfl rfl (za2 rfl) ?_
          refine zb4 (p := Sh A0_1 l0_1.length l0_1.length) (fun w h => f_sh (dk := kStep) h (fun w h => R0_1.now Z h)) (fun hq21 => ?_)
          refine o_q rfl rfl (q_ix Try.underlying22 Z107 rfl rfl hq21 hr12.get) ?_
          refine o_q rfl rfl (q_ldE G107 Z107 rfl rfl (fun w h => R0_1.now Z h) hr12.get (fun _ _ h => h) rfl) ?_
          refine o_e rfl (zam V107 rfl) (fun g22 => ?_)
          refine o_q rfl rfl (q_asg rfl) ?_
          refine o_e rfl (zav (i := 0) rfl rfl rfl Z107 rfl rfl) (fun _ => ?_)
          refine o_end ?_
          refine za1 ?_
          refine c_seq ?_
          refine a_start (ds := []) MO rfl ?_
          refine za7 0 rfl rfl rfl (by kernel_rfl) (fun _ _ _ h => h) (q_f F107_0 rfl) ?_
          refine zb2 1 rfl rfl rfl (by kernel_rfl) (fun _ _ _ h => h) (fun w h => h) (q_ldb Y3 rfl (fun w h => h.zaj (i := 0) rfl) rfl) ?_
          refine za7 2 rfl rfl rfl (by kernel_rfl) (fun _ _ _ h => h) (q_lss rfl rfl) ?_
          refine za7 3 rfl rfl rfl (by kernel_rfl) (fun _ _ _ h => h) (za2 rfl) ?_
          refine byB (decide (y9.f0 < 0)) (fun hb24 => ?_) (fun hb24 => ?_)
          · replace h := br_t hb24 h
            refine a_no 4 rfl rfl (za4 rfl rfl rfl (congrArg Value.bool hb24) rfl) (by kernel_rfl) (fun _ _ _ h => h) ?_
            refine a_no 5 rfl rfl (za4 rfl rfl rfl (congrArg Value.bool hb24) rfl) (by kernel_rfl) (fun _ _ _ h => h) ?_
            refine a_no 6 rfl rfl (za4 rfl rfl rfl (congrArg Value.bool hb24) rfl) (by kernel_rfl) (fun _ _ _ h => h) ?_
            refine a_no 7 rfl rfl (za4 rfl rfl rfl (congrArg Value.bool hb24) rfl) (by kernel_rfl) (fun _ _ _ h => h) ?_
            refine a_no 8 rfl rfl (za4 rfl rfl rfl (congrArg Value.bool hb24) rfl) (by kernel_rfl) (fun _ _ _ h => h) ?_
            refine za7 9 rfl rfl rfl (by kernel_rfl) (fun _ _ _ h => h) (zau true (congrArg Value.bool hb24) rfl) ?_
            refine za7 10 rfl rfl rfl (by kernel_rfl) (fun _ _ _ h => h) (za2 rfl) ?_
            refine a_no 11 rfl rfl (za4 rfl rfl rfl rfl rfl) (by kernel_rfl) (fun _ _ _ h => h) ?_
            refine a_no 12 rfl rfl (za4 rfl rfl rfl rfl rfl) (by kernel_rfl) (fun _ _ _ h => h) ?_
            refine a_no 13 rfl rfl (za4 rfl rfl rfl rfl rfl) (by kernel_rfl) (fun _ _ _ h => h) ?_
            refine a_no 14 rfl rfl (za4 rfl rfl rfl rfl rfl) (by kernel_rfl) (fun _ _ _ h => h) ?_
            refine a_no 15 rfl rfl (za4 rfl rfl rfl rfl rfl) (by kernel_rfl) (fun _ _ _ h => h) ?_
            refine a_no 16 rfl rfl (za4 rfl rfl rfl rfl rfl) (by kernel_rfl) (fun _ _ _ h => h) ?_
            refine a_no 17 rfl rfl (za4 rfl rfl rfl rfl rfl) (by kernel_rfl) (fun _ _ _ h => h) ?_
            refine a_no 18 rfl rfl (za4 rfl rfl rfl rfl rfl) (by kernel_rfl) (fun _ _ _ h => h) ?_
            refine a_no 19 rfl rfl (za4 rfl rfl rfl rfl rfl) (by kernel_rfl) (fun _ _ _ h => h) ?_
            refine za7 20 rfl rfl rfl (by kernel_rfl) (fun _ _ _ h => h) (zau true rfl rfl) ?_
            refine zan (by kernel_rfl) ?_
            refine za1 ?_
            refine c_true rfl ?_
            refine c_seq ?_
            refine za0 ?_
            refine o_q rfl rfl (q_asg rfl) ?_
            refine o_end ?_
            refine za1 ?_
            refine c_ret ?_
            refine zax ?_
            refine zai ?_
            refine zai ?_
            have e_ := Option.some.inj h; replace h := hR14; rw [← e_] at h; clear e_
            refine zax ?_
            refine zai ?_
            have e0_ := Option.some.inj h; clear h
            subst e0_
            exact x_r1 () Try.results136 (zal rfl) rfl (fun w h => za6 [] (by decide) rfl w h)
          · replace h := br_f hb24 h
            refine a_purew 4 rfl rfl (za5 rfl rfl rfl (congrArg Value.bool hb24)) (by kernel_rfl) (fun _ _ _ h => h) (q_f F107_0 rfl) ?_
            refine a_takew 5 rfl rfl (za5 rfl rfl rfl (congrArg Value.bool hb24)) (by kernel_rfl) (fun _ _ _ h => h) (fun w h => h) (q_ldb Y3 rfl (fun w h => h.zaj (i := 0) rfl) rfl) ?_
            refine a_purew 6 rfl rfl (za5 rfl rfl rfl (congrArg Value.bool hb24)) (by kernel_rfl) (fun _ _ _ h => h) (q_f F107_1 rfl) ?_
            refine a_takew 7 rfl rfl (za5 rfl rfl rfl (congrArg Value.bool hb24)) (by kernel_rfl) (fun _ _ _ h => h) (fun w h => h) (q_ldb Y3 rfl (fun w h => h.zaj (i := 0) rfl) rfl) ?_
            refine a_purew 8 rfl rfl (za5 rfl rfl rfl (congrArg Value.bool hb24)) (by kernel_rfl) (fun _ _ _ h => h) (q_gtr rfl rfl) ?_
            refine za7 9 rfl rfl rfl (by kernel_rfl) (fun _ _ _ h => h) (zau false (congrArg Value.bool hb24) rfl) ?_
            refine za7 10 rfl rfl rfl (by kernel_rfl) (fun _ _ _ h => h) (za2 rfl) ?_
            refine byB (decide (y9.f1 < y9.f0)) (fun hb25 => ?_) (fun hb25 => ?_)
            · replace h := br_t hb25 h
              refine a_no 11 rfl rfl (za4 rfl rfl rfl (congrArg Value.bool hb25) rfl) (by kernel_rfl) (fun _ _ _ h => h) ?_
              refine a_no 12 rfl rfl (za4 rfl rfl rfl (congrArg Value.bool hb25) rfl) (by kernel_rfl) (fun _ _ _ h => h) ?_
              refine a_no 13 rfl rfl (za4 rfl rfl rfl (congrArg Value.bool hb25) rfl) (by kernel_rfl) (fun _ _ _ h => h) ?_
              refine a_no 14 rfl rfl (za4 rfl rfl rfl (congrArg Value.bool hb25) rfl) (by kernel_rfl) (fun _ _ _ h => h) ?_
              refine a_no 15 rfl rfl (za4 rfl rfl rfl (congrArg Value.bool hb25) rfl) (by kernel_rfl) (fun _ _ _ h => h) ?_
              refine a_no 16 rfl rfl (za4 rfl rfl rfl (congrArg Value.bool hb25) rfl) (by kernel_rfl) (fun _ _ _ h => h) ?_
              refine a_no 17 rfl rfl (za4 rfl rfl rfl (congrArg Value.bool hb25) rfl) (by kernel_rfl) (fun _ _ _ h => h) ?_
              refine a_no 18 rfl rfl (za4 rfl rfl rfl (congrArg Value.bool hb25) rfl) (by kernel_rfl) (fun _ _ _ h => h) ?_
              refine a_no 19 rfl rfl (za4 rfl rfl rfl (congrArg Value.bool hb25) rfl) (by kernel_rfl) (fun _ _ _ h => h) ?_
              refine za7 20 rfl rfl rfl (by kernel_rfl) (fun _ _ _ h => h) (zau true (congrArg Value.bool hb25) rfl) ?_
              refine zan (by kernel_rfl) ?_
              refine za1 ?_
              refine c_true rfl ?_
              refine c_seq ?_
              refine za0 ?_
              refine o_q rfl rfl (q_asg rfl) ?_
              refine o_end ?_
              refine za1 ?_
              refine c_ret ?_
              refine zax ?_
              refine zai ?_
              refine zai ?_
              have e_ := Option.some.inj h; replace h := hR14; rw [← e_] at h; clear e_
              refine zax ?_
              refine zai ?_
              have e0_ := Option.some.inj h; clear h
              subst e0_
              exact x_r1 () Try.results136 (zal rfl) rfl (fun w h => za6 [] (by decide) rfl w h)
            · replace h := br_f hb25 h
              refine a_purew 11 rfl rfl (za5 rfl rfl rfl (congrArg Value.bool hb25)) (by kernel_rfl) (fun _ _ _ h => h) (q_f F107_1 rfl) ?_
              refine a_takew 12 rfl rfl (za5 rfl rfl rfl (congrArg Value.bool hb25)) (by kernel_rfl) (fun _ _ _ h => h) (fun w h => h) (q_ldb Y3 rfl (fun w h => h.zaj (i := 0) rfl) rfl) ?_
              refine a_takew 13 rfl rfl (za5 rfl rfl rfl (congrArg Value.bool hb25)) (by kernel_rfl) (fun _ _ _ h => h) (fun w h => h) (q_ldb Y102 rfl (fun w h => h.zaj (i := 1) rfl) rfl) ?_
              refine a_purew 14 rfl rfl (za5 rfl rfl rfl (congrArg Value.bool hb25)) (by kernel_rfl) (fun _ _ _ h => h) (q_nil rfl) ?_
              refine a_purew 15 rfl rfl (za5 rfl rfl rfl (congrArg Value.bool hb25)) (by kernel_rfl) (fun _ _ _ h => h) (q_f F25_0 rfl) ?_
              refine a_takew 16 rfl rfl (za5 rfl rfl rfl (congrArg Value.bool hb25)) (by kernel_rfl) (fun _ _ _ h => h) (fun w h => h) (q_ldb Y3 rfl (fun w h => B0.now Z h) rfl) ?_
              refine a_purew 17 rfl rfl (za5 rfl rfl rfl (congrArg Value.bool hb25)) (by kernel_rfl) (fun _ _ _ h => h) (za2 rfl) ?_
              refine a_purew 18 rfl rfl (za5 rfl rfl rfl (congrArg Value.bool hb25)) (by kernel_rfl) (fun _ _ _ h => h) (zb7 rfl rfl) ?_
              refine a_purew 19 rfl rfl (za5 rfl rfl rfl (congrArg Value.bool hb25)) (by kernel_rfl) (fun _ _ _ h => h) (q_geq rfl rfl) ?_
              refine za7 20 rfl rfl rfl (by kernel_rfl) (fun _ _ _ h => h) (zau false (congrArg Value.bool hb25) rfl) ?_
              refine zan (by kernel_rfl) ?_
              refine za1 ?_
              refine zb0 _ rfl (fun hb26 => ?_) (fun hb26 => ?_)
              · skip
                replace h := br_t hb26 h
                refine c_seq ?_
                refine za0 ?_
                refine o_q rfl rfl (q_asg rfl) ?_
                refine o_end ?_
                refine za1 ?_
                refine c_ret ?_
                refine zax ?_
                refine zai ?_
                refine zai ?_
                have e_ := Option.some.inj h; replace h := hR14; rw [← e_] at h; clear e_
                refine zax ?_
                refine zai ?_
                have e0_ := Option.some.inj h; clear h
                subst e0_
                exact x_r1 () Try.results136 (zal rfl) rfl (fun w h => za6 [] (by decide) rfl w h)
              · skip
                replace h := br_f hb26 h
                refine zat ?_
                refine zas ?_
                refine za1 ?_
                refine za0 ?_
                refine o_q rfl rfl (q_up rfl rfl (hr12.up hm13)) ?_
                refine o_q rfl rfl (za2 rfl) ?_
                refine o_end ?_
                refine zar ys10.length (ys10, i8 + 1) (by rw [← hk18]; exact Nat.lt_succ_self _) ⟨hr12.step, rfl, h⟩ ⟨rfl, trivial⟩ (fun w h => za6 [1] (by decide) rfl w h) ?_
                repeat (first | exact za9 _ _ | refine zae rfl ?_ | refine zaa rfl ?_ | refine zaf rfl ?_)
  · replace h := bb_f hb5 h
    refine @o_n _ _ _ _ _ _ _ _ _ _ _ 12 (za4 rfl rfl rfl (congrArg (fun b => Value.bool (!(b))) hb5) rfl) (Eq.refl (some 12)) ?_
    refine @o_n _ _ _ _ _ _ _ _ _ _ _ 13 (za4 rfl rfl rfl (congrArg (fun b => Value.bool (!(b))) hb5) rfl) (Eq.refl (some 13)) ?_
    refine @o_n _ _ _ _ _ _ _ _ _ _ _ 14 (za4 rfl rfl rfl (congrArg (fun b => Value.bool (!(b))) hb5) rfl) (Eq.refl (some 14)) ?_
    refine @o_n _ _ _ _ _ _ _ _ _ _ _ 15 (za4 rfl rfl rfl (congrArg (fun b => Value.bool (!(b))) hb5) rfl) (Eq.refl (some 15)) ?_
    refine @o_n _ _ _ _ _ _ _ _ _ _ _ 16 (za4 rfl rfl rfl (congrArg (fun b => Value.bool (!(b))) hb5) rfl) (Eq.refl (some 16)) ?_
    refine @o_n _ _ _ _ _ _ _ _ _ _ _ 17 (za4 rfl rfl rfl (congrArg (fun b => Value.bool (!(b))) hb5) rfl) (Eq.refl (some 17)) ?_
    refine o_q rfl rfl (zau true (congrArg (fun b => Value.bool (!(b))) hb5) rfl) ?_
    refine o_q rfl rfl (za2 rfl) ?_
    refine @o_n _ _ _ _ _ _ _ _ _ _ _ 20 (za4 rfl rfl rfl rfl rfl) (Eq.refl (some 20)) ?_
    refine @o_n _ _ _ _ _ _ _ _ _ _ _ 21 (za4 rfl rfl rfl rfl rfl) (Eq.refl (some 21)) ?_
    refine @o_n _ _ _ _ _ _ _ _ _ _ _ 22 (za4 rfl rfl rfl rfl rfl) (Eq.refl (some 22)) ?_
    refine @o_n _ _ _ _ _ _ _ _ _ _ _ 23 (za4 rfl rfl rfl rfl rfl) (Eq.refl (some 23)) ?_
    refine @o_n _ _ _ _ _ _ _ _ _ _ _ 24 (za4 rfl rfl rfl rfl rfl) (Eq.refl (some 24)) ?_
    refine @o_n _ _ _ _ _ _ _ _ _ _ _ 25 (za4 rfl rfl rfl rfl rfl) (Eq.refl (some 25)) ?_
    refine o_q rfl rfl (zau true rfl rfl) ?_
    refine o_end ?_
    refine za1 ?_
    refine c_true rfl ?_
    refine c_seq ?_
    refine za0 ?_
    refine o_q rfl rfl (q_asg rfl) ?_
    refine o_end ?_
    refine za1 ?_
    refine c_ret ?_
    refine zai ?_
    have e0_ := Option.some.inj h; clear h
    subst e0_
    exact x_r1 () Try.results136 (zal rfl) rfl (fun w h => za6 [] (by decide) rfl w h)

/-! ### (*loop.example/g01098/impl.Plan).exponents: function 138 -/
def impl_Plan_exponents.l2 (l20 : List (List Int)) (y25 : SStep) : (List Int) → (List Int) → Int → Option (List Int)
  | [], l45, i48 => some l45
  | y49 :: ys50, l45, i48 => (gt l20 y25.f1).bind fun y70 => (gt y70 i48).bind fun y74 => (ap l45 ([mn (w64 (y49 + y74)) 1000001] : List Int)).bind fun l78 => impl_Plan_exponents.l2 l20 y25 ys50 l78 (i48 + 1)
def impl_Plan_exponents.l1 : (List SStep) → (List (List Int)) → Int → Option (List (List Int))
  | [], l20, i24 => some l20
  | y25 :: ys26, l20, i24 => (gt l20 y25.f0).bind fun y43 => (impl_Plan_exponents.l2 l20 y25 y43 ([] : List Int) 0).bind fun l45 => (ap l20 ([l45] : List (List Int))).bind fun l63 => impl_Plan_exponents.l1 ys26 l63 (i24 + 1)
def impl_Plan_exponents.l0 (a0_0 : Int) : Nat → (List (List Int)) → Int → Option (List (List Int))
  | 0, l4, i8 => some l4
  | k11 + 1, l4, i8 => (mk0 a0_0 (0 : Int)).bind fun l82 => (gt l82 i8).bind fun y89 => (st l82 i8 1).bind fun l90 => (ap l4 ([l90] : List (List Int))).bind fun l96 => impl_Plan_exponents.l0 a0_0 k11 l96 (i8 + 1)
def impl_Plan_exponents.f (a0_0 : Int) (l0_1 : List SStep) (l0_2 : List Int) : Option (List (List Int)) := (bd a0_0).bind fun _ => (impl_Plan_exponents.l0 a0_0 ((a0_0).toNat) ([] : List (List Int)) 0).bind fun l4 => (impl_Plan_exponents.l1 l0_1 l4 0).bind fun l20 => some l20
set_option maxHeartbeats 600000 in
set_option maxRecDepth 100000 in
theorem impl_Plan_exponents.calls {w0 ws : World} {P0 : Nat → Prop} (g0 : Nat) (a0_0 : Int) (A0_1 : Option Addr) (c0_1 : Nat) (n0_1 : Nat) (l0_1 : List SStep) (A0_2 : Option Addr) (c0_2 : Nat) (n0_2 : Nat) (l0_2 : List Int) (Z : Below w0.heap.size w0 ws) (hF : Fr w0 ws P0 [] ws) (R0_1 : Stable ws P0 (fun w => Kd.C kStep w A0_1 n0_1 l0_1)) (hc0_1 : n0_1 ≤ c0_1) (R0_2 : Stable ws P0 (fun w => Kd.C (Kd.int .i64) w A0_2 n0_2 l0_2)) (hc0_2 : n0_2 ≤ c0_2) (B0 : Stable ws P0 (fun w => w.heap[g0]? = some (.cells #[.int .i64 a0_0, .slice A0_1 n0_1 c0_1, .slice A0_2 n0_2 c0_2] 25 (0, 0)))) (r_1 : List (List Int)) (h : impl_Plan_exponents.f a0_0 l0_1 l0_2 = some r_1) :
    Calls Try.prog 138 #[.pointer (some ⟨g0, 0, none⟩)] ws (Post1 w0 ws P0 (fun ((q_2, q_3, q_4) : (Option Addr) × Nat × Hd) => .slice q_2 r_1.length q_3) (fun ((q_2, q_3, q_4) : (Option Addr) × Nat × Hd) => [row (gk 3 (Kd.int .i64)) 23 (.slice q_2 r_1.length q_3) (zp q_4 r_1)])) := by
  unfold impl_Plan_exponents.f at h
  obtain rfl := (R0_1 ws (KeptB.refl _ _)).1
  obtain rfl := (R0_2 ws (KeptB.refl _ _)).1
  refine enter Try.func138 rfl Try.ntmps138 rfl hF ?_
  refine c_seq ?_
  refine za0 ?_
  refine o_q rfl rfl (q_asg rfl) ?_
  refine o_end ?_
  refine za1 ?_
  refine c_seq ?_
  refine za0 ?_
  refine o_e rfl (e_lit0 (gk 3 (Kd.int .i64)) Try.underlying47 I23) (cur2 (fun A1 c2 => ?_))
  refine o_q rfl rfl (q_asg rfl) ?_
  refine o_end ?_
  refine za1 ?_
  refine c_seq ?_
  refine c_seq ?_
  refine za0 ?_
  refine o_q rfl rfl (za2 rfl) ?_
  refine o_q rfl rfl (q_nil rfl) ?_
  refine o_q rfl rfl (q_f F25_0 rfl) ?_
  refine o_q rfl rfl (q_ldb Y3 rfl (fun w h => B0.now Z h) rfl) ?_
  refine o_q rfl rfl (za2 rfl) ?_
  refine o_end ?_
  refine za1 ?_
  refine zaq ?_
  refine zab h (fun _ hbd17 h => ?_) rfl
  refine zab h (fun o16 hl15 hR14 => ?_) rfl
  clear h
  have hm13 : a0_0 ≤ 9223372036854775807 := bd_le hbd17
  refine zb3 (σ := (List (List Int)) × Int × (Option Addr) × Nat × Hd) (fun k11 ((l4, i8, A5, c6, H7) : (List (List Int)) × Int × (Option Addr) × Nat × Hd) => Cn a0_0 i8 k11 ∧ impl_Plan_exponents.l0 a0_0 k11 l4 i8 = some o16) [3, 4, 5, 16, 17, 18, 19, 20, 21, 22, 23, 24, 25, 26, 27, 28, 29, 30, 31] (fun ((l4, i8, A5, c6, H7) : (List (List Int)) × Int × (Option Addr) × Nat × Hd) => [(3, .slice A5 l4.length c6), (16, .int .i64 i8)]) (fun ((l4, i8, A5, c6, H7) : (List (List Int)) × Int × (Option Addr) × Nat × Hd) => [row (gk 3 (Kd.int .i64)) 23 (.slice A5 l4.length c6) (zp H7 l4)]) (a0_0).toNat (([] : List (List Int)), 0, A1, c2, ([] : Hd)) ⟨Cn.start hm13, hl15⟩ ⟨rfl, rfl, trivial⟩ (fun w h => h) ?_
  refine natC (cur5 (fun l4 i8 A5 c6 H7 => fun U18 hJ_ => ?_)) (fun k11 => (cur5 (fun l4 i8 A5 c6 H7 => fun U18 hJ_ => ?_)))
  · skip
    clear hl15
    have hr12 := hJ_.1; have h := hJ_.2; clear hJ_
    replace h : impl_Plan_exponents.l0 a0_0 0 l4 i8 = some o16 := h
    rw [impl_Plan_exponents.l0] at h
    refine c_seq ?_
    refine za0 ?_
    refine o_q rfl rfl (q_lss rfl rfl) ?_
    refine o_end ?_
    refine za1 ?_
    refine c_seq ?_
    refine c_false (congrArg Value.bool hr12.ge) ?_
    refine c_exit ?_
    refine zac ?_
    refine zac ?_
    have e_ := Option.some.inj h; replace h := hR14; rw [← e_] at h; clear e_
    refine x_hit ?_
    refine za1 ?_
    refine c_seq ?_
    refine c_seq ?_
    refine za0 ?_
    refine o_q rfl rfl (za2 rfl) ?_
    refine o_q rfl rfl (q_nil rfl) ?_
    refine o_q rfl rfl (q_f F25_1 rfl) ?_
    refine o_q rfl rfl (q_ldb Y22 rfl (fun w h => B0.now Z h) rfl) ?_
    refine o_q rfl rfl (q_len Try.underlying22 rfl) ?_
    refine o_q rfl rfl (za2 rfl) ?_
    refine o_end ?_
    refine za1 ?_
    refine zaq ?_
    refine zab h (fun o32 hl31 hR30 => ?_) rfl
    clear h
    refine c_fact (p := l0_1.length ≤ 9223372036854775807) (fun w h => (R0_1.now Z h).2.1) (fun hm29 => ?_)
    refine zb3 (σ := (List SStep) × (List (List Int)) × Int × (Option Addr) × Nat × Hd) (fun k27 ((ys26, l20, i24, A21, c22, H23) : (List SStep) × (List (List Int)) × Int × (Option Addr) × Nat × Hd) => Rg l0_1 i24 ys26 ∧ ys26.length = k27 ∧ impl_Plan_exponents.l1 ys26 l20 i24 = some o32) [3, 7, 8, 9, 10, 37, 38, 39, 40, 41, 42, 43, 44, 45, 46, 47, 48, 49, 50, 51, 52, 53, 54, 55, 56, 57, 58, 59, 60, 61, 62, 63, 64, 65, 66, 67, 68, 69, 70, 71, 72] (fun ((ys26, l20, i24, A21, c22, H23) : (List SStep) × (List (List Int)) × Int × (Option Addr) × Nat × Hd) => [(3, .slice A21 l20.length c22), (37, .int .i64 i24)]) (fun ((ys26, l20, i24, A21, c22, H23) : (List SStep) × (List (List Int)) × Int × (Option Addr) × Nat × Hd) => [row (gk 3 (Kd.int .i64)) 23 (.slice A21 l20.length c22) (zp H23 l20)]) l0_1.length (l0_1, l4, 0, A5, c6, H7) ⟨Rg.start _, rfl, hl31⟩ ⟨rfl, rfl, trivial⟩ (fun w h => h) ?_
    refine fun k27 => cur6 (listC (fun l20 i24 A21 c22 H23 U33 hJ_ => ?_) (fun y25 ys26 l20 i24 A21 c22 H23 U33 hJ_ => ?_))
    · skip
      clear hl31
      have hr28 := hJ_.1; have hk34 := hJ_.2.1; have h := hJ_.2.2; clear hJ_
      replace h : impl_Plan_exponents.l1 [] l20 i24 = some o32 := h
      rw [impl_Plan_exponents.l1] at h
      refine c_seq ?_
      refine za0 ?_
      refine o_q rfl rfl (q_lss rfl rfl) ?_
      refine o_end ?_
      refine za1 ?_
      refine c_seq ?_
      refine c_false (congrArg Value.bool hr28.ge) ?_
      refine c_exit ?_
      refine zac ?_
      refine zac ?_
      have e_ := Option.some.inj h; replace h := hR30; rw [← e_] at h; clear e_
      refine x_hit ?_
      refine za1 ?_
      refine c_seq ?_
      refine za0 ?_
      refine o_q rfl rfl (za2 rfl) ?_
      refine o_q rfl rfl (q_asg rfl) ?_
      refine o_end ?_
      refine za1 ?_
      refine c_ret ?_
      have e0_ := Option.some.inj h; clear h
      subst e0_
      exact x_r1 (A21, c22, H23) Try.results138 (zal rfl) rfl (fun w h => za6 [0] (by decide) rfl w h)
    · skip
      clear hl31
      have hr28 := hJ_.1; have hk34 := hJ_.2.1; have h := hJ_.2.2; clear hJ_
      replace h : impl_Plan_exponents.l1 (y25 :: ys26) l20 i24 = some o32 := h
      rw [impl_Plan_exponents.l1] at h
      refine c_seq ?_
      refine za0 ?_
      refine o_q rfl rfl (q_lss rfl rfl) ?_
      refine o_end ?_
      refine za1 ?_
      refine c_seq ?_
      refine c_true (congrArg Value.bool hr28.lt) ?_
      refine zat ?_
      refine za1 ?_
      refine c_seq ?_
      refine zaq ?_
      refine c_seq ?_
      refine za0 ?_
      refine zb4 (p := Sh A0_1 l0_1.length l0_1.length) (fun w h => f_sh (dk := kStep) h (fun w h => R0_1.now Z h)) (fun hq35 => ?_)
      refine o_q rfl rfl (q_ix Try.underlying22 Z107 rfl rfl hq35 hr28.get) ?_
      refine o_q rfl rfl (q_ldE G107 Z107 rfl rfl (fun w h => R0_1.now Z h) hr28.get (fun _ _ h => h) rfl) ?_
      refine o_e rfl (zam V107 rfl) (fun g36 => ?_)
      refine o_e rfl (zav (i := 0) rfl rfl rfl Z107 rfl rfl) (fun _ => ?_)
      refine o_end ?_
      refine za1 ?_
      refine c_seq ?_
      refine za0 ?_
      refine o_e rfl (e_lit0 (Kd.int .i64) Try.underlying23 I3) (cur2 (fun A38 c39 => ?_))
      refine o_q rfl rfl (q_asg rfl) ?_
      refine o_end ?_
      refine za1 ?_
      refine c_seq ?_
      refine c_seq ?_
      refine za0 ?_
      refine o_q rfl rfl (za2 rfl) ?_
      refine o_q rfl rfl (q_f F107_0 rfl) ?_
      refine o_q rfl rfl (q_ldb Y3 rfl (fun w h => h.zaj (i := 1) rfl) rfl) ?_
      refine zb4 (p := Sh A21 l20.length (zp H23 l20).length) (fun w h => f_sh (dk := (gk 3 (Kd.int .i64))) h (fun w h => h.zaw (i := 2) rfl)) (fun hq41 => ?_)
      refine zab h (fun y43 hg42 h => ?_) rfl
      refine o_q rfl rfl (q_ix Try.underlying47 Z23 rfl rfl hq41 (gt_zp hg42)) ?_
      refine zb4 (p := y43.length ≤ hC H23 y25.f0) (fun w h => (K_in (h.zaw (i := 2) rfl) hg42).1) (fun hc44 => ?_)
      refine o_q rfl rfl (q_lde (off := 0) Y23 rfl rfl (fun w h => h.zaw (i := 2) rfl) (gt_zp hg42) (fun _ _ h => h.1) rfl) ?_
      refine o_q rfl rfl (q_len Try.underlying23 rfl) ?_
      refine o_q rfl rfl (za2 rfl) ?_
      refine o_end ?_
      refine za1 ?_
      refine zaq ?_
      refine zab h (fun o56 hl55 hR54 => ?_) rfl
      clear h
      refine c_fact (p := y43.length ≤ 9223372036854775807) (fun w h => (C_in (h.zaw (i := 2) rfl) hg42).2.1) (fun hm53 => ?_)
      refine zb3 (σ := (List Int) × (List Int) × Int × (Option Addr) × Nat) (fun k51 ((ys50, l45, i48, A46, c47) : (List Int) × (List Int) × Int × (Option Addr) × Nat) => Rg y43 i48 ys50 ∧ ys50.length = k51 ∧ impl_Plan_exponents.l2 l20 y25 ys50 l45 i48 = some o56) [8, 9, 10, 48, 49, 50, 51, 52, 53, 54, 55, 56, 57, 58, 59, 60, 61, 62, 63, 64, 65, 66, 67] (fun ((ys50, l45, i48, A46, c47) : (List Int) × (List Int) × Int × (Option Addr) × Nat) => [(8, .slice A46 l45.length c47), (48, .int .i64 i48)]) (fun ((ys50, l45, i48, A46, c47) : (List Int) × (List Int) × Int × (Option Addr) × Nat) => [row (Kd.int .i64) 3 (.slice A46 l45.length c47) l45, box g36 107 #[.int .i64 y25.f0, .int .i64 y25.f1], row (gk 3 (Kd.int .i64)) 23 (.slice A21 l20.length c22) (zp H23 l20)]) y43.length (y43, ([] : List Int), 0, A38, c39) ⟨Rg.start _, rfl, hl55⟩ ⟨rfl, rfl, trivial⟩ (fun w h => h) ?_
      refine fun k51 => cur5 (listC (fun l45 i48 A46 c47 U57 hJ_ => ?_) (fun y49 ys50 l45 i48 A46 c47 U57 hJ_ => ?_))
      · skip
        clear hl55
        have hr52 := hJ_.1; have hk58 := hJ_.2.1; have h := hJ_.2.2; clear hJ_
        replace h : impl_Plan_exponents.l2 l20 y25 [] l45 i48 = some o56 := h
        rw [impl_Plan_exponents.l2] at h
        refine c_seq ?_
        refine za0 ?_
        refine o_q rfl rfl (q_lss rfl rfl) ?_
        refine o_end ?_
        refine za1 ?_
        refine c_seq ?_
        refine c_false (congrArg Value.bool hr52.ge) ?_
        refine c_exit ?_
        refine zac ?_
        refine zac ?_
        have e_ := Option.some.inj h; replace h := hR54; rw [← e_] at h; clear e_
        refine x_hit ?_
        refine za1 ?_
        refine za0 ?_
        refine o_q rfl rfl (za2 rfl) ?_
        refine o_q rfl rfl (za2 rfl) ?_
        refine o_e rfl (e_litG (j := 0) (ue := 3) (dk := (Kd.int .i64)) (ys := l45) Try.underlying47 I23 rfl rfl rfl) (cur3 (fun A59 c60 H62 => ?_))
        refine zab h (fun l63 ha64 h => ?_) rfl
        refine o_e rfl (e_appG (i := 3) (j := 0) Try.underlying47 I23 rfl (by decide) rfl rfl rfl rfl rfl ha64) (cur3 (fun A65 c66 H67 => ?_))
        refine o_q rfl rfl (q_asg rfl) ?_
        refine o_end ?_
        refine zas ?_
        refine za1 ?_
        refine za0 ?_
        refine o_q rfl rfl (q_up rfl rfl (hr28.up hm29)) ?_
        refine o_q rfl rfl (za2 rfl) ?_
        refine o_end ?_
        refine zar ys26.length (ys26, l63, i24 + 1, A65, c66, H67) (by rw [← hk34]; exact Nat.lt_succ_self _) ⟨hr28.step, rfl, h⟩ ⟨rfl, rfl, trivial⟩ (fun w h => za6 [3] (by decide) rfl w h) ?_
        repeat (first | exact za9 _ _ | refine zae rfl ?_ | refine zaa rfl ?_ | refine zaf rfl ?_)
      · skip
        clear hl55
        have hr52 := hJ_.1; have hk58 := hJ_.2.1; have h := hJ_.2.2; clear hJ_
        replace h : impl_Plan_exponents.l2 l20 y25 (y49 :: ys50) l45 i48 = some o56 := h
        rw [impl_Plan_exponents.l2] at h
        refine c_seq ?_
        refine za0 ?_
        refine o_q rfl rfl (q_lss rfl rfl) ?_
        refine o_end ?_
        refine za1 ?_
        refine c_seq ?_
        refine c_true (congrArg Value.bool hr52.lt) ?_
        refine zat ?_
        refine za1 ?_
        refine c_seq ?_
        refine zaq ?_
        refine c_seq ?_
        refine za0 ?_
        refine o_q rfl rfl (za2 rfl) ?_
        refine zb4 (p := Sh (hA H23 y25.f0) y43.length y43.length) (fun w h => f_sh (dk := (Kd.int .i64)) h (fun w h => C_in (h.zaw (i := 2) rfl) hg42)) (fun hq68 => ?_)
        refine o_q rfl rfl (q_ix Try.underlying23 Z3 rfl rfl hq68 hr52.get) ?_
        refine o_q rfl rfl (q_lde (off := 0) Y3 rfl rfl (fun w h => C_in (h.zaw (i := 2) rfl) hg42) hr52.get (fun _ _ h => h) rfl) ?_
        refine o_q rfl rfl (q_asg rfl) ?_
        refine o_q rfl rfl (q_asg rfl) ?_
        refine o_end ?_
        refine za1 ?_
        refine za0 ?_
        refine o_q rfl rfl (za2 rfl) ?_
        refine o_q rfl rfl (za2 rfl) ?_
        refine o_q rfl rfl (za2 rfl) ?_
        refine o_q rfl rfl (q_f F107_1 rfl) ?_
        refine o_q rfl rfl (q_ldb Y3 rfl (fun w h => h.zaj (i := 1) rfl) rfl) ?_
        refine zab h (fun y70 hg69 h => ?_) rfl
        refine o_q rfl rfl (q_ix Try.underlying47 Z23 rfl rfl hq41 (gt_zp hg69)) ?_
        refine zb4 (p := y70.length ≤ hC H23 y25.f1) (fun w h => (K_in (h.zaw (i := 2) rfl) hg69).1) (fun hc71 => ?_)
        refine o_q rfl rfl (q_lde (off := 0) Y23 rfl rfl (fun w h => h.zaw (i := 2) rfl) (gt_zp hg69) (fun _ _ h => h.1) rfl) ?_
        refine o_q rfl rfl (za2 rfl) ?_
        refine zb4 (p := Sh (hA H23 y25.f1) y70.length y70.length) (fun w h => f_sh (dk := (Kd.int .i64)) h (fun w h => C_in (h.zaw (i := 2) rfl) hg69)) (fun hq72 => ?_)
        refine zab h (fun y74 hg73 h => ?_) rfl
        refine o_q rfl rfl (q_ix Try.underlying23 Z3 rfl rfl hq72 hg73) ?_
        refine o_q rfl rfl (q_lde (off := 0) Y3 rfl rfl (fun w h => C_in (h.zaw (i := 2) rfl) hg69) hg73 (fun _ _ h => h) rfl) ?_
        refine o_q rfl rfl (zb7 rfl rfl) ?_
        refine o_q rfl rfl (q_min rfl rfl) ?_
        refine o_e rfl (e_lit (vs := [(0, .int .i64 (mn (w64 (y49 + y74)) 1000001))]) (cs := [.int .i64 (mn (w64 (y49 + y74)) 1000001)]) (Kd.int .i64) ([mn (w64 (y49 + y74)) 1000001] : List Int) Try.underlying23 I3 (by decide) rfl (by decide) rfl rfl (fun _ _ => Kd.zah _)) (cur2 (fun A75 c76 => ?_))
        refine zab h (fun l78 ha79 h => ?_) rfl
        refine o_e rfl (e_app (i := 1) (j := 0) Try.underlying23 I3 rfl (by decide) (by decide) rfl rfl rfl rfl rfl ha79) (cur2 (fun A80 c81 => ?_))
        refine o_q rfl rfl (q_asg rfl) ?_
        refine o_end ?_
        refine zas ?_
        refine za1 ?_
        refine za0 ?_
        refine o_q rfl rfl (q_up rfl rfl (hr52.up hm53)) ?_
        refine o_q rfl rfl (za2 rfl) ?_
        refine o_end ?_
        refine zar ys50.length (ys50, l78, i48 + 1, A80, c81) (by rw [← hk58]; exact Nat.lt_succ_self _) ⟨hr52.step, rfl, h⟩ ⟨rfl, rfl, trivial⟩ (fun w h => za6 [1, 2, 3] (by decide) rfl w h) ?_
        repeat (first | exact za9 _ _ | refine zae rfl ?_ | refine zaa rfl ?_ | refine zaf rfl ?_)
  · skip
    clear hl15
    have hr12 := hJ_.1; have h := hJ_.2; clear hJ_
    replace h : impl_Plan_exponents.l0 a0_0 (k11 + 1) l4 i8 = some o16 := h
    rw [impl_Plan_exponents.l0] at h
    refine c_seq ?_
    refine za0 ?_
    refine o_q rfl rfl (q_lss rfl rfl) ?_
    refine o_end ?_
    refine za1 ?_
    refine c_seq ?_
    refine c_true (congrArg Value.bool hr12.lt) ?_
    refine zat ?_
    refine za1 ?_
    refine c_seq ?_
    refine zaq ?_
    refine c_seq ?_
    refine za0 ?_
    refine o_q rfl rfl (za2 rfl) ?_
    refine o_q rfl rfl (q_asg rfl) ?_
    refine o_end ?_
    refine za1 ?_
    refine c_seq ?_
    refine za0 ?_
    refine o_q rfl rfl (za2 rfl) ?_
    refine o_q rfl rfl (q_nil rfl) ?_
    refine o_q rfl rfl (q_f F25_0 rfl) ?_
    refine o_q rfl rfl (q_ldb Y3 rfl (fun w h => B0.now Z h) rfl) ?_
    refine zab h (fun l82 hm83 h => ?_) rfl
    refine o_e rfl (e_make (Kd.int .i64) (0 : Int) Try.underlying23 I3 rfl (by decide) (by decide) (fun _ _ => rfl) rfl rfl hm83) (cur2 (fun A84 c85 => ?_))
    refine o_q rfl rfl (q_asg rfl) ?_
    refine o_end ?_
    refine za1 ?_
    refine c_seq ?_
    refine za0 ?_
    refine o_q rfl rfl (za2 rfl) ?_
    refine o_q rfl rfl (za2 rfl) ?_
    refine zb4 (p := Sh A84 l82.length l82.length) (fun w h => f_sh (dk := (Kd.int .i64)) h (fun w h => h.zaw (i := 0) rfl)) (fun hq87 => ?_)
    refine zab h (fun y89 hg88 h => ?_) rfl
    refine o_q rfl rfl (q_ix Try.underlying23 Z3 rfl rfl hq87 hg88) ?_
    refine zab h (fun l90 hs91 h => ?_) rfl
    refine o_e rfl (e_set (i := 0) rfl rfl rfl Z3 hs91) (fun _ => ?_)
    refine o_end ?_
    refine za1 ?_
    refine za0 ?_
    refine o_q rfl rfl (za2 rfl) ?_
    refine o_q rfl rfl (za2 rfl) ?_
    refine o_e rfl (e_litG (j := 0) (ue := 3) (dk := (Kd.int .i64)) (ys := l90) Try.underlying47 I23 rfl rfl rfl) (cur3 (fun A92 c93 H95 => ?_))
    refine zab h (fun l96 ha97 h => ?_) rfl
    refine o_e rfl (e_appG (i := 2) (j := 0) Try.underlying47 I23 rfl (by decide) rfl rfl rfl rfl rfl ha97) (cur3 (fun A98 c99 H100 => ?_))
    refine o_q rfl rfl (q_asg rfl) ?_
    refine o_end ?_
    refine zas ?_
    refine za1 ?_
    refine za0 ?_
    refine o_q rfl rfl (q_up rfl rfl hr12.up) ?_
    refine o_q rfl rfl (za2 rfl) ?_
    refine o_end ?_
    refine zar k11 (l96, i8 + 1, A98, c99, H100) (Nat.lt_succ_self _) ⟨hr12.step, h⟩ ⟨rfl, rfl, trivial⟩ (fun w h => za6 [2] (by decide) rfl w h) ?_
    repeat (first | exact za9 _ _ | refine zae rfl ?_ | refine zaa rfl ?_ | refine zaf rfl ?_)

/-! ### slices.Max[[]int,int]: function 56 -/
def slices_Max_int_int.l0 (l0 : List Int) : Nat → Int → Int → Option Int
  | 0, _, _ => none
  | k9 + 1, i5, i6 => if i6 < (l0.length : Int) then ((gt l0 i6).bind fun y19 => slices_Max_int_int.l0 l0 k9 (mx i5 y19) (w64 (i6 + 1))) else (some i5)
def slices_Max_int_int.f (k : Nat) (l0 : List Int) : Option Int := if (l0.length : Int) < 1 then (none) else ((gt l0 0).bind fun y4 => (slices_Max_int_int.l0 l0 k y4 1).bind fun i5 => some i5)
set_option maxHeartbeats 600000 in
set_option maxRecDepth 100000 in
theorem slices_Max_int_int.calls (k : Nat) {w0 ws : World} {P0 : Nat → Prop} (A0 : Option Addr) (c0 : Nat) (n0 : Nat) (l0 : List Int) (Z : Below w0.heap.size w0 ws) (hF : Fr w0 ws P0 [] ws) (R0 : Stable ws P0 (fun w => Kd.C (Kd.int .i64) w A0 n0 l0)) (hc0 : n0 ≤ c0) (r_1 : Int) (h : slices_Max_int_int.f k l0 = some r_1) :
    Calls Try.prog 56 #[.slice A0 n0 c0] ws (Post1 w0 ws P0 (fun (_ : Unit) => .int .i64 r_1) (fun (_ : Unit) => [])) := by
  unfold slices_Max_int_int.f at h
  obtain rfl := (R0 ws (KeptB.refl _ _)).1
  refine enter Try.func56 rfl Try.ntmps56 rfl hF ?_
  refine c_seq ?_
  refine za0 ?_
  refine o_q rfl rfl (q_asg rfl) ?_
  refine o_end ?_
  refine za1 ?_
  refine c_seq ?_
  refine c_seq ?_
  refine za0 ?_
  refine o_q rfl rfl (za2 rfl) ?_
  refine o_q rfl rfl (q_len Try.underlying23 rfl) ?_
  refine o_q rfl rfl (q_lss rfl rfl) ?_
  refine o_end ?_
  refine za1 ?_
  refine zb0 _ rfl (fun hb1 => ?_) (fun hb1 => ?_)
  · skip
    replace h := br_t hb1 h
    refine za0 ?_
    exact noneE h
  · skip
    replace h := br_f hb1 h
    refine zat ?_
    refine za1 ?_
    refine c_seq ?_
    refine za0 ?_
    refine o_q rfl rfl (za2 rfl) ?_
    refine zb4 (p := Sh A0 l0.length l0.length) (fun w h => f_sh (dk := (Kd.int .i64)) h (fun w h => R0.now Z h)) (fun hq2 => ?_)
    refine zab h (fun y4 hg3 h => ?_) rfl
    refine o_q rfl rfl (q_ix Try.underlying23 Z3 rfl rfl hq2 hg3) ?_
    refine o_q rfl rfl (q_lde (off := 0) Y3 rfl rfl (fun w h => R0.now Z h) hg3 (fun _ _ h => h) rfl) ?_
    refine o_q rfl rfl (q_asg rfl) ?_
    refine o_end ?_
    refine za1 ?_
    refine c_seq ?_
    refine c_seq ?_
    refine za0 ?_
    refine o_q rfl rfl (q_asg rfl) ?_
    refine o_end ?_
    refine za1 ?_
    refine zaq ?_
    refine zab h (fun o14 hl13 hR12 => ?_) rfl
    clear h
    refine zb3 (σ := Int × Int) (fun k9 ((i5, i6) : Int × Int) => slices_Max_int_int.l0 l0 k9 i5 i6 = some o14) [3, 4, 12, 13, 14, 15, 16, 17, 18, 19, 20, 21, 22, 23] (fun ((i5, i6) : Int × Int) => [(3, .int .i64 i5), (4, .int .i64 i6)]) (fun ((i5, i6) : Int × Int) => []) k (y4, 1) hl13 ⟨rfl, rfl, trivial⟩ (fun w h => h) ?_
    refine natC (cur2 (fun i5 i6 => fun U15 hJ_ => ?_)) (fun k9 => (cur2 (fun i5 i6 => fun U15 hJ_ => ?_)))
    · skip
      replace hJ_ : slices_Max_int_int.l0 l0 0 i5 i6 = some o14 := hJ_
      rw [slices_Max_int_int.l0] at hJ_
      exact noneE hJ_
    · skip
      clear hl13
      have h := hJ_; clear hJ_
      replace h : slices_Max_int_int.l0 l0 (k9 + 1) i5 i6 = some o14 := h
      rw [slices_Max_int_int.l0] at h
      refine c_seq ?_
      refine c_seq ?_
      refine za0 ?_
      refine o_q rfl rfl (za2 rfl) ?_
      refine o_q rfl rfl (za2 rfl) ?_
      refine o_q rfl rfl (q_len Try.underlying23 rfl) ?_
      refine o_q rfl rfl (q_lss rfl rfl) ?_
      refine o_end ?_
      refine za1 ?_
      refine zb0 _ rfl (fun hb17 => ?_) (fun hb17 => ?_)
      · skip
        replace h := br_t hb17 h
        refine zat ?_
        refine za1 ?_
        refine c_seq ?_
        refine zaq ?_
        refine za0 ?_
        refine o_q rfl rfl (za2 rfl) ?_
        refine o_q rfl rfl (za2 rfl) ?_
        refine o_q rfl rfl (za2 rfl) ?_
        refine zab h (fun y19 hg18 h => ?_) rfl
        refine o_q rfl rfl (q_ix Try.underlying23 Z3 rfl rfl hq2 hg18) ?_
        refine o_q rfl rfl (q_lde (off := 0) Y3 rfl rfl (fun w h => R0.now Z h) hg18 (fun _ _ h => h) rfl) ?_
        refine o_q rfl rfl (q_max rfl rfl) ?_
        refine o_q rfl rfl (q_asg rfl) ?_
        refine o_end ?_
        refine zas ?_
        refine za1 ?_
        refine za0 ?_
        refine o_q rfl rfl (za2 rfl) ?_
        refine o_q rfl rfl (zb7 rfl rfl) ?_
        refine o_q rfl rfl (q_asg rfl) ?_
        refine o_end ?_
        refine zar k9 (mx i5 y19, w64 (i6 + 1)) (Nat.lt_succ_self _) h ⟨rfl, rfl, trivial⟩ (fun w h => za6 [] (by decide) rfl w h) ?_
        repeat (first | exact za9 _ _ | refine zae rfl ?_ | refine zaa rfl ?_ | refine zaf rfl ?_)
      · skip
        replace h := br_f hb17 h
        refine c_exit ?_
        refine zac ?_
        refine zac ?_
        have e_ := Option.some.inj h; replace h := hR12; rw [← e_] at h; clear e_
        refine x_hit ?_
        refine za1 ?_
        refine c_seq ?_
        refine za0 ?_
        refine o_q rfl rfl (za2 rfl) ?_
        refine o_q rfl rfl (q_asg rfl) ?_
        refine o_end ?_
        refine za1 ?_
        refine c_ret ?_
        have e0_ := Option.some.inj h; clear h
        subst e0_
        exact x_r1 () Try.results56 (zal rfl) rfl (fun w h => za6 [] (by decide) rfl w h)

/-! ### loop.example/g01098/impl.IsPlan$1: function 139 -/
def impl_IsPlan_1.f (k : Nat) (l0 : List Int) : Option Bool := (slices_Max_int_int.f k l0).bind fun i2 => some (decide (1000000 < i2))
set_option maxHeartbeats 600000 in
set_option maxRecDepth 100000 in
theorem impl_IsPlan_1.calls (k : Nat) {w0 ws : World} {P0 : Nat → Prop} (A0 : Option Addr) (c0 : Nat) (n0 : Nat) (l0 : List Int) (Z : Below w0.heap.size w0 ws) (hF : Fr w0 ws P0 [] ws) (R0 : Stable ws P0 (fun w => Kd.C (Kd.int .i64) w A0 n0 l0)) (hc0 : n0 ≤ c0) (r_1 : Bool) (h : impl_IsPlan_1.f k l0 = some r_1) :
    Calls Try.prog 139 #[.slice A0 n0 c0] ws (Post1 w0 ws P0 (fun (_ : Unit) => .bool r_1) (fun (_ : Unit) => [])) := by
  unfold impl_IsPlan_1.f at h
  obtain rfl := (R0 ws (KeptB.refl _ _)).1
  refine enter Try.func139 rfl Try.ntmps139 rfl hF ?_
  refine c_seq ?_
  refine za0 ?_
  refine o_q rfl rfl (q_asg rfl) ?_
  refine o_end ?_
  refine za1 ?_
  refine c_seq ?_
  refine za0 ?_
  refine o_q rfl rfl (za2 rfl) ?_
  refine zab h (fun i2 hx1 h => ?_) rfl
  refine o_e rfl (za8 0 Z Try.func56 N56 rfl rfl rfl (fun w P1 hF hB hS hT => slices_Max_int_int.calls k A0 c0 l0.length l0 hB hF (hS _ R0) hc0 _ hx1)) (fun _ => ?_)
  refine o_q rfl rfl (q_gtr rfl rfl) ?_
  refine o_q rfl rfl (q_asg rfl) ?_
  refine o_end ?_
  refine za1 ?_
  refine c_ret ?_
  have e0_ := Option.some.inj h; clear h
  subst e0_
  exact x_r1 () Try.results139 (zal rfl) rfl (fun w h => za6 [] (by decide) rfl w h)

/-! ### slices.IndexFunc[[][]int,[]int]: function 156 -/
def slices_IndexFunc_int_int_2.l0 (k : Nat) : (List (List Int)) → Int → Option ((Int) ⊕ (Unit))
  | [], i1 => some (.inr ())
  | y2 :: ys3, i1 => (impl_IsPlan_1.f k y2).bind fun b15 => if b15 = true then (some (.inl i1)) else (slices_IndexFunc_int_int_2.l0 k ys3 (i1 + 1))
def slices_IndexFunc_int_int_2.f (k : Nat) (l0 : List (List Int)) : Option Int := (slices_IndexFunc_int_int_2.l0 k l0 0).bind fun o_ => match o_ with | .inl r_ => some r_ | .inr _ => some (-1)
set_option maxHeartbeats 600000 in
set_option maxRecDepth 100000 in
theorem slices_IndexFunc_int_int_2.calls (k : Nat) {w0 ws : World} {P0 : Nat → Prop} (A0 : Option Addr) (c0 : Nat) (n0 : Nat) (H0 : Hd) (l0 : List (List Int)) (Z : Below w0.heap.size w0 ws) (hF : Fr w0 ws P0 [] ws) (R0 : Stable ws P0 (fun w => Kd.C (gk 3 (Kd.int .i64)) w A0 n0 (zp H0 l0))) (hc0 : n0 ≤ c0) (r_1 : Int) (h : slices_IndexFunc_int_int_2.f k l0 = some r_1) :
    Calls Try.prog 156 #[.slice A0 n0 c0, .func (.func 139) #[] #[]] ws (Post1 w0 ws P0 (fun (_ : Unit) => .int .i64 r_1) (fun (_ : Unit) => [])) := by
  unfold slices_IndexFunc_int_int_2.f at h
  obtain rfl := (zp_len _ _).symm.trans (R0 ws (KeptB.refl _ _)).1
  refine enter Try.func156 rfl Try.ntmps156 rfl hF ?_
  refine c_seq ?_
  refine za0 ?_
  refine o_q rfl rfl (q_asg rfl) ?_
  refine o_end ?_
  refine za1 ?_
  refine c_seq ?_
  refine c_seq ?_
  refine za0 ?_
  refine o_q rfl rfl (za2 rfl) ?_
  refine o_q rfl rfl (q_len Try.underlying47 rfl) ?_
  refine o_q rfl rfl (za2 rfl) ?_
  refine o_end ?_
  refine za1 ?_
  refine zaq ?_
  refine zab h (fun o9 hl8 hR7 => ?_) rfl
  clear h
  refine c_fact (p := l0.length ≤ 9223372036854775807) (fun w h => (R0.now Z h).2.1) (fun hm6 => ?_)
  refine zb3 (σ := (List (List Int)) × Int) (fun k4 ((ys3, i1) : (List (List Int)) × Int) => Rg l0 i1 ys3 ∧ ys3.length = k4 ∧ slices_IndexFunc_int_int_2.l0 k ys3 i1 = some o9) [4, 5, 8, 9, 10, 11, 12, 13, 14, 15, 16, 17, 18] (fun ((ys3, i1) : (List (List Int)) × Int) => [(8, .int .i64 i1)]) (fun ((ys3, i1) : (List (List Int)) × Int) => []) l0.length (l0, 0) ⟨Rg.start _, rfl, hl8⟩ ⟨rfl, trivial⟩ (fun w h => h) ?_
  refine fun k4 => cur2 (listC (fun i1 U10 hJ_ => ?_) (fun y2 ys3 i1 U10 hJ_ => ?_))
  · skip
    clear hl8
    have hr5 := hJ_.1; have hk11 := hJ_.2.1; have h := hJ_.2.2; clear hJ_
    replace h : slices_IndexFunc_int_int_2.l0 k [] i1 = some o9 := h
    rw [slices_IndexFunc_int_int_2.l0] at h
    refine c_seq ?_
    refine za0 ?_
    refine o_q rfl rfl (q_lss rfl rfl) ?_
    refine o_end ?_
    refine za1 ?_
    refine c_seq ?_
    refine c_false (congrArg Value.bool hr5.ge) ?_
    refine c_exit ?_
    refine zac ?_
    refine zac ?_
    have e_ := Option.some.inj h; replace h := hR7; rw [← e_] at h; clear e_
    refine x_hit ?_
    refine za1 ?_
    refine c_seq ?_
    refine za0 ?_
    refine o_q rfl rfl (q_asg rfl) ?_
    refine o_end ?_
    refine za1 ?_
    refine c_ret ?_
    have e0_ := Option.some.inj h; clear h
    subst e0_
    exact x_r1 () Try.results156 (zal rfl) rfl (fun w h => za6 [] (by decide) rfl w h)
  · skip
    clear hl8
    have hr5 := hJ_.1; have hk11 := hJ_.2.1; have h := hJ_.2.2; clear hJ_
    replace h : slices_IndexFunc_int_int_2.l0 k (y2 :: ys3) i1 = some o9 := h
    rw [slices_IndexFunc_int_int_2.l0] at h
    refine c_seq ?_
    refine za0 ?_
    refine o_q rfl rfl (q_lss rfl rfl) ?_
    refine o_end ?_
    refine za1 ?_
    refine c_seq ?_
    refine c_true (congrArg Value.bool hr5.lt) ?_
    refine zat ?_
    refine za1 ?_
    refine c_seq ?_
    refine zaq ?_
    refine c_seq ?_
    refine za0 ?_
    refine o_q rfl rfl (za2 rfl) ?_
    refine o_q rfl rfl (q_asg rfl) ?_
    refine o_end ?_
    refine za1 ?_
    refine c_seq ?_
    refine za0 ?_
    refine o_q rfl rfl (za2 rfl) ?_
    refine o_q rfl rfl (za2 rfl) ?_
    refine o_q rfl rfl (za2 rfl) ?_
    refine zb4 (p := Sh A0 l0.length (zp H0 l0).length) (fun w h => f_sh (dk := (gk 3 (Kd.int .i64))) h (fun w h => R0.now Z h)) (fun hq12 => ?_)
    refine o_q rfl rfl (q_ix Try.underlying47 Z23 rfl rfl hq12 (gt_zp hr5.get)) ?_
    refine zb4 (p := y2.length ≤ hC H0 i1) (fun w h => (K_in (R0.now Z h) hr5.get).1) (fun hc13 => ?_)
    refine o_q rfl rfl (q_lde (off := 0) Y23 rfl rfl (fun w h => R0.now Z h) (gt_zp hr5.get) (fun _ _ h => h.1) rfl) ?_
    refine zab h (fun b15 hx14 h => ?_) rfl
    refine o_e rfl (za8 0 Z Try.func139 N139 rfl rfl rfl (fun w P1 hF hB hS hT => impl_IsPlan_1.calls k (hA H0 i1) (hC H0 i1) y2.length y2 hB hF (stab_in (hS _ R0) hr5.get) hc13 _ hx14)) (fun _ => ?_)
    refine o_end ?_
    refine za1 ?_
    refine zb0 _ rfl (fun hb16 => ?_) (fun hb16 => ?_)
    · skip
      replace h := bb_t hb16 h
      refine c_seq ?_
      refine za0 ?_
      refine o_q rfl rfl (za2 rfl) ?_
      refine o_q rfl rfl (q_asg rfl) ?_
      refine o_end ?_
      refine za1 ?_
      refine c_ret ?_
      refine zax ?_
      refine zai ?_
      refine zai ?_
      have e_ := Option.some.inj h; replace h := hR7; rw [← e_] at h; clear e_
      refine zax ?_
      refine zai ?_
      have e0_ := Option.some.inj h; clear h
      subst e0_
      exact x_r1 () Try.results156 (zal rfl) rfl (fun w h => za6 [] (by decide) rfl w h)
    · skip
      replace h := bb_f hb16 h
      refine zat ?_
      refine zas ?_
      refine za1 ?_
      refine za0 ?_
      refine o_q rfl rfl (q_up rfl rfl (hr5.up hm6)) ?_
      refine o_q rfl rfl (za2 rfl) ?_
      refine o_end ?_
      refine zar ys3.length (ys3, i1 + 1) (by rw [← hk11]; exact Nat.lt_succ_self _) ⟨hr5.step, rfl, h⟩ ⟨rfl, trivial⟩ (fun w h => za6 [] (by decide) rfl w h) ?_
      repeat (first | exact za9 _ _ | refine zae rfl ?_ | refine zaa rfl ?_ | refine zaf rfl ?_)

/-! ### slices.ContainsFunc[[][]int,[]int]: function 137 -/
def slices_ContainsFunc_int_int_2.f (k : Nat) (l0 : List (List Int)) : Option Bool := (slices_IndexFunc_int_int_2.f k l0).bind fun i2 => some (decide (0 ≤ i2))
set_option maxHeartbeats 600000 in
set_option maxRecDepth 100000 in
theorem slices_ContainsFunc_int_int_2.calls (k : Nat) {w0 ws : World} {P0 : Nat → Prop} (A0 : Option Addr) (c0 : Nat) (n0 : Nat) (H0 : Hd) (l0 : List (List Int)) (Z : Below w0.heap.size w0 ws) (hF : Fr w0 ws P0 [] ws) (R0 : Stable ws P0 (fun w => Kd.C (gk 3 (Kd.int .i64)) w A0 n0 (zp H0 l0))) (hc0 : n0 ≤ c0) (r_1 : Bool) (h : slices_ContainsFunc_int_int_2.f k l0 = some r_1) :
    Calls Try.prog 137 #[.slice A0 n0 c0, .func (.func 139) #[] #[]] ws (Post1 w0 ws P0 (fun (_ : Unit) => .bool r_1) (fun (_ : Unit) => [])) := by
  unfold slices_ContainsFunc_int_int_2.f at h
  obtain rfl := (zp_len _ _).symm.trans (R0 ws (KeptB.refl _ _)).1
  refine enter Try.func137 rfl Try.ntmps137 rfl hF ?_
  refine c_seq ?_
  refine za0 ?_
  refine o_q rfl rfl (q_asg rfl) ?_
  refine o_end ?_
  refine za1 ?_
  refine c_seq ?_
  refine za0 ?_
  refine o_q rfl rfl (za2 rfl) ?_
  refine o_q rfl rfl (za2 rfl) ?_
  refine zab h (fun i2 hx1 h => ?_) rfl
  refine o_e rfl (za8 0 Z Try.func156 N156 rfl rfl rfl (fun w P1 hF hB hS hT => slices_IndexFunc_int_int_2.calls k A0 c0 l0.length H0 l0 hB hF (hS _ R0) hc0 _ hx1)) (fun _ => ?_)
  refine o_q rfl rfl (q_geq rfl rfl) ?_
  refine o_q rfl rfl (q_asg rfl) ?_
  refine o_end ?_
  refine za1 ?_
  refine c_ret ?_
  have e0_ := Option.some.inj h; clear h
  subst e0_
  exact x_r1 () Try.results137 (zal rfl) rfl (fun w h => za6 [] (by decide) rfl w h)

/-! ### loop.example/g01098/impl.IsPlan: function 90 -/
def impl_IsPlan.f (k : Nat) (a0_0 : Int) (l0_1 : List SStep) (l0_2 : List Int) : Option Bool := (impl_Plan_formed.f a0_0 l0_1 l0_2).bind fun b4 => if b4 = true then ((impl_Plan_exponents.f a0_0 l0_1 l0_2).bind fun l7 => (slices_ContainsFunc_int_int_2.f k l7).bind fun b12 => some (!b12)) else (some false)
set_option maxHeartbeats 600000 in
set_option maxRecDepth 100000 in
theorem impl_IsPlan.calls (k : Nat) {w0 ws : World} {P0 : Nat → Prop} (a0_0 : Int) (A0_1 : Option Addr) (c0_1 : Nat) (n0_1 : Nat) (l0_1 : List SStep) (A0_2 : Option Addr) (c0_2 : Nat) (n0_2 : Nat) (l0_2 : List Int) (Z : Below w0.heap.size w0 ws) (hF : Fr w0 ws P0 [] ws) (R0_1 : Stable ws P0 (fun w => Kd.C kStep w A0_1 n0_1 l0_1)) (hc0_1 : n0_1 ≤ c0_1) (R0_2 : Stable ws P0 (fun w => Kd.C (Kd.int .i64) w A0_2 n0_2 l0_2)) (hc0_2 : n0_2 ≤ c0_2) (r_1 : Bool) (h : impl_IsPlan.f k a0_0 l0_1 l0_2 = some r_1) :
    Calls Try.prog 90 #[.agg #[.int .i64 a0_0, .slice A0_1 n0_1 c0_1, .slice A0_2 n0_2 c0_2]] ws (Post1 w0 ws P0 (fun (_ : Unit) => .bool r_1) (fun (_ : Unit) => [])) := by
  unfold impl_IsPlan.f at h
  obtain rfl := (R0_1 ws (KeptB.refl _ _)).1
  obtain rfl := (R0_2 ws (KeptB.refl _ _)).1
  refine enter Try.func90 rfl Try.ntmps90 rfl hF ?_
  refine c_seq ?_
  refine za0 ?_
  refine o_e rfl (e_box rfl) (fun g1 => ?_)
  refine o_q rfl rfl (q_asg rfl) ?_
  refine o_end ?_
  refine za1 ?_
  refine c_seq ?_
  refine za0 ?_
  refine zab h (fun b4 hx3 h => ?_) rfl
  refine o_e rfl (za8 0 Z Try.func136 N136 rfl rfl rfl (fun w P1 hF hB hS hT => impl_Plan_formed.calls g1 a0_0 A0_1 c0_1 l0_1.length l0_1 A0_2 c0_2 l0_2.length l0_2 hB hF (hS _ R0_1) hc0_1 (hS _ R0_2) hc0_2 (hT 0 _ rfl).box _ hx3)) (fun _ => ?_)
  refine o_q rfl rfl (za2 rfl) ?_
  refine byB b4 (fun hb5 => ?_) (fun hb5 => ?_)
  · replace h := bb_t hb5 h
    refine zab h (fun l7 hx6 h => ?_) rfl
    refine o_ew (za5 rfl rfl rfl (congrArg Value.bool hb5)) (za8 0 Z Try.func138 N138 rfl rfl rfl (fun w P1 hF hB hS hT => impl_Plan_exponents.calls g1 a0_0 A0_1 c0_1 l0_1.length l0_1 A0_2 c0_2 l0_2.length l0_2 hB hF (hS _ R0_1) hc0_1 (hS _ R0_2) hc0_2 (hT 0 _ rfl).box _ hx6)) (cur3 (fun A8 c9 H10 => ?_))
    refine zab h (fun b12 hx11 h => ?_) rfl
    refine o_ew (za5 rfl rfl rfl (congrArg Value.bool hb5)) (za8 0 Z Try.func137 N137 rfl rfl rfl (fun w P1 hF hB hS hT => slices_ContainsFunc_int_int_2.calls k A8 c9 l7.length H10 l7 hB hF (hT 0 _ rfl).row (hT 0 _ rfl).cap _ hx11)) (fun _ => ?_)
    refine o_w (za5 rfl rfl rfl (congrArg Value.bool hb5)) rfl (q_not rfl) ?_
    refine o_q rfl rfl (zau true (congrArg Value.bool hb5) rfl) ?_
    refine o_q rfl rfl (q_asg rfl) ?_
    refine o_end ?_
    refine za1 ?_
    refine c_ret ?_
    have e0_ := Option.some.inj h; clear h
    subst e0_
    exact x_r1 () Try.results90 (zal rfl) rfl (fun w h => za6 [] (by decide) rfl w h)
  · replace h := bb_f hb5 h
    refine @o_n _ _ _ _ _ _ _ _ _ _ _ 5 (za4 rfl rfl rfl (congrArg Value.bool hb5) rfl) (Eq.refl (some 5)) ?_
    refine @o_n _ _ _ _ _ _ _ _ _ _ _ 6 (za4 rfl rfl rfl (congrArg Value.bool hb5) rfl) (Eq.refl (some 6)) ?_
    refine @o_n _ _ _ _ _ _ _ _ _ _ _ 7 (za4 rfl rfl rfl (congrArg Value.bool hb5) rfl) (Eq.refl (some 7)) ?_
    refine o_q rfl rfl (zau false (congrArg Value.bool hb5) rfl) ?_
    refine o_q rfl rfl (q_asg rfl) ?_
    refine o_end ?_
    refine za1 ?_
    refine c_ret ?_
    have e0_ := Option.some.inj h; clear h
    subst e0_
    exact x_r1 () Try.results90 (zal rfl) rfl (fun w h => za6 [] (by decide) rfl w h)

/-! ### loop.example/g01098/laws.big: function 22 -/
def laws_big.f (l0 : List Int) (l1 : List Int) : Option Bool := if 1048576 < (l0.length : Int) then (some true) else (some (decide (w64 (1048576 - (l0.length : Int)) < (l1.length : Int))))
set_option maxHeartbeats 600000 in
set_option maxRecDepth 100000 in
theorem laws_big.calls {w0 ws : World} {P0 : Nat → Prop} (A0 : Option Addr) (c0 : Nat) (n0 : Nat) (l0 : List Int) (A1 : Option Addr) (c1 : Nat) (n1 : Nat) (l1 : List Int) (Z : Below w0.heap.size w0 ws) (hF : Fr w0 ws P0 [] ws) (R0 : Stable ws P0 (fun w => Kd.C (Kd.int .u8) w A0 n0 l0)) (hc0 : n0 ≤ c0) (R1 : Stable ws P0 (fun w => Kd.C (Kd.int .u8) w A1 n1 l1)) (hc1 : n1 ≤ c1) (r_1 : Bool) (h : laws_big.f l0 l1 = some r_1) :
    Calls Try.prog 22 #[.slice A0 n0 c0, .slice A1 n1 c1] ws (Post1 w0 ws P0 (fun (_ : Unit) => .bool r_1) (fun (_ : Unit) => [])) := by
  unfold laws_big.f at h
  obtain rfl := (R0 ws (KeptB.refl _ _)).1
  obtain rfl := (R1 ws (KeptB.refl _ _)).1
  refine enter Try.func22 rfl Try.ntmps22 rfl hF ?_
  refine c_seq ?_
  refine za0 ?_
  refine o_q rfl rfl (q_asg rfl) ?_
  refine o_end ?_
  refine za1 ?_
  refine c_seq ?_
  refine za0 ?_
  refine o_q rfl rfl (za2 rfl) ?_
  refine o_q rfl rfl (q_len Try.underlying36 rfl) ?_
  refine o_q rfl rfl (q_gtr rfl rfl) ?_
  refine o_q rfl rfl (za2 rfl) ?_
  refine byB (decide (1048576 < (l0.length : Int))) (fun hb1 => ?_) (fun hb1 => ?_)
  · replace h := br_t hb1 h
    refine @o_n _ _ _ _ _ _ _ _ _ _ _ 9 (za4 rfl rfl rfl (congrArg Value.bool hb1) rfl) (Eq.refl (some 9)) ?_
    refine @o_n _ _ _ _ _ _ _ _ _ _ _ 10 (za4 rfl rfl rfl (congrArg Value.bool hb1) rfl) (Eq.refl (some 10)) ?_
    refine @o_n _ _ _ _ _ _ _ _ _ _ _ 11 (za4 rfl rfl rfl (congrArg Value.bool hb1) rfl) (Eq.refl (some 11)) ?_
    refine @o_n _ _ _ _ _ _ _ _ _ _ _ 12 (za4 rfl rfl rfl (congrArg Value.bool hb1) rfl) (Eq.refl (some 12)) ?_
    refine @o_n _ _ _ _ _ _ _ _ _ _ _ 13 (za4 rfl rfl rfl (congrArg Value.bool hb1) rfl) (Eq.refl (some 13)) ?_
    refine @o_n _ _ _ _ _ _ _ _ _ _ _ 14 (za4 rfl rfl rfl (congrArg Value.bool hb1) rfl) (Eq.refl (some 14)) ?_
    refine o_q rfl rfl (zau true (congrArg Value.bool hb1) rfl) ?_
    refine o_q rfl rfl (q_asg rfl) ?_
    refine o_end ?_
    refine za1 ?_
    refine c_ret ?_
    have e0_ := Option.some.inj h; clear h
    subst e0_
    exact x_r1 () Try.results22 (zal rfl) rfl (fun w h => za6 [] (by decide) rfl w h)
  · replace h := br_f hb1 h
    refine o_w (za5 rfl rfl rfl (congrArg Value.bool hb1)) rfl (za2 rfl) ?_
    refine o_w (za5 rfl rfl rfl (congrArg Value.bool hb1)) rfl (q_len Try.underlying36 rfl) ?_
    refine o_w (za5 rfl rfl rfl (congrArg Value.bool hb1)) rfl (za2 rfl) ?_
    refine o_w (za5 rfl rfl rfl (congrArg Value.bool hb1)) rfl (q_len Try.underlying36 rfl) ?_
    refine o_w (za5 rfl rfl rfl (congrArg Value.bool hb1)) rfl (zb5 rfl rfl) ?_
    refine o_w (za5 rfl rfl rfl (congrArg Value.bool hb1)) rfl (q_gtr rfl rfl) ?_
    refine o_q rfl rfl (zau false (congrArg Value.bool hb1) rfl) ?_
    refine o_q rfl rfl (q_asg rfl) ?_
    refine o_end ?_
    refine za1 ?_
    refine c_ret ?_
    have e0_ := Option.some.inj h; clear h
    subst e0_
    exact x_r1 () Try.results22 (zal rfl) rfl (fun w h => za6 [] (by decide) rfl w h)

/-! ### (*loop.example/g01098/spec.l1Cur).next: function 152 -/
def spec_l1Cur_next.f (l0_0 : List Int) (a0_1 : Int) (a0_2 : Int) : Option (Int × Int) := (if a0_1 < (l0_0.length : Int) then ((gt l0_0 a0_1).bind fun y14 => some (w64 y14)) else (some 0)).bind fun i5 => if w64 (a0_1 + 1) ≤ (l0_0.length : Int) then (some (i5, IntKind.u64.wrap (IntKind.u64.wrap (IntKind.u64.wrap (a0_2 * 6364136223846793005) + (IntKind.u64.wrap i5)) + 1442695040888963407))) else (some (w64 (Go.bits .and .u64 ((IntKind.u64.wrap (IntKind.u64.wrap (IntKind.u64.wrap (a0_2 * 6364136223846793005) + (IntKind.u64.wrap i5)) + 1442695040888963407)) / 2 ^ min (40 : Int).toNat IntKind.u64.bits) 255), IntKind.u64.wrap (IntKind.u64.wrap (IntKind.u64.wrap (a0_2 * 6364136223846793005) + (IntKind.u64.wrap i5)) + 1442695040888963407)))
set_option maxHeartbeats 600000 in
set_option maxRecDepth 100000 in
theorem spec_l1Cur_next.calls {w0 ws : World} {P0 : Nat → Prop} (g0 : Nat) (A0_0 : Option Addr) (c0_0 : Nat) (n0_0 : Nat) (l0_0 : List Int) (a0_1 : Int) (a0_2 : Int) (Z : Below w0.heap.size w0 ws) (hF : Fr w0 ws P0 [box g0 84 #[.slice A0_0 n0_0 c0_0, .int .i64 a0_1, .int .u64 a0_2]] ws) (R0_0 : Stable ws P0 (fun w => Kd.C (Kd.int .u8) w A0_0 n0_0 l0_0)) (hc0_0 : n0_0 ≤ c0_0) (r_1 : Int) (r_2 : Int) (h : spec_l1Cur_next.f l0_0 a0_1 a0_2 = some (r_1, r_2)) :
    Calls Try.prog 152 #[.pointer (some ⟨g0, 0, none⟩)] ws (Post1 w0 ws P0 (fun (_ : Unit) => .int .i64 r_1) (fun (_ : Unit) => [box g0 84 #[.slice A0_0 n0_0 c0_0, .int .i64 (w64 (a0_1 + 1)), .int .u64 r_2]])) := by
  unfold spec_l1Cur_next.f at h
  obtain rfl := (R0_0 ws (KeptB.refl _ _)).1
  refine enter Try.func152 rfl Try.ntmps152 rfl hF ?_
  refine c_seq ?_
  refine za0 ?_
  refine o_q rfl rfl (q_asg rfl) ?_
  refine o_end ?_
  refine za1 ?_
  refine c_seq ?_
  refine za0 ?_
  refine o_q rfl rfl (q_asg rfl) ?_
  refine o_end ?_
  refine za1 ?_
  refine zab h (fun o6 hl7 hR8 => ?_) rfl
  clear h
  refine c_cutJ (σ := Int) (fun i5 => some i5 = some o6) [3, 4, 5, 6, 7, 8, 9, 10, 11, 12, 13, 14, 15, 16, 17, 18, 19, 20, 21, 22, 23, 24] (fun i5 => [(3, .int .i64 i5)]) (fun i5 => [box g0 84 #[.slice A0_0 l0_0.length c0_0, .int .i64 a0_1, .int .u64 a0_2]]) ?_ ?_
  · skip
    have h := hl7; clear hl7
    clear hR8
    refine c_seq ?_
    refine a_start (ds := []) MO rfl ?_
    refine za7 0 rfl rfl rfl (by kernel_rfl) (fun _ _ _ h => h) (za2 rfl) ?_
    refine za7 1 rfl rfl rfl (by kernel_rfl) (fun _ _ _ h => h) (q_nil rfl) ?_
    refine za7 2 rfl rfl rfl (by kernel_rfl) (fun _ _ _ h => h) (q_f F84_1 rfl) ?_
    refine zb2 3 rfl rfl rfl (by kernel_rfl) (fun _ _ _ h => h) (fun w h => h) (q_ldb Y3 rfl (fun w h => h.zaj (i := 0) rfl) rfl) ?_
    refine za7 4 rfl rfl rfl (by kernel_rfl) (fun _ _ _ h => h) (za2 rfl) ?_
    refine za7 5 rfl rfl rfl (by kernel_rfl) (fun _ _ _ h => h) (q_nil rfl) ?_
    refine za7 6 rfl rfl rfl (by kernel_rfl) (fun _ _ _ h => h) (q_f F84_0 rfl) ?_
    refine zb2 7 rfl rfl rfl (by kernel_rfl) (fun _ _ _ h => h) (fun w h => h) (q_ldb Y36 rfl (fun w h => h.zaj (i := 0) rfl) rfl) ?_
    refine za7 8 rfl rfl rfl (by kernel_rfl) (fun _ _ _ h => h) (q_len Try.underlying36 rfl) ?_
    refine za7 9 rfl rfl rfl (by kernel_rfl) (fun _ _ _ h => h) (q_lss rfl rfl) ?_
    refine zan (by kernel_rfl) ?_
    refine za1 ?_
    refine zb0 _ rfl (fun hb11 => ?_) (fun hb11 => ?_)
    · skip
      replace h := br_t hb11 h
      refine a_start (ds := []) MO rfl ?_
      refine za7 0 rfl rfl rfl (by kernel_rfl) (fun _ _ _ h => h) (za2 rfl) ?_
      refine za7 1 rfl rfl rfl (by kernel_rfl) (fun _ _ _ h => h) (q_nil rfl) ?_
      refine za7 2 rfl rfl rfl (by kernel_rfl) (fun _ _ _ h => h) (q_f F84_0 rfl) ?_
      refine zb2 3 rfl rfl rfl (by kernel_rfl) (fun _ _ _ h => h) (fun w h => h) (q_ldb Y36 rfl (fun w h => h.zaj (i := 0) rfl) rfl) ?_
      refine za7 4 rfl rfl rfl (by kernel_rfl) (fun _ _ _ h => h) (za2 rfl) ?_
      refine za7 5 rfl rfl rfl (by kernel_rfl) (fun _ _ _ h => h) (q_nil rfl) ?_
      refine za7 6 rfl rfl rfl (by kernel_rfl) (fun _ _ _ h => h) (q_f F84_1 rfl) ?_
      refine zb2 7 rfl rfl rfl (by kernel_rfl) (fun _ _ _ h => h) (fun w h => h) (q_ldb Y3 rfl (fun w h => h.zaj (i := 0) rfl) rfl) ?_
      refine a_fact (p := Sh A0_0 l0_0.length l0_0.length) (fun w h => f_sh (dk := (Kd.int .u8)) h (fun w h => R0_0.now Z h)) (fun hq12 => ?_)
      refine zab h (fun y14 hg13 h => ?_) rfl
      refine za7 8 rfl rfl rfl (by kernel_rfl) (fun _ _ _ h => h) (q_ix Try.underlying36 Z5 rfl rfl hq12 hg13) ?_
      refine zb2 9 rfl rfl rfl (by kernel_rfl) (fun _ _ _ h => h) (fun w h => h) (q_lde (off := 0) Y5 rfl rfl (fun w h => R0_0.now Z h) hg13 (fun _ _ h => h) rfl) ?_
      refine za7 10 rfl rfl rfl (by kernel_rfl) (fun _ _ _ h => h) (q_conv (by rw [Try.underlying5]; rfl) Try.underlying3 rfl) ?_
      refine za7 11 rfl rfl rfl (by kernel_rfl) (fun _ _ _ h => h) (q_asg rfl) ?_
      refine zan (by kernel_rfl) ?_
      refine zao (w64 y14) h ⟨rfl, trivial⟩ (fun w h => za6 [0] (by decide) rfl w h) ?_
      repeat (first | exact za9 _ _ | refine zae rfl ?_ | refine zaa rfl ?_ | refine zaf rfl ?_)
    · skip
      replace h := br_f hb11 h
      refine zat ?_
      refine zao 0 h ⟨rfl, trivial⟩ (fun w h => za6 [0] (by decide) rfl w h) ?_
      repeat (first | exact za9 _ _ | refine zae rfl ?_ | refine zaa rfl ?_ | refine zaf rfl ?_)
  · skip
    refine (fun i5 => fun U9 hJ10 => ?_)
    have e_ := Option.some.inj hJ10; have h := hR8; rw [← e_] at h; clear e_ hJ10 hR8 hl7
    refine c_seq ?_
    refine za0 ?_
    refine o_q rfl rfl (za2 rfl) ?_
    refine o_q rfl rfl (q_nil rfl) ?_
    refine o_q rfl rfl (q_f F84_1 rfl) ?_
    refine o_q rfl rfl (q_ldb Y3 rfl (fun w h => h.zaj (i := 0) rfl) rfl) ?_
    refine o_q rfl rfl (zb7 rfl rfl) ?_
    refine o_q rfl rfl (q_nil rfl) ?_
    refine o_q rfl rfl (q_f F84_1 rfl) ?_
    refine o_e rfl (zad (i := 0) rfl rfl rfl rfl Z3 rfl rfl) (fun _ => ?_)
    refine o_end ?_
    refine za1 ?_
    refine c_seq ?_
    refine za0 ?_
    refine o_q rfl rfl (za2 rfl) ?_
    refine o_q rfl rfl (za2 rfl) ?_
    refine o_q rfl rfl (q_nil rfl) ?_
    refine o_q rfl rfl (q_f F84_2 rfl) ?_
    refine o_q rfl rfl (q_ldb Y82 rfl (fun w h => h.zaj (i := 0) rfl) rfl) ?_
    refine o_q rfl rfl (q_mul rfl rfl) ?_
    refine o_q rfl rfl (za2 rfl) ?_
    refine o_q rfl rfl (q_conv (by rw [Try.underlying3]; rfl) Try.underlying82 rfl) ?_
    refine o_q rfl rfl (q_add rfl rfl) ?_
    refine o_q rfl rfl (q_add rfl rfl) ?_
    refine o_q rfl rfl (q_nil rfl) ?_
    refine o_q rfl rfl (q_f F84_2 rfl) ?_
    refine o_e rfl (zad (i := 0) rfl rfl rfl rfl Z82 rfl rfl) (fun _ => ?_)
    refine o_end ?_
    refine za1 ?_
    refine c_seq ?_
    refine c_seq ?_
    refine a_start (ds := []) MO rfl ?_
    refine za7 0 rfl rfl rfl (by kernel_rfl) (fun _ _ _ h => h) (za2 rfl) ?_
    refine za7 1 rfl rfl rfl (by kernel_rfl) (fun _ _ _ h => h) (q_nil rfl) ?_
    refine za7 2 rfl rfl rfl (by kernel_rfl) (fun _ _ _ h => h) (q_f F84_1 rfl) ?_
    refine zb2 3 rfl rfl rfl (by kernel_rfl) (fun _ _ _ h => h) (fun w h => h) (q_ldb Y3 rfl (fun w h => h.zaj (i := 0) rfl) rfl) ?_
    refine za7 4 rfl rfl rfl (by kernel_rfl) (fun _ _ _ h => h) (za2 rfl) ?_
    refine za7 5 rfl rfl rfl (by kernel_rfl) (fun _ _ _ h => h) (q_nil rfl) ?_
    refine za7 6 rfl rfl rfl (by kernel_rfl) (fun _ _ _ h => h) (q_f F84_0 rfl) ?_
    refine zb2 7 rfl rfl rfl (by kernel_rfl) (fun _ _ _ h => h) (fun w h => h) (q_ldb Y36 rfl (fun w h => h.zaj (i := 0) rfl) rfl) ?_
    refine za7 8 rfl rfl rfl (by kernel_rfl) (fun _ _ _ h => h) (q_len Try.underlying36 rfl) ?_
    refine za7 9 rfl rfl rfl (by kernel_rfl) (fun _ _ _ h => h) (q_leq rfl rfl) ?_
    refine zan (by kernel_rfl) ?_
    refine za1 ?_
    refine zb0 _ rfl (fun hb15 => ?_) (fun hb15 => ?_)
    · skip
      replace h := br_t hb15 h
      refine c_seq ?_
      refine za0 ?_
      refine o_q rfl rfl (za2 rfl) ?_
      refine o_q rfl rfl (q_asg rfl) ?_
      refine o_end ?_
      refine za1 ?_
      refine c_ret ?_
      refine zai ?_
      have e0_ := Option.some.inj h; clear h
      have d0_ := (Prod.mk.inj e0_).1; have e1_ := (Prod.mk.inj e0_).2; clear e0_; subst d0_
      subst e1_
      exact x_r1 () Try.results152 (zal rfl) rfl (fun w h => za6 [0] (by decide) rfl w h)
    · skip
      replace h := br_f hb15 h
      refine zat ?_
      refine za1 ?_
      refine c_seq ?_
      refine za0 ?_
      refine o_q rfl rfl (za2 rfl) ?_
      refine o_q rfl rfl (q_nil rfl) ?_
      refine o_q rfl rfl (q_f F84_2 rfl) ?_
      refine o_q rfl rfl (q_ldb Y82 rfl (fun w h => h.zaj (i := 0) rfl) rfl) ?_
      refine o_q rfl rfl (q_shr rfl rfl (by decide)) ?_
      refine o_q rfl rfl (q_and rfl rfl) ?_
      refine o_q rfl rfl (q_conv (by rw [Try.underlying82]; rfl) Try.underlying3 rfl) ?_
      refine o_q rfl rfl (q_asg rfl) ?_
      refine o_end ?_
      refine za1 ?_
      refine c_ret ?_
      have e0_ := Option.some.inj h; clear h
      have d0_ := (Prod.mk.inj e0_).1; have e1_ := (Prod.mk.inj e0_).2; clear e0_; subst d0_
      subst e1_
      exact x_r1 () Try.results152 (zal rfl) rfl (fun w h => za6 [0] (by decide) rfl w h)

/-! ### (*loop.example/g01098/spec.l1Cur).pick: function 123 -/
def spec_l1Cur_pick.f (l0_0 : List Int) (a0_1 : Int) (a0_2 : Int) (a1 : Int) : Option (Int × Int × Int) := if a1 ≤ 1 then (some (0, a0_1, a0_2)) else ((spec_l1Cur_next.f l0_0 a0_1 a0_2).bind fun (i3, i4) => if 200 < a1 then ((spec_l1Cur_next.f l0_0 (w64 (a0_1 + 1)) i4).bind fun (i7, i8) => (nz a1).bind fun _ => some ((w64 (w64 (i3 * 256) + i7)).tmod a1, w64 ((w64 (a0_1 + 1)) + 1), i8)) else ((nz a1).bind fun _ => some (i3.tmod a1, w64 (a0_1 + 1), i4)))
set_option maxHeartbeats 600000 in
set_option maxRecDepth 100000 in
theorem spec_l1Cur_pick.calls {w0 ws : World} {P0 : Nat → Prop} (g0 : Nat) (A0_0 : Option Addr) (c0_0 : Nat) (n0_0 : Nat) (l0_0 : List Int) (a0_1 : Int) (a0_2 : Int) (a1 : Int) (Z : Below w0.heap.size w0 ws) (hF : Fr w0 ws P0 [box g0 84 #[.slice A0_0 n0_0 c0_0, .int .i64 a0_1, .int .u64 a0_2]] ws) (R0_0 : Stable ws P0 (fun w => Kd.C (Kd.int .u8) w A0_0 n0_0 l0_0)) (hc0_0 : n0_0 ≤ c0_0) (r_1 : Int) (r_2 : Int) (r_3 : Int) (h : spec_l1Cur_pick.f l0_0 a0_1 a0_2 a1 = some (r_1, r_2, r_3)) :
    Calls Try.prog 123 #[.pointer (some ⟨g0, 0, none⟩), .int .i64 a1] ws (Post1 w0 ws P0 (fun (_ : Unit) => .int .i64 r_1) (fun (_ : Unit) => [box g0 84 #[.slice A0_0 n0_0 c0_0, .int .i64 r_2, .int .u64 r_3]])) := by
  unfold spec_l1Cur_pick.f at h
  obtain rfl := (R0_0 ws (KeptB.refl _ _)).1
  refine enter Try.func123 rfl Try.ntmps123 rfl hF ?_
  refine c_seq ?_
  refine za0 ?_
  refine o_q rfl rfl (q_asg rfl) ?_
  refine o_end ?_
  refine za1 ?_
  refine c_seq ?_
  refine c_seq ?_
  refine za0 ?_
  refine o_q rfl rfl (za2 rfl) ?_
  refine o_q rfl rfl (q_leq rfl rfl) ?_
  refine o_end ?_
  refine za1 ?_
  refine zb0 _ rfl (fun hb1 => ?_) (fun hb1 => ?_)
  · skip
    replace h := br_t hb1 h
    refine c_seq ?_
    refine za0 ?_
    refine o_q rfl rfl (q_asg rfl) ?_
    refine o_end ?_
    refine za1 ?_
    refine c_ret ?_
    refine zai ?_
    have e0_ := Option.some.inj h; clear h
    have d0_ := (Prod.mk.inj e0_).1; have e1_ := (Prod.mk.inj e0_).2; clear e0_; subst d0_
    have d1_ := (Prod.mk.inj e1_).1; have e2_ := (Prod.mk.inj e1_).2; clear e1_; subst d1_
    subst e2_
    exact x_r1 () Try.results123 (zal rfl) rfl (fun w h => za6 [0] (by decide) rfl w h)
  · skip
    replace h := br_f hb1 h
    refine zat ?_
    refine za1 ?_
    refine c_seq ?_
    refine za0 ?_
    refine o_q rfl rfl (za2 rfl) ?_
    refine bindE2 h (fun i3 i4 hx2 h => ?_) rfl
    refine o_e rfl (za8 1 Z Try.func152 N152 rfl rfl rfl (fun w P1 hF hB hS hT => spec_l1Cur_next.calls g0 A0_0 c0_0 l0_0.length l0_0 a0_1 a0_2 hB hF (hS _ R0_0) hc0_0 _ _ hx2)) (fun _ => ?_)
    refine o_q rfl rfl (q_asg rfl) ?_
    refine o_end ?_
    refine za1 ?_
    refine c_seq ?_
    refine c_seq ?_
    refine za0 ?_
    refine o_q rfl rfl (za2 rfl) ?_
    refine o_q rfl rfl (q_gtr rfl rfl) ?_
    refine o_end ?_
    refine za1 ?_
    refine zb0 _ rfl (fun hb5 => ?_) (fun hb5 => ?_)
    · skip
      replace h := br_t hb5 h
      refine za0 ?_
      refine o_q rfl rfl (za2 rfl) ?_
      refine o_q rfl rfl (q_mul64 rfl rfl) ?_
      refine o_q rfl rfl (za2 rfl) ?_
      refine bindE2 h (fun i7 i8 hx6 h => ?_) rfl
      refine o_e rfl (za8 1 Z Try.func152 N152 rfl rfl rfl (fun w P1 hF hB hS hT => spec_l1Cur_next.calls g0 A0_0 c0_0 l0_0.length l0_0 (w64 (a0_1 + 1)) i4 hB hF (hS _ R0_0) hc0_0 _ _ hx6)) (fun _ => ?_)
      refine o_q rfl rfl (zb7 rfl rfl) ?_
      refine o_q rfl rfl (q_asg rfl) ?_
      refine o_end ?_
      refine za1 ?_
      refine c_seq ?_
      refine za0 ?_
      refine o_q rfl rfl (za2 rfl) ?_
      refine o_q rfl rfl (za2 rfl) ?_
      refine zab h (fun _ hz9 h => ?_) rfl
      refine o_q rfl rfl (q_rem rfl rfl (nz_ne hz9)) ?_
      refine o_q rfl rfl (q_asg rfl) ?_
      refine o_end ?_
      refine za1 ?_
      refine c_ret ?_
      have e0_ := Option.some.inj h; clear h
      have d0_ := (Prod.mk.inj e0_).1; have e1_ := (Prod.mk.inj e0_).2; clear e0_; subst d0_
      have d1_ := (Prod.mk.inj e1_).1; have e2_ := (Prod.mk.inj e1_).2; clear e1_; subst d1_
      subst e2_
      exact x_r1 () Try.results123 (zal rfl) rfl (fun w h => za6 [0] (by decide) rfl w h)
    · skip
      replace h := br_f hb5 h
      refine zat ?_
      refine za1 ?_
      refine c_seq ?_
      refine za0 ?_
      refine o_q rfl rfl (za2 rfl) ?_
      refine o_q rfl rfl (za2 rfl) ?_
      refine zab h (fun _ hz10 h => ?_) rfl
      refine o_q rfl rfl (q_rem rfl rfl (nz_ne hz10)) ?_
      refine o_q rfl rfl (q_asg rfl) ?_
      refine o_end ?_
      refine za1 ?_
      refine c_ret ?_
      have e0_ := Option.some.inj h; clear h
      have d0_ := (Prod.mk.inj e0_).1; have e1_ := (Prod.mk.inj e0_).2; clear e0_; subst d0_
      have d1_ := (Prod.mk.inj e1_).1; have e2_ := (Prod.mk.inj e1_).2; clear e1_; subst d1_
      subst e2_
      exact x_r1 () Try.results123 (zal rfl) rfl (fun w h => za6 [0] (by decide) rfl w h)

/-! ### (*loop.example/g01098/spec.l1Cur).among: function 86 -/
def spec_l1Cur_among.f (l0_0 : List Int) (a0_1 : Int) (a0_2 : Int) (l1 : List Int) : Option (Int × Int × Int) := (spec_l1Cur_pick.f l0_0 a0_1 a0_2 (l1.length : Int)).bind fun (i2, i3, i4) => (gt l1 i2).bind fun y7 => some (y7, i3, i4)
set_option maxHeartbeats 600000 in
set_option maxRecDepth 100000 in
theorem spec_l1Cur_among.calls {w0 ws : World} {P0 : Nat → Prop} (g0 : Nat) (A0_0 : Option Addr) (c0_0 : Nat) (n0_0 : Nat) (l0_0 : List Int) (a0_1 : Int) (a0_2 : Int) (A1 : Option Addr) (c1 : Nat) (n1 : Nat) (l1 : List Int) (Z : Below w0.heap.size w0 ws) (hF : Fr w0 ws P0 [box g0 84 #[.slice A0_0 n0_0 c0_0, .int .i64 a0_1, .int .u64 a0_2]] ws) (R0_0 : Stable ws P0 (fun w => Kd.C (Kd.int .u8) w A0_0 n0_0 l0_0)) (hc0_0 : n0_0 ≤ c0_0) (R1 : Stable ws P0 (fun w => Kd.C (Kd.int .i64) w A1 n1 l1)) (hc1 : n1 ≤ c1) (r_1 : Int) (r_2 : Int) (r_3 : Int) (h : spec_l1Cur_among.f l0_0 a0_1 a0_2 l1 = some (r_1, r_2, r_3)) :
    Calls Try.prog 86 #[.pointer (some ⟨g0, 0, none⟩), .slice A1 n1 c1] ws (Post1 w0 ws P0 (fun (_ : Unit) => .int .i64 r_1) (fun (_ : Unit) => [box g0 84 #[.slice A0_0 n0_0 c0_0, .int .i64 r_2, .int .u64 r_3]])) := by
  unfold spec_l1Cur_among.f at h
  obtain rfl := (R0_0 ws (KeptB.refl _ _)).1
  obtain rfl := (R1 ws (KeptB.refl _ _)).1
  refine enter Try.func86 rfl Try.ntmps86 rfl hF ?_
  refine c_seq ?_
  refine za0 ?_
  refine o_q rfl rfl (q_asg rfl) ?_
  refine o_end ?_
  refine za1 ?_
  refine c_seq ?_
  refine za0 ?_
  refine o_q rfl rfl (za2 rfl) ?_
  refine o_q rfl rfl (za2 rfl) ?_
  refine o_q rfl rfl (za2 rfl) ?_
  refine o_q rfl rfl (q_len Try.underlying23 rfl) ?_
  refine bindE3 h (fun i2 i3 i4 hx1 h => ?_) rfl
  refine o_e rfl (za8 1 Z Try.func123 N123 rfl rfl rfl (fun w P1 hF hB hS hT => spec_l1Cur_pick.calls g0 A0_0 c0_0 l0_0.length l0_0 a0_1 a0_2 (l1.length : Int) hB hF (hS _ R0_0) hc0_0 _ _ _ hx1)) (fun _ => ?_)
  refine zb4 (p := Sh A1 l1.length l1.length) (fun w h => f_sh (dk := (Kd.int .i64)) h (fun w h => R1.now Z h)) (fun hq5 => ?_)
  refine zab h (fun y7 hg6 h => ?_) rfl
  refine o_q rfl rfl (q_ix Try.underlying23 Z3 rfl rfl hq5 hg6) ?_
  refine o_q rfl rfl (q_lde (off := 0) Y3 rfl rfl (fun w h => R1.now Z h) hg6 (fun _ _ h => h) rfl) ?_
  refine o_q rfl rfl (q_asg rfl) ?_
  refine o_end ?_
  refine za1 ?_
  refine c_ret ?_
  have e0_ := Option.some.inj h; clear h
  have d0_ := (Prod.mk.inj e0_).1; have e1_ := (Prod.mk.inj e0_).2; clear e0_; subst d0_
  have d1_ := (Prod.mk.inj e1_).1; have e2_ := (Prod.mk.inj e1_).2; clear e1_; subst d1_
  subst e2_
  exact x_r1 () Try.results86 (zal rfl) rfl (fun w h => za6 [0] (by decide) rfl w h)

/-! ### (*loop.example/g01098/spec.l1Cur).number: function 70 -/
def spec_l1Cur_number.f (l0_0 : List Int) (a0_1 : Int) (a0_2 : Int) : Option (Int × Int × Int) := (spec_l1Cur_pick.f l0_0 a0_1 a0_2 8).bind fun (i2, i3, i4) => if i2 = 0 then ((spec_l1Cur_among.f l0_0 i3 i4 ([(-1), 0, 1, 2, 1000000, 1000001] : List Int)).bind fun (i10, i11, i12) => some (i10, i11, i12)) else (if i2 = 1 then ((spec_l1Cur_pick.f l0_0 i3 i4 1000000).bind fun (i15, i16, i17) => some (w64 (1 + i15), i16, i17)) else ((spec_l1Cur_pick.f l0_0 i3 i4 120).bind fun (i19, i20, i21) => some (w64 (1 + i19), i20, i21)))
set_option maxHeartbeats 600000 in
set_option maxRecDepth 100000 in
theorem spec_l1Cur_number.calls {w0 ws : World} {P0 : Nat → Prop} (g0 : Nat) (A0_0 : Option Addr) (c0_0 : Nat) (n0_0 : Nat) (l0_0 : List Int) (a0_1 : Int) (a0_2 : Int) (Z : Below w0.heap.size w0 ws) (hF : Fr w0 ws P0 [box g0 84 #[.slice A0_0 n0_0 c0_0, .int .i64 a0_1, .int .u64 a0_2]] ws) (R0_0 : Stable ws P0 (fun w => Kd.C (Kd.int .u8) w A0_0 n0_0 l0_0)) (hc0_0 : n0_0 ≤ c0_0) (r_1 : Int) (r_2 : Int) (r_3 : Int) (h : spec_l1Cur_number.f l0_0 a0_1 a0_2 = some (r_1, r_2, r_3)) :
    Calls Try.prog 70 #[.pointer (some ⟨g0, 0, none⟩)] ws (Post1 w0 ws P0 (fun (_ : Unit) => .int .i64 r_1) (fun (_ : Unit) => [box g0 84 #[.slice A0_0 n0_0 c0_0, .int .i64 r_2, .int .u64 r_3]])) := by
  unfold spec_l1Cur_number.f at h
  obtain rfl := (R0_0 ws (KeptB.refl _ _)).1
  refine enter Try.func70 rfl Try.ntmps70 rfl hF ?_
  refine c_seq ?_
  refine za0 ?_
  refine o_q rfl rfl (q_asg rfl) ?_
  refine o_end ?_
  refine za1 ?_
  refine c_seq ?_
  refine c_seq ?_
  refine za0 ?_
  refine o_q rfl rfl (za2 rfl) ?_
  refine bindE3 h (fun i2 i3 i4 hx1 h => ?_) rfl
  refine o_e rfl (za8 1 Z Try.func123 N123 rfl rfl rfl (fun w P1 hF hB hS hT => spec_l1Cur_pick.calls g0 A0_0 c0_0 l0_0.length l0_0 a0_1 a0_2 8 hB hF (hS _ R0_0) hc0_0 _ _ _ hx1)) (fun _ => ?_)
  refine o_end ?_
  refine za1 ?_
  refine zaq ?_
  refine c_seq ?_
  refine za0 ?_
  refine o_q rfl rfl (q_eql rfl rfl) ?_
  refine o_q rfl rfl (q_asg rfl) ?_
  refine o_end ?_
  refine za1 ?_
  refine zb0 _ rfl (fun hb5 => ?_) (fun hb5 => ?_)
  · skip
    replace h := br_t hb5 h
    refine c_seq ?_
    refine za0 ?_
    refine o_q rfl rfl (za2 rfl) ?_
    refine o_e rfl (e_lit (vs := [(0, .int .i64 (-1)), (1, .int .i64 0), (2, .int .i64 1), (3, .int .i64 2), (4, .int .i64 1000000), (5, .int .i64 1000001)]) (cs := [.int .i64 (-1), .int .i64 0, .int .i64 1, .int .i64 2, .int .i64 1000000, .int .i64 1000001]) (Kd.int .i64) ([(-1), 0, 1, 2, 1000000, 1000001] : List Int) Try.underlying23 I3 (by decide) rfl (by decide) rfl rfl (fun _ _ => Kd.zah _)) (cur2 (fun A6 c7 => ?_))
    refine o_pick [1, 0] (by decide) rfl ?_
    refine bindE3 h (fun i10 i11 i12 hx9 h => ?_) rfl
    refine o_e rfl (za8 1 Z Try.func86 N86 rfl rfl rfl (fun w P1 hF hB hS hT => spec_l1Cur_among.calls g0 A0_0 c0_0 l0_0.length l0_0 i3 i4 A6 c7 (([(-1), 0, 1, 2, 1000000, 1000001] : List Int).length) ([(-1), 0, 1, 2, 1000000, 1000001] : List Int) hB hF (hS _ R0_0) hc0_0 (hT 0 _ rfl).row (hT 0 _ rfl).cap _ _ _ hx9)) (fun _ => ?_)
    refine o_q rfl rfl (q_asg rfl) ?_
    refine o_end ?_
    refine za1 ?_
    refine c_ret ?_
    refine zax ?_
    refine zai ?_
    have e0_ := Option.some.inj h; clear h
    have d0_ := (Prod.mk.inj e0_).1; have e1_ := (Prod.mk.inj e0_).2; clear e0_; subst d0_
    have d1_ := (Prod.mk.inj e1_).1; have e2_ := (Prod.mk.inj e1_).2; clear e1_; subst d1_
    subst e2_
    exact x_r1 () Try.results70 (zal rfl) rfl (fun w h => za6 [0] (by decide) rfl w h)
  · skip
    replace h := br_f hb5 h
    refine c_seq ?_
    refine za0 ?_
    refine o_q rfl rfl (q_eql rfl rfl) ?_
    refine o_q rfl rfl (q_asg rfl) ?_
    refine o_end ?_
    refine za1 ?_
    refine zb0 _ rfl (fun hb13 => ?_) (fun hb13 => ?_)
    · skip
      replace h := br_t hb13 h
      refine c_seq ?_
      refine za0 ?_
      refine o_q rfl rfl (za2 rfl) ?_
      refine bindE3 h (fun i15 i16 i17 hx14 h => ?_) rfl
      refine o_e rfl (za8 1 Z Try.func123 N123 rfl rfl rfl (fun w P1 hF hB hS hT => spec_l1Cur_pick.calls g0 A0_0 c0_0 l0_0.length l0_0 i3 i4 1000000 hB hF (hS _ R0_0) hc0_0 _ _ _ hx14)) (fun _ => ?_)
      refine o_q rfl rfl (zb7 rfl rfl) ?_
      refine o_q rfl rfl (q_asg rfl) ?_
      refine o_end ?_
      refine za1 ?_
      refine c_ret ?_
      refine zax ?_
      refine zai ?_
      have e0_ := Option.some.inj h; clear h
      have d0_ := (Prod.mk.inj e0_).1; have e1_ := (Prod.mk.inj e0_).2; clear e0_; subst d0_
      have d1_ := (Prod.mk.inj e1_).1; have e2_ := (Prod.mk.inj e1_).2; clear e1_; subst d1_
      subst e2_
      exact x_r1 () Try.results70 (zal rfl) rfl (fun w h => za6 [0] (by decide) rfl w h)
    · skip
      replace h := br_f hb13 h
      refine zat ?_
      refine zas ?_
      refine za1 ?_
      refine c_seq ?_
      refine za0 ?_
      refine o_q rfl rfl (za2 rfl) ?_
      refine bindE3 h (fun i19 i20 i21 hx18 h => ?_) rfl
      refine o_e rfl (za8 1 Z Try.func123 N123 rfl rfl rfl (fun w P1 hF hB hS hT => spec_l1Cur_pick.calls g0 A0_0 c0_0 l0_0.length l0_0 i3 i4 120 hB hF (hS _ R0_0) hc0_0 _ _ _ hx18)) (fun _ => ?_)
      refine o_q rfl rfl (zb7 rfl rfl) ?_
      refine o_q rfl rfl (q_asg rfl) ?_
      refine o_end ?_
      refine za1 ?_
      refine c_ret ?_
      have e0_ := Option.some.inj h; clear h
      have d0_ := (Prod.mk.inj e0_).1; have e1_ := (Prod.mk.inj e0_).2; clear e0_; subst d0_
      have d1_ := (Prod.mk.inj e1_).1; have e2_ := (Prod.mk.inj e1_).2; clear e1_; subst d1_
      subst e2_
      exact x_r1 () Try.results70 (zal rfl) rfl (fun w h => za6 [0] (by decide) rfl w h)

/-! ### (*loop.example/g01098/spec.l1Cur).one: function 124 -/
def spec_l1Cur_one.f (l0_0 : List Int) (a0_1 : Int) (a0_2 : Int) (a1 : Int) : Option (Bool × Int × Int) := (spec_l1Cur_pick.f l0_0 a0_1 a0_2 a1).bind fun (i2, i3, i4) => some (decide (i2 = 0), i3, i4)
set_option maxHeartbeats 600000 in
set_option maxRecDepth 100000 in
theorem spec_l1Cur_one.calls {w0 ws : World} {P0 : Nat → Prop} (g0 : Nat) (A0_0 : Option Addr) (c0_0 : Nat) (n0_0 : Nat) (l0_0 : List Int) (a0_1 : Int) (a0_2 : Int) (a1 : Int) (Z : Below w0.heap.size w0 ws) (hF : Fr w0 ws P0 [box g0 84 #[.slice A0_0 n0_0 c0_0, .int .i64 a0_1, .int .u64 a0_2]] ws) (R0_0 : Stable ws P0 (fun w => Kd.C (Kd.int .u8) w A0_0 n0_0 l0_0)) (hc0_0 : n0_0 ≤ c0_0) (r_1 : Bool) (r_2 : Int) (r_3 : Int) (h : spec_l1Cur_one.f l0_0 a0_1 a0_2 a1 = some (r_1, r_2, r_3)) :
    Calls Try.prog 124 #[.pointer (some ⟨g0, 0, none⟩), .int .i64 a1] ws (Post1 w0 ws P0 (fun (_ : Unit) => .bool r_1) (fun (_ : Unit) => [box g0 84 #[.slice A0_0 n0_0 c0_0, .int .i64 r_2, .int .u64 r_3]])) := by
  unfold spec_l1Cur_one.f at h
  obtain rfl := (R0_0 ws (KeptB.refl _ _)).1
  refine enter Try.func124 rfl Try.ntmps124 rfl hF ?_
  refine c_seq ?_
  refine za0 ?_
  refine o_q rfl rfl (q_asg rfl) ?_
  refine o_end ?_
  refine za1 ?_
  refine c_seq ?_
  refine za0 ?_
  refine o_q rfl rfl (za2 rfl) ?_
  refine o_q rfl rfl (za2 rfl) ?_
  refine bindE3 h (fun i2 i3 i4 hx1 h => ?_) rfl
  refine o_e rfl (za8 1 Z Try.func123 N123 rfl rfl rfl (fun w P1 hF hB hS hT => spec_l1Cur_pick.calls g0 A0_0 c0_0 l0_0.length l0_0 a0_1 a0_2 a1 hB hF (hS _ R0_0) hc0_0 _ _ _ hx1)) (fun _ => ?_)
  refine o_q rfl rfl (q_eql rfl rfl) ?_
  refine o_q rfl rfl (q_asg rfl) ?_
  refine o_end ?_
  refine za1 ?_
  refine c_ret ?_
  have e0_ := Option.some.inj h; clear h
  have d0_ := (Prod.mk.inj e0_).1; have e1_ := (Prod.mk.inj e0_).2; clear e0_; subst d0_
  have d1_ := (Prod.mk.inj e1_).1; have e2_ := (Prod.mk.inj e1_).2; clear e1_; subst d1_
  subst e2_
  exact x_r1 () Try.results124 (zal rfl) rfl (fun w h => za6 [0] (by decide) rfl w h)

/-! ### (*loop.example/g01098/spec.l1Cur).wide: function 71 -/
def spec_l1Cur_wide.f (l0_0 : List Int) (a0_1 : Int) (a0_2 : Int) : Option (Int × Int × Int) := (spec_l1Cur_one.f l0_0 a0_1 a0_2 8).bind fun (b2, i3, i4) => if b2 = true then ((spec_l1Cur_among.f l0_0 i3 i4 ([(-1), 0, 5, 6] : List Int)).bind fun (i10, i11, i12) => some (i10, i11, i12)) else ((spec_l1Cur_pick.f l0_0 i3 i4 4).bind fun (i14, i15, i16) => some (w64 (1 + i14), i15, i16))
set_option maxHeartbeats 600000 in
set_option maxRecDepth 100000 in
theorem spec_l1Cur_wide.calls {w0 ws : World} {P0 : Nat → Prop} (g0 : Nat) (A0_0 : Option Addr) (c0_0 : Nat) (n0_0 : Nat) (l0_0 : List Int) (a0_1 : Int) (a0_2 : Int) (Z : Below w0.heap.size w0 ws) (hF : Fr w0 ws P0 [box g0 84 #[.slice A0_0 n0_0 c0_0, .int .i64 a0_1, .int .u64 a0_2]] ws) (R0_0 : Stable ws P0 (fun w => Kd.C (Kd.int .u8) w A0_0 n0_0 l0_0)) (hc0_0 : n0_0 ≤ c0_0) (r_1 : Int) (r_2 : Int) (r_3 : Int) (h : spec_l1Cur_wide.f l0_0 a0_1 a0_2 = some (r_1, r_2, r_3)) :
    Calls Try.prog 71 #[.pointer (some ⟨g0, 0, none⟩)] ws (Post1 w0 ws P0 (fun (_ : Unit) => .int .i64 r_1) (fun (_ : Unit) => [box g0 84 #[.slice A0_0 n0_0 c0_0, .int .i64 r_2, .int .u64 r_3]])) := by
  unfold spec_l1Cur_wide.f at h
  obtain rfl := (R0_0 ws (KeptB.refl _ _)).1
  refine enter Try.func71 rfl Try.ntmps71 rfl hF ?_
  refine c_seq ?_
  refine za0 ?_
  refine o_q rfl rfl (q_asg rfl) ?_
  refine o_end ?_
  refine za1 ?_
  refine c_seq ?_
  refine c_seq ?_
  refine za0 ?_
  refine o_q rfl rfl (za2 rfl) ?_
  refine bindE3 h (fun b2 i3 i4 hx1 h => ?_) rfl
  refine o_e rfl (za8 1 Z Try.func124 N124 rfl rfl rfl (fun w P1 hF hB hS hT => spec_l1Cur_one.calls g0 A0_0 c0_0 l0_0.length l0_0 a0_1 a0_2 8 hB hF (hS _ R0_0) hc0_0 _ _ _ hx1)) (fun _ => ?_)
  refine o_end ?_
  refine za1 ?_
  refine zb0 _ rfl (fun hb5 => ?_) (fun hb5 => ?_)
  · skip
    replace h := bb_t hb5 h
    refine c_seq ?_
    refine za0 ?_
    refine o_q rfl rfl (za2 rfl) ?_
    refine o_e rfl (e_lit (vs := [(0, .int .i64 (-1)), (1, .int .i64 0), (2, .int .i64 5), (3, .int .i64 6)]) (cs := [.int .i64 (-1), .int .i64 0, .int .i64 5, .int .i64 6]) (Kd.int .i64) ([(-1), 0, 5, 6] : List Int) Try.underlying23 I3 (by decide) rfl (by decide) rfl rfl (fun _ _ => Kd.zah _)) (cur2 (fun A6 c7 => ?_))
    refine o_pick [1, 0] (by decide) rfl ?_
    refine bindE3 h (fun i10 i11 i12 hx9 h => ?_) rfl
    refine o_e rfl (za8 1 Z Try.func86 N86 rfl rfl rfl (fun w P1 hF hB hS hT => spec_l1Cur_among.calls g0 A0_0 c0_0 l0_0.length l0_0 i3 i4 A6 c7 (([(-1), 0, 5, 6] : List Int).length) ([(-1), 0, 5, 6] : List Int) hB hF (hS _ R0_0) hc0_0 (hT 0 _ rfl).row (hT 0 _ rfl).cap _ _ _ hx9)) (fun _ => ?_)
    refine o_q rfl rfl (q_asg rfl) ?_
    refine o_end ?_
    refine za1 ?_
    refine c_ret ?_
    refine zai ?_
    have e0_ := Option.some.inj h; clear h
    have d0_ := (Prod.mk.inj e0_).1; have e1_ := (Prod.mk.inj e0_).2; clear e0_; subst d0_
    have d1_ := (Prod.mk.inj e1_).1; have e2_ := (Prod.mk.inj e1_).2; clear e1_; subst d1_
    subst e2_
    exact x_r1 () Try.results71 (zal rfl) rfl (fun w h => za6 [0] (by decide) rfl w h)
  · skip
    replace h := bb_f hb5 h
    refine zat ?_
    refine za1 ?_
    refine c_seq ?_
    refine za0 ?_
    refine o_q rfl rfl (za2 rfl) ?_
    refine bindE3 h (fun i14 i15 i16 hx13 h => ?_) rfl
    refine o_e rfl (za8 1 Z Try.func123 N123 rfl rfl rfl (fun w P1 hF hB hS hT => spec_l1Cur_pick.calls g0 A0_0 c0_0 l0_0.length l0_0 i3 i4 4 hB hF (hS _ R0_0) hc0_0 _ _ _ hx13)) (fun _ => ?_)
    refine o_q rfl rfl (zb7 rfl rfl) ?_
    refine o_q rfl rfl (q_asg rfl) ?_
    refine o_end ?_
    refine za1 ?_
    refine c_ret ?_
    have e0_ := Option.some.inj h; clear h
    have d0_ := (Prod.mk.inj e0_).1; have e1_ := (Prod.mk.inj e0_).2; clear e0_; subst d0_
    have d1_ := (Prod.mk.inj e1_).1; have e2_ := (Prod.mk.inj e1_).2; clear e1_; subst d1_
    subst e2_
    exact x_r1 () Try.results71 (zal rfl) rfl (fun w h => za6 [0] (by decide) rfl w h)

/-! ### loop.example/g01098/spec.DrawSlidingPlan: function 23 -/
def spec_DrawSlidingPlan.f (l0 : List Int) : Option (Int × Int) := (spec_l1Cur_number.f l0 0 0).bind fun (i4, i5, i6) => (spec_l1Cur_wide.f l0 i5 i6).bind fun (i8, i9, i10) => some (i4, i8)
set_option maxHeartbeats 600000 in
set_option maxRecDepth 100000 in
theorem spec_DrawSlidingPlan.calls {w0 ws : World} {P0 : Nat → Prop} (A0 : Option Addr) (c0 : Nat) (n0 : Nat) (l0 : List Int) (Z : Below w0.heap.size w0 ws) (hF : Fr w0 ws P0 [] ws) (R0 : Stable ws P0 (fun w => Kd.C (Kd.int .u8) w A0 n0 l0)) (hc0 : n0 ≤ c0) (r_1 : Int) (r_2 : Int) (h : spec_DrawSlidingPlan.f l0 = some (r_1, r_2)) :
    Calls Try.prog 23 #[.slice A0 n0 c0] ws (Post1 w0 ws P0 (fun (_ : Unit) => .tuple #[.int .i64 r_1, .int .i64 r_2]) (fun (_ : Unit) => [])) := by
  unfold spec_DrawSlidingPlan.f at h
  obtain rfl := (R0 ws (KeptB.refl _ _)).1
  refine enter Try.func23 rfl Try.ntmps23 rfl hF ?_
  refine c_seq ?_
  refine za0 ?_
  refine o_q rfl rfl (q_asg rfl) ?_
  refine o_q rfl rfl (q_asg rfl) ?_
  refine o_end ?_
  refine za1 ?_
  refine c_seq ?_
  refine za0 ?_
  refine o_q rfl rfl (za2 rfl) ?_
  refine o_q rfl rfl (q_build (vs := [(0, .slice A0 l0.length c0)]) (cs := [.slice A0 l0.length c0, .int .i64 0, .int .u64 0]) rfl rfl) ?_
  refine o_e rfl (e_box rfl) (fun g1 => ?_)
  refine o_q rfl rfl (q_asg rfl) ?_
  refine o_end ?_
  refine za1 ?_
  refine c_seq ?_
  refine za0 ?_
  refine o_q rfl rfl (za2 rfl) ?_
  refine bindE3 h (fun i4 i5 i6 hx3 h => ?_) rfl
  refine o_e rfl (za8 1 Z Try.func70 N70 rfl rfl rfl (fun w P1 hF hB hS hT => spec_l1Cur_number.calls g1 A0 c0 l0.length l0 0 0 hB hF (hS _ R0) hc0 _ _ _ hx3)) (fun _ => ?_)
  refine o_q rfl rfl (za2 rfl) ?_
  refine bindE3 h (fun i8 i9 i10 hx7 h => ?_) rfl
  refine o_e rfl (za8 1 Z Try.func71 N71 rfl rfl rfl (fun w P1 hF hB hS hT => spec_l1Cur_wide.calls g1 A0 c0 l0.length l0 i5 i6 hB hF (hS _ R0) hc0 _ _ _ hx7)) (fun _ => ?_)
  refine o_q rfl rfl (q_asg rfl) ?_
  refine o_q rfl rfl (q_asg rfl) ?_
  refine o_end ?_
  refine za1 ?_
  refine c_ret ?_
  have e0_ := Option.some.inj h; clear h
  have d0_ := (Prod.mk.inj e0_).1; have e1_ := (Prod.mk.inj e0_).2; clear e0_; subst d0_
  subst e1_
  exact x_r2 () Try.results23 (zal rfl) (zal rfl) rfl (fun w h => za6 [] (by decide) rfl w h)

/-! ### loop.example/g01098/impl.isNumber: function 74 -/
def impl_isNumber.f (a0 : Int) : Option Bool := (impl_in.f a0 1 1000000).bind fun b2 => some b2
set_option maxHeartbeats 600000 in
set_option maxRecDepth 100000 in
theorem impl_isNumber.calls {w0 ws : World} {P0 : Nat → Prop} (a0 : Int) (Z : Below w0.heap.size w0 ws) (hF : Fr w0 ws P0 [] ws)  (r_1 : Bool) (h : impl_isNumber.f a0 = some r_1) :
    Calls Try.prog 74 #[.int .i64 a0] ws (Post1 w0 ws P0 (fun (_ : Unit) => .bool r_1) (fun (_ : Unit) => [])) := by
  unfold impl_isNumber.f at h
  refine enter Try.func74 rfl Try.ntmps74 rfl hF ?_
  refine c_seq ?_
  refine za0 ?_
  refine o_q rfl rfl (q_asg rfl) ?_
  refine o_end ?_
  refine za1 ?_
  refine c_seq ?_
  refine za0 ?_
  refine o_q rfl rfl (za2 rfl) ?_
  refine zab h (fun b2 hx1 h => ?_) rfl
  refine o_e rfl (za8 0 Z Try.func113 N113 rfl rfl rfl (fun w P1 hF hB hS hT => impl_in.calls a0 1 1000000 hB hF _ hx1)) (fun _ => ?_)
  refine o_q rfl rfl (q_asg rfl) ?_
  refine o_end ?_
  refine za1 ?_
  refine c_ret ?_
  have e0_ := Option.some.inj h; clear h
  subst e0_
  exact x_r1 () Try.results74 (zal rfl) rfl (fun w h => za6 [] (by decide) rfl w h)

/-! ### loop.example/g01098/impl.windowOk: function 53 -/
def impl_windowOk.f (a0 : Int) (a1 : Int) : Option Bool := (impl_isNumber.f a0).bind fun b2 => if b2 = true then ((impl_in.f a1 1 5).bind fun b5 => some b5) else (some false)
set_option maxHeartbeats 600000 in
set_option maxRecDepth 100000 in
theorem impl_windowOk.calls {w0 ws : World} {P0 : Nat → Prop} (a0 : Int) (a1 : Int) (Z : Below w0.heap.size w0 ws) (hF : Fr w0 ws P0 [] ws)  (r_1 : Bool) (h : impl_windowOk.f a0 a1 = some r_1) :
    Calls Try.prog 53 #[.int .i64 a0, .int .i64 a1] ws (Post1 w0 ws P0 (fun (_ : Unit) => .bool r_1) (fun (_ : Unit) => [])) := by
  unfold impl_windowOk.f at h
  refine enter Try.func53 rfl Try.ntmps53 rfl hF ?_
  refine c_seq ?_
  refine za0 ?_
  refine o_q rfl rfl (q_asg rfl) ?_
  refine o_end ?_
  refine za1 ?_
  refine c_seq ?_
  refine za0 ?_
  refine o_q rfl rfl (za2 rfl) ?_
  refine zab h (fun b2 hx1 h => ?_) rfl
  refine o_e rfl (za8 0 Z Try.func74 N74 rfl rfl rfl (fun w P1 hF hB hS hT => impl_isNumber.calls a0 hB hF _ hx1)) (fun _ => ?_)
  refine o_q rfl rfl (za2 rfl) ?_
  refine byB b2 (fun hb3 => ?_) (fun hb3 => ?_)
  · replace h := bb_t hb3 h
    refine o_w (za5 rfl rfl rfl (congrArg Value.bool hb3)) rfl (za2 rfl) ?_
    refine zab h (fun b5 hx4 h => ?_) rfl
    refine o_ew (za5 rfl rfl rfl (congrArg Value.bool hb3)) (za8 0 Z Try.func113 N113 rfl rfl rfl (fun w P1 hF hB hS hT => impl_in.calls a1 1 5 hB hF _ hx4)) (fun _ => ?_)
    refine o_q rfl rfl (zau true (congrArg Value.bool hb3) rfl) ?_
    refine o_q rfl rfl (q_asg rfl) ?_
    refine o_end ?_
    refine za1 ?_
    refine c_ret ?_
    have e0_ := Option.some.inj h; clear h
    subst e0_
    exact x_r1 () Try.results53 (zal rfl) rfl (fun w h => za6 [] (by decide) rfl w h)
  · replace h := bb_f hb3 h
    refine @o_n _ _ _ _ _ _ _ _ _ _ _ 8 (za4 rfl rfl rfl (congrArg Value.bool hb3) rfl) (Eq.refl (some 8)) ?_
    refine @o_n _ _ _ _ _ _ _ _ _ _ _ 9 (za4 rfl rfl rfl (congrArg Value.bool hb3) rfl) (Eq.refl (some 9)) ?_
    refine o_q rfl rfl (zau false (congrArg Value.bool hb3) rfl) ?_
    refine o_q rfl rfl (q_asg rfl) ?_
    refine o_end ?_
    refine za1 ?_
    refine c_ret ?_
    have e0_ := Option.some.inj h; clear h
    subst e0_
    exact x_r1 () Try.results53 (zal rfl) rfl (fun w h => za6 [] (by decide) rfl w h)

/-! ### math/bits.Len: function 82 -/
def math_bits_Len.f (a0 : Int) : Option Int := (math_bits_Len64.f a0).bind fun i2 => some i2
set_option maxHeartbeats 600000 in
set_option maxRecDepth 100000 in
theorem math_bits_Len.calls {w0 ws : World} {P0 : Nat → Prop} (a0 : Int) (Z : Below w0.heap.size w0 ws) (hF : Fr w0 ws P0 [] ws)  (r_1 : Int) (h : math_bits_Len.f a0 = some r_1) :
    Calls Try.prog 82 #[.int .u64 a0] ws (Post1 w0 ws P0 (fun (_ : Unit) => .int .i64 r_1) (fun (_ : Unit) => [])) := by
  unfold math_bits_Len.f at h
  refine enter Try.func82 rfl Try.ntmps82 rfl hF ?_
  refine c_seq ?_
  refine za0 ?_
  refine o_q rfl rfl (q_asg rfl) ?_
  refine o_end ?_
  refine za1 ?_
  refine c_seq ?_
  refine c_false rfl ?_
  refine zat ?_
  refine za1 ?_
  refine c_seq ?_
  refine za0 ?_
  refine o_q rfl rfl (za2 rfl) ?_
  refine zab h (fun i2 hx1 h => ?_) rfl
  refine o_e rfl (za8 0 Z Try.func130 N130 rfl rfl rfl (fun w P1 hF hB hS hT => math_bits_Len64.calls a0 hB hF _ hx1)) (fun _ => ?_)
  refine o_q rfl rfl (q_asg rfl) ?_
  refine o_end ?_
  refine za1 ?_
  refine c_ret ?_
  have e0_ := Option.some.inj h; clear h
  subst e0_
  exact x_r1 () Try.results82 (zal rfl) rfl (fun w h => za6 [] (by decide) rfl w h)

/-! ### loop.example/g01098/impl.windows: function 67 -/
def impl_windows.l1 (a0 : Int) : Nat → Int → Option Int
  | 0, _ => none
  | k33 + 1, i30 => (nn i30).bind fun _ => if Go.bits .and .i64 (a0 / 2 ^ min (i30 : Int).toNat IntKind.i64.bits) 1 = 0 then (impl_windows.l1 a0 k33 (w64 (i30 + 1))) else (some i30)
def impl_windows.l0 (k : Nat) (a0 : Int) (a1 : Int) : Nat → (List Swindow) → Int → Option (List Swindow)
  | 0, _, _ => none
  | k12 + 1, l6, i9 => if 0 ≤ i9 then ((nn i9).bind fun _ => if Go.bits .and .i64 (a0 / 2 ^ min (i9 : Int).toNat IntKind.i64.bits) 1 = 0 then ((ap l6 ([(⟨0, 1⟩ : Swindow)] : List Swindow)).bind fun l26 => impl_windows.l0 k a0 a1 k12 l26 (w64 (i9 - 1))) else ((impl_windows.l1 a0 k (mx (w64 (w64 (i9 - a1) + 1)) 0)).bind fun i30 => (nn i30).bind fun _ => (nn (w64 (w64 (i9 - i30) + 1))).bind fun _ => (ap l6 ([(⟨Go.bits .and .i64 (a0 / 2 ^ min (i30 : Int).toNat IntKind.i64.bits) (w64 (IntKind.i64.wrap (1 * 2 ^ min (w64 (w64 (i9 - i30) + 1) : Int).toNat IntKind.i64.bits) - 1)), w64 (w64 (i9 - i30) + 1)⟩ : Swindow)] : List Swindow)).bind fun l48 => impl_windows.l0 k a0 a1 k12 l48 (w64 (i30 - 1)))) else (some l6)
def impl_windows.f (k : Nat) (a0 : Int) (a1 : Int) : Option (List Swindow) := (math_bits_Len.f (IntKind.u64.wrap a0)).bind fun i5 => (impl_windows.l0 k a0 a1 k ([] : List Swindow) (w64 (i5 - 1))).bind fun l6 => some l6
set_option maxHeartbeats 600000 in
set_option maxRecDepth 100000 in
theorem impl_windows.calls (k : Nat) {w0 ws : World} {P0 : Nat → Prop} (a0 : Int) (a1 : Int) (Z : Below w0.heap.size w0 ws) (hF : Fr w0 ws P0 [] ws)  (r_1 : List Swindow) (h : impl_windows.f k a0 a1 = some r_1) :
    Calls Try.prog 67 #[.int .i64 a0, .int .i64 a1] ws (Post1 w0 ws P0 (fun ((q_2, q_3) : (Option Addr) × Nat) => .slice q_2 r_1.length q_3) (fun ((q_2, q_3) : (Option Addr) × Nat) => [row kwindow 76 (.slice q_2 r_1.length q_3) r_1])) := by
  unfold impl_windows.f at h
  refine enter Try.func67 rfl Try.ntmps67 rfl hF ?_
  refine c_seq ?_
  refine za0 ?_
  refine o_q rfl rfl (q_asg rfl) ?_
  refine o_end ?_
  refine za1 ?_
  refine c_seq ?_
  refine za0 ?_
  refine o_e rfl (e_lit0 kwindow Try.underlying73 I76) (cur2 (fun A1 c2 => ?_))
  refine o_q rfl rfl (q_asg rfl) ?_
  refine o_end ?_
  refine za1 ?_
  refine c_seq ?_
  refine c_seq ?_
  refine za0 ?_
  refine o_q rfl rfl (za2 rfl) ?_
  refine o_q rfl rfl (q_conv (by rw [Try.underlying3]; rfl) Try.underlying89 rfl) ?_
  refine zab h (fun i5 hx4 h => ?_) rfl
  refine o_e rfl (za8 0 Z Try.func82 N82 rfl rfl rfl (fun w P1 hF hB hS hT => math_bits_Len.calls (IntKind.u64.wrap a0) hB hF _ hx4)) (fun _ => ?_)
  refine o_q rfl rfl (zb5 rfl rfl) ?_
  refine o_q rfl rfl (q_asg rfl) ?_
  refine o_end ?_
  refine za1 ?_
  refine zaq ?_
  refine zab h (fun o17 hl16 hR15 => ?_) rfl
  clear h
  refine zb3 (σ := (List Swindow) × Int × (Option Addr) × Nat) (fun k12 ((l6, i9, A7, c8) : (List Swindow) × Int × (Option Addr) × Nat) => impl_windows.l0 k a0 a1 k12 l6 i9 = some o17) [5, 6, 7, 13, 14, 15, 16, 17, 18, 19, 20, 21, 22, 23, 24, 25, 26, 27, 28, 29, 30, 31, 32, 33, 34, 35, 36, 37, 38, 39, 40, 41, 42, 43, 44, 45, 46, 47, 48, 49, 50, 51, 52, 53, 54, 55, 56, 57] (fun ((l6, i9, A7, c8) : (List Swindow) × Int × (Option Addr) × Nat) => [(5, .slice A7 l6.length c8), (6, .int .i64 i9)]) (fun ((l6, i9, A7, c8) : (List Swindow) × Int × (Option Addr) × Nat) => [row kwindow 76 (.slice A7 l6.length c8) l6]) k (([] : List Swindow), w64 (i5 - 1), A1, c2) hl16 ⟨rfl, rfl, trivial⟩ (fun w h => h) ?_
  refine natC (cur4 (fun l6 i9 A7 c8 => fun U18 hJ_ => ?_)) (fun k12 => (cur4 (fun l6 i9 A7 c8 => fun U18 hJ_ => ?_)))
  · skip
    replace hJ_ : impl_windows.l0 k a0 a1 0 l6 i9 = some o17 := hJ_
    rw [impl_windows.l0] at hJ_
    exact noneE hJ_
  · skip
    clear hl16
    have h := hJ_; clear hJ_
    replace h : impl_windows.l0 k a0 a1 (k12 + 1) l6 i9 = some o17 := h
    rw [impl_windows.l0] at h
    refine c_seq ?_
    refine c_seq ?_
    refine za0 ?_
    refine o_q rfl rfl (za2 rfl) ?_
    refine o_q rfl rfl (q_geq rfl rfl) ?_
    refine o_end ?_
    refine za1 ?_
    refine zb0 _ rfl (fun hb20 => ?_) (fun hb20 => ?_)
    · skip
      replace h := br_t hb20 h
      refine zat ?_
      refine za1 ?_
      refine zaq ?_
      refine c_seq ?_
      refine c_seq ?_
      refine za0 ?_
      refine o_q rfl rfl (za2 rfl) ?_
      refine o_q rfl rfl (za2 rfl) ?_
      refine zab h (fun _ hz21 h => ?_) rfl
      refine o_q rfl rfl (q_shr rfl rfl (nn_le hz21)) ?_
      refine o_q rfl rfl (q_and rfl rfl) ?_
      refine o_q rfl rfl (q_eql rfl rfl) ?_
      refine o_end ?_
      refine za1 ?_
      refine zb0 _ rfl (fun hb22 => ?_) (fun hb22 => ?_)
      · skip
        replace h := br_t hb22 h
        refine c_seq ?_
        refine za0 ?_
        refine o_q rfl rfl (za2 rfl) ?_
        refine o_q rfl rfl (q_build (vs := [(0, .int .i64 0), (1, .int .i64 1)]) (cs := [.int .i64 0, .int .i64 1]) rfl rfl) ?_
        refine o_e rfl (e_lit (vs := [(0, .agg #[.int .i64 0, .int .i64 1])]) (cs := [.int .i64 0, .int .i64 1]) kwindow ([(⟨0, 1⟩ : Swindow)] : List Swindow) Try.underlying73 I76 (by decide) rfl (by decide) rfl rfl (fun _ _ => reps_flat _)) (cur2 (fun A23 c24 => ?_))
        refine zab h (fun l26 ha27 h => ?_) rfl
        refine o_e rfl (e_app (i := 1) (j := 0) Try.underlying73 I76 rfl (by decide) (by decide) rfl rfl rfl rfl rfl ha27) (cur2 (fun A28 c29 => ?_))
        refine o_q rfl rfl (za2 rfl) ?_
        refine o_q rfl rfl (zb5 rfl rfl) ?_
        refine o_q rfl rfl (q_asg rfl) ?_
        refine o_q rfl rfl (q_asg rfl) ?_
        refine o_end ?_
        refine za1 ?_
        refine c_exit ?_
        refine zac ?_
        refine x_hit ?_
        refine zar k12 (l26, w64 (i9 - 1), A28, c29) (Nat.lt_succ_self _) h ⟨rfl, rfl, trivial⟩ (fun w h => za6 [1] (by decide) rfl w h) ?_
        repeat (first | exact za9 _ _ | refine zae rfl ?_ | refine zaa rfl ?_ | refine zaf rfl ?_)
      · skip
        replace h := br_f hb22 h
        refine zat ?_
        refine za1 ?_
        refine c_seq ?_
        refine za0 ?_
        refine o_q rfl rfl (za2 rfl) ?_
        refine o_q rfl rfl (za2 rfl) ?_
        refine o_q rfl rfl (zb5 rfl rfl) ?_
        refine o_q rfl rfl (zb7 rfl rfl) ?_
        refine o_q rfl rfl (q_max rfl rfl) ?_
        refine o_q rfl rfl (q_asg rfl) ?_
        refine o_end ?_
        refine za1 ?_
        refine c_seq ?_
        refine zaq ?_
        refine zab h (fun o38 hl37 hR36 => ?_) rfl
        clear h
        refine zb3 (σ := Int) (fun k33 (i30 : Int) => impl_windows.l1 a0 k33 i30 = some o38) [7, 31, 32, 33, 34, 35, 36, 37] (fun (i30 : Int) => [(7, .int .i64 i30)]) (fun (i30 : Int) => [row kwindow 76 (.slice A7 l6.length c8) l6]) k (mx (w64 (w64 (i9 - a1) + 1)) 0) hl37 ⟨rfl, trivial⟩ (fun w h => h) ?_
        refine natC (fun i30 => fun U39 hJ_ => ?_) (fun k33 => (fun i30 => fun U39 hJ_ => ?_))
        · skip
          replace hJ_ : impl_windows.l1 a0 0 i30 = some o38 := hJ_
          rw [impl_windows.l1] at hJ_
          exact noneE hJ_
        · skip
          clear hl37
          have h := hJ_; clear hJ_
          replace h : impl_windows.l1 a0 (k33 + 1) i30 = some o38 := h
          rw [impl_windows.l1] at h
          refine c_seq ?_
          refine c_seq ?_
          refine za0 ?_
          refine o_q rfl rfl (za2 rfl) ?_
          refine o_q rfl rfl (za2 rfl) ?_
          refine zab h (fun _ hz41 h => ?_) rfl
          refine o_q rfl rfl (q_shr rfl rfl (nn_le hz41)) ?_
          refine o_q rfl rfl (q_and rfl rfl) ?_
          refine o_q rfl rfl (q_eql rfl rfl) ?_
          refine o_end ?_
          refine za1 ?_
          refine zb0 _ rfl (fun hb42 => ?_) (fun hb42 => ?_)
          · skip
            replace h := br_t hb42 h
            refine zat ?_
            refine za1 ?_
            refine zaq ?_
            refine za0 ?_
            refine o_q rfl rfl (za2 rfl) ?_
            refine o_q rfl rfl (zb7 rfl rfl) ?_
            refine o_q rfl rfl (q_asg rfl) ?_
            refine o_end ?_
            refine zas ?_
            refine zar k33 (w64 (i30 + 1)) (Nat.lt_succ_self _) h ⟨rfl, trivial⟩ (fun w h => za6 [0] (by decide) rfl w h) ?_
            repeat (first | exact za9 _ _ | refine zae rfl ?_ | refine zaa rfl ?_ | refine zaf rfl ?_)
          · skip
            replace h := br_f hb42 h
            refine c_exit ?_
            refine zac ?_
            refine zac ?_
            have e_ := Option.some.inj h; replace h := hR36; rw [← e_] at h; clear e_
            refine x_hit ?_
            refine za1 ?_
            refine c_seq ?_
            refine a_startS (ds := []) [none] MO rfl ?_
            refine za7 0 rfl rfl rfl (by kernel_rfl) (fun _ _ _ h => h) (za2 rfl) ?_
            refine za7 1 rfl rfl rfl (by kernel_rfl) (fun _ _ _ h => h) (za2 rfl) ?_
            refine za7 2 rfl rfl rfl (by kernel_rfl) (fun _ _ _ h => h) (za2 rfl) ?_
            refine zab h (fun _ hz43 h => ?_) rfl
            refine za7 3 rfl rfl rfl (by kernel_rfl) (fun _ _ _ h => h) (q_shr rfl rfl (nn_le hz43)) ?_
            refine za7 4 rfl rfl rfl (by kernel_rfl) (fun _ _ _ h => h) (za2 rfl) ?_
            refine za7 5 rfl rfl rfl (by kernel_rfl) (fun _ _ _ h => h) (za2 rfl) ?_
            refine za7 6 rfl rfl rfl (by kernel_rfl) (fun _ _ _ h => h) (zb5 rfl rfl) ?_
            refine za7 7 rfl rfl rfl (by kernel_rfl) (fun _ _ _ h => h) (zb7 rfl rfl) ?_
            refine zab h (fun _ hz44 h => ?_) rfl
            refine za7 8 rfl rfl rfl (by kernel_rfl) (fun _ _ _ h => h) (q_shl rfl rfl (nn_le hz44)) ?_
            refine za7 9 rfl rfl rfl (by kernel_rfl) (fun _ _ _ h => h) (zb5 rfl rfl) ?_
            refine za7 10 rfl rfl rfl (by kernel_rfl) (fun _ _ _ h => h) (q_and rfl rfl) ?_
            refine za7 11 rfl rfl rfl (by kernel_rfl) (fun _ _ _ h => h) (za2 rfl) ?_
            refine za7 12 rfl rfl rfl (by kernel_rfl) (fun _ _ _ h => h) (za2 rfl) ?_
            refine za7 13 rfl rfl rfl (by kernel_rfl) (fun _ _ _ h => h) (zb5 rfl rfl) ?_
            refine za7 14 rfl rfl rfl (by kernel_rfl) (fun _ _ _ h => h) (zb7 rfl rfl) ?_
            refine za7 15 rfl rfl rfl (by kernel_rfl) (fun _ _ _ h => h) (q_build (vs := [(0, .int .i64 (Go.bits .and .i64 (a0 / 2 ^ min (i30 : Int).toNat IntKind.i64.bits) (w64 (IntKind.i64.wrap (1 * 2 ^ min (w64 (w64 (i9 - i30) + 1) : Int).toNat IntKind.i64.bits) - 1)))), (1, .int .i64 (w64 (w64 (i9 - i30) + 1)))]) (cs := [.int .i64 (Go.bits .and .i64 (a0 / 2 ^ min (i30 : Int).toNat IntKind.i64.bits) (w64 (IntKind.i64.wrap (1 * 2 ^ min (w64 (w64 (i9 - i30) + 1) : Int).toNat IntKind.i64.bits) - 1))), .int .i64 (w64 (w64 (i9 - i30) + 1))]) rfl rfl) ?_
            refine a_one 16 rfl rfl (by kernel_rfl) rfl (e_lit (vs := [(0, .agg #[.int .i64 (Go.bits .and .i64 (a0 / 2 ^ min (i30 : Int).toNat IntKind.i64.bits) (w64 (IntKind.i64.wrap (1 * 2 ^ min (w64 (w64 (i9 - i30) + 1) : Int).toNat IntKind.i64.bits) - 1))), .int .i64 (w64 (w64 (i9 - i30) + 1))])]) (cs := [.int .i64 (Go.bits .and .i64 (a0 / 2 ^ min (i30 : Int).toNat IntKind.i64.bits) (w64 (IntKind.i64.wrap (1 * 2 ^ min (w64 (w64 (i9 - i30) + 1) : Int).toNat IntKind.i64.bits) - 1))), .int .i64 (w64 (w64 (i9 - i30) + 1))]) kwindow ([(⟨Go.bits .and .i64 (a0 / 2 ^ min (i30 : Int).toNat IntKind.i64.bits) (w64 (IntKind.i64.wrap (1 * 2 ^ min (w64 (w64 (i9 - i30) + 1) : Int).toNat IntKind.i64.bits) - 1)), w64 (w64 (i9 - i30) + 1)⟩ : Swindow)] : List Swindow) Try.underlying73 I76 (by decide) rfl (by decide) rfl rfl (fun _ _ => reps_flat _)) (fun s w h => za3 [none] (by decide) w h rfl) (cur2 (fun A45 c46 => ?_))
            refine zab h (fun l48 ha49 h => ?_) rfl
            refine a_one 17 rfl rfl (by kernel_rfl) rfl (e_app (i := 1) (j := 0) Try.underlying73 I76 rfl (by decide) (by decide) rfl rfl rfl rfl rfl ha49) (fun s w h => za3 [none] (by decide) w h rfl) (cur2 (fun A50 c51 => ?_))
            refine za7 18 rfl rfl rfl (by kernel_rfl) (fun _ _ _ h => h) (q_asg rfl) ?_
            refine zan (by kernel_rfl) ?_
            refine za1 ?_
            refine za0 ?_
            refine o_q rfl rfl (za2 rfl) ?_
            refine o_q rfl rfl (zb5 rfl rfl) ?_
            refine o_q rfl rfl (q_asg rfl) ?_
            refine o_end ?_
            refine zas ?_
            refine zar k12 (l48, w64 (i30 - 1), A50, c51) (Nat.lt_succ_self _) h ⟨rfl, rfl, trivial⟩ (fun w h => za6 [1] (by decide) rfl w h) ?_
            repeat (first | exact za9 _ _ | refine zae rfl ?_ | refine zaa rfl ?_ | refine zaf rfl ?_)
    · skip
      replace h := br_f hb20 h
      refine c_exit ?_
      refine zac ?_
      refine zac ?_
      have e_ := Option.some.inj h; replace h := hR15; rw [← e_] at h; clear e_
      refine x_hit ?_
      refine za1 ?_
      refine c_seq ?_
      refine za0 ?_
      refine o_q rfl rfl (za2 rfl) ?_
      refine o_q rfl rfl (q_asg rfl) ?_
      refine o_end ?_
      refine za1 ?_
      refine c_ret ?_
      have e0_ := Option.some.inj h; clear h
      subst e0_
      exact x_r1 (A7, c8) Try.results67 (zal rfl) rfl (fun w h => za6 [0] (by decide) rfl w h)

/-! ### loop.example/g01098/impl.WindowsOf: function 26 -/
def impl_WindowsOf.l0 : (List Swindow) → (List Int) → Int → Option (List Int)
  | [], l11, i14 => some l11
  | y15 :: ys16, l11, i14 => if 0 < y15.f0 then ((ap l11 ([y15.f0] : List Int)).bind fun l32 => impl_WindowsOf.l0 ys16 l32 (i14 + 1)) else (impl_WindowsOf.l0 ys16 l11 (i14 + 1))
def impl_WindowsOf.f (k : Nat) (a0 : Int) (a1 : Int) : Option ((List Int) × Bool) := (impl_windowOk.f a0 a1).bind fun b2 => if b2 = true then ((impl_windows.f k a0 a1).bind fun l8 => (impl_WindowsOf.l0 l8 ([] : List Int) 0).bind fun l11 => some (l11, true)) else (some (([] : List Int), false))
set_option maxHeartbeats 600000 in
set_option maxRecDepth 100000 in
theorem impl_WindowsOf.calls (k : Nat) {w0 ws : World} {P0 : Nat → Prop} (a0 : Int) (a1 : Int) (Z : Below w0.heap.size w0 ws) (hF : Fr w0 ws P0 [] ws)  (r_1 : List Int) (r_4 : Bool) (h : impl_WindowsOf.f k a0 a1 = some (r_1, r_4)) :
    Calls Try.prog 26 #[.int .i64 a0, .int .i64 a1] ws (Post1 w0 ws P0 (fun ((q_2, q_3) : (Option Addr) × Nat) => .tuple #[.slice q_2 r_1.length q_3, .bool r_4]) (fun ((q_2, q_3) : (Option Addr) × Nat) => [row (Kd.int .i64) 3 (.slice q_2 r_1.length q_3) r_1])) := by
  unfold impl_WindowsOf.f at h
  refine enter Try.func26 rfl Try.ntmps26 rfl hF ?_
  refine c_seq ?_
  refine za0 ?_
  refine o_q rfl rfl (q_asg rfl) ?_
  refine o_q rfl rfl (q_asg rfl) ?_
  refine o_end ?_
  refine za1 ?_
  refine c_seq ?_
  refine c_seq ?_
  refine za0 ?_
  refine o_q rfl rfl (za2 rfl) ?_
  refine o_q rfl rfl (za2 rfl) ?_
  refine zab h (fun b2 hx1 h => ?_) rfl
  refine o_e rfl (za8 0 Z Try.func53 N53 rfl rfl rfl (fun w P1 hF hB hS hT => impl_windowOk.calls a0 a1 hB hF _ hx1)) (fun _ => ?_)
  refine o_q rfl rfl (q_not rfl) ?_
  refine o_end ?_
  refine za1 ?_
  refine zb0 _ rfl (fun hb3 => ?_) (fun hb3 => ?_)
  · replace hb3 := nt_t hb3
    replace h := bb_f hb3 h
    refine c_seq ?_
    refine za0 ?_
    refine o_q rfl rfl (q_asg rfl) ?_
    refine o_q rfl rfl (q_asg rfl) ?_
    refine o_end ?_
    refine za1 ?_
    refine c_ret ?_
    refine zai ?_
    refine x_nil (Kd.int .i64) 3 ?_
    have e0_ := Option.some.inj h; clear h
    have d0_ := (Prod.mk.inj e0_).1; have e1_ := (Prod.mk.inj e0_).2; clear e0_; subst d0_
    subst e1_
    exact x_r2 (none, 0) Try.results26 (zal rfl) (zal rfl) rfl (fun w h => za6 [0] (by decide) rfl w h)
  · replace hb3 := nt_f hb3
    replace h := bb_t hb3 h
    refine zat ?_
    refine za1 ?_
    refine c_seq ?_
    refine za0 ?_
    refine o_e rfl (e_lit0 (Kd.int .i64) Try.underlying23 I3) (cur2 (fun A4 c5 => ?_))
    refine o_q rfl rfl (q_asg rfl) ?_
    refine o_end ?_
    refine za1 ?_
    refine c_seq ?_
    refine c_seq ?_
    refine za0 ?_
    refine o_q rfl rfl (za2 rfl) ?_
    refine o_q rfl rfl (za2 rfl) ?_
    refine zab h (fun l8 hx7 h => ?_) rfl
    refine o_e rfl (za8 0 Z Try.func67 N67 rfl rfl rfl (fun w P1 hF hB hS hT => impl_windows.calls k a0 a1 hB hF _ hx7)) (cur2 (fun A9 c10 => ?_))
    refine o_q rfl rfl (q_len Try.underlying73 rfl) ?_
    refine o_q rfl rfl (za2 rfl) ?_
    refine o_end ?_
    refine za1 ?_
    refine zaq ?_
    refine zab h (fun o22 hl21 hR20 => ?_) rfl
    clear h
    refine c_fact (p := l8.length ≤ 9223372036854775807) (fun w h => (h.zaw (i := 0) rfl).2.1) (fun hm19 => ?_)
    refine zb3 (σ := (List Swindow) × (List Int) × Int × (Option Addr) × Nat) (fun k17 ((ys16, l11, i14, A12, c13) : (List Swindow) × (List Int) × Int × (Option Addr) × Nat) => Rg l8 i14 ys16 ∧ ys16.length = k17 ∧ impl_WindowsOf.l0 ys16 l11 i14 = some o22) [6, 8, 18, 19, 20, 21, 22, 23, 24, 25, 26, 27, 28, 29, 30] (fun ((ys16, l11, i14, A12, c13) : (List Swindow) × (List Int) × Int × (Option Addr) × Nat) => [(6, .slice A12 l11.length c13), (18, .int .i64 i14)]) (fun ((ys16, l11, i14, A12, c13) : (List Swindow) × (List Int) × Int × (Option Addr) × Nat) => [row kwindow 76 (.slice A9 l8.length c10) l8, row (Kd.int .i64) 3 (.slice A12 l11.length c13) l11]) l8.length (l8, ([] : List Int), 0, A4, c5) ⟨Rg.start _, rfl, hl21⟩ ⟨rfl, rfl, trivial⟩ (fun w h => h) ?_
    refine fun k17 => cur5 (listC (fun l11 i14 A12 c13 U23 hJ_ => ?_) (fun y15 ys16 l11 i14 A12 c13 U23 hJ_ => ?_))
    · skip
      clear hl21
      have hr18 := hJ_.1; have hk24 := hJ_.2.1; have h := hJ_.2.2; clear hJ_
      replace h : impl_WindowsOf.l0 [] l11 i14 = some o22 := h
      rw [impl_WindowsOf.l0] at h
      refine c_seq ?_
      refine za0 ?_
      refine o_q rfl rfl (q_lss rfl rfl) ?_
      refine o_end ?_
      refine za1 ?_
      refine c_seq ?_
      refine c_false (congrArg Value.bool hr18.ge) ?_
      refine c_exit ?_
      refine zac ?_
      refine zac ?_
      have e_ := Option.some.inj h; replace h := hR20; rw [← e_] at h; clear e_
      refine x_hit ?_
      refine za1 ?_
      refine c_seq ?_
      refine za0 ?_
      refine o_q rfl rfl (za2 rfl) ?_
      refine o_q rfl rfl (q_asg rfl) ?_
      refine o_q rfl rfl (q_asg rfl) ?_
      refine o_end ?_
      refine za1 ?_
      refine c_ret ?_
      have e0_ := Option.some.inj h; clear h
      have d0_ := (Prod.mk.inj e0_).1; have e1_ := (Prod.mk.inj e0_).2; clear e0_; subst d0_
      subst e1_
      exact x_r2 (A12, c13) Try.results26 (zal rfl) (zal rfl) rfl (fun w h => za6 [1] (by decide) rfl w h)
    · skip
      clear hl21
      have hr18 := hJ_.1; have hk24 := hJ_.2.1; have h := hJ_.2.2; clear hJ_
      replace h : impl_WindowsOf.l0 (y15 :: ys16) l11 i14 = some o22 := h
      rw [impl_WindowsOf.l0] at h
      refine c_seq ?_
      refine za0 ?_
      refine o_q rfl rfl (q_lss rfl rfl) ?_
      refine o_end ?_
      refine za1 ?_
      refine c_seq ?_
      refine c_true (congrArg Value.bool hr18.lt) ?_
      refine zat ?_
      refine za1 ?_
      refine c_seq ?_
      refine zaq ?_
      refine c_seq ?_
      refine za0 ?_
      refine zb4 (p := Sh A9 l8.length l8.length) (fun w h => f_sh (dk := kwindow) h (fun w h => h.zaw (i := 0) rfl)) (fun hq25 => ?_)
      refine o_q rfl rfl (q_ix Try.underlying73 Z76 rfl rfl hq25 hr18.get) ?_
      refine o_q rfl rfl (q_ldE G76 Z76 rfl rfl (fun w h => h.zaw (i := 0) rfl) hr18.get (fun _ _ h => h) rfl) ?_
      refine o_e rfl (zam V76 rfl) (fun g26 => ?_)
      refine o_e rfl (zav (i := 0) rfl rfl rfl Z76 rfl rfl) (fun _ => ?_)
      refine o_end ?_
      refine za1 ?_
      refine c_seq ?_
      refine za0 ?_
      refine o_q rfl rfl (q_f F76_0 rfl) ?_
      refine o_q rfl rfl (q_ldb Y3 rfl (fun w h => h.zaj (i := 0) rfl) rfl) ?_
      refine o_q rfl rfl (q_gtr rfl rfl) ?_
      refine o_end ?_
      refine za1 ?_
      refine zb0 _ rfl (fun hb28 => ?_) (fun hb28 => ?_)
      · skip
        replace h := br_t hb28 h
        refine za0 ?_
        refine o_q rfl rfl (za2 rfl) ?_
        refine o_q rfl rfl (q_f F76_0 rfl) ?_
        refine o_q rfl rfl (q_ldb Y3 rfl (fun w h => h.zaj (i := 0) rfl) rfl) ?_
        refine o_e rfl (e_lit (vs := [(0, .int .i64 y15.f0)]) (cs := [.int .i64 y15.f0]) (Kd.int .i64) ([y15.f0] : List Int) Try.underlying23 I3 (by decide) rfl (by decide) rfl rfl (fun _ _ => Kd.zah _)) (cur2 (fun A29 c30 => ?_))
        refine zab h (fun l32 ha33 h => ?_) rfl
        refine o_e rfl (e_app (i := 3) (j := 0) Try.underlying23 I3 rfl (by decide) (by decide) rfl rfl rfl rfl rfl ha33) (cur2 (fun A34 c35 => ?_))
        refine o_q rfl rfl (q_asg rfl) ?_
        refine o_end ?_
        refine zas ?_
        refine za1 ?_
        refine za0 ?_
        refine o_q rfl rfl (q_up rfl rfl (hr18.up hm19)) ?_
        refine o_q rfl rfl (za2 rfl) ?_
        refine o_end ?_
        refine zar ys16.length (ys16, l32, i14 + 1, A34, c35) (by rw [← hk24]; exact Nat.lt_succ_self _) ⟨hr18.step, rfl, h⟩ ⟨rfl, rfl, trivial⟩ (fun w h => za6 [2, 3] (by decide) rfl w h) ?_
        repeat (first | exact za9 _ _ | refine zae rfl ?_ | refine zaa rfl ?_ | refine zaf rfl ?_)
      · skip
        replace h := br_f hb28 h
        refine zat ?_
        refine zas ?_
        refine za1 ?_
        refine za0 ?_
        refine o_q rfl rfl (q_up rfl rfl (hr18.up hm19)) ?_
        refine o_q rfl rfl (za2 rfl) ?_
        refine o_end ?_
        refine zar ys16.length (ys16, l11, i14 + 1, A12, c13) (by rw [← hk24]; exact Nat.lt_succ_self _) ⟨hr18.step, rfl, h⟩ ⟨rfl, rfl, trivial⟩ (fun w h => za6 [1, 2] (by decide) rfl w h) ?_
        repeat (first | exact za9 _ _ | refine zae rfl ?_ | refine zaa rfl ?_ | refine zaf rfl ?_)

end Go.Proofs.Ytiaohjciddbpoaa.H3
