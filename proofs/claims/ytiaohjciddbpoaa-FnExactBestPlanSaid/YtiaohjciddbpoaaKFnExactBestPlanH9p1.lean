import Derived.Test.YtiaohjciddbpoaaKFnExactBestPlanHand
import Derived.Test.YtiaohjciddbpoaaKFnExactBestPlanOpr
import Derived.Test.YtiaohjciddbpoaaKFnExactBestPlanOpt
import Derived.Test.YtiaohjciddbpoaaProg
import Derived.Test.YtiaohjciddbpoaaKFnExactBestPlanWMore
import Derived.KernelRfl
namespace Go.Proofs.Ytiaohjciddbpoaa.H9
set_option maxHeartbeats 8000000
set_option maxRecDepth 100000
open Go.RowKit Go.Proofs.Ytiaohjciddbpoaa.Frame Go.Proofs.YtiaohjciddbpoaaW.PrintLast Go.Proofs.Ytiaohjciddbpoaa.Hand
open Go.Proofs.YtiaohjciddbpoaaW.PrintWords hiding mn mx
set_option linter.unusedVariables false
theorem of_ {P : Prop} (h : P := by repeat (first | exact zb3 _ _ | refine off_upd rfl ?_ | refine zb6 rfl ?_ | refine off_mix rfl ?_)) : P := h
theorem kr_ {P : Prop} (h : P := by kernel_rfl) : P := h
theorem vb_ {a b : Bool} (h : a = b) : Value.bool a = Value.bool b := congrArg _ h
theorem si_ {α : Type} {a b : α} (h : some a = some b) : a = b := Option.some.inj h
theorem dc_ {P : Prop} (h : P := by decide) : P := h
structure Swindow where
  f0 : Int
  f1 : Int
def kwindow : Kd Swindow := flat (fun x => [.int .i64 x.f0, .int .i64 x.f1]) 2 (fun _ => rfl) (fun x u hu => by
  simp only [List.mem_cons, List.not_mem_nil, or_false] at hu
  rcases hu with rfl | rfl <;> rfl)
structure SStep where
  f0 : Int
  f1 : Int
def kStep : Kd SStep := flat (fun x => [.int .i64 x.f0, .int .i64 x.f1]) 2 (fun _ => rfl) (fun x u hu => by
  simp only [List.mem_cons, List.not_mem_nil, or_false] at hu
  rcases hu with rfl | rfl <;> rfl)
theorem F107_0 : fldOff Try.prog 107 0 = some 0 := by kernel_rfl
theorem F107_1 : fldOff Try.prog 107 1 = some 1 := by kernel_rfl
theorem F25_0 : fldOff Try.prog 25 0 = some 0 := by kernel_rfl
theorem F25_1 : fldOff Try.prog 25 1 = some 1 := by kernel_rfl
theorem F25_2 : fldOff Try.prog 25 2 = some 2 := by kernel_rfl
theorem F76_0 : fldOff Try.prog 76 0 = some 0 := by kernel_rfl
theorem F76_1 : fldOff Try.prog 76 1 = some 1 := by kernel_rfl
theorem F94_0 : fldOff Try.prog 94 0 = some 0 := by kernel_rfl
theorem G107 : aggTy (Try.prog.underlying 107) = true := by kernel_rfl
theorem G25 : aggTy (Try.prog.underlying 25) = true := by kernel_rfl
theorem G76 : aggTy (Try.prog.underlying 76) = true := by kernel_rfl
theorem I107 : (Try.prog.info? 107).map (fun i => (i.zero, i.size, i.bytes)) = some (some (.agg #[.int .i64 0, .int .i64 0]), 2, 16) := by kernel_rfl
theorem I23 : (Try.prog.info? 23).map (fun i => (i.zero, i.size, i.bytes)) = some (some (.slice none 0 0), 1, 24) := by kernel_rfl
theorem I25 : (Try.prog.info? 25).map (fun i => (i.zero, i.size, i.bytes)) = some (some (.agg #[.int .i64 0, .slice none 0 0, .slice none 0 0]), 3, 56) := by kernel_rfl
theorem I3 : (Try.prog.info? 3).map (fun i => (i.zero, i.size, i.bytes)) = some (some (.int .i64 0), 1, 8) := by kernel_rfl
theorem I4 : (Try.prog.info? 4).map (fun i => (i.zero, i.size, i.bytes)) = some (some (.bool false), 1, 1) := by kernel_rfl
theorem I76 : (Try.prog.info? 76).map (fun i => (i.zero, i.size, i.bytes)) = some (some (.agg #[.int .i64 0, .int .i64 0]), 2, 16) := by kernel_rfl
theorem MO : Try.prog.follows .mixedOrders = true := by kernel_rfl
theorem N106 : (Try.f106.name == "runtime.NumGoroutine") = false := by kernel_rfl
theorem N107 : (Try.f107.name == "runtime.NumGoroutine") = false := by kernel_rfl
theorem N108 : (Try.f108.name == "runtime.NumGoroutine") = false := by kernel_rfl
theorem N109 : (Try.f109.name == "runtime.NumGoroutine") = false := by kernel_rfl
theorem N11 : (Try.f11.name == "runtime.NumGoroutine") = false := by kernel_rfl
theorem N110 : (Try.f110.name == "runtime.NumGoroutine") = false := by kernel_rfl
theorem N111 : (Try.f111.name == "runtime.NumGoroutine") = false := by kernel_rfl
theorem N112 : (Try.f112.name == "runtime.NumGoroutine") = false := by kernel_rfl
theorem N113 : (Try.f113.name == "runtime.NumGoroutine") = false := by kernel_rfl
theorem N114 : (Try.f114.name == "runtime.NumGoroutine") = false := by kernel_rfl
theorem N115 : (Try.f115.name == "runtime.NumGoroutine") = false := by kernel_rfl
theorem N116 : (Try.f116.name == "runtime.NumGoroutine") = false := by kernel_rfl
theorem N117 : (Try.f117.name == "runtime.NumGoroutine") = false := by kernel_rfl
theorem N118 : (Try.f118.name == "runtime.NumGoroutine") = false := by kernel_rfl
theorem N119 : (Try.f119.name == "runtime.NumGoroutine") = false := by kernel_rfl
theorem N12 : (Try.f12.name == "runtime.NumGoroutine") = false := by kernel_rfl
theorem N120 : (Try.f120.name == "runtime.NumGoroutine") = false := by kernel_rfl
theorem N121 : (Try.f121.name == "runtime.NumGoroutine") = false := by kernel_rfl
theorem N122 : (Try.f122.name == "runtime.NumGoroutine") = false := by kernel_rfl
theorem N127 : (Try.f127.name == "runtime.NumGoroutine") = false := by kernel_rfl
theorem N128 : (Try.f128.name == "runtime.NumGoroutine") = false := by kernel_rfl
theorem N13 : (Try.f13.name == "runtime.NumGoroutine") = false := by kernel_rfl
theorem N130 : (Try.f130.name == "runtime.NumGoroutine") = false := by kernel_rfl
theorem N136 : (Try.f136.name == "runtime.NumGoroutine") = false := by kernel_rfl
theorem N137 : (Try.f137.name == "runtime.NumGoroutine") = false := by kernel_rfl
theorem N138 : (Try.f138.name == "runtime.NumGoroutine") = false := by kernel_rfl
theorem N139 : (Try.f139.name == "runtime.NumGoroutine") = false := by kernel_rfl
theorem N14 : (Try.f14.name == "runtime.NumGoroutine") = false := by kernel_rfl
theorem N142 : (Try.f142.name == "runtime.NumGoroutine") = false := by kernel_rfl
theorem N143 : (Try.f143.name == "runtime.NumGoroutine") = false := by kernel_rfl
theorem N146 : (Try.f146.name == "runtime.NumGoroutine") = false := by kernel_rfl
theorem N147 : (Try.f147.name == "runtime.NumGoroutine") = false := by kernel_rfl
theorem N148 : (Try.f148.name == "runtime.NumGoroutine") = false := by kernel_rfl
theorem N149 : (Try.f149.name == "runtime.NumGoroutine") = false := by kernel_rfl
theorem N150 : (Try.f150.name == "runtime.NumGoroutine") = false := by kernel_rfl
theorem N151 : (Try.f151.name == "runtime.NumGoroutine") = false := by kernel_rfl
theorem N154 : (Try.f154.name == "runtime.NumGoroutine") = false := by kernel_rfl
theorem N155 : (Try.f155.name == "runtime.NumGoroutine") = false := by kernel_rfl
theorem N156 : (Try.f156.name == "runtime.NumGoroutine") = false := by kernel_rfl
theorem N157 : (Try.f157.name == "runtime.NumGoroutine") = false := by kernel_rfl
theorem N16 : (Try.f16.name == "runtime.NumGoroutine") = false := by kernel_rfl
theorem N160 : (Try.f160.name == "runtime.NumGoroutine") = false := by kernel_rfl
theorem N161 : (Try.f161.name == "runtime.NumGoroutine") = false := by kernel_rfl
theorem N162 : (Try.f162.name == "runtime.NumGoroutine") = false := by kernel_rfl
theorem N163 : (Try.f163.name == "runtime.NumGoroutine") = false := by kernel_rfl
theorem N164 : (Try.f164.name == "runtime.NumGoroutine") = false := by kernel_rfl
theorem N168 : (Try.f168.name == "runtime.NumGoroutine") = false := by kernel_rfl
theorem N19 : (Try.f19.name == "runtime.NumGoroutine") = false := by kernel_rfl
theorem N20 : (Try.f20.name == "runtime.NumGoroutine") = false := by kernel_rfl
theorem N21 : (Try.f21.name == "runtime.NumGoroutine") = false := by kernel_rfl
theorem N26 : (Try.f26.name == "runtime.NumGoroutine") = false := by kernel_rfl
theorem N32 : (Try.f32.name == "runtime.NumGoroutine") = false := by kernel_rfl
theorem N33 : (Try.f33.name == "runtime.NumGoroutine") = false := by kernel_rfl
theorem N34 : (Try.f34.name == "runtime.NumGoroutine") = false := by kernel_rfl
theorem N35 : (Try.f35.name == "runtime.NumGoroutine") = false := by kernel_rfl
theorem N38 : (Try.f38.name == "runtime.NumGoroutine") = false := by kernel_rfl
theorem N49 : (Try.f49.name == "runtime.NumGoroutine") = false := by kernel_rfl
theorem N51 : (Try.f51.name == "runtime.NumGoroutine") = false := by kernel_rfl
theorem N52 : (Try.f52.name == "runtime.NumGoroutine") = false := by kernel_rfl
theorem N53 : (Try.f53.name == "runtime.NumGoroutine") = false := by kernel_rfl
theorem N54 : (Try.f54.name == "runtime.NumGoroutine") = false := by kernel_rfl
theorem N55 : (Try.f55.name == "runtime.NumGoroutine") = false := by kernel_rfl
theorem N56 : (Try.f56.name == "runtime.NumGoroutine") = false := by kernel_rfl
theorem N57 : (Try.f57.name == "runtime.NumGoroutine") = false := by kernel_rfl
theorem N58 : (Try.f58.name == "runtime.NumGoroutine") = false := by kernel_rfl
theorem N59 : (Try.f59.name == "runtime.NumGoroutine") = false := by kernel_rfl
theorem N60 : (Try.f60.name == "runtime.NumGoroutine") = false := by kernel_rfl
theorem N61 : (Try.f61.name == "runtime.NumGoroutine") = false := by kernel_rfl
theorem N62 : (Try.f62.name == "runtime.NumGoroutine") = false := by kernel_rfl
theorem N63 : (Try.f63.name == "runtime.NumGoroutine") = false := by kernel_rfl
theorem N64 : (Try.f64.name == "runtime.NumGoroutine") = false := by kernel_rfl
theorem N65 : (Try.f65.name == "runtime.NumGoroutine") = false := by kernel_rfl
theorem N66 : (Try.f66.name == "runtime.NumGoroutine") = false := by kernel_rfl
theorem N67 : (Try.f67.name == "runtime.NumGoroutine") = false := by kernel_rfl
theorem N68 : (Try.f68.name == "runtime.NumGoroutine") = false := by kernel_rfl
theorem N69 : (Try.f69.name == "runtime.NumGoroutine") = false := by kernel_rfl
theorem N73 : (Try.f73.name == "runtime.NumGoroutine") = false := by kernel_rfl
theorem N74 : (Try.f74.name == "runtime.NumGoroutine") = false := by kernel_rfl
theorem N76 : (Try.f76.name == "runtime.NumGoroutine") = false := by kernel_rfl
theorem N77 : (Try.f77.name == "runtime.NumGoroutine") = false := by kernel_rfl
theorem N78 : (Try.f78.name == "runtime.NumGoroutine") = false := by kernel_rfl
theorem N79 : (Try.f79.name == "runtime.NumGoroutine") = false := by kernel_rfl
theorem N80 : (Try.f80.name == "runtime.NumGoroutine") = false := by kernel_rfl
theorem N81 : (Try.f81.name == "runtime.NumGoroutine") = false := by kernel_rfl
theorem N82 : (Try.f82.name == "runtime.NumGoroutine") = false := by kernel_rfl
theorem N83 : (Try.f83.name == "runtime.NumGoroutine") = false := by kernel_rfl
theorem N88 : (Try.f88.name == "runtime.NumGoroutine") = false := by kernel_rfl
theorem N89 : (Try.f89.name == "runtime.NumGoroutine") = false := by kernel_rfl
theorem N90 : (Try.f90.name == "runtime.NumGoroutine") = false := by kernel_rfl
theorem N95 : (Try.f95.name == "runtime.NumGoroutine") = false := by kernel_rfl
theorem N96 : (Try.f96.name == "runtime.NumGoroutine") = false := by kernel_rfl
theorem N98 : (Try.f98.name == "runtime.NumGoroutine") = false := by kernel_rfl
theorem V107 : (Try.prog.info? 107).bind (·.zero) = some (.agg #[.int .i64 0, .int .i64 0]) := by kernel_rfl
theorem V117 : (Try.prog.info? 117).bind (·.zero) = some (.slice none 0 0) := by kernel_rfl
theorem V23 : (Try.prog.info? 23).bind (·.zero) = some (.slice none 0 0) := by kernel_rfl
theorem V25 : (Try.prog.info? 25).bind (·.zero) = some (.agg #[.int .i64 0, .slice none 0 0, .slice none 0 0]) := by kernel_rfl
theorem V3 : (Try.prog.info? 3).bind (·.zero) = some (.int .i64 0) := by kernel_rfl
theorem V60 : (Try.prog.info? 60).bind (·.zero) = some (.pointer none) := by kernel_rfl
theorem V76 : (Try.prog.info? 76).bind (·.zero) = some (.agg #[.int .i64 0, .int .i64 0]) := by kernel_rfl
theorem Y102 : cellTy (Try.prog.underlying 102) = true := by kernel_rfl
theorem Y117 : cellTy (Try.prog.underlying 117) = true := by kernel_rfl
theorem Y22 : cellTy (Try.prog.underlying 22) = true := by kernel_rfl
theorem Y23 : cellTy (Try.prog.underlying 23) = true := by kernel_rfl
theorem Y3 : cellTy (Try.prog.underlying 3) = true := by kernel_rfl
theorem Y4 : cellTy (Try.prog.underlying 4) = true := by kernel_rfl
theorem Y60 : cellTy (Try.prog.underlying 60) = true := by kernel_rfl
theorem Z107 : (Try.prog.info? 107).map (·.size) = some 2 := by kernel_rfl
theorem Z117 : (Try.prog.info? 117).map (·.size) = some 1 := by kernel_rfl
theorem Z22 : (Try.prog.info? 22).map (·.size) = some 1 := by kernel_rfl
theorem Z23 : (Try.prog.info? 23).map (·.size) = some 1 := by kernel_rfl
theorem Z25 : (Try.prog.info? 25).map (·.size) = some 3 := by kernel_rfl
theorem Z3 : (Try.prog.info? 3).map (·.size) = some 1 := by kernel_rfl
theorem Z4 : (Try.prog.info? 4).map (·.size) = some 1 := by kernel_rfl
theorem Z60 : (Try.prog.info? 60).map (·.size) = some 1 := by kernel_rfl
theorem Z76 : (Try.prog.info? 76).map (·.size) = some 2 := by kernel_rfl
def impl_in.f (a0 : Int) (a1 : Int) (a2 : Int) : Option Bool := if a1 ≤ a0 then (some (decide (a0 ≤ a2))) else (some false)
theorem impl_in.calls {w0 ws : World} {P0 : Nat → Prop} (a0 : Int) (a1 : Int) (a2 : Int) (Z : Below w0.heap.size w0 ws) (hF : Fr w0 ws P0 [] ws)  (r_1 : Bool) (h : impl_in.f a0 a1 a2 = some r_1) :
    Calls Try.prog 113 #[.int .i64 a0, .int .i64 a1, .int .i64 a2] ws (Post1 w0 ws P0 (fun (_ : Unit) => .bool r_1) (fun (_ : Unit) => [])) := by
  unfold impl_in.f at h
  refine enter Try.func113 rfl Try.ntmps113 rfl hF (c_seq (za0 (o_q rfl rfl (q_asg rfl) (o_end (za1 (c_seq (za0 (o_q rfl rfl (za2 rfl) (o_q rfl rfl (za2 rfl) ?_)))))))))
  refine o_q rfl rfl (q_geq rfl rfl) (o_q rfl rfl (za2 rfl) (byB (decide (a1 ≤ a0)) (fun hb1 => ?_) (fun hb1 => ?_)))
  · replace h := br_t hb1 h
    refine o_w (zae rfl rfl rfl (vb_ hb1)) rfl (za2 rfl) (o_w (zae rfl rfl rfl (vb_ hb1)) rfl (za2 rfl) (o_w (zae rfl rfl rfl (vb_ hb1)) rfl (q_leq rfl rfl) (o_q rfl rfl (zax true (vb_ hb1) rfl) (o_q rfl rfl (q_asg rfl) (o_end (za1 (c_ret ?_)))))))
    have e0_ := si_ h; clear h
    subst e0_
    exact x_r1 () Try.results113 (zal rfl) rfl (fun w h => za5 [] dc_ rfl w h)
  · replace h := br_f hb1 h
    refine o_n (d := 11) (zaa rfl rfl rfl (vb_ hb1) rfl) (Eq.refl (some 11)) (o_n (d := 12) (zaa rfl rfl rfl (vb_ hb1) rfl) (Eq.refl (some 12)) (o_n (d := 13) (zaa rfl rfl rfl (vb_ hb1) rfl) (Eq.refl (some 13)) (o_q rfl rfl (zax false (vb_ hb1) rfl) (o_q rfl rfl (q_asg rfl) (o_end (za1 (c_ret ?_)))))))
    have e0_ := si_ h; clear h
    subst e0_
    exact x_r1 () Try.results113 (zal rfl) rfl (fun w h => za5 [] dc_ rfl w h)

def impl_Plan_many.f (a0_0 : Int) (l0_1 : List SStep) (l0_2 : List Int) : Option Unit := some ()
theorem impl_Plan_many.calls {w0 ws : World} {P0 : Nat → Prop} (g0 : Nat) (a0_0 : Int) (A0_1 : Option Addr) (c0_1 : Nat) (n0_1 : Nat) (l0_1 : List SStep) (A0_2 : Option Addr) (c0_2 : Nat) (n0_2 : Nat) (l0_2 : List Int) (Z : Below w0.heap.size w0 ws) (hF : Fr w0 ws P0 [] ws) (R0_1 : Stable ws P0 (fun w => Kd.C kStep w A0_1 n0_1 l0_1)) (hc0_1 : n0_1 ≤ c0_1) (R0_2 : Stable ws P0 (fun w => Kd.C (Kd.int .i64) w A0_2 n0_2 l0_2)) (hc0_2 : n0_2 ≤ c0_2) (B0 : Stable ws P0 (fun w => w.heap[g0]? = some (.cells #[.int .i64 a0_0, .slice A0_1 n0_1 c0_1, .slice A0_2 n0_2 c0_2] 25 (0, 0))))  (h : impl_Plan_many.f a0_0 l0_1 l0_2 = some ()) :
    Calls Try.prog 115 #[.pointer (some ⟨g0, 0, none⟩)] ws (Post1 w0 ws P0 (fun (_ : Unit) => .int .i64 (w64 (a0_0 + (l0_1.length : Int)))) (fun (_ : Unit) => [])) := by
  unfold impl_Plan_many.f at h
  obtain rfl := (R0_1 ws (KeptB.refl _ _)).1
  obtain rfl := (R0_2 ws (KeptB.refl _ _)).1
  refine enter Try.func115 rfl Try.ntmps115 rfl hF (c_seq (za0 (o_q rfl rfl (q_asg rfl) (o_end (za1 (c_seq (a_start (ds := []) MO rfl (za4 0 rfl rfl rfl kr_ (fun _ _ _ h => h) (za2 rfl) (za4 1 rfl rfl rfl kr_ (fun _ _ _ h => h) (q_nil rfl) ?_)))))))))
  refine za4 2 rfl rfl rfl kr_ (fun _ _ _ h => h) (q_f F25_0 rfl) (zau 3 rfl rfl rfl kr_ (fun _ _ _ h => h) (fun w h => h) (q_ldb Y3 rfl (fun w h => B0.now Z h) rfl) (za4 4 rfl rfl rfl kr_ (fun _ _ _ h => h) (za2 rfl) (za4 5 rfl rfl rfl kr_ (fun _ _ _ h => h) (q_nil rfl) (za4 6 rfl rfl rfl kr_ (fun _ _ _ h => h) (q_f F25_1 rfl) (zau 7 rfl rfl rfl kr_ (fun _ _ _ h => h) (fun w h => h) (q_ldb Y22 rfl (fun w h => B0.now Z h) rfl) (za4 8 rfl rfl rfl kr_ (fun _ _ _ h => h) (q_len Try.underlying22 rfl) (za4 9 rfl rfl rfl kr_ (fun _ _ _ h => h) (zb0 rfl rfl) (za4 10 rfl rfl rfl kr_ (fun _ _ _ h => h) (q_asg rfl) (zao kr_ ?_)))))))))
  refine za1 (c_ret ?_)
  exact x_r1 () Try.results115 (zal rfl) rfl (fun w h => za5 [] dc_ rfl w h)

def impl_Plan_formed_1.f (a0 : Int) (a1_0_0 : Int) (l1_0_1 : List SStep) (l1_0_2 : List Int) : Option Bool := (impl_Plan_many.f a1_0_0 l1_0_1 l1_0_2).bind fun _ => (impl_in.f a0 0 (w64 (w64 (a1_0_0 + (l1_0_1.length : Int)) - 1))).bind fun b3 => some (!b3)
theorem impl_Plan_formed_1.calls {w0 ws : World} {P0 : Nat → Prop} (a0 : Int) (g1 : Nat) (g1_0 : Nat) (a1_0_0 : Int) (A1_0_1 : Option Addr) (c1_0_1 : Nat) (n1_0_1 : Nat) (l1_0_1 : List SStep) (A1_0_2 : Option Addr) (c1_0_2 : Nat) (n1_0_2 : Nat) (l1_0_2 : List Int) (Z : Below w0.heap.size w0 ws) (hF : Fr w0 ws P0 [] ws) (R1_0_1 : Stable ws P0 (fun w => Kd.C kStep w A1_0_1 n1_0_1 l1_0_1)) (hc1_0_1 : n1_0_1 ≤ c1_0_1) (R1_0_2 : Stable ws P0 (fun w => Kd.C (Kd.int .i64) w A1_0_2 n1_0_2 l1_0_2)) (hc1_0_2 : n1_0_2 ≤ c1_0_2) (B1_0 : Stable ws P0 (fun w => w.heap[g1_0]? = some (.cells #[.int .i64 a1_0_0, .slice A1_0_1 n1_0_1 c1_0_1, .slice A1_0_2 n1_0_2 c1_0_2] 25 (0, 0)))) (B1 : Stable ws P0 (fun w => w.heap[g1]? = some (.cells #[.pointer (some ⟨g1_0, 0, none⟩)] 102 (0, 0)))) (r_1 : Bool) (h : impl_Plan_formed_1.f a0 a1_0_0 l1_0_1 l1_0_2 = some r_1) :
    Calls Try.prog 155 #[.int .i64 a0, .pointer (some ⟨g1, 0, none⟩)] ws (Post1 w0 ws P0 (fun (_ : Unit) => .bool r_1) (fun (_ : Unit) => [])) := by
  unfold impl_Plan_formed_1.f at h
  obtain rfl := (R1_0_1 ws (KeptB.refl _ _)).1
  obtain rfl := (R1_0_2 ws (KeptB.refl _ _)).1
  refine enter Try.func155 rfl Try.ntmps155 rfl hF (c_seq (za0 (o_q rfl rfl (q_asg rfl) (o_end (za1 (c_seq (za0 (o_q rfl rfl (za2 rfl) (o_q rfl rfl (q_ldb Y102 rfl (fun w h => B1.now Z h) rfl) ?_)))))))))
  refine za7 h (fun _ hx1 h => ?_) rfl
  refine o_e rfl (za6 0 Z Try.func115 N115 rfl rfl rfl (fun w P1 hF hB hS hT => impl_Plan_many.calls g1_0 a1_0_0 A1_0_1 c1_0_1 l1_0_1.length l1_0_1 A1_0_2 c1_0_2 l1_0_2.length l1_0_2 hB hF (hS _ R1_0_1) hc1_0_1 (hS _ R1_0_2) hc1_0_2 (hS _ B1_0) hx1)) (fun _ => o_q rfl rfl (zb1 rfl rfl) (za7 h (fun b3 hx2 h => ?_) rfl))
  refine o_e rfl (za6 0 Z Try.func113 N113 rfl rfl rfl (fun w P1 hF hB hS hT => impl_in.calls a0 0 (w64 (w64 (a1_0_0 + (l1_0_1.length : Int)) - 1)) hB hF _ hx2)) (fun _ => o_q rfl rfl (q_not rfl) (o_q rfl rfl (q_asg rfl) (o_end (za1 (c_ret ?_)))))
  have e0_ := si_ h; clear h
  subst e0_
  exact x_r1 () Try.results155 (zal rfl) rfl (fun w h => za5 [] dc_ rfl w h)

def slices_IndexFunc_int_int.l0 (a1_c0_0_0 : Int) (l1_c0_0_1 : List SStep) (l1_c0_0_2 : List Int) : (List Int) → Int → Option ((Int) ⊕ (Unit))
  | [], i1 => some (.inr ())
  | y2 :: ys3, i1 => (impl_Plan_formed_1.f y2 a1_c0_0_0 l1_c0_0_1 l1_c0_0_2).bind fun b14 => if b14 = true then (some (.inl i1)) else (slices_IndexFunc_int_int.l0 a1_c0_0_0 l1_c0_0_1 l1_c0_0_2 ys3 (i1 + 1))
def slices_IndexFunc_int_int.f (l0 : List Int) (a1_c0_0_0 : Int) (l1_c0_0_1 : List SStep) (l1_c0_0_2 : List Int) : Option Int := (slices_IndexFunc_int_int.l0 a1_c0_0_0 l1_c0_0_1 l1_c0_0_2 l0 0).bind fun o_ => match o_ with | .inl r_ => some r_ | .inr _ => some (-1)
theorem slices_IndexFunc_int_int.calls {w0 ws : World} {P0 : Nat → Prop} (A0 : Option Addr) (c0 : Nat) (n0 : Nat) (l0 : List Int) (g1_c0 : Nat) (g1_c0_0 : Nat) (a1_c0_0_0 : Int) (A1_c0_0_1 : Option Addr) (c1_c0_0_1 : Nat) (n1_c0_0_1 : Nat) (l1_c0_0_1 : List SStep) (A1_c0_0_2 : Option Addr) (c1_c0_0_2 : Nat) (n1_c0_0_2 : Nat) (l1_c0_0_2 : List Int) (Z : Below w0.heap.size w0 ws) (hF : Fr w0 ws P0 [] ws) (R0 : Stable ws P0 (fun w => Kd.C (Kd.int .i64) w A0 n0 l0)) (hc0 : n0 ≤ c0) (R1_c0_0_1 : Stable ws P0 (fun w => Kd.C kStep w A1_c0_0_1 n1_c0_0_1 l1_c0_0_1)) (hc1_c0_0_1 : n1_c0_0_1 ≤ c1_c0_0_1) (R1_c0_0_2 : Stable ws P0 (fun w => Kd.C (Kd.int .i64) w A1_c0_0_2 n1_c0_0_2 l1_c0_0_2)) (hc1_c0_0_2 : n1_c0_0_2 ≤ c1_c0_0_2) (B1_c0_0 : Stable ws P0 (fun w => w.heap[g1_c0_0]? = some (.cells #[.int .i64 a1_c0_0_0, .slice A1_c0_0_1 n1_c0_0_1 c1_c0_0_1, .slice A1_c0_0_2 n1_c0_0_2 c1_c0_0_2] 25 (0, 0)))) (B1_c0 : Stable ws P0 (fun w => w.heap[g1_c0]? = some (.cells #[.pointer (some ⟨g1_c0_0, 0, none⟩)] 102 (0, 0)))) (r_1 : Int) (h : slices_IndexFunc_int_int.f l0 a1_c0_0_0 l1_c0_0_1 l1_c0_0_2 = some r_1) :
    Calls Try.prog 164 #[.slice A0 n0 c0, .func (.func 155) #[] #[.pointer (some ⟨g1_c0, 0, none⟩)]] ws (Post1 w0 ws P0 (fun (_ : Unit) => .int .i64 r_1) (fun (_ : Unit) => [])) := by
  unfold slices_IndexFunc_int_int.f at h
  obtain rfl := (R0 ws (KeptB.refl _ _)).1
  obtain rfl := (R1_c0_0_1 ws (KeptB.refl _ _)).1
  obtain rfl := (R1_c0_0_2 ws (KeptB.refl _ _)).1
  refine enter Try.func164 rfl Try.ntmps164 rfl hF (c_seq (za0 (o_q rfl rfl (q_asg rfl) (o_end (za1 (c_seq (c_seq (za0 (o_q rfl rfl (za2 rfl) ?_)))))))))
  refine o_q rfl rfl (q_len Try.underlying23 rfl) (o_q rfl rfl (za2 rfl) (o_end (za1 (zai (za7 h (fun o9 hl8 hR7 => ?_) rfl)))))
  clear h
  refine c_fact (p := l0.length ≤ 9223372036854775807) (fun w h => (R0.now Z h).2.1) (fun hm6 => zaw (σ := (List Int) × Int) (fun k4 ((ys3, i1) : (List Int) × Int) => Rg l0 i1 ys3 ∧ ys3.length = k4 ∧ slices_IndexFunc_int_int.l0 a1_c0_0_0 l1_c0_0_1 l1_c0_0_2 ys3 i1 = some o9) [4, 5, 8, 9, 10, 11, 12, 13, 14, 15, 16, 17, 18] (fun ((ys3, i1) : (List Int) × Int) => [(8, .int .i64 i1)]) (fun ((ys3, i1) : (List Int) × Int) => []) l0.length (l0, 0) ⟨Rg.start _, rfl, hl8⟩ ⟨rfl, trivial⟩ (fun w h => h) (fun k4 => cur2 (listC (fun i1 U10 hJ_ => ?_) (fun y2 ys3 i1 U10 hJ_ => ?_))))
  · skip
    clear hl8
    have hr5 := hJ_.1; have hk11 := hJ_.2.1; have h := hJ_.2.2; clear hJ_
    replace h : slices_IndexFunc_int_int.l0 a1_c0_0_0 l1_c0_0_1 l1_c0_0_2 [] i1 = some o9 := h
    rw [slices_IndexFunc_int_int.l0] at h
    refine c_seq (za0 (o_q rfl rfl (q_lss rfl rfl) (o_end (za1 (c_seq (c_false (vb_ hr5.ge) (zb2 (za8 (za8 ?_)))))))))
    have e_ := si_ h; replace h := hR7; rw [← e_] at h; clear e_
    refine x_hit (za1 (c_seq (za0 (o_q rfl rfl (q_asg rfl) (o_end (za1 (c_ret ?_)))))))
    have e0_ := si_ h; clear h
    subst e0_
    exact x_r1 () Try.results164 (zal rfl) rfl (fun w h => za5 [] dc_ rfl w h)
  · skip
    clear hl8
    have hr5 := hJ_.1; have hk11 := hJ_.2.1; have h := hJ_.2.2; clear hJ_
    replace h : slices_IndexFunc_int_int.l0 a1_c0_0_0 l1_c0_0_1 l1_c0_0_2 (y2 :: ys3) i1 = some o9 := h
    rw [slices_IndexFunc_int_int.l0] at h
    refine c_seq (za0 (o_q rfl rfl (q_lss rfl rfl) (o_end (za1 (c_seq (zb8 (vb_ hr5.lt) (zam (za1 (c_seq ?_)))))))))
    refine zai (c_seq (za0 (o_q rfl rfl (za2 rfl) (o_q rfl rfl (q_asg rfl) (o_end (za1 (c_seq (za0 (o_q rfl rfl (za2 rfl) ?_)))))))))
    refine o_q rfl rfl (za2 rfl) (o_q rfl rfl (za2 rfl) (zb4 (p := Sh A0 l0.length l0.length) (fun w h => f_sh (dk := (Kd.int .i64)) h (fun w h => R0.now Z h)) (fun hq12 => o_q rfl rfl (q_ix Try.underlying23 Z3 rfl rfl hq12 hr5.get) (o_q rfl rfl (q_lde (off := 0) Y3 rfl rfl (fun w h => R0.now Z h) hr5.get (fun _ _ h => h) rfl) (za7 h (fun b14 hx13 h => ?_) rfl)))))
    refine o_e rfl (za6 0 Z Try.func155 N155 rfl rfl rfl (fun w P1 hF hB hS hT => impl_Plan_formed_1.calls y2 g1_c0 g1_c0_0 a1_c0_0_0 A1_c0_0_1 c1_c0_0_1 l1_c0_0_1.length l1_c0_0_1 A1_c0_0_2 c1_c0_0_2 l1_c0_0_2.length l1_c0_0_2 hB hF (hS _ R1_c0_0_1) hc1_c0_0_1 (hS _ R1_c0_0_2) hc1_c0_0_2 (hS _ B1_c0_0) (hS _ B1_c0) _ hx13)) (fun _ => o_end (za1 (zaq _ rfl (fun hb15 => ?_) (fun hb15 => ?_))))
    · skip
      replace h := bb_t hb15 h
      refine c_seq (za0 (o_q rfl rfl (za2 rfl) (o_q rfl rfl (q_asg rfl) (o_end (za1 (c_ret (zat (zab (zab ?_)))))))))
      have e_ := si_ h; replace h := hR7; rw [← e_] at h; clear e_
      refine zat (zab ?_)
      have e0_ := si_ h; clear h
      subst e0_
      exact x_r1 () Try.results164 (zal rfl) rfl (fun w h => za5 [] dc_ rfl w h)
    · skip
      replace h := bb_f hb15 h
      refine zam (zak (za1 (za0 (o_q rfl rfl (q_up rfl rfl (hr5.up hm6)) (o_q rfl rfl (za2 rfl) (o_end (zan ys3.length (ys3, i1 + 1) (by rw [← hk11]; exact Nat.lt_succ_self _) ⟨hr5.step, rfl, h⟩ ⟨rfl, trivial⟩ (fun w h => za5 [] dc_ rfl w h) ?_)))))))
      exact of_

def slices_ContainsFunc_int_int.f (l0 : List Int) (a1_c0_0_0 : Int) (l1_c0_0_1 : List SStep) (l1_c0_0_2 : List Int) : Option Bool := (slices_IndexFunc_int_int.f l0 a1_c0_0_0 l1_c0_0_1 l1_c0_0_2).bind fun i2 => some (decide (0 ≤ i2))
theorem slices_ContainsFunc_int_int.calls {w0 ws : World} {P0 : Nat → Prop} (A0 : Option Addr) (c0 : Nat) (n0 : Nat) (l0 : List Int) (g1_c0 : Nat) (g1_c0_0 : Nat) (a1_c0_0_0 : Int) (A1_c0_0_1 : Option Addr) (c1_c0_0_1 : Nat) (n1_c0_0_1 : Nat) (l1_c0_0_1 : List SStep) (A1_c0_0_2 : Option Addr) (c1_c0_0_2 : Nat) (n1_c0_0_2 : Nat) (l1_c0_0_2 : List Int) (Z : Below w0.heap.size w0 ws) (hF : Fr w0 ws P0 [] ws) (R0 : Stable ws P0 (fun w => Kd.C (Kd.int .i64) w A0 n0 l0)) (hc0 : n0 ≤ c0) (R1_c0_0_1 : Stable ws P0 (fun w => Kd.C kStep w A1_c0_0_1 n1_c0_0_1 l1_c0_0_1)) (hc1_c0_0_1 : n1_c0_0_1 ≤ c1_c0_0_1) (R1_c0_0_2 : Stable ws P0 (fun w => Kd.C (Kd.int .i64) w A1_c0_0_2 n1_c0_0_2 l1_c0_0_2)) (hc1_c0_0_2 : n1_c0_0_2 ≤ c1_c0_0_2) (B1_c0_0 : Stable ws P0 (fun w => w.heap[g1_c0_0]? = some (.cells #[.int .i64 a1_c0_0_0, .slice A1_c0_0_1 n1_c0_0_1 c1_c0_0_1, .slice A1_c0_0_2 n1_c0_0_2 c1_c0_0_2] 25 (0, 0)))) (B1_c0 : Stable ws P0 (fun w => w.heap[g1_c0]? = some (.cells #[.pointer (some ⟨g1_c0_0, 0, none⟩)] 102 (0, 0)))) (r_1 : Bool) (h : slices_ContainsFunc_int_int.f l0 a1_c0_0_0 l1_c0_0_1 l1_c0_0_2 = some r_1) :
    Calls Try.prog 154 #[.slice A0 n0 c0, .func (.func 155) #[] #[.pointer (some ⟨g1_c0, 0, none⟩)]] ws (Post1 w0 ws P0 (fun (_ : Unit) => .bool r_1) (fun (_ : Unit) => [])) := by
  unfold slices_ContainsFunc_int_int.f at h
  obtain rfl := (R0 ws (KeptB.refl _ _)).1
  obtain rfl := (R1_c0_0_1 ws (KeptB.refl _ _)).1
  obtain rfl := (R1_c0_0_2 ws (KeptB.refl _ _)).1
  refine enter Try.func154 rfl Try.ntmps154 rfl hF (c_seq (za0 (o_q rfl rfl (q_asg rfl) (o_end (za1 (c_seq (za0 (o_q rfl rfl (za2 rfl) (o_q rfl rfl (za2 rfl) ?_)))))))))
  refine za7 h (fun i2 hx1 h => ?_) rfl
  refine o_e rfl (za6 0 Z Try.func164 N164 rfl rfl rfl (fun w P1 hF hB hS hT => slices_IndexFunc_int_int.calls A0 c0 l0.length l0 g1_c0 g1_c0_0 a1_c0_0_0 A1_c0_0_1 c1_c0_0_1 l1_c0_0_1.length l1_c0_0_1 A1_c0_0_2 c1_c0_0_2 l1_c0_0_2.length l1_c0_0_2 hB hF (hS _ R0) hc0 (hS _ R1_c0_0_1) hc1_c0_0_1 (hS _ R1_c0_0_2) hc1_c0_0_2 (hS _ B1_c0_0) (hS _ B1_c0) _ hx1)) (fun _ => o_q rfl rfl (q_geq rfl rfl) (o_q rfl rfl (q_asg rfl) (o_end (za1 (c_ret ?_)))))
  have e0_ := si_ h; clear h
  subst e0_
  exact x_r1 () Try.results154 (zal rfl) rfl (fun w h => za5 [] dc_ rfl w h)

def impl_Plan_formed.l0 (a0_0 : Int) : (List SStep) → Int → Option ((Bool) ⊕ (Unit))
  | [], i8 => some (.inr ())
  | y9 :: ys10, i8 => if y9.f0 < 0 then (some (.inl false)) else (if y9.f1 < y9.f0 then (some (.inl false)) else (if w64 (a0_0 + i8) ≤ y9.f1 then (some (.inl false)) else (impl_Plan_formed.l0 a0_0 ys10 (i8 + 1))))
def impl_Plan_formed.f (a0_0 : Int) (l0_1 : List SStep) (l0_2 : List Int) : Option Bool := (impl_in.f a0_0 1 6).bind fun b4 => if b4 = true then (if 40 < (l0_1.length : Int) then (some false) else (if 6 < (l0_2.length : Int) then (some false) else ((impl_Plan_formed.l0 a0_0 l0_1 0).bind fun o_ => match o_ with | .inl r_ => some r_ | .inr _ => (slices_ContainsFunc_int_int.f l0_2 a0_0 l0_1 l0_2).bind fun b20 => some (!b20)))) else (some false)
theorem impl_Plan_formed.calls {w0 ws : World} {P0 : Nat → Prop} (g0 : Nat) (a0_0 : Int) (A0_1 : Option Addr) (c0_1 : Nat) (n0_1 : Nat) (l0_1 : List SStep) (A0_2 : Option Addr) (c0_2 : Nat) (n0_2 : Nat) (l0_2 : List Int) (Z : Below w0.heap.size w0 ws) (hF : Fr w0 ws P0 [] ws) (R0_1 : Stable ws P0 (fun w => Kd.C kStep w A0_1 n0_1 l0_1)) (hc0_1 : n0_1 ≤ c0_1) (R0_2 : Stable ws P0 (fun w => Kd.C (Kd.int .i64) w A0_2 n0_2 l0_2)) (hc0_2 : n0_2 ≤ c0_2) (B0 : Stable ws P0 (fun w => w.heap[g0]? = some (.cells #[.int .i64 a0_0, .slice A0_1 n0_1 c0_1, .slice A0_2 n0_2 c0_2] 25 (0, 0)))) (r_1 : Bool) (h : impl_Plan_formed.f a0_0 l0_1 l0_2 = some r_1) :
    Calls Try.prog 136 #[.pointer (some ⟨g0, 0, none⟩)] ws (Post1 w0 ws P0 (fun (_ : Unit) => .bool r_1) (fun (_ : Unit) => [])) := by
  unfold impl_Plan_formed.f at h
  obtain rfl := (R0_1 ws (KeptB.refl _ _)).1
  obtain rfl := (R0_2 ws (KeptB.refl _ _)).1
  refine enter Try.func136 rfl Try.ntmps136 rfl hF (c_seq (za0 (o_e rfl (e_box rfl) (fun g1 => o_q rfl rfl (q_asg rfl) (o_end (za1 (c_seq (c_seq (za0 ?_)))))))))
  refine o_q rfl rfl (q_ldb Y102 rfl (fun w h => h.za9 (i := 0) rfl) rfl) (o_q rfl rfl (q_nil rfl) (o_q rfl rfl (q_f F25_0 rfl) (o_q rfl rfl (q_ldb Y3 rfl (fun w h => B0.now Z h) rfl) (za7 h (fun b4 hx3 h => ?_) rfl))))
  refine o_e rfl (za6 0 Z Try.func113 N113 rfl rfl rfl (fun w P1 hF hB hS hT => impl_in.calls a0_0 1 6 hB hF _ hx3)) (fun _ => o_q rfl rfl (q_not rfl) (o_q rfl rfl (za2 rfl) (byB b4 (fun hb5 => ?_) (fun hb5 => ?_))))
  · replace h := bb_t hb5 h
    refine o_w (zae rfl rfl rfl (congrArg (fun b => Value.bool (!(b))) hb5)) rfl (q_ldb Y102 rfl (fun w h => h.za9 (i := 0) rfl) rfl) (o_w (zae rfl rfl rfl (congrArg (fun b => Value.bool (!(b))) hb5)) rfl (q_nil rfl) (o_w (zae rfl rfl rfl (congrArg (fun b => Value.bool (!(b))) hb5)) rfl (q_f F25_1 rfl) (o_w (zae rfl rfl rfl (congrArg (fun b => Value.bool (!(b))) hb5)) rfl (q_ldb Y22 rfl (fun w h => B0.now Z h) rfl) (o_w (zae rfl rfl rfl (congrArg (fun b => Value.bool (!(b))) hb5)) rfl (q_len Try.underlying22 rfl) (o_w (zae rfl rfl rfl (congrArg (fun b => Value.bool (!(b))) hb5)) rfl (q_gtr rfl rfl) (o_q rfl rfl (zax false (congrArg (fun b => Value.bool (!(b))) hb5) rfl) (o_q rfl rfl (za2 rfl) (byB (decide (40 < (l0_1.length : Int))) (fun hb6 => ?_) (fun hb6 => ?_)))))))))
    · replace h := br_t hb6 h
      refine o_n (d := 20) (zaa rfl rfl rfl (vb_ hb6) rfl) (Eq.refl (some 20)) (o_n (d := 21) (zaa rfl rfl rfl (vb_ hb6) rfl) (Eq.refl (some 21)) (o_n (d := 22) (zaa rfl rfl rfl (vb_ hb6) rfl) (Eq.refl (some 22)) (o_n (d := 23) (zaa rfl rfl rfl (vb_ hb6) rfl) (Eq.refl (some 23)) (o_n (d := 24) (zaa rfl rfl rfl (vb_ hb6) rfl) (Eq.refl (some 24)) (o_n (d := 25) (zaa rfl rfl rfl (vb_ hb6) rfl) (Eq.refl (some 25)) (o_q rfl rfl (zax true (vb_ hb6) rfl) (o_end (za1 (zb8 rfl ?_)))))))))
      refine c_seq (za0 (o_q rfl rfl (q_asg rfl) (o_end (za1 (c_ret (zab ?_))))))
      have e0_ := si_ h; clear h
      subst e0_
      exact x_r1 () Try.results136 (zal rfl) rfl (fun w h => za5 [] dc_ rfl w h)
    · replace h := br_f hb6 h
      refine o_w (zae rfl rfl rfl (vb_ hb6)) rfl (q_ldb Y102 rfl (fun w h => h.za9 (i := 0) rfl) rfl) (o_w (zae rfl rfl rfl (vb_ hb6)) rfl (q_nil rfl) (o_w (zae rfl rfl rfl (vb_ hb6)) rfl (q_f F25_2 rfl) (o_w (zae rfl rfl rfl (vb_ hb6)) rfl (q_ldb Y23 rfl (fun w h => B0.now Z h) rfl) (o_w (zae rfl rfl rfl (vb_ hb6)) rfl (q_len Try.underlying23 rfl) (o_w (zae rfl rfl rfl (vb_ hb6)) rfl (q_gtr rfl rfl) (o_q rfl rfl (zax false (vb_ hb6) rfl) (o_end (za1 (zaq _ rfl (fun hb7 => ?_) (fun hb7 => ?_))))))))))
      · skip
        replace h := br_t hb7 h
        refine c_seq (za0 (o_q rfl rfl (q_asg rfl) (o_end (za1 (c_ret (zab ?_))))))
        have e0_ := si_ h; clear h
        subst e0_
        exact x_r1 () Try.results136 (zal rfl) rfl (fun w h => za5 [] dc_ rfl w h)
      · skip
        replace h := br_f hb7 h
        refine zam (za1 (c_seq (c_seq (za0 (o_q rfl rfl (q_ldb Y102 rfl (fun w h => h.za9 (i := 0) rfl) rfl) (o_q rfl rfl (q_nil rfl) (o_q rfl rfl (q_f F25_1 rfl) (o_q rfl rfl (q_ldb Y22 rfl (fun w h => B0.now Z h) rfl) (o_q rfl rfl (q_len Try.underlying22 rfl) ?_)))))))))
        refine o_q rfl rfl (za2 rfl) (o_end (za1 (zai (za7 h (fun o16 hl15 hR14 => ?_) rfl))))
        clear h
        refine c_fact (p := l0_1.length ≤ 9223372036854775807) (fun w h => (R0_1.now Z h).2.1) (fun hm13 => zaw (σ := (List SStep) × Int) (fun k11 ((ys10, i8) : (List SStep) × Int) => Rg l0_1 i8 ys10 ∧ ys10.length = k11 ∧ impl_Plan_formed.l0 a0_0 ys10 i8 = some o16) [2, 3, 4, 32, 33, 34, 35, 36, 37, 38, 39, 40, 41, 42, 43, 44, 45, 46, 47, 48, 49, 50, 51, 52, 53, 54, 55, 56, 57, 58] (fun ((ys10, i8) : (List SStep) × Int) => [(32, .int .i64 i8)]) (fun ((ys10, i8) : (List SStep) × Int) => [box g1 102 #[.pointer (some ⟨g0, 0, none⟩)]]) l0_1.length (l0_1, 0) ⟨Rg.start _, rfl, hl15⟩ ⟨rfl, trivial⟩ (fun w h => h) (fun k11 => cur2 (listC (fun i8 U17 hJ_ => ?_) (fun y9 ys10 i8 U17 hJ_ => ?_))))
        · skip
          clear hl15
          have hr12 := hJ_.1; have hk18 := hJ_.2.1; have h := hJ_.2.2; clear hJ_
          replace h : impl_Plan_formed.l0 a0_0 [] i8 = some o16 := h
          rw [impl_Plan_formed.l0] at h
          refine c_seq (za0 (o_q rfl rfl (q_lss rfl rfl) (o_end (za1 (c_seq (c_false (vb_ hr12.ge) (zb2 (za8 (za8 ?_)))))))))
          have e_ := si_ h; replace h := hR14; rw [← e_] at h; clear e_
          refine x_hit (za1 (c_seq (za0 (o_q rfl rfl (q_ldb Y102 rfl (fun w h => h.za9 (i := 0) rfl) rfl) (o_q rfl rfl (q_nil rfl) (o_q rfl rfl (q_f F25_2 rfl) (o_q rfl rfl (q_ldb Y23 rfl (fun w h => B0.now Z h) rfl) (o_q rfl rfl (q_func rfl rfl) (za7 h (fun b20 hx19 h => ?_) rfl)))))))))
          refine o_e rfl (za6 0 Z Try.func154 N154 rfl rfl rfl (fun w P1 hF hB hS hT => slices_ContainsFunc_int_int.calls A0_2 c0_2 l0_2.length l0_2 g1 g0 a0_0 A0_1 c0_1 l0_1.length l0_1 A0_2 c0_2 l0_2.length l0_2 hB hF (hS _ R0_2) hc0_2 (hS _ R0_1) hc0_1 (hS _ R0_2) hc0_2 (hS _ B0) (hT 0 _ rfl).box _ hx19)) (fun _ => o_q rfl rfl (q_not rfl) (o_q rfl rfl (q_asg rfl) (o_end (za1 (c_ret ?_)))))
          have e0_ := si_ h; clear h
          subst e0_
          exact x_r1 () Try.results136 (zal rfl) rfl (fun w h => za5 [] dc_ rfl w h)
        · skip
          clear hl15
          have hr12 := hJ_.1; have hk18 := hJ_.2.1; have h := hJ_.2.2; clear hJ_
          replace h : impl_Plan_formed.l0 a0_0 (y9 :: ys10) i8 = some o16 := h
          rw [impl_Plan_formed.l0] at h
          refine c_seq (za0 (o_q rfl rfl (q_lss rfl rfl) (o_end (za1 (c_seq (zb8 (vb_ hr12.lt) (zam (za1 (c_seq ?_)))))))))
          refine zai (c_seq (za0 (o_q rfl rfl (za2 rfl) (zb4 (p := Sh A0_1 l0_1.length l0_1.length) (fun w h => f_sh (dk := kStep) h (fun w h => R0_1.now Z h)) (fun hq21 => o_q rfl rfl (q_ix Try.underlying22 Z107 rfl rfl hq21 hr12.get) (o_q rfl rfl (q_ldE G107 Z107 rfl rfl (fun w h => R0_1.now Z h) hr12.get (fun _ _ h => h) rfl) (o_e rfl (zaf V107 rfl) (fun g22 => o_q rfl rfl (q_asg rfl) (o_e rfl (zah (i := 0) rfl rfl rfl Z107 rfl rfl) (fun _ => ?_))))))))))
          refine o_end (za1 (c_seq (a_start (ds := []) MO rfl (za4 0 rfl rfl rfl kr_ (fun _ _ _ h => h) (q_f F107_0 rfl) (zau 1 rfl rfl rfl kr_ (fun _ _ _ h => h) (fun w h => h) (q_ldb Y3 rfl (fun w h => h.za9 (i := 0) rfl) rfl) (za4 2 rfl rfl rfl kr_ (fun _ _ _ h => h) (q_lss rfl rfl) (za4 3 rfl rfl rfl kr_ (fun _ _ _ h => h) (za2 rfl) (byB (decide (y9.f0 < 0)) (fun hb24 => ?_) (fun hb24 => ?_)))))))))
          · replace h := br_t hb24 h
            refine a_no 4 rfl rfl (zaa rfl rfl rfl (vb_ hb24) rfl) kr_ (fun _ _ _ h => h) (a_no 5 rfl rfl (zaa rfl rfl rfl (vb_ hb24) rfl) kr_ (fun _ _ _ h => h) (a_no 6 rfl rfl (zaa rfl rfl rfl (vb_ hb24) rfl) kr_ (fun _ _ _ h => h) (a_no 7 rfl rfl (zaa rfl rfl rfl (vb_ hb24) rfl) kr_ (fun _ _ _ h => h) (a_no 8 rfl rfl (zaa rfl rfl rfl (vb_ hb24) rfl) kr_ (fun _ _ _ h => h) (za4 9 rfl rfl rfl kr_ (fun _ _ _ h => h) (zax true (vb_ hb24) rfl) (za4 10 rfl rfl rfl kr_ (fun _ _ _ h => h) (za2 rfl) (a_no 11 rfl rfl (zaa rfl rfl rfl rfl rfl) kr_ (fun _ _ _ h => h) (a_no 12 rfl rfl (zaa rfl rfl rfl rfl rfl) kr_ (fun _ _ _ h => h) (a_no 13 rfl rfl (zaa rfl rfl rfl rfl rfl) kr_ (fun _ _ _ h => h) ?_)))))))))
            refine a_no 14 rfl rfl (zaa rfl rfl rfl rfl rfl) kr_ (fun _ _ _ h => h) (a_no 15 rfl rfl (zaa rfl rfl rfl rfl rfl) kr_ (fun _ _ _ h => h) (a_no 16 rfl rfl (zaa rfl rfl rfl rfl rfl) kr_ (fun _ _ _ h => h) (a_no 17 rfl rfl (zaa rfl rfl rfl rfl rfl) kr_ (fun _ _ _ h => h) (a_no 18 rfl rfl (zaa rfl rfl rfl rfl rfl) kr_ (fun _ _ _ h => h) (a_no 19 rfl rfl (zaa rfl rfl rfl rfl rfl) kr_ (fun _ _ _ h => h) (za4 20 rfl rfl rfl kr_ (fun _ _ _ h => h) (zax true rfl rfl) (zao kr_ (za1 (zb8 rfl ?_)))))))))
            refine c_seq (za0 (o_q rfl rfl (q_asg rfl) (o_end (za1 (c_ret (zat (zab (zab ?_))))))))
            have e_ := si_ h; replace h := hR14; rw [← e_] at h; clear e_
            refine zat (zab ?_)
            have e0_ := si_ h; clear h
            subst e0_
            exact x_r1 () Try.results136 (zal rfl) rfl (fun w h => za5 [] dc_ rfl w h)
          · replace h := br_f hb24 h
            refine a_purew 4 rfl rfl (zae rfl rfl rfl (vb_ hb24)) kr_ (fun _ _ _ h => h) (q_f F107_0 rfl) (a_takew 5 rfl rfl (zae rfl rfl rfl (vb_ hb24)) kr_ (fun _ _ _ h => h) (fun w h => h) (q_ldb Y3 rfl (fun w h => h.za9 (i := 0) rfl) rfl) (a_purew 6 rfl rfl (zae rfl rfl rfl (vb_ hb24)) kr_ (fun _ _ _ h => h) (q_f F107_1 rfl) (a_takew 7 rfl rfl (zae rfl rfl rfl (vb_ hb24)) kr_ (fun _ _ _ h => h) (fun w h => h) (q_ldb Y3 rfl (fun w h => h.za9 (i := 0) rfl) rfl) (a_purew 8 rfl rfl (zae rfl rfl rfl (vb_ hb24)) kr_ (fun _ _ _ h => h) (q_gtr rfl rfl) (za4 9 rfl rfl rfl kr_ (fun _ _ _ h => h) (zax false (vb_ hb24) rfl) (za4 10 rfl rfl rfl kr_ (fun _ _ _ h => h) (za2 rfl) (byB (decide (y9.f1 < y9.f0)) (fun hb25 => ?_) (fun hb25 => ?_))))))))
            · replace h := br_t hb25 h
              refine a_no 11 rfl rfl (zaa rfl rfl rfl (vb_ hb25) rfl) kr_ (fun _ _ _ h => h) (a_no 12 rfl rfl (zaa rfl rfl rfl (vb_ hb25) rfl) kr_ (fun _ _ _ h => h) (a_no 13 rfl rfl (zaa rfl rfl rfl (vb_ hb25) rfl) kr_ (fun _ _ _ h => h) (a_no 14 rfl rfl (zaa rfl rfl rfl (vb_ hb25) rfl) kr_ (fun _ _ _ h => h) (a_no 15 rfl rfl (zaa rfl rfl rfl (vb_ hb25) rfl) kr_ (fun _ _ _ h => h) (a_no 16 rfl rfl (zaa rfl rfl rfl (vb_ hb25) rfl) kr_ (fun _ _ _ h => h) (a_no 17 rfl rfl (zaa rfl rfl rfl (vb_ hb25) rfl) kr_ (fun _ _ _ h => h) (a_no 18 rfl rfl (zaa rfl rfl rfl (vb_ hb25) rfl) kr_ (fun _ _ _ h => h) (a_no 19 rfl rfl (zaa rfl rfl rfl (vb_ hb25) rfl) kr_ (fun _ _ _ h => h) (za4 20 rfl rfl rfl kr_ (fun _ _ _ h => h) (zax true (vb_ hb25) rfl) ?_)))))))))
              refine zao kr_ (za1 (zb8 rfl (c_seq (za0 (o_q rfl rfl (q_asg rfl) (o_end (za1 (c_ret (zat ?_)))))))))
              refine zab (zab ?_)
              have e_ := si_ h; replace h := hR14; rw [← e_] at h; clear e_
              refine zat (zab ?_)
              have e0_ := si_ h; clear h
              subst e0_
              exact x_r1 () Try.results136 (zal rfl) rfl (fun w h => za5 [] dc_ rfl w h)
            · replace h := br_f hb25 h
              refine a_purew 11 rfl rfl (zae rfl rfl rfl (vb_ hb25)) kr_ (fun _ _ _ h => h) (q_f F107_1 rfl) (a_takew 12 rfl rfl (zae rfl rfl rfl (vb_ hb25)) kr_ (fun _ _ _ h => h) (fun w h => h) (q_ldb Y3 rfl (fun w h => h.za9 (i := 0) rfl) rfl) (a_takew 13 rfl rfl (zae rfl rfl rfl (vb_ hb25)) kr_ (fun _ _ _ h => h) (fun w h => h) (q_ldb Y102 rfl (fun w h => h.za9 (i := 1) rfl) rfl) (a_purew 14 rfl rfl (zae rfl rfl rfl (vb_ hb25)) kr_ (fun _ _ _ h => h) (q_nil rfl) (a_purew 15 rfl rfl (zae rfl rfl rfl (vb_ hb25)) kr_ (fun _ _ _ h => h) (q_f F25_0 rfl) (a_takew 16 rfl rfl (zae rfl rfl rfl (vb_ hb25)) kr_ (fun _ _ _ h => h) (fun w h => h) (q_ldb Y3 rfl (fun w h => B0.now Z h) rfl) (a_purew 17 rfl rfl (zae rfl rfl rfl (vb_ hb25)) kr_ (fun _ _ _ h => h) (za2 rfl) (a_purew 18 rfl rfl (zae rfl rfl rfl (vb_ hb25)) kr_ (fun _ _ _ h => h) (zb0 rfl rfl) (a_purew 19 rfl rfl (zae rfl rfl rfl (vb_ hb25)) kr_ (fun _ _ _ h => h) (q_geq rfl rfl) (za4 20 rfl rfl rfl kr_ (fun _ _ _ h => h) (zax false (vb_ hb25) rfl) ?_)))))))))
              refine zao kr_ (za1 (zaq _ rfl (fun hb26 => ?_) (fun hb26 => ?_)))
              · skip
                replace h := br_t hb26 h
                refine c_seq (za0 (o_q rfl rfl (q_asg rfl) (o_end (za1 (c_ret (zat (zab (zab ?_))))))))
                have e_ := si_ h; replace h := hR14; rw [← e_] at h; clear e_
                refine zat (zab ?_)
                have e0_ := si_ h; clear h
                subst e0_
                exact x_r1 () Try.results136 (zal rfl) rfl (fun w h => za5 [] dc_ rfl w h)
              · skip
                replace h := br_f hb26 h
                refine zam (zak (za1 (za0 (o_q rfl rfl (q_up rfl rfl (hr12.up hm13)) (o_q rfl rfl (za2 rfl) (o_end (zan ys10.length (ys10, i8 + 1) (by rw [← hk18]; exact Nat.lt_succ_self _) ⟨hr12.step, rfl, h⟩ ⟨rfl, trivial⟩ (fun w h => za5 [1] dc_ rfl w h) ?_)))))))
                exact of_
  · replace h := bb_f hb5 h
    refine o_n (d := 12) (zaa rfl rfl rfl (congrArg (fun b => Value.bool (!(b))) hb5) rfl) (Eq.refl (some 12)) (o_n (d := 13) (zaa rfl rfl rfl (congrArg (fun b => Value.bool (!(b))) hb5) rfl) (Eq.refl (some 13)) (o_n (d := 14) (zaa rfl rfl rfl (congrArg (fun b => Value.bool (!(b))) hb5) rfl) (Eq.refl (some 14)) (o_n (d := 15) (zaa rfl rfl rfl (congrArg (fun b => Value.bool (!(b))) hb5) rfl) (Eq.refl (some 15)) (o_n (d := 16) (zaa rfl rfl rfl (congrArg (fun b => Value.bool (!(b))) hb5) rfl) (Eq.refl (some 16)) (o_n (d := 17) (zaa rfl rfl rfl (congrArg (fun b => Value.bool (!(b))) hb5) rfl) (Eq.refl (some 17)) (o_q rfl rfl (zax true (congrArg (fun b => Value.bool (!(b))) hb5) rfl) (o_q rfl rfl (za2 rfl) (o_n (d := 20) (zaa rfl rfl rfl rfl rfl) (Eq.refl (some 20)) (o_n (d := 21) (zaa rfl rfl rfl rfl rfl) (Eq.refl (some 21)) ?_)))))))))
    refine o_n (d := 22) (zaa rfl rfl rfl rfl rfl) (Eq.refl (some 22)) (o_n (d := 23) (zaa rfl rfl rfl rfl rfl) (Eq.refl (some 23)) (o_n (d := 24) (zaa rfl rfl rfl rfl rfl) (Eq.refl (some 24)) (o_n (d := 25) (zaa rfl rfl rfl rfl rfl) (Eq.refl (some 25)) (o_q rfl rfl (zax true rfl rfl) (o_end (za1 (zb8 rfl (c_seq (za0 ?_)))))))))
    refine o_q rfl rfl (q_asg rfl) (o_end (za1 (c_ret (zab ?_))))
    have e0_ := si_ h; clear h
    subst e0_
    exact x_r1 () Try.results136 (zal rfl) rfl (fun w h => za5 [] dc_ rfl w h)

def impl_Plan_exponents.l2 (l20 : List (List Int)) (y25 : SStep) : (List Int) → (List Int) → Int → Option (List Int)
  | [], l45, i48 => some l45
  | y49 :: ys50, l45, i48 => (gt l20 y25.f1).bind fun y70 => (gt y70 i48).bind fun y74 => (ap l45 ([mn (w64 (y49 + y74)) 1000001] : List Int)).bind fun l78 => impl_Plan_exponents.l2 l20 y25 ys50 l78 (i48 + 1)
def impl_Plan_exponents.l1 : (List SStep) → (List (List Int)) → Int → Option (List (List Int))
  | [], l20, i24 => some l20
  | y25 :: ys26, l20, i24 => (gt l20 y25.f0).bind fun y43 => (impl_Plan_exponents.l2 l20 y25 y43 ([] : List Int) 0).bind fun l45 => (ap l20 ([l45] : List (List Int))).bind fun l63 => impl_Plan_exponents.l1 ys26 l63 (i24 + 1)
def impl_Plan_exponents.l0 (a0_0 : Int) : Nat → (List (List Int)) → Int → Option (List (List Int))
  | 0, l4, i8 => some l4
  | k11 + 1, l4, i8 => (mk0 a0_0 (0 : Int)).bind fun l82 => (gt l82 i8).bind fun y89 => (st l82 i8 1).bind fun l90 => (ap l4 ([l90] : List (List Int))).bind fun l96 => impl_Plan_exponents.l0 a0_0 k11 l96 (i8 + 1)
def impl_Plan_exponents.f (a0_0 : Int) (l0_1 : List SStep) (l0_2 : List Int) : Option (List (List Int)) := (bd a0_0).bind fun _ => (impl_Plan_exponents.l0 a0_0 ((a0_0).toNat) ([] : List (List Int)) 0).bind fun l4 => (impl_Plan_exponents.l1 l0_1 l4 0).bind fun l20 => some l20
theorem impl_Plan_exponents.calls {w0 ws : World} {P0 : Nat → Prop} (g0 : Nat) (a0_0 : Int) (A0_1 : Option Addr) (c0_1 : Nat) (n0_1 : Nat) (l0_1 : List SStep) (A0_2 : Option Addr) (c0_2 : Nat) (n0_2 : Nat) (l0_2 : List Int) (Z : Below w0.heap.size w0 ws) (hF : Fr w0 ws P0 [] ws) (R0_1 : Stable ws P0 (fun w => Kd.C kStep w A0_1 n0_1 l0_1)) (hc0_1 : n0_1 ≤ c0_1) (R0_2 : Stable ws P0 (fun w => Kd.C (Kd.int .i64) w A0_2 n0_2 l0_2)) (hc0_2 : n0_2 ≤ c0_2) (B0 : Stable ws P0 (fun w => w.heap[g0]? = some (.cells #[.int .i64 a0_0, .slice A0_1 n0_1 c0_1, .slice A0_2 n0_2 c0_2] 25 (0, 0)))) (r_1 : List (List Int)) (h : impl_Plan_exponents.f a0_0 l0_1 l0_2 = some r_1) :
    Calls Try.prog 138 #[.pointer (some ⟨g0, 0, none⟩)] ws (Post1 w0 ws P0 (fun ((q_2, q_3, q_4) : (Option Addr) × Nat × Hd) => .slice q_2 r_1.length q_3) (fun ((q_2, q_3, q_4) : (Option Addr) × Nat × Hd) => [row (gk 3 (Kd.int .i64)) 23 (.slice q_2 r_1.length q_3) (zp q_4 r_1)])) := by
  unfold impl_Plan_exponents.f at h
  obtain rfl := (R0_1 ws (KeptB.refl _ _)).1
  obtain rfl := (R0_2 ws (KeptB.refl _ _)).1
  refine enter Try.func138 rfl Try.ntmps138 rfl hF (c_seq (za0 (o_q rfl rfl (q_asg rfl) (o_end (za1 (c_seq (za0 (o_e rfl (e_lit0 (gk 3 (Kd.int .i64)) Try.underlying47 I23) (cur2 (fun A1 c2 => o_q rfl rfl (q_asg rfl) ?_))))))))))
  refine o_end (za1 (c_seq (c_seq (za0 (o_q rfl rfl (za2 rfl) (o_q rfl rfl (q_nil rfl) (o_q rfl rfl (q_f F25_0 rfl) (o_q rfl rfl (q_ldb Y3 rfl (fun w h => B0.now Z h) rfl) (o_q rfl rfl (za2 rfl) ?_)))))))))
  refine o_end (za1 (zai (za7 h (fun _ hbd17 h => ?_) rfl)))
  refine za7 h (fun o16 hl15 hR14 => ?_) rfl
  clear h
  have hm13 : a0_0 ≤ 9223372036854775807 := bd_le hbd17
  refine zaw (σ := (List (List Int)) × Int × (Option Addr) × Nat × Hd) (fun k11 ((l4, i8, A5, c6, H7) : (List (List Int)) × Int × (Option Addr) × Nat × Hd) => Cn a0_0 i8 k11 ∧ impl_Plan_exponents.l0 a0_0 k11 l4 i8 = some o16) [3, 4, 5, 16, 17, 18, 19, 20, 21, 22, 23, 24, 25, 26, 27, 28, 29, 30, 31] (fun ((l4, i8, A5, c6, H7) : (List (List Int)) × Int × (Option Addr) × Nat × Hd) => [(3, .slice A5 l4.length c6), (16, .int .i64 i8)]) (fun ((l4, i8, A5, c6, H7) : (List (List Int)) × Int × (Option Addr) × Nat × Hd) => [row (gk 3 (Kd.int .i64)) 23 (.slice A5 l4.length c6) (zp H7 l4)]) (a0_0).toNat (([] : List (List Int)), 0, A1, c2, ([] : Hd)) ⟨Cn.start hm13, hl15⟩ ⟨rfl, rfl, trivial⟩ (fun w h => h) (natC (cur5 (fun l4 i8 A5 c6 H7 => fun U18 hJ_ => ?_)) (fun k11 => (cur5 (fun l4 i8 A5 c6 H7 => fun U18 hJ_ => ?_))))
  · skip
    clear hl15
    have hr12 := hJ_.1; have h := hJ_.2; clear hJ_
    replace h : impl_Plan_exponents.l0 a0_0 0 l4 i8 = some o16 := h
    rw [impl_Plan_exponents.l0] at h
    refine c_seq (za0 (o_q rfl rfl (q_lss rfl rfl) (o_end (za1 (c_seq (c_false (vb_ hr12.ge) (zb2 (za8 (za8 ?_)))))))))
    have e_ := si_ h; replace h := hR14; rw [← e_] at h; clear e_
    refine x_hit (za1 (c_seq (c_seq (za0 (o_q rfl rfl (za2 rfl) (o_q rfl rfl (q_nil rfl) (o_q rfl rfl (q_f F25_1 rfl) (o_q rfl rfl (q_ldb Y22 rfl (fun w h => B0.now Z h) rfl) (o_q rfl rfl (q_len Try.underlying22 rfl) ?_)))))))))
    refine o_q rfl rfl (za2 rfl) (o_end (za1 (zai (za7 h (fun o32 hl31 hR30 => ?_) rfl))))
    clear h
    refine c_fact (p := l0_1.length ≤ 9223372036854775807) (fun w h => (R0_1.now Z h).2.1) (fun hm29 => zaw (σ := (List SStep) × (List (List Int)) × Int × (Option Addr) × Nat × Hd) (fun k27 ((ys26, l20, i24, A21, c22, H23) : (List SStep) × (List (List Int)) × Int × (Option Addr) × Nat × Hd) => Rg l0_1 i24 ys26 ∧ ys26.length = k27 ∧ impl_Plan_exponents.l1 ys26 l20 i24 = some o32) [3, 7, 8, 9, 10, 37, 38, 39, 40, 41, 42, 43, 44, 45, 46, 47, 48, 49, 50, 51, 52, 53, 54, 55, 56, 57, 58, 59, 60, 61, 62, 63, 64, 65, 66, 67, 68, 69, 70, 71, 72] (fun ((ys26, l20, i24, A21, c22, H23) : (List SStep) × (List (List Int)) × Int × (Option Addr) × Nat × Hd) => [(3, .slice A21 l20.length c22), (37, .int .i64 i24)]) (fun ((ys26, l20, i24, A21, c22, H23) : (List SStep) × (List (List Int)) × Int × (Option Addr) × Nat × Hd) => [row (gk 3 (Kd.int .i64)) 23 (.slice A21 l20.length c22) (zp H23 l20)]) l0_1.length (l0_1, l4, 0, A5, c6, H7) ⟨Rg.start _, rfl, hl31⟩ ⟨rfl, rfl, trivial⟩ (fun w h => h) (fun k27 => cur6 (listC (fun l20 i24 A21 c22 H23 U33 hJ_ => ?_) (fun y25 ys26 l20 i24 A21 c22 H23 U33 hJ_ => ?_))))
    · skip
      clear hl31
      have hr28 := hJ_.1; have hk34 := hJ_.2.1; have h := hJ_.2.2; clear hJ_
      replace h : impl_Plan_exponents.l1 [] l20 i24 = some o32 := h
      rw [impl_Plan_exponents.l1] at h
      refine c_seq (za0 (o_q rfl rfl (q_lss rfl rfl) (o_end (za1 (c_seq (c_false (vb_ hr28.ge) (zb2 (za8 (za8 ?_)))))))))
      have e_ := si_ h; replace h := hR30; rw [← e_] at h; clear e_
      refine x_hit (za1 (c_seq (za0 (o_q rfl rfl (za2 rfl) (o_q rfl rfl (q_asg rfl) (o_end (za1 (c_ret ?_))))))))
      have e0_ := si_ h; clear h
      subst e0_
      exact x_r1 (A21, c22, H23) Try.results138 (zal rfl) rfl (fun w h => za5 [0] dc_ rfl w h)
    · skip
      clear hl31
      have hr28 := hJ_.1; have hk34 := hJ_.2.1; have h := hJ_.2.2; clear hJ_
      replace h : impl_Plan_exponents.l1 (y25 :: ys26) l20 i24 = some o32 := h
      rw [impl_Plan_exponents.l1] at h
      refine c_seq (za0 (o_q rfl rfl (q_lss rfl rfl) (o_end (za1 (c_seq (zb8 (vb_ hr28.lt) (zam (za1 (c_seq ?_)))))))))
      refine zai (c_seq (za0 (zb4 (p := Sh A0_1 l0_1.length l0_1.length) (fun w h => f_sh (dk := kStep) h (fun w h => R0_1.now Z h)) (fun hq35 => o_q rfl rfl (q_ix Try.underlying22 Z107 rfl rfl hq35 hr28.get) (o_q rfl rfl (q_ldE G107 Z107 rfl rfl (fun w h => R0_1.now Z h) hr28.get (fun _ _ h => h) rfl) (o_e rfl (zaf V107 rfl) (fun g36 => o_e rfl (zah (i := 0) rfl rfl rfl Z107 rfl rfl) (fun _ => o_end (za1 ?_)))))))))
      refine c_seq (za0 (o_e rfl (e_lit0 (Kd.int .i64) Try.underlying23 I3) (cur2 (fun A38 c39 => o_q rfl rfl (q_asg rfl) (o_end (za1 (c_seq (c_seq (za0 (o_q rfl rfl (za2 rfl) ?_))))))))))
      refine o_q rfl rfl (q_f F107_0 rfl) (o_q rfl rfl (q_ldb Y3 rfl (fun w h => h.za9 (i := 1) rfl) rfl) (zb4 (p := Sh A21 l20.length (zp H23 l20).length) (fun w h => f_sh (dk := (gk 3 (Kd.int .i64))) h (fun w h => h.zar (i := 2) rfl)) (fun hq41 => za7 h (fun y43 hg42 h => ?_) rfl)))
      refine o_q rfl rfl (q_ix Try.underlying47 Z23 rfl rfl hq41 (gt_zp hg42)) (zb4 (p := y43.length ≤ hC H23 y25.f0) (fun w h => (K_in (h.zar (i := 2) rfl) hg42).1) (fun hc44 => o_q rfl rfl (q_lde (off := 0) Y23 rfl rfl (fun w h => h.zar (i := 2) rfl) (gt_zp hg42) (fun _ _ h => h.1) rfl) (o_q rfl rfl (q_len Try.underlying23 rfl) (o_q rfl rfl (za2 rfl) (o_end (za1 (zai (za7 h (fun o56 hl55 hR54 => ?_) rfl))))))))
      clear h
      refine c_fact (p := y43.length ≤ 9223372036854775807) (fun w h => (C_in (h.zar (i := 2) rfl) hg42).2.1) (fun hm53 => zaw (σ := (List Int) × (List Int) × Int × (Option Addr) × Nat) (fun k51 ((ys50, l45, i48, A46, c47) : (List Int) × (List Int) × Int × (Option Addr) × Nat) => Rg y43 i48 ys50 ∧ ys50.length = k51 ∧ impl_Plan_exponents.l2 l20 y25 ys50 l45 i48 = some o56) [8, 9, 10, 48, 49, 50, 51, 52, 53, 54, 55, 56, 57, 58, 59, 60, 61, 62, 63, 64, 65, 66, 67] (fun ((ys50, l45, i48, A46, c47) : (List Int) × (List Int) × Int × (Option Addr) × Nat) => [(8, .slice A46 l45.length c47), (48, .int .i64 i48)]) (fun ((ys50, l45, i48, A46, c47) : (List Int) × (List Int) × Int × (Option Addr) × Nat) => [row (Kd.int .i64) 3 (.slice A46 l45.length c47) l45, box g36 107 #[.int .i64 y25.f0, .int .i64 y25.f1], row (gk 3 (Kd.int .i64)) 23 (.slice A21 l20.length c22) (zp H23 l20)]) y43.length (y43, ([] : List Int), 0, A38, c39) ⟨Rg.start _, rfl, hl55⟩ ⟨rfl, rfl, trivial⟩ (fun w h => h) (fun k51 => cur5 (listC (fun l45 i48 A46 c47 U57 hJ_ => ?_) (fun y49 ys50 l45 i48 A46 c47 U57 hJ_ => ?_))))
      · skip
        clear hl55
        have hr52 := hJ_.1; have hk58 := hJ_.2.1; have h := hJ_.2.2; clear hJ_
        replace h : impl_Plan_exponents.l2 l20 y25 [] l45 i48 = some o56 := h
        rw [impl_Plan_exponents.l2] at h
        refine c_seq (za0 (o_q rfl rfl (q_lss rfl rfl) (o_end (za1 (c_seq (c_false (vb_ hr52.ge) (zb2 (za8 (za8 ?_)))))))))
        have e_ := si_ h; replace h := hR54; rw [← e_] at h; clear e_
        refine x_hit (za1 (za0 (o_q rfl rfl (za2 rfl) (o_q rfl rfl (za2 rfl) (o_e rfl (e_litG (j := 0) (ue := 3) (dk := (Kd.int .i64)) (ys := l45) Try.underlying47 I23 rfl rfl rfl) (cur3 (fun A59 c60 H62 => za7 h (fun l63 ha64 h => ?_) rfl)))))))
        refine o_e rfl (e_appG (i := 3) (j := 0) Try.underlying47 I23 rfl dc_ rfl rfl rfl rfl rfl ha64) (cur3 (fun A65 c66 H67 => o_q rfl rfl (q_asg rfl) (o_end (zak (za1 (za0 (o_q rfl rfl (q_up rfl rfl (hr28.up hm29)) (o_q rfl rfl (za2 rfl) (o_end (zan ys26.length (ys26, l63, i24 + 1, A65, c66, H67) (by rw [← hk34]; exact Nat.lt_succ_self _) ⟨hr28.step, rfl, h⟩ ⟨rfl, rfl, trivial⟩ (fun w h => za5 [3] dc_ rfl w h) ?_))))))))))
        exact of_
      · skip
        clear hl55
        have hr52 := hJ_.1; have hk58 := hJ_.2.1; have h := hJ_.2.2; clear hJ_
        replace h : impl_Plan_exponents.l2 l20 y25 (y49 :: ys50) l45 i48 = some o56 := h
        rw [impl_Plan_exponents.l2] at h
        refine c_seq (za0 (o_q rfl rfl (q_lss rfl rfl) (o_end (za1 (c_seq (zb8 (vb_ hr52.lt) (zam (za1 (c_seq ?_)))))))))
        refine zai (c_seq (za0 (o_q rfl rfl (za2 rfl) (zb4 (p := Sh (hA H23 y25.f0) y43.length y43.length) (fun w h => f_sh (dk := (Kd.int .i64)) h (fun w h => C_in (h.zar (i := 2) rfl) hg42)) (fun hq68 => o_q rfl rfl (q_ix Try.underlying23 Z3 rfl rfl hq68 hr52.get) (o_q rfl rfl (q_lde (off := 0) Y3 rfl rfl (fun w h => C_in (h.zar (i := 2) rfl) hg42) hr52.get (fun _ _ h => h) rfl) (o_q rfl rfl (q_asg rfl) (o_q rfl rfl (q_asg rfl) (o_end ?_)))))))))
        refine za1 (za0 (o_q rfl rfl (za2 rfl) (o_q rfl rfl (za2 rfl) (o_q rfl rfl (za2 rfl) (o_q rfl rfl (q_f F107_1 rfl) (o_q rfl rfl (q_ldb Y3 rfl (fun w h => h.za9 (i := 1) rfl) rfl) (za7 h (fun y70 hg69 h => ?_) rfl)))))))
        refine o_q rfl rfl (q_ix Try.underlying47 Z23 rfl rfl hq41 (gt_zp hg69)) (zb4 (p := y70.length ≤ hC H23 y25.f1) (fun w h => (K_in (h.zar (i := 2) rfl) hg69).1) (fun hc71 => o_q rfl rfl (q_lde (off := 0) Y23 rfl rfl (fun w h => h.zar (i := 2) rfl) (gt_zp hg69) (fun _ _ h => h.1) rfl) (o_q rfl rfl (za2 rfl) (zb4 (p := Sh (hA H23 y25.f1) y70.length y70.length) (fun w h => f_sh (dk := (Kd.int .i64)) h (fun w h => C_in (h.zar (i := 2) rfl) hg69)) (fun hq72 => za7 h (fun y74 hg73 h => ?_) rfl)))))
        refine o_q rfl rfl (q_ix Try.underlying23 Z3 rfl rfl hq72 hg73) (o_q rfl rfl (q_lde (off := 0) Y3 rfl rfl (fun w h => C_in (h.zar (i := 2) rfl) hg69) hg73 (fun _ _ h => h) rfl) (o_q rfl rfl (zb0 rfl rfl) (o_q rfl rfl (q_min rfl rfl) (o_e rfl (e_lit (vs := [(0, .int .i64 (mn (w64 (y49 + y74)) 1000001))]) (cs := [.int .i64 (mn (w64 (y49 + y74)) 1000001)]) (Kd.int .i64) ([mn (w64 (y49 + y74)) 1000001] : List Int) Try.underlying23 I3 dc_ rfl dc_ rfl rfl (fun _ _ => Kd.zad _)) (cur2 (fun A75 c76 => za7 h (fun l78 ha79 h => ?_) rfl))))))
        refine o_e rfl (e_app (i := 1) (j := 0) Try.underlying23 I3 rfl dc_ dc_ rfl rfl rfl rfl rfl ha79) (cur2 (fun A80 c81 => o_q rfl rfl (q_asg rfl) (o_end (zak (za1 (za0 (o_q rfl rfl (q_up rfl rfl (hr52.up hm53)) (o_q rfl rfl (za2 rfl) (o_end (zan ys50.length (ys50, l78, i48 + 1, A80, c81) (by rw [← hk58]; exact Nat.lt_succ_self _) ⟨hr52.step, rfl, h⟩ ⟨rfl, rfl, trivial⟩ (fun w h => za5 [1, 2, 3] dc_ rfl w h) ?_))))))))))
        exact of_
  · skip
    clear hl15
    have hr12 := hJ_.1; have h := hJ_.2; clear hJ_
    replace h : impl_Plan_exponents.l0 a0_0 (k11 + 1) l4 i8 = some o16 := h
    rw [impl_Plan_exponents.l0] at h
    refine c_seq (za0 (o_q rfl rfl (q_lss rfl rfl) (o_end (za1 (c_seq (zb8 (vb_ hr12.lt) (zam (za1 (c_seq ?_)))))))))
    refine zai (c_seq (za0 (o_q rfl rfl (za2 rfl) (o_q rfl rfl (q_asg rfl) (o_end (za1 (c_seq (za0 (o_q rfl rfl (za2 rfl) ?_)))))))))
    refine o_q rfl rfl (q_nil rfl) (o_q rfl rfl (q_f F25_0 rfl) (o_q rfl rfl (q_ldb Y3 rfl (fun w h => B0.now Z h) rfl) (za7 h (fun l82 hm83 h => ?_) rfl)))
    refine o_e rfl (e_make (Kd.int .i64) (0 : Int) Try.underlying23 I3 rfl dc_ dc_ (fun _ _ => rfl) rfl rfl hm83) (cur2 (fun A84 c85 => o_q rfl rfl (q_asg rfl) (o_end (za1 (c_seq (za0 (o_q rfl rfl (za2 rfl) (o_q rfl rfl (za2 rfl) (zb4 (p := Sh A84 l82.length l82.length) (fun w h => f_sh (dk := (Kd.int .i64)) h (fun w h => h.zar (i := 0) rfl)) (fun hq87 => za7 h (fun y89 hg88 h => ?_) rfl))))))))))
    refine o_q rfl rfl (q_ix Try.underlying23 Z3 rfl rfl hq87 hg88) (za7 h (fun l90 hs91 h => ?_) rfl)
    refine o_e rfl (e_set (i := 0) rfl rfl rfl Z3 hs91) (fun _ => o_end (za1 (za0 (o_q rfl rfl (za2 rfl) (o_q rfl rfl (za2 rfl) (o_e rfl (e_litG (j := 0) (ue := 3) (dk := (Kd.int .i64)) (ys := l90) Try.underlying47 I23 rfl rfl rfl) (cur3 (fun A92 c93 H95 => za7 h (fun l96 ha97 h => ?_) rfl))))))))
    refine o_e rfl (e_appG (i := 2) (j := 0) Try.underlying47 I23 rfl dc_ rfl rfl rfl rfl rfl ha97) (cur3 (fun A98 c99 H100 => o_q rfl rfl (q_asg rfl) (o_end (zak (za1 (za0 (o_q rfl rfl (q_up rfl rfl hr12.up) (o_q rfl rfl (za2 rfl) (o_end (zan k11 (l96, i8 + 1, A98, c99, H100) (Nat.lt_succ_self _) ⟨hr12.step, h⟩ ⟨rfl, rfl, trivial⟩ (fun w h => za5 [2] dc_ rfl w h) ?_))))))))))
    exact of_

def slices_Max_int_int.l0 (l0 : List Int) : Nat → Int → Int → Option Int
  | 0, _, _ => none
  | k9 + 1, i5, i6 => if i6 < (l0.length : Int) then ((gt l0 i6).bind fun y19 => slices_Max_int_int.l0 l0 k9 (mx i5 y19) (w64 (i6 + 1))) else (some i5)
def slices_Max_int_int.f (k : Nat) (l0 : List Int) : Option Int := if (l0.length : Int) < 1 then (none) else ((gt l0 0).bind fun y4 => (slices_Max_int_int.l0 l0 k y4 1).bind fun i5 => some i5)
theorem slices_Max_int_int.calls (k : Nat) {w0 ws : World} {P0 : Nat → Prop} (A0 : Option Addr) (c0 : Nat) (n0 : Nat) (l0 : List Int) (Z : Below w0.heap.size w0 ws) (hF : Fr w0 ws P0 [] ws) (R0 : Stable ws P0 (fun w => Kd.C (Kd.int .i64) w A0 n0 l0)) (hc0 : n0 ≤ c0) (r_1 : Int) (h : slices_Max_int_int.f k l0 = some r_1) :
    Calls Try.prog 56 #[.slice A0 n0 c0] ws (Post1 w0 ws P0 (fun (_ : Unit) => .int .i64 r_1) (fun (_ : Unit) => [])) := by
  unfold slices_Max_int_int.f at h
  obtain rfl := (R0 ws (KeptB.refl _ _)).1
  refine enter Try.func56 rfl Try.ntmps56 rfl hF (c_seq (za0 (o_q rfl rfl (q_asg rfl) (o_end (za1 (c_seq (c_seq (za0 (o_q rfl rfl (za2 rfl) ?_)))))))))
  refine o_q rfl rfl (q_len Try.underlying23 rfl) (o_q rfl rfl (q_lss rfl rfl) (o_end (za1 (zaq _ rfl (fun hb1 => ?_) (fun hb1 => ?_)))))
  · skip
    replace h := br_t hb1 h
    refine za0 ?_
    exact noneE h
  · skip
    replace h := br_f hb1 h
    refine zam (za1 (c_seq (za0 (o_q rfl rfl (za2 rfl) (zb4 (p := Sh A0 l0.length l0.length) (fun w h => f_sh (dk := (Kd.int .i64)) h (fun w h => R0.now Z h)) (fun hq2 => za7 h (fun y4 hg3 h => ?_) rfl))))))
    refine o_q rfl rfl (q_ix Try.underlying23 Z3 rfl rfl hq2 hg3) (o_q rfl rfl (q_lde (off := 0) Y3 rfl rfl (fun w h => R0.now Z h) hg3 (fun _ _ h => h) rfl) (o_q rfl rfl (q_asg rfl) (o_end (za1 (c_seq (c_seq (za0 (o_q rfl rfl (q_asg rfl) (o_end ?_)))))))))
    refine za1 (zai (za7 h (fun o14 hl13 hR12 => ?_) rfl))
    clear h
    refine zaw (σ := Int × Int) (fun k9 ((i5, i6) : Int × Int) => slices_Max_int_int.l0 l0 k9 i5 i6 = some o14) [3, 4, 12, 13, 14, 15, 16, 17, 18, 19, 20, 21, 22, 23] (fun ((i5, i6) : Int × Int) => [(3, .int .i64 i5), (4, .int .i64 i6)]) (fun ((i5, i6) : Int × Int) => []) k (y4, 1) hl13 ⟨rfl, rfl, trivial⟩ (fun w h => h) (natC (cur2 (fun i5 i6 => fun U15 hJ_ => ?_)) (fun k9 => (cur2 (fun i5 i6 => fun U15 hJ_ => ?_))))
    · skip
      replace hJ_ : slices_Max_int_int.l0 l0 0 i5 i6 = some o14 := hJ_
      rw [slices_Max_int_int.l0] at hJ_
      exact noneE hJ_
    · skip
      clear hl13
      have h := hJ_; clear hJ_
      replace h : slices_Max_int_int.l0 l0 (k9 + 1) i5 i6 = some o14 := h
      rw [slices_Max_int_int.l0] at h
      refine c_seq (c_seq (za0 (o_q rfl rfl (za2 rfl) (o_q rfl rfl (za2 rfl) (o_q rfl rfl (q_len Try.underlying23 rfl) (o_q rfl rfl (q_lss rfl rfl) (o_end (za1 (zaq _ rfl (fun hb17 => ?_) (fun hb17 => ?_))))))))))
      · skip
        replace h := br_t hb17 h
        refine zam (za1 (c_seq (zai (za0 (o_q rfl rfl (za2 rfl) (o_q rfl rfl (za2 rfl) (o_q rfl rfl (za2 rfl) (za7 h (fun y19 hg18 h => ?_) rfl))))))))
        refine o_q rfl rfl (q_ix Try.underlying23 Z3 rfl rfl hq2 hg18) (o_q rfl rfl (q_lde (off := 0) Y3 rfl rfl (fun w h => R0.now Z h) hg18 (fun _ _ h => h) rfl) (o_q rfl rfl (q_max rfl rfl) (o_q rfl rfl (q_asg rfl) (o_end (zak (za1 (za0 (o_q rfl rfl (za2 rfl) (o_q rfl rfl (zb0 rfl rfl) ?_)))))))))
        refine o_q rfl rfl (q_asg rfl) (o_end (zan k9 (mx i5 y19, w64 (i6 + 1)) (Nat.lt_succ_self _) h ⟨rfl, rfl, trivial⟩ (fun w h => za5 [] dc_ rfl w h) ?_))
        exact of_
      · skip
        replace h := br_f hb17 h
        refine zb2 (za8 (za8 ?_))
        have e_ := si_ h; replace h := hR12; rw [← e_] at h; clear e_
        refine x_hit (za1 (c_seq (za0 (o_q rfl rfl (za2 rfl) (o_q rfl rfl (q_asg rfl) (o_end (za1 (c_ret ?_))))))))
        have e0_ := si_ h; clear h
        subst e0_
        exact x_r1 () Try.results56 (zal rfl) rfl (fun w h => za5 [] dc_ rfl w h)

def impl_IsPlan_1.f (k : Nat) (l0 : List Int) : Option Bool := (slices_Max_int_int.f k l0).bind fun i2 => some (decide (1000000 < i2))
theorem impl_IsPlan_1.calls (k : Nat) {w0 ws : World} {P0 : Nat → Prop} (A0 : Option Addr) (c0 : Nat) (n0 : Nat) (l0 : List Int) (Z : Below w0.heap.size w0 ws) (hF : Fr w0 ws P0 [] ws) (R0 : Stable ws P0 (fun w => Kd.C (Kd.int .i64) w A0 n0 l0)) (hc0 : n0 ≤ c0) (r_1 : Bool) (h : impl_IsPlan_1.f k l0 = some r_1) :
    Calls Try.prog 139 #[.slice A0 n0 c0] ws (Post1 w0 ws P0 (fun (_ : Unit) => .bool r_1) (fun (_ : Unit) => [])) := by
  unfold impl_IsPlan_1.f at h
  obtain rfl := (R0 ws (KeptB.refl _ _)).1
  refine enter Try.func139 rfl Try.ntmps139 rfl hF (c_seq (za0 (o_q rfl rfl (q_asg rfl) (o_end (za1 (c_seq (za0 (o_q rfl rfl (za2 rfl) (za7 h (fun i2 hx1 h => ?_) rfl)))))))))
  refine o_e rfl (za6 0 Z Try.func56 N56 rfl rfl rfl (fun w P1 hF hB hS hT => slices_Max_int_int.calls k A0 c0 l0.length l0 hB hF (hS _ R0) hc0 _ hx1)) (fun _ => o_q rfl rfl (q_gtr rfl rfl) (o_q rfl rfl (q_asg rfl) (o_end (za1 (c_ret ?_)))))
  have e0_ := si_ h; clear h
  subst e0_
  exact x_r1 () Try.results139 (zal rfl) rfl (fun w h => za5 [] dc_ rfl w h)

def slices_IndexFunc_int_int_2.l0 (k : Nat) : (List (List Int)) → Int → Option ((Int) ⊕ (Unit))
  | [], i1 => some (.inr ())
  | y2 :: ys3, i1 => (impl_IsPlan_1.f k y2).bind fun b15 => if b15 = true then (some (.inl i1)) else (slices_IndexFunc_int_int_2.l0 k ys3 (i1 + 1))
def slices_IndexFunc_int_int_2.f (k : Nat) (l0 : List (List Int)) : Option Int := (slices_IndexFunc_int_int_2.l0 k l0 0).bind fun o_ => match o_ with | .inl r_ => some r_ | .inr _ => some (-1)
theorem slices_IndexFunc_int_int_2.calls (k : Nat) {w0 ws : World} {P0 : Nat → Prop} (A0 : Option Addr) (c0 : Nat) (n0 : Nat) (H0 : Hd) (l0 : List (List Int)) (Z : Below w0.heap.size w0 ws) (hF : Fr w0 ws P0 [] ws) (R0 : Stable ws P0 (fun w => Kd.C (gk 3 (Kd.int .i64)) w A0 n0 (zp H0 l0))) (hc0 : n0 ≤ c0) (r_1 : Int) (h : slices_IndexFunc_int_int_2.f k l0 = some r_1) :
    Calls Try.prog 156 #[.slice A0 n0 c0, .func (.func 139) #[] #[]] ws (Post1 w0 ws P0 (fun (_ : Unit) => .int .i64 r_1) (fun (_ : Unit) => [])) := by
  unfold slices_IndexFunc_int_int_2.f at h
  obtain rfl := (zp_len _ _).symm.trans (R0 ws (KeptB.refl _ _)).1
  refine enter Try.func156 rfl Try.ntmps156 rfl hF (c_seq (za0 (o_q rfl rfl (q_asg rfl) (o_end (za1 (c_seq (c_seq (za0 (o_q rfl rfl (za2 rfl) ?_)))))))))
  refine o_q rfl rfl (q_len Try.underlying47 rfl) (o_q rfl rfl (za2 rfl) (o_end (za1 (zai (za7 h (fun o9 hl8 hR7 => ?_) rfl)))))
  clear h
  refine c_fact (p := l0.length ≤ 9223372036854775807) (fun w h => (R0.now Z h).2.1) (fun hm6 => zaw (σ := (List (List Int)) × Int) (fun k4 ((ys3, i1) : (List (List Int)) × Int) => Rg l0 i1 ys3 ∧ ys3.length = k4 ∧ slices_IndexFunc_int_int_2.l0 k ys3 i1 = some o9) [4, 5, 8, 9, 10, 11, 12, 13, 14, 15, 16, 17, 18] (fun ((ys3, i1) : (List (List Int)) × Int) => [(8, .int .i64 i1)]) (fun ((ys3, i1) : (List (List Int)) × Int) => []) l0.length (l0, 0) ⟨Rg.start _, rfl, hl8⟩ ⟨rfl, trivial⟩ (fun w h => h) (fun k4 => cur2 (listC (fun i1 U10 hJ_ => ?_) (fun y2 ys3 i1 U10 hJ_ => ?_))))
  · skip
    clear hl8
    have hr5 := hJ_.1; have hk11 := hJ_.2.1; have h := hJ_.2.2; clear hJ_
    replace h : slices_IndexFunc_int_int_2.l0 k [] i1 = some o9 := h
    rw [slices_IndexFunc_int_int_2.l0] at h
    refine c_seq (za0 (o_q rfl rfl (q_lss rfl rfl) (o_end (za1 (c_seq (c_false (vb_ hr5.ge) (zb2 (za8 (za8 ?_)))))))))
    have e_ := si_ h; replace h := hR7; rw [← e_] at h; clear e_
    refine x_hit (za1 (c_seq (za0 (o_q rfl rfl (q_asg rfl) (o_end (za1 (c_ret ?_)))))))
    have e0_ := si_ h; clear h
    subst e0_
    exact x_r1 () Try.results156 (zal rfl) rfl (fun w h => za5 [] dc_ rfl w h)
  · skip
    clear hl8
    have hr5 := hJ_.1; have hk11 := hJ_.2.1; have h := hJ_.2.2; clear hJ_
    replace h : slices_IndexFunc_int_int_2.l0 k (y2 :: ys3) i1 = some o9 := h
    rw [slices_IndexFunc_int_int_2.l0] at h
    refine c_seq (za0 (o_q rfl rfl (q_lss rfl rfl) (o_end (za1 (c_seq (zb8 (vb_ hr5.lt) (zam (za1 (c_seq ?_)))))))))
    refine zai (c_seq (za0 (o_q rfl rfl (za2 rfl) (o_q rfl rfl (q_asg rfl) (o_end (za1 (c_seq (za0 (o_q rfl rfl (za2 rfl) ?_)))))))))
    refine o_q rfl rfl (za2 rfl) (o_q rfl rfl (za2 rfl) (zb4 (p := Sh A0 l0.length (zp H0 l0).length) (fun w h => f_sh (dk := (gk 3 (Kd.int .i64))) h (fun w h => R0.now Z h)) (fun hq12 => o_q rfl rfl (q_ix Try.underlying47 Z23 rfl rfl hq12 (gt_zp hr5.get)) (zb4 (p := y2.length ≤ hC H0 i1) (fun w h => (K_in (R0.now Z h) hr5.get).1) (fun hc13 => o_q rfl rfl (q_lde (off := 0) Y23 rfl rfl (fun w h => R0.now Z h) (gt_zp hr5.get) (fun _ _ h => h.1) rfl) (za7 h (fun b15 hx14 h => ?_) rfl))))))
    refine o_e rfl (za6 0 Z Try.func139 N139 rfl rfl rfl (fun w P1 hF hB hS hT => impl_IsPlan_1.calls k (hA H0 i1) (hC H0 i1) y2.length y2 hB hF (stab_in (hS _ R0) hr5.get) hc13 _ hx14)) (fun _ => o_end (za1 (zaq _ rfl (fun hb16 => ?_) (fun hb16 => ?_))))
    · skip
      replace h := bb_t hb16 h
      refine c_seq (za0 (o_q rfl rfl (za2 rfl) (o_q rfl rfl (q_asg rfl) (o_end (za1 (c_ret (zat (zab (zab ?_)))))))))
      have e_ := si_ h; replace h := hR7; rw [← e_] at h; clear e_
      refine zat (zab ?_)
      have e0_ := si_ h; clear h
      subst e0_
      exact x_r1 () Try.results156 (zal rfl) rfl (fun w h => za5 [] dc_ rfl w h)
    · skip
      replace h := bb_f hb16 h
      refine zam (zak (za1 (za0 (o_q rfl rfl (q_up rfl rfl (hr5.up hm6)) (o_q rfl rfl (za2 rfl) (o_end (zan ys3.length (ys3, i1 + 1) (by rw [← hk11]; exact Nat.lt_succ_self _) ⟨hr5.step, rfl, h⟩ ⟨rfl, trivial⟩ (fun w h => za5 [] dc_ rfl w h) ?_)))))))
      exact of_

def slices_ContainsFunc_int_int_2.f (k : Nat) (l0 : List (List Int)) : Option Bool := (slices_IndexFunc_int_int_2.f k l0).bind fun i2 => some (decide (0 ≤ i2))
theorem slices_ContainsFunc_int_int_2.calls (k : Nat) {w0 ws : World} {P0 : Nat → Prop} (A0 : Option Addr) (c0 : Nat) (n0 : Nat) (H0 : Hd) (l0 : List (List Int)) (Z : Below w0.heap.size w0 ws) (hF : Fr w0 ws P0 [] ws) (R0 : Stable ws P0 (fun w => Kd.C (gk 3 (Kd.int .i64)) w A0 n0 (zp H0 l0))) (hc0 : n0 ≤ c0) (r_1 : Bool) (h : slices_ContainsFunc_int_int_2.f k l0 = some r_1) :
    Calls Try.prog 137 #[.slice A0 n0 c0, .func (.func 139) #[] #[]] ws (Post1 w0 ws P0 (fun (_ : Unit) => .bool r_1) (fun (_ : Unit) => [])) := by
  unfold slices_ContainsFunc_int_int_2.f at h
  obtain rfl := (zp_len _ _).symm.trans (R0 ws (KeptB.refl _ _)).1
  refine enter Try.func137 rfl Try.ntmps137 rfl hF (c_seq (za0 (o_q rfl rfl (q_asg rfl) (o_end (za1 (c_seq (za0 (o_q rfl rfl (za2 rfl) (o_q rfl rfl (za2 rfl) ?_)))))))))
  refine za7 h (fun i2 hx1 h => ?_) rfl
  refine o_e rfl (za6 0 Z Try.func156 N156 rfl rfl rfl (fun w P1 hF hB hS hT => slices_IndexFunc_int_int_2.calls k A0 c0 l0.length H0 l0 hB hF (hS _ R0) hc0 _ hx1)) (fun _ => o_q rfl rfl (q_geq rfl rfl) (o_q rfl rfl (q_asg rfl) (o_end (za1 (c_ret ?_)))))
  have e0_ := si_ h; clear h
  subst e0_
  exact x_r1 () Try.results137 (zal rfl) rfl (fun w h => za5 [] dc_ rfl w h)

def impl_IsPlan.f (k : Nat) (a0_0 : Int) (l0_1 : List SStep) (l0_2 : List Int) : Option Bool := (impl_Plan_formed.f a0_0 l0_1 l0_2).bind fun b4 => if b4 = true then ((impl_Plan_exponents.f a0_0 l0_1 l0_2).bind fun l7 => (slices_ContainsFunc_int_int_2.f k l7).bind fun b12 => some (!b12)) else (some false)
theorem impl_IsPlan.calls (k : Nat) {w0 ws : World} {P0 : Nat → Prop} (a0_0 : Int) (A0_1 : Option Addr) (c0_1 : Nat) (n0_1 : Nat) (l0_1 : List SStep) (A0_2 : Option Addr) (c0_2 : Nat) (n0_2 : Nat) (l0_2 : List Int) (Z : Below w0.heap.size w0 ws) (hF : Fr w0 ws P0 [] ws) (R0_1 : Stable ws P0 (fun w => Kd.C kStep w A0_1 n0_1 l0_1)) (hc0_1 : n0_1 ≤ c0_1) (R0_2 : Stable ws P0 (fun w => Kd.C (Kd.int .i64) w A0_2 n0_2 l0_2)) (hc0_2 : n0_2 ≤ c0_2) (r_1 : Bool) (h : impl_IsPlan.f k a0_0 l0_1 l0_2 = some r_1) :
    Calls Try.prog 90 #[.agg #[.int .i64 a0_0, .slice A0_1 n0_1 c0_1, .slice A0_2 n0_2 c0_2]] ws (Post1 w0 ws P0 (fun (_ : Unit) => .bool r_1) (fun (_ : Unit) => [])) := by
  unfold impl_IsPlan.f at h
  obtain rfl := (R0_1 ws (KeptB.refl _ _)).1
  obtain rfl := (R0_2 ws (KeptB.refl _ _)).1
  refine enter Try.func90 rfl Try.ntmps90 rfl hF (c_seq (za0 (o_e rfl (e_box rfl) (fun g1 => o_q rfl rfl (q_asg rfl) (o_end (za1 (c_seq (za0 (za7 h (fun b4 hx3 h => ?_) rfl)))))))))
  refine o_e rfl (za6 0 Z Try.func136 N136 rfl rfl rfl (fun w P1 hF hB hS hT => impl_Plan_formed.calls g1 a0_0 A0_1 c0_1 l0_1.length l0_1 A0_2 c0_2 l0_2.length l0_2 hB hF (hS _ R0_1) hc0_1 (hS _ R0_2) hc0_2 (hT 0 _ rfl).box _ hx3)) (fun _ => o_q rfl rfl (za2 rfl) (byB b4 (fun hb5 => ?_) (fun hb5 => ?_)))
  · replace h := bb_t hb5 h
    refine za7 h (fun l7 hx6 h => ?_) rfl
    refine o_ew (zae rfl rfl rfl (vb_ hb5)) (za6 0 Z Try.func138 N138 rfl rfl rfl (fun w P1 hF hB hS hT => impl_Plan_exponents.calls g1 a0_0 A0_1 c0_1 l0_1.length l0_1 A0_2 c0_2 l0_2.length l0_2 hB hF (hS _ R0_1) hc0_1 (hS _ R0_2) hc0_2 (hT 0 _ rfl).box _ hx6)) (cur3 (fun A8 c9 H10 => za7 h (fun b12 hx11 h => ?_) rfl))
    refine o_ew (zae rfl rfl rfl (vb_ hb5)) (za6 0 Z Try.func137 N137 rfl rfl rfl (fun w P1 hF hB hS hT => slices_ContainsFunc_int_int_2.calls k A8 c9 l7.length H10 l7 hB hF (hT 0 _ rfl).row (hT 0 _ rfl).cap _ hx11)) (fun _ => o_w (zae rfl rfl rfl (vb_ hb5)) rfl (q_not rfl) (o_q rfl rfl (zax true (vb_ hb5) rfl) (o_q rfl rfl (q_asg rfl) (o_end (za1 (c_ret ?_))))))
    have e0_ := si_ h; clear h
    subst e0_
    exact x_r1 () Try.results90 (zal rfl) rfl (fun w h => za5 [] dc_ rfl w h)
  · replace h := bb_f hb5 h
    refine o_n (d := 5) (zaa rfl rfl rfl (vb_ hb5) rfl) (Eq.refl (some 5)) (o_n (d := 6) (zaa rfl rfl rfl (vb_ hb5) rfl) (Eq.refl (some 6)) (o_n (d := 7) (zaa rfl rfl rfl (vb_ hb5) rfl) (Eq.refl (some 7)) (o_q rfl rfl (zax false (vb_ hb5) rfl) (o_q rfl rfl (q_asg rfl) (o_end (za1 (c_ret ?_)))))))
    have e0_ := si_ h; clear h
    subst e0_
    exact x_r1 () Try.results90 (zal rfl) rfl (fun w h => za5 [] dc_ rfl w h)

def spec_l1In.f (a0 : Int) (a1 : Int) (a2 : Int) : Option Bool := if a1 ≤ a0 then (some (decide (a0 ≤ a2))) else (some false)
theorem spec_l1In.calls {w0 ws : World} {P0 : Nat → Prop} (a0 : Int) (a1 : Int) (a2 : Int) (Z : Below w0.heap.size w0 ws) (hF : Fr w0 ws P0 [] ws)  (r_1 : Bool) (h : spec_l1In.f a0 a1 a2 = some r_1) :
    Calls Try.prog 107 #[.int .i64 a0, .int .i64 a1, .int .i64 a2] ws (Post1 w0 ws P0 (fun (_ : Unit) => .bool r_1) (fun (_ : Unit) => [])) := by
  unfold spec_l1In.f at h
  refine enter Try.func107 rfl Try.ntmps107 rfl hF (c_seq (za0 (o_q rfl rfl (q_asg rfl) (o_end (za1 (c_seq (za0 (o_q rfl rfl (za2 rfl) (o_q rfl rfl (za2 rfl) ?_)))))))))
  refine o_q rfl rfl (q_geq rfl rfl) (o_q rfl rfl (za2 rfl) (byB (decide (a1 ≤ a0)) (fun hb1 => ?_) (fun hb1 => ?_)))
  · replace h := br_t hb1 h
    refine o_w (zae rfl rfl rfl (vb_ hb1)) rfl (za2 rfl) (o_w (zae rfl rfl rfl (vb_ hb1)) rfl (za2 rfl) (o_w (zae rfl rfl rfl (vb_ hb1)) rfl (q_leq rfl rfl) (o_q rfl rfl (zax true (vb_ hb1) rfl) (o_q rfl rfl (q_asg rfl) (o_end (za1 (c_ret ?_)))))))
    have e0_ := si_ h; clear h
    subst e0_
    exact x_r1 () Try.results107 (zal rfl) rfl (fun w h => za5 [] dc_ rfl w h)
  · replace h := br_f hb1 h
    refine o_n (d := 11) (zaa rfl rfl rfl (vb_ hb1) rfl) (Eq.refl (some 11)) (o_n (d := 12) (zaa rfl rfl rfl (vb_ hb1) rfl) (Eq.refl (some 12)) (o_n (d := 13) (zaa rfl rfl rfl (vb_ hb1) rfl) (Eq.refl (some 13)) (o_q rfl rfl (zax false (vb_ hb1) rfl) (o_q rfl rfl (q_asg rfl) (o_end (za1 (c_ret ?_)))))))
    have e0_ := si_ h; clear h
    subst e0_
    exact x_r1 () Try.results107 (zal rfl) rfl (fun w h => za5 [] dc_ rfl w h)

def spec_chNumber.f (a0 : Int) : Option Bool := (spec_l1In.f a0 1 1000000).bind fun b2 => some b2
theorem spec_chNumber.calls {w0 ws : World} {P0 : Nat → Prop} (a0 : Int) (Z : Below w0.heap.size w0 ws) (hF : Fr w0 ws P0 [] ws)  (r_1 : Bool) (h : spec_chNumber.f a0 = some r_1) :
    Calls Try.prog 49 #[.int .i64 a0] ws (Post1 w0 ws P0 (fun (_ : Unit) => .bool r_1) (fun (_ : Unit) => [])) := by
  unfold spec_chNumber.f at h
  refine enter Try.func49 rfl Try.ntmps49 rfl hF (c_seq (za0 (o_q rfl rfl (q_asg rfl) (o_end (za1 (c_seq (za0 (o_q rfl rfl (za2 rfl) (za7 h (fun b2 hx1 h => ?_) rfl)))))))))
  refine o_e rfl (za6 0 Z Try.func107 N107 rfl rfl rfl (fun w P1 hF hB hS hT => spec_l1In.calls a0 1 1000000 hB hF _ hx1)) (fun _ => o_q rfl rfl (q_asg rfl) (o_end (za1 (c_ret ?_))))
  have e0_ := si_ h; clear h
  subst e0_
  exact x_r1 () Try.results49 (zal rfl) rfl (fun w h => za5 [] dc_ rfl w h)

def spec_meDigits.l0 (a1 : Int) : Nat → (List Int) → Int → Option (List Int)
  | 0, _, _ => none
  | k8 + 1, l2, i5 => if 0 < i5 then ((nz a1).bind fun _ => (ap l2 ([i5.tmod a1] : List Int)).bind fun l21 => (nz a1).bind fun _ => spec_meDigits.l0 a1 k8 l21 (w64 (i5.tdiv a1))) else (some l2)
def spec_meDigits.f (k : Nat) (a0 : Int) (a1 : Int) : Option (List Int) := (spec_meDigits.l0 a1 k ([] : List Int) a0).bind fun l2 => some l2
theorem spec_meDigits.calls (k : Nat) {w0 ws : World} {P0 : Nat → Prop} (a0 : Int) (a1 : Int) (Z : Below w0.heap.size w0 ws) (hF : Fr w0 ws P0 [] ws)  (r_1 : List Int) (h : spec_meDigits.f k a0 a1 = some r_1) :
    Calls Try.prog 108 #[.int .i64 a0, .int .i64 a1] ws (Post1 w0 ws P0 (fun ((q_2, q_3) : (Option Addr) × Nat) => .slice q_2 r_1.length q_3) (fun ((q_2, q_3) : (Option Addr) × Nat) => [row (Kd.int .i64) 3 (.slice q_2 r_1.length q_3) r_1])) := by
  unfold spec_meDigits.f at h
  refine enter Try.func108 rfl Try.ntmps108 rfl hF (c_seq (za0 (o_q rfl rfl (q_asg rfl) (o_end (za1 (c_seq (za0 (o_q rfl rfl (q_asg rfl) (o_end ?_)))))))))
  refine za1 (c_seq (zai (c_nil (Kd.int .i64) 3 (za7 h (fun o13 hl12 hR11 => ?_) rfl))))
  clear h
  refine zaw (σ := (List Int) × Int × (Option Addr) × Nat) (fun k8 ((l2, i5, A3, c4) : (List Int) × Int × (Option Addr) × Nat) => spec_meDigits.l0 a1 k8 l2 i5 = some o13) [0, 5, 6, 7, 8, 9, 10, 11, 12, 13, 14, 15, 16] (fun ((l2, i5, A3, c4) : (List Int) × Int × (Option Addr) × Nat) => [(0, .int .i64 i5), (5, .slice A3 l2.length c4)]) (fun ((l2, i5, A3, c4) : (List Int) × Int × (Option Addr) × Nat) => [row (Kd.int .i64) 3 (.slice A3 l2.length c4) l2]) k (([] : List Int), a0, none, 0) hl12 ⟨rfl, rfl, trivial⟩ (fun w h => h) (natC (cur4 (fun l2 i5 A3 c4 => fun U14 hJ_ => ?_)) (fun k8 => (cur4 (fun l2 i5 A3 c4 => fun U14 hJ_ => ?_))))
  · skip
    replace hJ_ : spec_meDigits.l0 a1 0 l2 i5 = some o13 := hJ_
    rw [spec_meDigits.l0] at hJ_
    exact noneE hJ_
  · skip
    clear hl12
    have h := hJ_; clear hJ_
    replace h : spec_meDigits.l0 a1 (k8 + 1) l2 i5 = some o13 := h
    rw [spec_meDigits.l0] at h
    refine c_seq (c_seq (za0 (o_q rfl rfl (za2 rfl) (o_q rfl rfl (q_gtr rfl rfl) (o_end (za1 (zaq _ rfl (fun hb16 => ?_) (fun hb16 => ?_))))))))
    · skip
      replace h := br_t hb16 h
      refine zam (za1 (c_seq (zai (za0 (o_q rfl rfl (za2 rfl) (o_q rfl rfl (za2 rfl) (o_q rfl rfl (za2 rfl) (za7 h (fun _ hz17 h => ?_) rfl))))))))
      refine o_q rfl rfl (q_rem rfl rfl (nz_ne hz17)) (o_e rfl (e_lit (vs := [(0, .int .i64 (i5.tmod a1))]) (cs := [.int .i64 (i5.tmod a1)]) (Kd.int .i64) ([i5.tmod a1] : List Int) Try.underlying23 I3 dc_ rfl dc_ rfl rfl (fun _ _ => Kd.zad _)) (cur2 (fun A18 c19 => za7 h (fun l21 ha22 h => ?_) rfl)))
      refine o_e rfl (e_app (i := 1) (j := 0) Try.underlying23 I3 rfl dc_ dc_ rfl rfl rfl rfl rfl ha22) (cur2 (fun A23 c24 => o_q rfl rfl (q_asg rfl) (o_end (zak (za1 (za0 (o_q rfl rfl (za2 rfl) (o_q rfl rfl (za2 rfl) (za7 h (fun _ hz25 h => ?_) rfl)))))))))
      refine o_q rfl rfl (q_quo64 rfl rfl (nz_ne hz25)) (o_q rfl rfl (q_asg rfl) (o_end (zan k8 (l21, w64 (i5.tdiv a1), A23, c24) (Nat.lt_succ_self _) h ⟨rfl, rfl, trivial⟩ (fun w h => za5 [1] dc_ rfl w h) ?_)))
      exact of_
    · skip
      replace h := br_f hb16 h
      refine zb2 (za8 (za8 ?_))
      have e_ := si_ h; replace h := hR11; rw [← e_] at h; clear e_
      refine x_hit (za1 (c_seq (za0 (o_q rfl rfl (za2 rfl) (o_q rfl rfl (q_asg rfl) (o_end (za1 (c_ret ?_))))))))
      have e0_ := si_ h; clear h
      subst e0_
      exact x_r1 (A3, c4) Try.results108 (zal rfl) rfl (fun w h => za5 [0] dc_ rfl w h)

def spec_l1Least.f (a0 : Int) (a1 : Int) : Option Int := if a0 < a1 then (some a0) else (some a1)
theorem spec_l1Least.calls {w0 ws : World} {P0 : Nat → Prop} (a0 : Int) (a1 : Int) (Z : Below w0.heap.size w0 ws) (hF : Fr w0 ws P0 [] ws)  (r_1 : Int) (h : spec_l1Least.f a0 a1 = some r_1) :
    Calls Try.prog 89 #[.int .i64 a0, .int .i64 a1] ws (Post1 w0 ws P0 (fun (_ : Unit) => .int .i64 r_1) (fun (_ : Unit) => [])) := by
  unfold spec_l1Least.f at h
  refine enter Try.func89 rfl Try.ntmps89 rfl hF (c_seq (za0 (o_q rfl rfl (q_asg rfl) (o_end (za1 (c_seq (c_seq (za0 (o_q rfl rfl (za2 rfl) ?_)))))))))
  refine o_q rfl rfl (za2 rfl) (o_q rfl rfl (q_lss rfl rfl) (o_end (za1 (zaq _ rfl (fun hb1 => ?_) (fun hb1 => ?_)))))
  · skip
    replace h := br_t hb1 h
    refine c_seq (za0 (o_q rfl rfl (za2 rfl) (o_q rfl rfl (q_asg rfl) (o_end (za1 (c_ret (zab ?_)))))))
    have e0_ := si_ h; clear h
    subst e0_
    exact x_r1 () Try.results89 (zal rfl) rfl (fun w h => za5 [] dc_ rfl w h)
  · skip
    replace h := br_f hb1 h
    refine zam (za1 (c_seq (za0 (o_q rfl rfl (za2 rfl) (o_q rfl rfl (q_asg rfl) (o_end (za1 (c_ret ?_))))))))
    have e0_ := si_ h; clear h
    subst e0_
    exact x_r1 () Try.results89 (zal rfl) rfl (fun w h => za5 [] dc_ rfl w h)

def spec_l1Most.f (a0 : Int) (a1 : Int) : Option Int := if a1 < a0 then (some a0) else (some a1)
theorem spec_l1Most.calls {w0 ws : World} {P0 : Nat → Prop} (a0 : Int) (a1 : Int) (Z : Below w0.heap.size w0 ws) (hF : Fr w0 ws P0 [] ws)  (r_1 : Int) (h : spec_l1Most.f a0 a1 = some r_1) :
    Calls Try.prog 88 #[.int .i64 a0, .int .i64 a1] ws (Post1 w0 ws P0 (fun (_ : Unit) => .int .i64 r_1) (fun (_ : Unit) => [])) := by
  unfold spec_l1Most.f at h
  refine enter Try.func88 rfl Try.ntmps88 rfl hF (c_seq (za0 (o_q rfl rfl (q_asg rfl) (o_end (za1 (c_seq (c_seq (za0 (o_q rfl rfl (za2 rfl) ?_)))))))))
  refine o_q rfl rfl (za2 rfl) (o_q rfl rfl (q_gtr rfl rfl) (o_end (za1 (zaq _ rfl (fun hb1 => ?_) (fun hb1 => ?_)))))
  · skip
    replace h := br_t hb1 h
    refine c_seq (za0 (o_q rfl rfl (za2 rfl) (o_q rfl rfl (q_asg rfl) (o_end (za1 (c_ret (zab ?_)))))))
    have e0_ := si_ h; clear h
    subst e0_
    exact x_r1 () Try.results88 (zal rfl) rfl (fun w h => za5 [] dc_ rfl w h)
  · skip
    replace h := br_f hb1 h
    refine zam (za1 (c_seq (za0 (o_q rfl rfl (za2 rfl) (o_q rfl rfl (q_asg rfl) (o_end (za1 (c_ret ?_))))))))
    have e0_ := si_ h; clear h
    subst e0_
    exact x_r1 () Try.results88 (zal rfl) rfl (fun w h => za5 [] dc_ rfl w h)

def spec_plStep.f (a0 : Int) (a1 : Int) : Option SStep := (spec_l1Least.f a0 a1).bind fun i4 => (spec_l1Most.f a0 a1).bind fun i6 => some (⟨i4, i6⟩ : SStep)
theorem spec_plStep.calls {w0 ws : World} {P0 : Nat → Prop} (a0 : Int) (a1 : Int) (Z : Below w0.heap.size w0 ws) (hF : Fr w0 ws P0 [] ws)  (r_1 : SStep) (h : spec_plStep.f a0 a1 = some r_1) :
    Calls Try.prog 146 #[.int .i64 a0, .int .i64 a1] ws (Post1 w0 ws P0 (fun (_ : Unit) => .agg #[.int .i64 r_1.f0, .int .i64 r_1.f1]) (fun (_ : Unit) => [])) := by
  unfold spec_plStep.f at h
  refine enter Try.func146 rfl Try.ntmps146 rfl hF (c_seq (za0 (o_e rfl (zaf V107 rfl) (fun g1 => o_end (za1 (c_seq (za0 (o_q rfl rfl (za2 rfl) (o_q rfl rfl (za2 rfl) ?_)))))))))
  refine za7 h (fun i4 hx3 h => ?_) rfl
  refine o_e rfl (za6 0 Z Try.func89 N89 rfl rfl rfl (fun w P1 hF hB hS hT => spec_l1Least.calls a0 a1 hB hF _ hx3)) (fun _ => o_q rfl rfl (za2 rfl) (o_q rfl rfl (za2 rfl) (za7 h (fun i6 hx5 h => ?_) rfl)))
  refine o_e rfl (za6 0 Z Try.func88 N88 rfl rfl rfl (fun w P1 hF hB hS hT => spec_l1Most.calls a0 a1 hB hF _ hx5)) (fun _ => o_q rfl rfl (q_build (vs := [(0, .int .i64 i4), (1, .int .i64 i6)]) (cs := [.int .i64 i4, .int .i64 i6]) rfl rfl) (o_e rfl (zah (i := 0) rfl rfl rfl Z107 rfl rfl) (fun _ => o_end (za1 (c_ret ?_)))))
  have e0_ := si_ h; clear h
  subst e0_
  exact x_r1 () Try.results146 (zb5 rfl G107 Z107 (fun w h => h.za9 (i := 0) rfl) rfl) rfl (fun w h => za5 [] dc_ rfl w h)

def spec_meTimes.f (a0_0 : Int) (l0_1 : List SStep) (l0_2 : List Int) (a1 : Int) (a2 : Int) : Option (List SStep) := ((ap ([] : List SStep) l0_1).bind fun l1216 => (spec_plStep.f a1 a2).bind fun z1397 => (ap l1216 ([z1397] : List SStep)).bind fun l1516 => some l1516).bind fun l907 => some l907
theorem spec_meTimes.calls {w0 ws : World} {P0 : Nat → Prop} (a0_0 : Int) (A0_1 : Option Addr) (c0_1 : Nat) (n0_1 : Nat) (l0_1 : List SStep) (A0_2 : Option Addr) (c0_2 : Nat) (n0_2 : Nat) (l0_2 : List Int) (a1 : Int) (a2 : Int) (Z : Below w0.heap.size w0 ws) (hF : Fr w0 ws P0 [] ws) (R0_1 : Stable ws P0 (fun w => Kd.C kStep w A0_1 n0_1 l0_1)) (hc0_1 : n0_1 ≤ c0_1) (R0_2 : Stable ws P0 (fun w => Kd.C (Kd.int .i64) w A0_2 n0_2 l0_2)) (hc0_2 : n0_2 ≤ c0_2) (r_1 : List SStep) (h : spec_meTimes.f a0_0 l0_1 l0_2 a1 a2 = some r_1) :
    Calls Try.prog 110 #[.agg #[.int .i64 a0_0, .slice A0_1 n0_1 c0_1, .slice A0_2 n0_2 c0_2], .int .i64 a1, .int .i64 a2] ws (Post1 w0 ws P0 (fun ((q_2, q_3) : (Option Addr) × Nat) => .tuple #[.agg #[.int .i64 a0_0, .slice q_2 r_1.length q_3, .slice none 0 0], .int .i64 (w64 (a0_0 + (l0_1.length : Int)))]) (fun ((q_2, q_3) : (Option Addr) × Nat) => [row kStep 107 (.slice q_2 r_1.length q_3) r_1, row (Kd.int .i64) 3 (.slice none 0 0) []])) := by
  unfold spec_meTimes.f at h
  obtain rfl := (R0_1 ws (KeptB.refl _ _)).1
  obtain rfl := (R0_2 ws (KeptB.refl _ _)).1
  refine enter Try.func110 rfl Try.ntmps110 rfl hF (c_seq (za0 (o_e rfl (e_box rfl) (fun g1 => o_e rfl (zaf V25 rfl) (fun g3 => o_q rfl rfl (q_asg rfl) (o_end (za1 (za7 h (fun o910 hl911 hR912 => ?_) rfl))))))))
  clear h
  refine c_cutJ (σ := (List SStep) × Nat × (Option Addr) × Nat) (fun (l907, g906, A908, c909) => some l907 = some o910) [8, 9, 10, 11, 12, 13, 14, 15, 16, 17, 18, 19, 20] (fun (l907, g906, A908, c909) => [(8, .pointer (some ⟨g906, 0, none⟩))]) (fun (l907, g906, A908, c909) => [box g1 25 #[.int .i64 a0_0, .slice A0_1 l0_1.length c0_1, .slice A0_2 l0_2.length c0_2], box g3 25 #[.int .i64 0, .slice none 0 0, .slice none 0 0], box g906 25 #[.int .i64 a0_0, .slice A908 l907.length c909, .slice none 0 0], row kStep 107 (.slice A908 l907.length c909) l907]) ?_ ?_
  · skip
    have h := hl911; clear hl911
    clear hR912
    refine za7 h (fun l1216 ha1217 h => ?_) rfl
    refine za7 h (fun z1397 hx1396 h => ?_) rfl
    refine za7 h (fun l1516 ha1517 h => ?_) rfl
    refine a_start (ds := []) MO rfl (za4 0 rfl rfl rfl kr_ (fun _ _ _ h => h) (q_f F25_0 rfl) (zau 1 rfl rfl rfl kr_ (fun _ _ _ h => h) (fun w h => h) (q_ldb Y3 rfl (fun w h => h.za9 (i := 1) rfl) rfl) (za4 3 rfl rfl rfl kr_ (fun _ _ _ h => h) (q_f F25_1 rfl) (zau 4 rfl rfl rfl kr_ (fun _ _ _ h => h) (fun w h => h) (q_ldb Y22 rfl (fun w h => h.za9 (i := 1) rfl) rfl) (za4 6 rfl rfl rfl kr_ (fun _ _ _ h => h) (za2 rfl) (za4 7 rfl rfl rfl kr_ (fun _ _ _ h => h) (za2 rfl) (a_two 2 12 rfl rfl rfl rfl kr_ rfl rfl (e_lit0 kStep Try.underlying22 I107) (fun s w h => za3 [some 1, some 2] dc_ w h rfl) (zaf V25 rfl) (fun s w h => za3 [some 1, some 2] dc_ w h rfl) (cur2 (fun A1036 c1037 => ?_)) (fun g1636 => ?_))))))))
    · skip
      refine a_two 5 12 rfl rfl rfl rfl kr_ rfl rfl (e_appr (i := 0) Try.underlying22 I107 rfl dc_ dc_ (fun _ _ _ _ h => h) rfl (fun w h => R0_1.now Z h) rfl rfl ha1217) (fun s w h => za3 [some 1, some 2] dc_ w h rfl) (zaf V25 rfl) (fun s w h => za3 [some 2, some 3] dc_ w h rfl) (cur2 (fun A1218 c1219 => ?_)) (fun g1636 => ?_)
      · skip
        refine a_two 8 12 rfl rfl rfl rfl kr_ rfl rfl (za6 0 Z Try.func146 N146 rfl rfl rfl (fun w P1 hF hB hS hT => spec_plStep.calls a1 a2 hB hF _ hx1396)) (fun s w h => za3 [some 1, some 2] dc_ w h rfl) (zaf V25 rfl) (fun s w h => za3 [some 2, some 3] dc_ w h rfl) (fun _ => ?_) (fun g1636 => ?_)
        · skip
          refine a_two 9 12 rfl rfl rfl rfl kr_ rfl rfl (e_lit (vs := [(0, .agg #[.int .i64 z1397.f0, .int .i64 z1397.f1])]) (cs := [.int .i64 z1397.f0, .int .i64 z1397.f1]) kStep ([z1397] : List SStep) Try.underlying22 I107 dc_ rfl dc_ rfl rfl (fun _ _ => reps_flat _)) (fun s w h => za3 [some 2, some 3] dc_ w h rfl) (zaf V25 rfl) (fun s w h => za3 [some 2, some 3] dc_ w h rfl) (cur2 (fun A1456 c1457 => ?_)) (fun g1636 => ?_)
          · skip
            refine a_two 10 12 rfl rfl rfl rfl kr_ rfl rfl (e_app (i := 1) (j := 0) Try.underlying22 I107 rfl dc_ dc_ rfl rfl rfl rfl rfl ha1517) (fun s w h => za3 [some 2, some 3] dc_ w h rfl) (zaf V25 rfl) (fun s w h => za3 [some 3, some 4] dc_ w h rfl) (cur2 (fun A1518 c1519 => ?_)) (fun g1636 => ?_)
            · skip
              refine za4 11 rfl rfl rfl kr_ (fun _ _ _ h => h) (q_build (vs := [(0, .int .i64 a0_0), (1, .slice A1518 l1516.length c1519)]) (cs := [.int .i64 a0_0, .slice A1518 l1516.length c1519, .slice none 0 0]) rfl rfl) (a_one 12 rfl rfl kr_ rfl (zaf V25 rfl) (fun s w h => za3 [some 3, some 4] dc_ w h rfl) (fun g1636 => a_one 13 rfl rfl kr_ rfl (zah (i := 0) rfl rfl rfl Z25 rfl rfl) (fun s w h => za3 [some 3, some 4] dc_ w h rfl) (fun _ => zao kr_ (zaj (l1516, g1636, A1518, c1519) h ⟨rfl, trivial⟩ (fun w h => za5 [4, 3, 0, 2] dc_ rfl w h) ?_))))
              exact of_
            · skip
              refine a_one 10 rfl rfl kr_ rfl (e_app (i := 2) (j := 1) Try.underlying22 I107 rfl dc_ dc_ rfl rfl rfl rfl rfl ha1517) (fun s w h => za3 [some 3, some 4] dc_ w h rfl) (cur2 (fun A1518 c1519 => za4 11 rfl rfl rfl kr_ (fun _ _ _ h => h) (q_build (vs := [(0, .int .i64 a0_0), (1, .slice A1518 l1516.length c1519)]) (cs := [.int .i64 a0_0, .slice A1518 l1516.length c1519, .slice none 0 0]) rfl rfl) (a_one 13 rfl rfl kr_ rfl (zah (i := 0) rfl rfl rfl Z25 rfl rfl) (fun s w h => za3 [some 3, some 4] dc_ w h rfl) (fun _ => zao kr_ (zaj (l1516, g1636, A1518, c1519) h ⟨rfl, trivial⟩ (fun w h => za5 [4, 3, 0, 2] dc_ rfl w h) ?_)))))
              exact of_
          · skip
            refine a_one 9 rfl rfl kr_ rfl (e_lit (vs := [(0, .agg #[.int .i64 z1397.f0, .int .i64 z1397.f1])]) (cs := [.int .i64 z1397.f0, .int .i64 z1397.f1]) kStep ([z1397] : List SStep) Try.underlying22 I107 dc_ rfl dc_ rfl rfl (fun _ _ => reps_flat _)) (fun s w h => za3 [some 3, some 4] dc_ w h rfl) (cur2 (fun A1456 c1457 => a_one 10 rfl rfl kr_ rfl (e_app (i := 2) (j := 0) Try.underlying22 I107 rfl dc_ dc_ rfl rfl rfl rfl rfl ha1517) (fun s w h => za3 [some 3, some 4] dc_ w h rfl) (cur2 (fun A1518 c1519 => za4 11 rfl rfl rfl kr_ (fun _ _ _ h => h) (q_build (vs := [(0, .int .i64 a0_0), (1, .slice A1518 l1516.length c1519)]) (cs := [.int .i64 a0_0, .slice A1518 l1516.length c1519, .slice none 0 0]) rfl rfl) (a_one 13 rfl rfl kr_ rfl (zah (i := 1) rfl rfl rfl Z25 rfl rfl) (fun s w h => za3 [some 3, some 4] dc_ w h rfl) (fun _ => zao kr_ (zaj (l1516, g1636, A1518, c1519) h ⟨rfl, trivial⟩ (fun w h => za5 [4, 3, 1, 2] dc_ rfl w h) ?_)))))))
            exact of_
        · skip
          refine a_one 8 rfl rfl kr_ rfl (za6 0 Z Try.func146 N146 rfl rfl rfl (fun w P1 hF hB hS hT => spec_plStep.calls a1 a2 hB hF _ hx1396)) (fun s w h => za3 [some 2, some 3] dc_ w h rfl) (fun _ => a_one 9 rfl rfl kr_ rfl (e_lit (vs := [(0, .agg #[.int .i64 z1397.f0, .int .i64 z1397.f1])]) (cs := [.int .i64 z1397.f0, .int .i64 z1397.f1]) kStep ([z1397] : List SStep) Try.underlying22 I107 dc_ rfl dc_ rfl rfl (fun _ _ => reps_flat _)) (fun s w h => za3 [some 3, some 4] dc_ w h rfl) (cur2 (fun A1456 c1457 => a_one 10 rfl rfl kr_ rfl (e_app (i := 2) (j := 0) Try.underlying22 I107 rfl dc_ dc_ rfl rfl rfl rfl rfl ha1517) (fun s w h => za3 [some 3, some 4] dc_ w h rfl) (cur2 (fun A1518 c1519 => za4 11 rfl rfl rfl kr_ (fun _ _ _ h => h) (q_build (vs := [(0, .int .i64 a0_0), (1, .slice A1518 l1516.length c1519)]) (cs := [.int .i64 a0_0, .slice A1518 l1516.length c1519, .slice none 0 0]) rfl rfl) (a_one 13 rfl rfl kr_ rfl (zah (i := 1) rfl rfl rfl Z25 rfl rfl) (fun s w h => za3 [some 3, some 4] dc_ w h rfl) (fun _ => zao kr_ (zaj (l1516, g1636, A1518, c1519) h ⟨rfl, trivial⟩ (fun w h => za5 [4, 3, 1, 2] dc_ rfl w h) ?_))))))))
          exact of_
      · skip
        refine a_one 5 rfl rfl kr_ rfl (e_appr (i := 1) Try.underlying22 I107 rfl dc_ dc_ (fun _ _ _ _ h => h) rfl (fun w h => R0_1.now Z h) rfl rfl ha1217) (fun s w h => za3 [some 2, some 3] dc_ w h rfl) (cur2 (fun A1218 c1219 => a_one 8 rfl rfl kr_ rfl (za6 0 Z Try.func146 N146 rfl rfl rfl (fun w P1 hF hB hS hT => spec_plStep.calls a1 a2 hB hF _ hx1396)) (fun s w h => za3 [some 2, some 3] dc_ w h rfl) (fun _ => a_one 9 rfl rfl kr_ rfl (e_lit (vs := [(0, .agg #[.int .i64 z1397.f0, .int .i64 z1397.f1])]) (cs := [.int .i64 z1397.f0, .int .i64 z1397.f1]) kStep ([z1397] : List SStep) Try.underlying22 I107 dc_ rfl dc_ rfl rfl (fun _ _ => reps_flat _)) (fun s w h => za3 [some 3, some 4] dc_ w h rfl) (cur2 (fun A1456 c1457 => a_one 10 rfl rfl kr_ rfl (e_app (i := 2) (j := 0) Try.underlying22 I107 rfl dc_ dc_ rfl rfl rfl rfl rfl ha1517) (fun s w h => za3 [some 3, some 4] dc_ w h rfl) (cur2 (fun A1518 c1519 => za4 11 rfl rfl rfl kr_ (fun _ _ _ h => h) (q_build (vs := [(0, .int .i64 a0_0), (1, .slice A1518 l1516.length c1519)]) (cs := [.int .i64 a0_0, .slice A1518 l1516.length c1519, .slice none 0 0]) rfl rfl) (a_one 13 rfl rfl kr_ rfl (zah (i := 1) rfl rfl rfl Z25 rfl rfl) (fun s w h => za3 [some 3, some 4] dc_ w h rfl) (fun _ => zao kr_ (zaj (l1516, g1636, A1518, c1519) h ⟨rfl, trivial⟩ (fun w h => za5 [4, 3, 1, 2] dc_ rfl w h) ?_))))))))))
        exact of_
    · skip
      refine a_one 2 rfl rfl kr_ rfl (e_lit0 kStep Try.underlying22 I107) (fun s w h => za3 [some 2, some 3] dc_ w h rfl) (cur2 (fun A1036 c1037 => a_one 5 rfl rfl kr_ rfl (e_appr (i := 0) Try.underlying22 I107 rfl dc_ dc_ (fun _ _ _ _ h => h) rfl (fun w h => R0_1.now Z h) rfl rfl ha1217) (fun s w h => za3 [some 2, some 3] dc_ w h rfl) (cur2 (fun A1218 c1219 => a_one 8 rfl rfl kr_ rfl (za6 0 Z Try.func146 N146 rfl rfl rfl (fun w P1 hF hB hS hT => spec_plStep.calls a1 a2 hB hF _ hx1396)) (fun s w h => za3 [some 2, some 3] dc_ w h rfl) (fun _ => a_one 9 rfl rfl kr_ rfl (e_lit (vs := [(0, .agg #[.int .i64 z1397.f0, .int .i64 z1397.f1])]) (cs := [.int .i64 z1397.f0, .int .i64 z1397.f1]) kStep ([z1397] : List SStep) Try.underlying22 I107 dc_ rfl dc_ rfl rfl (fun _ _ => reps_flat _)) (fun s w h => za3 [some 3, some 4] dc_ w h rfl) (cur2 (fun A1456 c1457 => a_one 10 rfl rfl kr_ rfl (e_app (i := 1) (j := 0) Try.underlying22 I107 rfl dc_ dc_ rfl rfl rfl rfl rfl ha1517) (fun s w h => za3 [some 3, some 4] dc_ w h rfl) (cur2 (fun A1518 c1519 => za4 11 rfl rfl rfl kr_ (fun _ _ _ h => h) (q_build (vs := [(0, .int .i64 a0_0), (1, .slice A1518 l1516.length c1519)]) (cs := [.int .i64 a0_0, .slice A1518 l1516.length c1519, .slice none 0 0]) rfl rfl) (a_one 13 rfl rfl kr_ rfl (zah (i := 2) rfl rfl rfl Z25 rfl rfl) (fun s w h => za3 [some 3, some 4] dc_ w h rfl) (fun _ => zao kr_ (zaj (l1516, g1636, A1518, c1519) h ⟨rfl, trivial⟩ (fun w h => za5 [4, 3, 2, 1] dc_ rfl w h) ?_))))))))))))
      exact of_
  · skip
    refine (cur4 (fun l907 g906 A908 c909 => fun U913 hJ914 => ?_))
    have e_ := si_ hJ914; have h := hR912; rw [← e_] at h; clear e_ hJ914 hR912 hl911
    refine c_seq (a_startS (ds := []) [some 0, none, some 2, some 3] MO rfl (zau 0 rfl rfl rfl kr_ (fun _ _ _ h => h) (fun w h => za3 [some 0, none, some 2, some 3] dc_ w h rfl) (q_ldB G25 Z25 rfl (fun w h => h.za9 (i := 2) rfl) rfl) (za4 1 rfl rfl rfl kr_ (fun _ _ _ h => h) (q_f F25_0 rfl) (zau 2 rfl rfl rfl kr_ (fun _ _ _ h => h) (fun w h => za3 [some 0, none, some 2, some 3] dc_ w h rfl) (q_ldb Y3 rfl (fun w h => h.za9 (i := 0) rfl) rfl) (za4 3 rfl rfl rfl kr_ (fun _ _ _ h => h) (q_f F25_1 rfl) (zau 4 rfl rfl rfl kr_ (fun _ _ _ h => h) (fun w h => za3 [some 0, none, some 2, some 3] dc_ w h rfl) (q_ldb Y22 rfl (fun w h => h.za9 (i := 0) rfl) rfl) (za4 5 rfl rfl rfl kr_ (fun _ _ _ h => h) (q_len Try.underlying22 rfl) (za4 6 rfl rfl rfl kr_ (fun _ _ _ h => h) (zb0 rfl rfl) (a_one 7 rfl rfl kr_ rfl (zah (i := 1) rfl rfl rfl Z25 rfl rfl) (fun s w h => za3 [some 0, none, some 2, some 3] dc_ w h rfl) (fun _ => ?_))))))))))
    refine za4 8 rfl rfl rfl kr_ (fun _ _ _ h => h) (q_asg rfl) (zao kr_ (za1 (c_ret (x_nil (Kd.int .i64) 3 ?_))))
    have e0_ := si_ h; clear h
    subst e0_
    exact x_r2 (A908, c909) Try.results110 (zb5 rfl G25 Z25 (fun w h => h.za9 (i := 2) rfl) rfl) (zal rfl) rfl (fun w h => za5 [4, 0] dc_ rfl w h)

def spec_meEnd.f (a0_0 : Int) (l0_1 : List SStep) (l0_2 : List Int) (a1 : Int) : Option Unit := some ()
theorem spec_meEnd.calls {w0 ws : World} {P0 : Nat → Prop} (a0_0 : Int) (A0_1 : Option Addr) (c0_1 : Nat) (n0_1 : Nat) (l0_1 : List SStep) (A0_2 : Option Addr) (c0_2 : Nat) (n0_2 : Nat) (l0_2 : List Int) (a1 : Int) (Z : Below w0.heap.size w0 ws) (hF : Fr w0 ws P0 [row kStep 107 (.slice A0_1 n0_1 c0_1) l0_1] ws) (R0_2 : Stable ws P0 (fun w => Kd.C (Kd.int .i64) w A0_2 n0_2 l0_2)) (hc0_2 : n0_2 ≤ c0_2)  (h : spec_meEnd.f a0_0 l0_1 l0_2 a1 = some ()) :
    Calls Try.prog 112 #[.agg #[.int .i64 a0_0, .slice A0_1 n0_1 c0_1, .slice A0_2 n0_2 c0_2], .int .i64 a1] ws (Post1 w0 ws P0 (fun ((q_1, q_2) : (Option Addr) × Nat) => .agg #[.int .i64 a0_0, .slice A0_1 n0_1 c0_1, .slice q_1 (([a1] : List Int).length) q_2]) (fun ((q_1, q_2) : (Option Addr) × Nat) => [row kStep 107 (.slice A0_1 n0_1 c0_1) l0_1, row (Kd.int .i64) 3 (.slice q_1 (([a1] : List Int).length) q_2) ([a1] : List Int)])) := by
  unfold spec_meEnd.f at h
  obtain rfl := (hF.row_C (i := 0) rfl).2.1
  obtain rfl := (R0_2 ws (KeptB.refl _ _)).1
  refine enter Try.func112 rfl Try.ntmps112 rfl hF (c_seq (za0 (o_e rfl (e_box rfl) (fun g1 => o_e rfl (zaf V25 rfl) (fun g3 => o_end (za1 (c_seq (za0 (o_q rfl rfl (q_f F25_0 rfl) ?_)))))))))
  refine o_q rfl rfl (q_ldb Y3 rfl (fun w h => h.za9 (i := 1) rfl) rfl) (o_q rfl rfl (q_f F25_1 rfl) (o_q rfl rfl (q_ldb Y22 rfl (fun w h => h.za9 (i := 1) rfl) rfl) (o_q rfl rfl (za2 rfl) (o_e rfl (e_lit (vs := [(0, .int .i64 a1)]) (cs := [.int .i64 a1]) (Kd.int .i64) ([a1] : List Int) Try.underlying23 I3 dc_ rfl dc_ rfl rfl (fun _ _ => Kd.zad _)) (cur2 (fun A5 c6 => o_q rfl rfl (q_build (vs := [(0, .int .i64 a0_0), (1, .slice A0_1 l0_1.length c0_1), (2, .slice A5 (([a1] : List Int).length) c6)]) (cs := [.int .i64 a0_0, .slice A0_1 l0_1.length c0_1, .slice A5 (([a1] : List Int).length) c6]) rfl rfl) (o_e rfl (zah (i := 1) rfl rfl rfl Z25 rfl rfl) (fun _ => o_end (za1 (c_ret ?_))))))))))
  exact x_r1 (A5, c6) Try.results112 (zb5 rfl G25 Z25 (fun w h => h.za9 (i := 1) rfl) rfl) rfl (fun w h => za5 [3, 0] dc_ rfl w h)

def spec_meBinary.l0 (l4 : List Int) : Nat → (List Int) → (List SStep) → Int → Int → Option ((List Int) × (List SStep) × Int)
  | 0, _, _, _, _ => none
  | k21 + 1, l11, l14, i17, i18 => if 0 ≤ i18 then ((spec_meTimes.f 1 l14 l11 i17 i17).bind fun l31 => (gt l4 i18).bind fun y36 => if y36 = 1 then ((spec_meTimes.f 1 l31 [] (w64 (1 + (l14.length : Int))) 0).bind fun l39 => spec_meBinary.l0 l4 k21 [] l39 (w64 (1 + (l31.length : Int))) (w64 (i18 - 1))) else (spec_meBinary.l0 l4 k21 [] l31 (w64 (1 + (l14.length : Int))) (w64 (i18 - 1)))) else (some (l11, l14, i17))
def spec_meBinary.f (k : Nat) (a0 : Int) : Option ((List SStep) × (List Int)) := (spec_meDigits.f k a0 2).bind fun l4 => (spec_meBinary.l0 l4 k ([] : List Int) ([] : List SStep) 0 (w64 ((l4.length : Int) - 2))).bind fun (l11, l14, i17) => (spec_meEnd.f 1 l14 l11 i17).bind fun _ => some (l14, ([i17] : List Int))
theorem spec_meBinary.calls (k : Nat) {w0 ws : World} {P0 : Nat → Prop} (a0 : Int) (Z : Below w0.heap.size w0 ws) (hF : Fr w0 ws P0 [] ws)  (r_1 : List SStep) (r_4 : List Int) (h : spec_meBinary.f k a0 = some (r_1, r_4)) :
    Calls Try.prog 83 #[.int .i64 a0] ws (Post1 w0 ws P0 (fun ((q_2, q_3, q_5, q_6) : (Option Addr) × Nat × (Option Addr) × Nat) => .agg #[.int .i64 1, .slice q_2 r_1.length q_3, .slice q_5 r_4.length q_6]) (fun ((q_2, q_3, q_5, q_6) : (Option Addr) × Nat × (Option Addr) × Nat) => [row kStep 107 (.slice q_2 r_1.length q_3) r_1, row (Kd.int .i64) 3 (.slice q_5 r_4.length q_6) r_4])) := by
  unfold spec_meBinary.f at h
  refine enter Try.func83 rfl Try.ntmps83 rfl hF (c_seq (za0 (o_e rfl (zaf V25 rfl) (fun g1 => o_end (za1 (c_seq (za0 (o_q rfl rfl (za2 rfl) (za7 h (fun l4 hx3 h => ?_) rfl)))))))))
  refine o_e rfl (za6 0 Z Try.func108 N108 rfl rfl rfl (fun w P1 hF hB hS hT => spec_meDigits.calls k a0 2 hB hF _ hx3)) (cur2 (fun A5 c6 => o_q rfl rfl (q_asg rfl) (o_end (za1 (c_seq (za0 (o_q rfl rfl (q_build (vs := [(0, .int .i64 1)]) (cs := [.int .i64 1, .slice none 0 0, .slice none 0 0]) rfl rfl) (o_e rfl (zaf V25 rfl) (fun g7 => o_e rfl (zah (i := 0) rfl rfl rfl Z25 rfl rfl) (fun _ => o_end ?_))))))))))
  refine za1 (c_seq (za0 (o_q rfl rfl (q_asg rfl) (o_end (za1 (c_seq (c_seq (za0 (o_q rfl rfl (za2 rfl) ?_)))))))))
  refine o_q rfl rfl (q_len Try.underlying23 rfl) (o_q rfl rfl (zb1 rfl rfl) (o_q rfl rfl (q_asg rfl) (o_end (za1 (zai (c_nil kStep 107 (c_nil (Kd.int .i64) 3 (za7 h (fun o26 hl25 hR24 => ?_) rfl))))))))
  clear h
  refine zaw (σ := (List Int) × (List SStep) × Int × Int × (Option Addr) × Nat × (Option Addr) × Nat) (fun k21 ((l11, l14, i17, i18, A12, c13, A15, c16) : (List Int) × (List SStep) × Int × Int × (Option Addr) × Nat × (Option Addr) × Nat) => spec_meBinary.l0 l4 k21 l11 l14 i17 i18 = some o26) [5, 6, 13, 14, 15, 16, 17, 18, 19, 20, 21, 22, 23, 24, 25, 26, 27, 28, 29, 30, 31, 32, 33, 34] (fun ((l11, l14, i17, i18, A12, c13, A15, c16) : (List Int) × (List SStep) × Int × Int × (Option Addr) × Nat × (Option Addr) × Nat) => [(5, .int .i64 i17), (6, .int .i64 i18)]) (fun ((l11, l14, i17, i18, A12, c13, A15, c16) : (List Int) × (List SStep) × Int × Int × (Option Addr) × Nat × (Option Addr) × Nat) => [row (Kd.int .i64) 3 (.slice A12 l11.length c13) l11, row kStep 107 (.slice A15 l14.length c16) l14, box g7 25 #[.int .i64 1, .slice A15 l14.length c16, .slice A12 l11.length c13], row (Kd.int .i64) 3 (.slice A5 l4.length c6) l4, box g1 25 #[.int .i64 0, .slice none 0 0, .slice none 0 0]]) k (([] : List Int), ([] : List SStep), 0, w64 ((l4.length : Int) - 2), none, 0, none, 0) hl25 ⟨rfl, rfl, trivial⟩ (fun w h => h) (natC (cur8 (fun l11 l14 i17 i18 A12 c13 A15 c16 => fun U27 hJ_ => ?_)) (fun k21 => (cur8 (fun l11 l14 i17 i18 A12 c13 A15 c16 => fun U27 hJ_ => ?_))))
  · skip
    replace hJ_ : spec_meBinary.l0 l4 0 l11 l14 i17 i18 = some o26 := hJ_
    rw [spec_meBinary.l0] at hJ_
    exact noneE hJ_
  · skip
    clear hl25
    have h := hJ_; clear hJ_
    replace h : spec_meBinary.l0 l4 (k21 + 1) l11 l14 i17 i18 = some o26 := h
    rw [spec_meBinary.l0] at h
    refine c_seq (c_seq (za0 (o_q rfl rfl (za2 rfl) (o_q rfl rfl (q_geq rfl rfl) (o_end (za1 (zaq _ rfl (fun hb29 => ?_) (fun hb29 => ?_))))))))
    · skip
      replace h := br_t hb29 h
      refine zam (za1 (c_seq (zai (c_seq (za0 (o_q rfl rfl (q_ldB G25 Z25 rfl (fun w h => h.za9 (i := 2) rfl) rfl) (o_q rfl rfl (za2 rfl) (o_q rfl rfl (za2 rfl) (za7 h (fun l31 hx30 h => ?_) rfl)))))))))
      refine o_e rfl (za6 0 Z Try.func110 N110 rfl rfl rfl (fun w P1 hF hB hS hT => spec_meTimes.calls 1 A15 c16 l14.length l14 A12 c13 l11.length l11 i17 i17 hB hF (hT 1 _ rfl).row (hT 1 _ rfl).cap (hT 0 _ rfl).row (hT 0 _ rfl).cap _ hx30)) (cur2 (fun A32 c33 => o_q rfl rfl (za2 rfl) (o_q rfl rfl (q_ext rfl rfl) (o_q rfl rfl (q_ext rfl rfl) (o_e rfl (zah (i := 4) rfl rfl rfl Z25 rfl rfl) (fun _ => o_q rfl rfl (q_asg rfl) (o_end (za1 (c_seq (za0 ?_))))))))))
      refine o_q rfl rfl (za2 rfl) (o_q rfl rfl (za2 rfl) (zb4 (p := Sh A5 l4.length l4.length) (fun w h => f_sh (dk := (Kd.int .i64)) h (fun w h => h.zar (i := 5) rfl)) (fun hq34 => za7 h (fun y36 hg35 h => ?_) rfl)))
      refine o_q rfl rfl (q_ix Try.underlying23 Z3 rfl rfl hq34 hg35) (o_q rfl rfl (q_lde (off := 0) Y3 rfl rfl (fun w h => h.zar (i := 5) rfl) hg35 (fun _ _ h => h) rfl) (o_q rfl rfl (q_eql rfl rfl) (o_end (za1 (zaq _ rfl (fun hb37 => ?_) (fun hb37 => ?_))))))
      · skip
        replace h := br_t hb37 h
        refine za0 (o_q rfl rfl (q_ldB G25 Z25 rfl (fun w h => h.za9 (i := 4) rfl) rfl) (o_q rfl rfl (za2 rfl) (za7 h (fun l39 hx38 h => ?_) rfl)))
        refine o_e rfl (za6 0 Z Try.func110 N110 rfl rfl rfl (fun w P1 hF hB hS hT => spec_meTimes.calls 1 A32 c33 l31.length l31 none 0 0 [] (w64 (1 + (l14.length : Int))) 0 hB hF (hT 0 _ rfl).row (hT 0 _ rfl).cap (hT 1 _ rfl).row (hT 1 _ rfl).cap _ hx38)) (cur2 (fun A40 c41 => o_q rfl rfl (za2 rfl) (o_q rfl rfl (q_ext rfl rfl) (o_q rfl rfl (q_ext rfl rfl) (o_e rfl (zah (i := 6) rfl rfl rfl Z25 rfl rfl) (fun _ => o_q rfl rfl (q_asg rfl) (o_end (zak (za1 (za0 ?_))))))))))
        refine o_q rfl rfl (za2 rfl) (o_q rfl rfl (zb1 rfl rfl) (o_q rfl rfl (q_asg rfl) (o_end (x_fact (p := 0 = [].length) (fun w h => (h.row_C (i := 1) rfl).2.1) (fun hn42 => zan k21 ([], l39, w64 (1 + (l31.length : Int)), w64 (i18 - 1), none, 0, A40, c41) (Nat.lt_succ_self _) h ⟨rfl, rfl, trivial⟩ (f_pickE (L1 := [row kStep 107 (.slice A40 l39.length c41) l39, row (Kd.int .i64) 3 (.slice none 0 0) [], row kStep 107 (.slice A32 l31.length c33) l31, row (Kd.int .i64) 3 (.slice none 0 0) [], row (Kd.int .i64) 3 (.slice A12 l11.length c13) l11, row kStep 107 (.slice A15 l14.length c16) l14, box g7 25 #[.int .i64 1, .slice A40 l39.length c41, .slice none 0 0], row (Kd.int .i64) 3 (.slice A5 l4.length c6) l4, box g1 25 #[.int .i64 0, .slice none 0 0, .slice none 0 0]]) rfl [1, 0, 6, 7, 8] dc_ rfl (by (try rw [hn42]); first | done | rfl)) ?_)))))
        exact of_
      · skip
        replace h := br_f hb37 h
        refine zam (zak (za1 (za0 (o_q rfl rfl (za2 rfl) (o_q rfl rfl (zb1 rfl rfl) (o_q rfl rfl (q_asg rfl) (o_end (x_fact (p := 0 = [].length) (fun w h => (h.row_C (i := 1) rfl).2.1) (fun hn43 => zan k21 ([], l31, w64 (1 + (l14.length : Int)), w64 (i18 - 1), none, 0, A32, c33) (Nat.lt_succ_self _) h ⟨rfl, rfl, trivial⟩ (f_pickE (L1 := [row kStep 107 (.slice A32 l31.length c33) l31, row (Kd.int .i64) 3 (.slice none 0 0) [], row (Kd.int .i64) 3 (.slice A12 l11.length c13) l11, row kStep 107 (.slice A15 l14.length c16) l14, box g7 25 #[.int .i64 1, .slice A32 l31.length c33, .slice none 0 0], row (Kd.int .i64) 3 (.slice A5 l4.length c6) l4, box g1 25 #[.int .i64 0, .slice none 0 0, .slice none 0 0]]) rfl [1, 0, 4, 5, 6] dc_ rfl (by (try rw [hn43]); first | done | rfl)) ?_)))))))))
        exact of_
    · skip
      replace h := br_f hb29 h
      refine zb2 (za8 (za8 ?_))
      have e_ := si_ h; replace h := hR24; rw [← e_] at h; clear e_
      refine x_hit (za1 (c_seq (za0 (o_q rfl rfl (q_ldB G25 Z25 rfl (fun w h => h.za9 (i := 2) rfl) rfl) (o_q rfl rfl (za2 rfl) (o_pick [1, 0, 2, 3, 4] dc_ rfl (za7 h (fun _ hx44 h => ?_) rfl)))))))
      refine o_e rfl (za6 1 Z Try.func112 N112 rfl rfl rfl (fun w P1 hF hB hS hT => spec_meEnd.calls 1 A15 c16 l14.length l14 A12 c13 l11.length l11 i17 hB hF (hT 0 _ rfl).row (hT 0 _ rfl).cap hx44)) (cur2 (fun A45 c46 => o_e rfl (zah (i := 5) rfl rfl rfl Z25 rfl rfl) (fun _ => o_end (za1 (c_ret ?_)))))
      have e0_ := si_ h; clear h
      obtain ⟨rfl, e1_⟩ := Prod.mk.inj e0_
      subst e1_
      exact x_r1 (A15, c16, A45, c46) Try.results83 (zb5 rfl G25 Z25 (fun w h => h.za9 (i := 5) rfl) rfl) rfl (fun w h => za5 [0, 1] dc_ rfl w h)

def spec_meRight.l0 (l4 : List Int) : (List Int) → (List Int) → (List SStep) → Int → Int → Int → Option ((List Int) × (List SStep) × Int)
  | [], l11, l14, i17, i18, i19 => some (l11, l14, i19)
  | y20 :: ys21, l11, l14, i17, i18, i19 => ((if y20 = 1 then (some (decide (0 ≤ i19))) else (some false)).bind fun b61 => if b61 = true then ((spec_meTimes.f 1 l14 l11 i19 i18).bind fun l70 => some (l70, [], w64 (1 + (l14.length : Int)))) else (if y20 = 1 then (some (l14, l11, i18)) else (some (l14, l11, i19)))).bind fun (l48, l51, i54) => if i17 < w64 ((l4.length : Int) - 1) then ((spec_meTimes.f 1 l48 l51 i18 i18).bind fun l77 => spec_meRight.l0 l4 ys21 [] l77 (i17 + 1) (w64 (1 + (l48.length : Int))) i54) else (spec_meRight.l0 l4 ys21 l51 l48 (i17 + 1) i18 i54)
def spec_meRight.f (k : Nat) (a0 : Int) : Option ((List SStep) × (List Int)) := (spec_meDigits.f k a0 2).bind fun l4 => (spec_meRight.l0 l4 l4 ([] : List Int) ([] : List SStep) 0 0 (-1)).bind fun (l11, l14, i19) => (spec_meEnd.f 1 l14 l11 i19).bind fun _ => some (l14, ([i19] : List Int))
theorem spec_meRight.calls (k : Nat) {w0 ws : World} {P0 : Nat → Prop} (a0 : Int) (Z : Below w0.heap.size w0 ws) (hF : Fr w0 ws P0 [] ws)  (r_1 : List SStep) (r_4 : List Int) (h : spec_meRight.f k a0 = some (r_1, r_4)) :
    Calls Try.prog 121 #[.int .i64 a0] ws (Post1 w0 ws P0 (fun ((q_2, q_3, q_5, q_6) : (Option Addr) × Nat × (Option Addr) × Nat) => .agg #[.int .i64 1, .slice q_2 r_1.length q_3, .slice q_5 r_4.length q_6]) (fun ((q_2, q_3, q_5, q_6) : (Option Addr) × Nat × (Option Addr) × Nat) => [row kStep 107 (.slice q_2 r_1.length q_3) r_1, row (Kd.int .i64) 3 (.slice q_5 r_4.length q_6) r_4])) := by
  unfold spec_meRight.f at h
  refine enter Try.func121 rfl Try.ntmps121 rfl hF (c_seq (za0 (o_e rfl (zaf V25 rfl) (fun g1 => o_end (za1 (c_seq (za0 (o_q rfl rfl (za2 rfl) (za7 h (fun l4 hx3 h => ?_) rfl)))))))))
  refine o_e rfl (za6 0 Z Try.func108 N108 rfl rfl rfl (fun w P1 hF hB hS hT => spec_meDigits.calls k a0 2 hB hF _ hx3)) (cur2 (fun A5 c6 => o_q rfl rfl (q_asg rfl) (o_end (za1 (c_seq (za0 (o_q rfl rfl (q_build (vs := [(0, .int .i64 1)]) (cs := [.int .i64 1, .slice none 0 0, .slice none 0 0]) rfl rfl) (o_e rfl (zaf V25 rfl) (fun g7 => o_e rfl (zah (i := 0) rfl rfl rfl Z25 rfl rfl) (fun _ => o_end ?_))))))))))
  refine za1 (c_seq (za0 (o_q rfl rfl (q_asg rfl) (o_q rfl rfl (q_asg rfl) (o_end (za1 (c_seq (c_seq (za0 ?_)))))))))
  refine o_q rfl rfl (za2 rfl) (o_q rfl rfl (q_len Try.underlying23 rfl) (o_q rfl rfl (za2 rfl) (o_end (za1 (zai (c_nil kStep 107 (c_nil (Kd.int .i64) 3 (za7 h (fun o27 hl26 hR25 => ?_) rfl))))))))
  clear h
  refine c_fact (p := l4.length ≤ 9223372036854775807) (fun w h => (h.zar (i := 3) rfl).2.1) (fun hm24 => zaw (σ := (List Int) × (List Int) × (List SStep) × Int × Int × Int × (Option Addr) × Nat × (Option Addr) × Nat) (fun k22 ((ys21, l11, l14, i17, i18, i19, A12, c13, A15, c16) : (List Int) × (List Int) × (List SStep) × Int × Int × Int × (Option Addr) × Nat × (Option Addr) × Nat) => Rg l4 i17 ys21 ∧ ys21.length = k22 ∧ spec_meRight.l0 l4 ys21 l11 l14 i17 i18 i19 = some o27) [5, 6, 7, 8, 14, 15, 16, 17, 18, 19, 20, 21, 22, 23, 24, 25, 26, 27, 28, 29, 30, 31, 32, 33, 34, 35, 36, 37, 38, 39, 40, 41, 42, 43, 44, 45, 46, 47] (fun ((ys21, l11, l14, i17, i18, i19, A12, c13, A15, c16) : (List Int) × (List Int) × (List SStep) × Int × Int × Int × (Option Addr) × Nat × (Option Addr) × Nat) => [(5, .int .i64 i18), (6, .int .i64 i19), (14, .int .i64 i17)]) (fun ((ys21, l11, l14, i17, i18, i19, A12, c13, A15, c16) : (List Int) × (List Int) × (List SStep) × Int × Int × Int × (Option Addr) × Nat × (Option Addr) × Nat) => [row (Kd.int .i64) 3 (.slice A12 l11.length c13) l11, row kStep 107 (.slice A15 l14.length c16) l14, box g7 25 #[.int .i64 1, .slice A15 l14.length c16, .slice A12 l11.length c13], row (Kd.int .i64) 3 (.slice A5 l4.length c6) l4, box g1 25 #[.int .i64 0, .slice none 0 0, .slice none 0 0]]) l4.length (l4, ([] : List Int), ([] : List SStep), 0, 0, (-1), none, 0, none, 0) ⟨Rg.start _, rfl, hl26⟩ ⟨rfl, rfl, rfl, trivial⟩ (fun w h => h) (fun k22 => cur10 (listC (fun l11 l14 i17 i18 i19 A12 c13 A15 c16 U28 hJ_ => ?_) (fun y20 ys21 l11 l14 i17 i18 i19 A12 c13 A15 c16 U28 hJ_ => ?_))))
  · skip
    clear hl26
    have hr23 := hJ_.1; have hk29 := hJ_.2.1; have h := hJ_.2.2; clear hJ_
    replace h : spec_meRight.l0 l4 [] l11 l14 i17 i18 i19 = some o27 := h
    rw [spec_meRight.l0] at h
    refine c_seq (za0 (o_q rfl rfl (q_lss rfl rfl) (o_end (za1 (c_seq (c_false (vb_ hr23.ge) (zb2 (za8 (za8 ?_)))))))))
    have e_ := si_ h; replace h := hR25; rw [← e_] at h; clear e_
    refine x_hit (za1 (c_seq (za0 (o_q rfl rfl (q_ldB G25 Z25 rfl (fun w h => h.za9 (i := 2) rfl) rfl) (o_q rfl rfl (za2 rfl) (o_pick [1, 0, 2, 3, 4] dc_ rfl (za7 h (fun _ hx30 h => ?_) rfl)))))))
    refine o_e rfl (za6 1 Z Try.func112 N112 rfl rfl rfl (fun w P1 hF hB hS hT => spec_meEnd.calls 1 A15 c16 l14.length l14 A12 c13 l11.length l11 i19 hB hF (hT 0 _ rfl).row (hT 0 _ rfl).cap hx30)) (cur2 (fun A31 c32 => o_e rfl (zah (i := 5) rfl rfl rfl Z25 rfl rfl) (fun _ => o_end (za1 (c_ret ?_)))))
    have e0_ := si_ h; clear h
    obtain ⟨rfl, e1_⟩ := Prod.mk.inj e0_
    subst e1_
    exact x_r1 (A15, c16, A31, c32) Try.results121 (zb5 rfl G25 Z25 (fun w h => h.za9 (i := 5) rfl) rfl) rfl (fun w h => za5 [0, 1] dc_ rfl w h)
  · skip
    clear hl26
    have hr23 := hJ_.1; have hk29 := hJ_.2.1; have h := hJ_.2.2; clear hJ_
    replace h : spec_meRight.l0 l4 (y20 :: ys21) l11 l14 i17 i18 i19 = some o27 := h
    rw [spec_meRight.l0] at h
    refine c_seq (za0 (o_q rfl rfl (q_lss rfl rfl) (o_end (za1 (c_seq (zb8 (vb_ hr23.lt) (zam (za1 (c_seq ?_)))))))))
    refine zai (c_seq (za0 (o_q rfl rfl (za2 rfl) (zb4 (p := Sh A5 l4.length l4.length) (fun w h => f_sh (dk := (Kd.int .i64)) h (fun w h => h.zar (i := 3) rfl)) (fun hq33 => o_q rfl rfl (q_ix Try.underlying23 Z3 rfl rfl hq33 hr23.get) (o_q rfl rfl (q_lde (off := 0) Y3 rfl rfl (fun w h => h.zar (i := 3) rfl) hr23.get (fun _ _ h => h) rfl) (o_q rfl rfl (q_asg rfl) (o_q rfl rfl (q_asg rfl) (o_end ?_)))))))))
    refine za1 (za7 h (fun o55 hl56 hR57 => ?_) rfl)
    clear h
    refine c_cutJ (σ := (List SStep) × (List Int) × Int × (Option Addr) × Nat × (Option Addr) × Nat) (fun (l48, l51, i54, A49, c50, A52, c53) => some (l48, l51, i54) = some o55) [6, 19, 20, 21, 22, 23, 24, 25, 26, 27, 28, 29, 30, 31, 32, 33, 34] (fun (l48, l51, i54, A49, c50, A52, c53) => [(6, .int .i64 i54)]) (fun (l48, l51, i54, A49, c50, A52, c53) => [box g1 25 #[.int .i64 0, .slice none 0 0, .slice none 0 0], row (Kd.int .i64) 3 (.slice A5 l4.length c6) l4, box g7 25 #[.int .i64 1, .slice A49 l48.length c50, .slice A52 l51.length c53], row kStep 107 (.slice A49 l48.length c50) l48, row (Kd.int .i64) 3 (.slice A52 l51.length c53) l51]) ?_ ?_
    · skip
      have h := hl56; clear hl56
      clear hR57
      refine za7 h (fun o62 hl63 hR64 => ?_) rfl
      clear h
      refine c_cutJ (σ := Bool) (fun b61 => some b61 = some o62) [19, 20, 21, 22, 23, 24] (fun b61 => [(24, .bool b61)]) (fun b61 => [box g1 25 #[.int .i64 0, .slice none 0 0, .slice none 0 0], row (Kd.int .i64) 3 (.slice A5 l4.length c6) l4, box g7 25 #[.int .i64 1, .slice A15 l14.length c16, .slice A12 l11.length c13], row kStep 107 (.slice A15 l14.length c16) l14, row (Kd.int .i64) 3 (.slice A12 l11.length c13) l11]) ?_ ?_
      · skip
        have h := hl63; clear hl63
        clear hR64
        refine za0 (o_q rfl rfl (za2 rfl) (o_q rfl rfl (q_eql rfl rfl) (o_q rfl rfl (za2 rfl) (byB (decide (y20 = 1)) (fun hb67 => ?_) (fun hb67 => ?_)))))
        · replace h := br_t hb67 h
          refine o_w (zae rfl rfl rfl (vb_ hb67)) rfl (za2 rfl) (o_w (zae rfl rfl rfl (vb_ hb67)) rfl (q_geq rfl rfl) (o_q rfl rfl (zax true (vb_ hb67) rfl) (o_end (zaj (decide (0 ≤ i19)) h ⟨rfl, trivial⟩ (fun w h => za5 [4, 3, 2, 1, 0] dc_ rfl w h) ?_))))
          exact of_
        · replace h := br_f hb67 h
          refine o_n (d := 22) (zaa rfl rfl rfl (vb_ hb67) rfl) (Eq.refl (some 22)) (o_n (d := 23) (zaa rfl rfl rfl (vb_ hb67) rfl) (Eq.refl (some 23)) (o_q rfl rfl (zax false (vb_ hb67) rfl) (o_end (zaj false h ⟨rfl, trivial⟩ (fun w h => za5 [4, 3, 2, 1, 0] dc_ rfl w h) ?_))))
          exact of_
      · skip
        refine (fun b61 => fun U65 hJ66 => ?_)
        have e_ := si_ hJ66; have h := hR64; rw [← e_] at h; clear e_ hJ66 hR64 hl63
        refine zaq _ rfl (fun hb68 => ?_) (fun hb68 => ?_)
        · skip
          replace h := bb_t hb68 h
          refine za0 (o_q rfl rfl (q_ldB G25 Z25 rfl (fun w h => h.za9 (i := 2) rfl) rfl) (o_q rfl rfl (za2 rfl) (o_q rfl rfl (za2 rfl) (za7 h (fun l70 hx69 h => ?_) rfl))))
          refine o_e rfl (za6 0 Z Try.func110 N110 rfl rfl rfl (fun w P1 hF hB hS hT => spec_meTimes.calls 1 A15 c16 l14.length l14 A12 c13 l11.length l11 i19 i18 hB hF (hT 3 _ rfl).row (hT 3 _ rfl).cap (hT 4 _ rfl).row (hT 4 _ rfl).cap _ hx69)) (cur2 (fun A71 c72 => o_q rfl rfl (za2 rfl) (o_q rfl rfl (q_ext rfl rfl) (o_q rfl rfl (q_ext rfl rfl) (o_e rfl (zah (i := 4) rfl rfl rfl Z25 rfl rfl) (fun _ => o_q rfl rfl (q_asg rfl) (o_end (x_fact (p := 0 = [].length) (fun w h => (h.row_C (i := 1) rfl).2.1) (fun hn73 => zaj (l70, [], w64 (1 + (l14.length : Int)), A71, c72, none, 0) h ⟨rfl, trivial⟩ (f_pickE (L1 := [row kStep 107 (.slice A71 l70.length c72) l70, row (Kd.int .i64) 3 (.slice none 0 0) [], box g1 25 #[.int .i64 0, .slice none 0 0, .slice none 0 0], row (Kd.int .i64) 3 (.slice A5 l4.length c6) l4, box g7 25 #[.int .i64 1, .slice A71 l70.length c72, .slice none 0 0], row kStep 107 (.slice A15 l14.length c16) l14, row (Kd.int .i64) 3 (.slice A12 l11.length c13) l11]) rfl [2, 3, 4, 0, 1] dc_ rfl (by (try rw [hn73]); first | done | rfl)) ?_)))))))))
          exact of_
        · skip
          replace h := bb_f hb68 h
          refine c_seq (za0 (o_q rfl rfl (za2 rfl) (o_q rfl rfl (q_eql rfl rfl) (o_end (za1 (zaq _ rfl (fun hb74 => ?_) (fun hb74 => ?_)))))))
          · skip
            replace h := br_t hb74 h
            refine za0 (o_q rfl rfl (za2 rfl) (o_q rfl rfl (q_asg rfl) (o_end (zaj (l14, l11, i18, A15, c16, A12, c13) h ⟨rfl, trivial⟩ (fun w h => za5 [0, 1, 2, 3, 4] dc_ rfl w h) ?_))))
            exact of_
          · skip
            replace h := br_f hb74 h
            refine zam (zaj (l14, l11, i19, A15, c16, A12, c13) h ⟨rfl, trivial⟩ (fun w h => za5 [0, 1, 2, 3, 4] dc_ rfl w h) ?_)
            exact of_
    · skip
      refine (cur7 (fun l48 l51 i54 A49 c50 A52 c53 => fun U58 hJ59 => ?_))
      have e_ := si_ hJ59; have h := hR57; rw [← e_] at h; clear e_ hJ59 hR57 hl56
      refine c_seq (za0 (o_q rfl rfl (za2 rfl) (o_q rfl rfl (za2 rfl) (o_q rfl rfl (q_len Try.underlying23 rfl) (o_q rfl rfl (zb1 rfl rfl) (o_q rfl rfl (q_lss rfl rfl) (o_end (za1 (zaq _ rfl (fun hb75 => ?_) (fun hb75 => ?_))))))))))
      · skip
        replace h := br_t hb75 h
        refine za0 (o_q rfl rfl (q_ldB G25 Z25 rfl (fun w h => h.za9 (i := 2) rfl) rfl) (o_q rfl rfl (za2 rfl) (o_q rfl rfl (za2 rfl) (za7 h (fun l77 hx76 h => ?_) rfl))))
        refine o_e rfl (za6 0 Z Try.func110 N110 rfl rfl rfl (fun w P1 hF hB hS hT => spec_meTimes.calls 1 A49 c50 l48.length l48 A52 c53 l51.length l51 i18 i18 hB hF (hT 3 _ rfl).row (hT 3 _ rfl).cap (hT 4 _ rfl).row (hT 4 _ rfl).cap _ hx76)) (cur2 (fun A78 c79 => o_q rfl rfl (za2 rfl) (o_q rfl rfl (q_ext rfl rfl) (o_q rfl rfl (q_ext rfl rfl) (o_e rfl (zah (i := 4) rfl rfl rfl Z25 rfl rfl) (fun _ => o_q rfl rfl (q_asg rfl) (o_end (zak (za1 (za0 ?_))))))))))
        refine o_q rfl rfl (q_up rfl rfl (hr23.up hm24)) (o_q rfl rfl (za2 rfl) (o_end (x_fact (p := 0 = [].length) (fun w h => (h.row_C (i := 1) rfl).2.1) (fun hn80 => zan ys21.length (ys21, [], l77, i17 + 1, w64 (1 + (l48.length : Int)), i54, none, 0, A78, c79) (by rw [← hk29]; exact Nat.lt_succ_self _) ⟨hr23.step, rfl, h⟩ ⟨rfl, rfl, rfl, trivial⟩ (f_pickE (L1 := [row kStep 107 (.slice A78 l77.length c79) l77, row (Kd.int .i64) 3 (.slice none 0 0) [], box g1 25 #[.int .i64 0, .slice none 0 0, .slice none 0 0], row (Kd.int .i64) 3 (.slice A5 l4.length c6) l4, box g7 25 #[.int .i64 1, .slice A78 l77.length c79, .slice none 0 0], row kStep 107 (.slice A49 l48.length c50) l48, row (Kd.int .i64) 3 (.slice A52 l51.length c53) l51]) rfl [1, 0, 4, 3, 2] dc_ rfl (by (try rw [hn80]); first | done | rfl)) ?_))))
        exact of_
      · skip
        replace h := br_f hb75 h
        refine zam (zak (za1 (za0 (o_q rfl rfl (q_up rfl rfl (hr23.up hm24)) (o_q rfl rfl (za2 rfl) (o_end (zan ys21.length (ys21, l51, l48, i17 + 1, i18, i54, A52, c53, A49, c50) (by rw [← hk29]; exact Nat.lt_succ_self _) ⟨hr23.step, rfl, h⟩ ⟨rfl, rfl, rfl, trivial⟩ (fun w h => za5 [4, 3, 2, 1, 0] dc_ rfl w h) ?_)))))))
        exact of_

def spec_meGreatest.l0 : (List Int) → Int → Int → Option Int
  | [], i1, i2 => some i1
  | y3 :: ys4, i1, i2 => (spec_l1Most.f i1 y3).bind fun i15 => spec_meGreatest.l0 ys4 i15 (i2 + 1)
def spec_meGreatest.f (l0 : List Int) : Option Int := (spec_meGreatest.l0 l0 0 0).bind fun i1 => some i1
theorem spec_meGreatest.calls {w0 ws : World} {P0 : Nat → Prop} (A0 : Option Addr) (c0 : Nat) (n0 : Nat) (l0 : List Int) (Z : Below w0.heap.size w0 ws) (hF : Fr w0 ws P0 [] ws) (R0 : Stable ws P0 (fun w => Kd.C (Kd.int .i64) w A0 n0 l0)) (hc0 : n0 ≤ c0) (r_1 : Int) (h : spec_meGreatest.f l0 = some r_1) :
    Calls Try.prog 109 #[.slice A0 n0 c0] ws (Post1 w0 ws P0 (fun (_ : Unit) => .int .i64 r_1) (fun (_ : Unit) => [])) := by
  unfold spec_meGreatest.f at h
  obtain rfl := (R0 ws (KeptB.refl _ _)).1
  refine enter Try.func109 rfl Try.ntmps109 rfl hF (c_seq (za0 (o_q rfl rfl (q_asg rfl) (o_end (za1 (c_seq (za0 (o_q rfl rfl (q_asg rfl) (o_end ?_)))))))))
  refine za1 (c_seq (c_seq (za0 (o_q rfl rfl (za2 rfl) (o_q rfl rfl (q_len Try.underlying23 rfl) (o_q rfl rfl (za2 rfl) (o_end (za1 (zai ?_)))))))))
  refine za7 h (fun o10 hl9 hR8 => ?_) rfl
  clear h
  refine c_fact (p := l0.length ≤ 9223372036854775807) (fun w h => (R0.now Z h).2.1) (fun hm7 => zaw (σ := (List Int) × Int × Int) (fun k5 ((ys4, i1, i2) : (List Int) × Int × Int) => Rg l0 i2 ys4 ∧ ys4.length = k5 ∧ spec_meGreatest.l0 ys4 i1 i2 = some o10) [3, 5, 8, 9, 10, 11, 12, 13, 14, 15] (fun ((ys4, i1, i2) : (List Int) × Int × Int) => [(3, .int .i64 i1), (8, .int .i64 i2)]) (fun ((ys4, i1, i2) : (List Int) × Int × Int) => []) l0.length (l0, 0, 0) ⟨Rg.start _, rfl, hl9⟩ ⟨rfl, rfl, trivial⟩ (fun w h => h) (fun k5 => cur3 (listC (fun i1 i2 U11 hJ_ => ?_) (fun y3 ys4 i1 i2 U11 hJ_ => ?_))))
  · skip
    clear hl9
    have hr6 := hJ_.1; have hk12 := hJ_.2.1; have h := hJ_.2.2; clear hJ_
    replace h : spec_meGreatest.l0 [] i1 i2 = some o10 := h
    rw [spec_meGreatest.l0] at h
    refine c_seq (za0 (o_q rfl rfl (q_lss rfl rfl) (o_end (za1 (c_seq (c_false (vb_ hr6.ge) (zb2 (za8 (za8 ?_)))))))))
    have e_ := si_ h; replace h := hR8; rw [← e_] at h; clear e_
    refine x_hit (za1 (c_seq (za0 (o_q rfl rfl (za2 rfl) (o_q rfl rfl (q_asg rfl) (o_end (za1 (c_ret ?_))))))))
    have e0_ := si_ h; clear h
    subst e0_
    exact x_r1 () Try.results109 (zal rfl) rfl (fun w h => za5 [] dc_ rfl w h)
  · skip
    clear hl9
    have hr6 := hJ_.1; have hk12 := hJ_.2.1; have h := hJ_.2.2; clear hJ_
    replace h : spec_meGreatest.l0 (y3 :: ys4) i1 i2 = some o10 := h
    rw [spec_meGreatest.l0] at h
    refine c_seq (za0 (o_q rfl rfl (q_lss rfl rfl) (o_end (za1 (c_seq (zb8 (vb_ hr6.lt) (zam (za1 (c_seq ?_)))))))))
    refine zai (c_seq (za0 (zb4 (p := Sh A0 l0.length l0.length) (fun w h => f_sh (dk := (Kd.int .i64)) h (fun w h => R0.now Z h)) (fun hq13 => o_q rfl rfl (q_ix Try.underlying23 Z3 rfl rfl hq13 hr6.get) (o_q rfl rfl (q_lde (off := 0) Y3 rfl rfl (fun w h => R0.now Z h) hr6.get (fun _ _ h => h) rfl) (o_q rfl rfl (q_asg rfl) (o_end (za1 (za0 ?_)))))))))
    refine o_q rfl rfl (za2 rfl) (o_q rfl rfl (za2 rfl) (za7 h (fun i15 hx14 h => ?_) rfl))
    refine o_e rfl (za6 0 Z Try.func88 N88 rfl rfl rfl (fun w P1 hF hB hS hT => spec_l1Most.calls i1 y3 hB hF _ hx14)) (fun _ => o_q rfl rfl (q_asg rfl) (o_end (zak (za1 (za0 (o_q rfl rfl (q_up rfl rfl (hr6.up hm7)) (o_q rfl rfl (za2 rfl) (o_end (zan ys4.length (ys4, i15, i2 + 1) (by rw [← hk12]; exact Nat.lt_succ_self _) ⟨hr6.step, rfl, h⟩ ⟨rfl, rfl, trivial⟩ (fun w h => za5 [] dc_ rfl w h) ?_)))))))))
    exact of_

end Go.Proofs.Ytiaohjciddbpoaa.H9
