import Derived.Test.YtdicngjloiphkaaKFnFewestRegistersHand
import Derived.Test.YtdicngjloiphkaaKFnFewestRegistersSrt
import Derived.Test.YtdicngjloiphkaaProg
import Derived.Test.YtdicngjloiphkaaKFnFewestRegistersWMore
import Derived.KernelRfl
namespace Go.Proofs.Ytdicngjloiphkaa.FW
open Go.RowKit Go.Proofs.Ytdicngjloiphkaa.Frame Go.Proofs.YtdicngjloiphkaaW.PrintLast Go.Proofs.Ytdicngjloiphkaa.Hand
open Go.Proofs.YtdicngjloiphkaaW.PrintWords hiding mn mx
set_option linter.unusedVariables false
structure SStep where
  f0 : Int
  f1 : Int
def kStep : Kd SStep := flat (fun x => [.int .i64 x.f0, .int .i64 x.f1]) 2 (fun _ => rfl) (fun x u hu => by
  simp only [List.mem_cons, List.not_mem_nil, or_false] at hu
  rcases hu with rfl | rfl <;> rfl)
theorem F27_0 : fldOff Try.prog 27 0 = some 0 := by kernel_rfl
theorem F27_1 : fldOff Try.prog 27 1 = some 1 := by kernel_rfl
theorem F27_2 : fldOff Try.prog 27 2 = some 2 := by kernel_rfl
theorem F67_0 : fldOff Try.prog 67 0 = some 0 := by kernel_rfl
theorem F67_1 : fldOff Try.prog 67 1 = some 1 := by kernel_rfl
theorem F67_2 : fldOff Try.prog 67 2 = some 2 := by kernel_rfl
theorem F88_0 : fldOff Try.prog 88 0 = some 0 := by kernel_rfl
theorem F88_1 : fldOff Try.prog 88 1 = some 1 := by kernel_rfl
theorem G27 : aggTy (Try.prog.underlying 27) = true := by kernel_rfl
theorem G88 : aggTy (Try.prog.underlying 88) = true := by kernel_rfl
theorem I25 : (Try.prog.info? 25).map (fun i => (i.zero, i.size, i.bytes)) = some (some (.slice none 0 0), 1, 24) := by kernel_rfl
theorem I3 : (Try.prog.info? 3).map (fun i => (i.zero, i.size, i.bytes)) = some (some (.int .i64 0), 1, 8) := by kernel_rfl
theorem I4 : (Try.prog.info? 4).map (fun i => (i.zero, i.size, i.bytes)) = some (some (.bool false), 1, 1) := by kernel_rfl
theorem I88 : (Try.prog.info? 88).map (fun i => (i.zero, i.size, i.bytes)) = some (some (.agg #[.int .i64 0, .int .i64 0]), 2, 16) := by kernel_rfl
theorem MO : Try.prog.follows .mixedOrders = true := by kernel_rfl
theorem N10 : (Try.f10.name == "runtime.NumGoroutine") = false := by kernel_rfl
theorem N102 : (Try.f102.name == "runtime.NumGoroutine") = false := by kernel_rfl
theorem N123 : (Try.f123.name == "runtime.NumGoroutine") = false := by kernel_rfl
theorem N124 : (Try.f124.name == "runtime.NumGoroutine") = false := by kernel_rfl
theorem N125 : (Try.f125.name == "runtime.NumGoroutine") = false := by kernel_rfl
theorem N126 : (Try.f126.name == "runtime.NumGoroutine") = false := by kernel_rfl
theorem N127 : (Try.f127.name == "runtime.NumGoroutine") = false := by kernel_rfl
theorem N128 : (Try.f128.name == "runtime.NumGoroutine") = false := by kernel_rfl
theorem N129 : (Try.f129.name == "runtime.NumGoroutine") = false := by kernel_rfl
theorem N130 : (Try.f130.name == "runtime.NumGoroutine") = false := by kernel_rfl
theorem N131 : (Try.f131.name == "runtime.NumGoroutine") = false := by kernel_rfl
theorem N132 : (Try.f132.name == "runtime.NumGoroutine") = false := by kernel_rfl
theorem N133 : (Try.f133.name == "runtime.NumGoroutine") = false := by kernel_rfl
theorem N134 : (Try.f134.name == "runtime.NumGoroutine") = false := by kernel_rfl
theorem N135 : (Try.f135.name == "runtime.NumGoroutine") = false := by kernel_rfl
theorem N136 : (Try.f136.name == "runtime.NumGoroutine") = false := by kernel_rfl
theorem N137 : (Try.f137.name == "runtime.NumGoroutine") = false := by kernel_rfl
theorem N138 : (Try.f138.name == "runtime.NumGoroutine") = false := by kernel_rfl
theorem N139 : (Try.f139.name == "runtime.NumGoroutine") = false := by kernel_rfl
theorem N140 : (Try.f140.name == "runtime.NumGoroutine") = false := by kernel_rfl
theorem N141 : (Try.f141.name == "runtime.NumGoroutine") = false := by kernel_rfl
theorem N147 : (Try.f147.name == "runtime.NumGoroutine") = false := by kernel_rfl
theorem N15 : (Try.f15.name == "runtime.NumGoroutine") = false := by kernel_rfl
theorem N168 : (Try.f168.name == "runtime.NumGoroutine") = false := by kernel_rfl
theorem N169 : (Try.f169.name == "runtime.NumGoroutine") = false := by kernel_rfl
theorem N17 : (Try.f17.name == "runtime.NumGoroutine") = false := by kernel_rfl
theorem N170 : (Try.f170.name == "runtime.NumGoroutine") = false := by kernel_rfl
theorem N171 : (Try.f171.name == "runtime.NumGoroutine") = false := by kernel_rfl
theorem N172 : (Try.f172.name == "runtime.NumGoroutine") = false := by kernel_rfl
theorem N173 : (Try.f173.name == "runtime.NumGoroutine") = false := by kernel_rfl
theorem N174 : (Try.f174.name == "runtime.NumGoroutine") = false := by kernel_rfl
theorem N175 : (Try.f175.name == "runtime.NumGoroutine") = false := by kernel_rfl
theorem N18 : (Try.f18.name == "runtime.NumGoroutine") = false := by kernel_rfl
theorem N182 : (Try.f182.name == "runtime.NumGoroutine") = false := by kernel_rfl
theorem N19 : (Try.f19.name == "runtime.NumGoroutine") = false := by kernel_rfl
theorem N20 : (Try.f20.name == "runtime.NumGoroutine") = false := by kernel_rfl
theorem N21 : (Try.f21.name == "runtime.NumGoroutine") = false := by kernel_rfl
theorem N22 : (Try.f22.name == "runtime.NumGoroutine") = false := by kernel_rfl
theorem N23 : (Try.f23.name == "runtime.NumGoroutine") = false := by kernel_rfl
theorem N55 : (Try.f55.name == "runtime.NumGoroutine") = false := by kernel_rfl
theorem N56 : (Try.f56.name == "runtime.NumGoroutine") = false := by kernel_rfl
theorem N57 : (Try.f57.name == "runtime.NumGoroutine") = false := by kernel_rfl
theorem N58 : (Try.f58.name == "runtime.NumGoroutine") = false := by kernel_rfl
theorem N59 : (Try.f59.name == "runtime.NumGoroutine") = false := by kernel_rfl
theorem N60 : (Try.f60.name == "runtime.NumGoroutine") = false := by kernel_rfl
theorem N61 : (Try.f61.name == "runtime.NumGoroutine") = false := by kernel_rfl
theorem N62 : (Try.f62.name == "runtime.NumGoroutine") = false := by kernel_rfl
theorem N63 : (Try.f63.name == "runtime.NumGoroutine") = false := by kernel_rfl
theorem N64 : (Try.f64.name == "runtime.NumGoroutine") = false := by kernel_rfl
theorem N65 : (Try.f65.name == "runtime.NumGoroutine") = false := by kernel_rfl
theorem N66 : (Try.f66.name == "runtime.NumGoroutine") = false := by kernel_rfl
theorem N67 : (Try.f67.name == "runtime.NumGoroutine") = false := by kernel_rfl
theorem N68 : (Try.f68.name == "runtime.NumGoroutine") = false := by kernel_rfl
theorem N70 : (Try.f70.name == "runtime.NumGoroutine") = false := by kernel_rfl
theorem N71 : (Try.f71.name == "runtime.NumGoroutine") = false := by kernel_rfl
theorem N73 : (Try.f73.name == "runtime.NumGoroutine") = false := by kernel_rfl
theorem N74 : (Try.f74.name == "runtime.NumGoroutine") = false := by kernel_rfl
theorem N75 : (Try.f75.name == "runtime.NumGoroutine") = false := by kernel_rfl
theorem N76 : (Try.f76.name == "runtime.NumGoroutine") = false := by kernel_rfl
theorem N77 : (Try.f77.name == "runtime.NumGoroutine") = false := by kernel_rfl
theorem N78 : (Try.f78.name == "runtime.NumGoroutine") = false := by kernel_rfl
theorem N79 : (Try.f79.name == "runtime.NumGoroutine") = false := by kernel_rfl
theorem N8 : (Try.f8.name == "runtime.NumGoroutine") = false := by kernel_rfl
theorem N80 : (Try.f80.name == "runtime.NumGoroutine") = false := by kernel_rfl
theorem N81 : (Try.f81.name == "runtime.NumGoroutine") = false := by kernel_rfl
theorem N84 : (Try.f84.name == "runtime.NumGoroutine") = false := by kernel_rfl
theorem N85 : (Try.f85.name == "runtime.NumGoroutine") = false := by kernel_rfl
theorem N87 : (Try.f87.name == "runtime.NumGoroutine") = false := by kernel_rfl
theorem N99 : (Try.f99.name == "runtime.NumGoroutine") = false := by kernel_rfl
theorem V25 : (Try.prog.info? 25).bind (·.zero) = some (.slice none 0 0) := by kernel_rfl
theorem V27 : (Try.prog.info? 27).bind (·.zero) = some (.agg #[.int .i64 0, .slice none 0 0, .slice none 0 0]) := by kernel_rfl
theorem V3 : (Try.prog.info? 3).bind (·.zero) = some (.int .i64 0) := by kernel_rfl
theorem V88 : (Try.prog.info? 88).bind (·.zero) = some (.agg #[.int .i64 0, .int .i64 0]) := by kernel_rfl
theorem Y22 : cellTy (Try.prog.underlying 22) = true := by kernel_rfl
theorem Y24 : cellTy (Try.prog.underlying 24) = true := by kernel_rfl
theorem Y25 : cellTy (Try.prog.underlying 25) = true := by kernel_rfl
theorem Y3 : cellTy (Try.prog.underlying 3) = true := by kernel_rfl
theorem Y4 : cellTy (Try.prog.underlying 4) = true := by kernel_rfl
theorem Y5 : cellTy (Try.prog.underlying 5) = true := by kernel_rfl
theorem Y65 : cellTy (Try.prog.underlying 65) = true := by kernel_rfl
theorem Y97 : cellTy (Try.prog.underlying 97) = true := by kernel_rfl
theorem Z24 : (Try.prog.info? 24).map (·.size) = some 1 := by kernel_rfl
theorem Z25 : (Try.prog.info? 25).map (·.size) = some 1 := by kernel_rfl
theorem Z27 : (Try.prog.info? 27).map (·.size) = some 3 := by kernel_rfl
theorem Z3 : (Try.prog.info? 3).map (·.size) = some 1 := by kernel_rfl
theorem Z4 : (Try.prog.info? 4).map (·.size) = some 1 := by kernel_rfl
theorem Z5 : (Try.prog.info? 5).map (·.size) = some 1 := by kernel_rfl
theorem Z65 : (Try.prog.info? 65).map (·.size) = some 1 := by kernel_rfl
theorem Z88 : (Try.prog.info? 88).map (·.size) = some 2 := by kernel_rfl
/-! ### loop.example/g01098/impl.in: function 58 -/
def impl_in.f (a0 : Int) (a1 : Int) (a2 : Int) : Option Bool := if a1 ≤ a0 then (some (decide (a0 ≤ a2))) else (some false)
set_option maxHeartbeats 600000 in
set_option maxRecDepth 100000 in
theorem impl_in.calls {w0 ws : World} {P0 : Nat → Prop} (a0 : Int) (a1 : Int) (a2 : Int) (Z : Below w0.heap.size w0 ws) (hF : Fr w0 ws P0 [] ws)  (r_1 : Bool) (h : impl_in.f a0 a1 a2 = some r_1) :
    Calls Try.prog 58 #[.int .i64 a0, .int .i64 a1, .int .i64 a2] ws (Post1 w0 ws P0 (fun (_ : Unit) => .bool r_1) (fun (_ : Unit) => [])) := by
  unfold impl_in.f at h
  refine enter Try.func58 rfl Try.ntmps58 rfl hF ?_
  refine c_seq ?_
  refine za0 ?_
  refine o_q rfl rfl (q_asg rfl) ?_
  refine o_end ?_
  refine za2 ?_
  refine c_seq ?_
  refine za0 ?_
  refine o_q rfl rfl (za3 rfl) ?_
  refine o_q rfl rfl (za3 rfl) ?_
  refine o_q rfl rfl (q_geq rfl rfl) ?_
  refine o_q rfl rfl (za3 rfl) ?_
  refine byB (decide (a1 ≤ a0)) (fun hb1 => ?_) (fun hb1 => ?_)
  · replace h := br_t hb1 h
    refine o_w (za4 rfl rfl rfl (congrArg Value.bool hb1)) rfl (za3 rfl) ?_
    refine o_w (za4 rfl rfl rfl (congrArg Value.bool hb1)) rfl (za3 rfl) ?_
    refine o_w (za4 rfl rfl rfl (congrArg Value.bool hb1)) rfl (q_leq rfl rfl) ?_
    refine o_q rfl rfl (zaa true (congrArg Value.bool hb1) rfl) ?_
    refine o_q rfl rfl (q_asg rfl) ?_
    refine o_end ?_
    refine za2 ?_
    refine c_ret ?_
    have e0_ := Option.some.inj h; clear h
    subst e0_
    exact x_r1 () Try.results58 (zaj rfl) rfl (fun w h => za5 [] (by decide) rfl w h)
  · replace h := br_f hb1 h
    refine @o_n _ _ _ _ _ _ _ _ _ _ _ 11 (za1 rfl rfl rfl (congrArg Value.bool hb1) rfl) (Eq.refl (some 11)) ?_
    refine @o_n _ _ _ _ _ _ _ _ _ _ _ 12 (za1 rfl rfl rfl (congrArg Value.bool hb1) rfl) (Eq.refl (some 12)) ?_
    refine @o_n _ _ _ _ _ _ _ _ _ _ _ 13 (za1 rfl rfl rfl (congrArg Value.bool hb1) rfl) (Eq.refl (some 13)) ?_
    refine o_q rfl rfl (zaa false (congrArg Value.bool hb1) rfl) ?_
    refine o_q rfl rfl (q_asg rfl) ?_
    refine o_end ?_
    refine za2 ?_
    refine c_ret ?_
    have e0_ := Option.some.inj h; clear h
    subst e0_
    exact x_r1 () Try.results58 (zaj rfl) rfl (fun w h => za5 [] (by decide) rfl w h)

/-! ### (*loop.example/g01098/impl.Plan).many: function 84 -/
def impl_Plan_many.f (a0_0 : Int) (l0_1 : List SStep) (l0_2 : List Int) : Option Unit := some ()
set_option maxHeartbeats 600000 in
set_option maxRecDepth 100000 in
theorem impl_Plan_many.calls {w0 ws : World} {P0 : Nat → Prop} (g0 : Nat) (a0_0 : Int) (A0_1 : Option Addr) (c0_1 : Nat) (n0_1 : Nat) (l0_1 : List SStep) (A0_2 : Option Addr) (c0_2 : Nat) (n0_2 : Nat) (l0_2 : List Int) (Z : Below w0.heap.size w0 ws) (hF : Fr w0 ws P0 [] ws) (R0_1 : Stable ws P0 (fun w => Kd.C kStep w A0_1 n0_1 l0_1)) (hc0_1 : n0_1 ≤ c0_1) (R0_2 : Stable ws P0 (fun w => Kd.C (Kd.int .i64) w A0_2 n0_2 l0_2)) (hc0_2 : n0_2 ≤ c0_2) (B0 : Stable ws P0 (fun w => w.heap[g0]? = some (.cells #[.int .i64 a0_0, .slice A0_1 n0_1 c0_1, .slice A0_2 n0_2 c0_2] 27 (0, 0))))  (h : impl_Plan_many.f a0_0 l0_1 l0_2 = some ()) :
    Calls Try.prog 84 #[.pointer (some ⟨g0, 0, none⟩)] ws (Post1 w0 ws P0 (fun (_ : Unit) => .int .i64 (w64 (a0_0 + (l0_1.length : Int)))) (fun (_ : Unit) => [])) := by
  unfold impl_Plan_many.f at h
  obtain rfl := (R0_1 ws (KeptB.refl _ _)).1
  obtain rfl := (R0_2 ws (KeptB.refl _ _)).1
  refine enter Try.func84 rfl Try.ntmps84 rfl hF ?_
  refine c_seq ?_
  refine za0 ?_
  refine o_q rfl rfl (q_asg rfl) ?_
  refine o_end ?_
  refine za2 ?_
  refine c_seq ?_
  refine a_start (ds := []) MO rfl ?_
  refine za7 0 rfl rfl rfl (by kernel_rfl) (fun _ _ _ h => h) (za3 rfl) ?_
  refine za7 1 rfl rfl rfl (by kernel_rfl) (fun _ _ _ h => h) (q_nil rfl) ?_
  refine za7 2 rfl rfl rfl (by kernel_rfl) (fun _ _ _ h => h) (q_f F27_0 rfl) ?_
  refine zau 3 rfl rfl rfl (by kernel_rfl) (fun _ _ _ h => h) (fun w h => h) (q_ldb Y3 rfl (fun w h => B0.now Z h) rfl) ?_
  refine za7 4 rfl rfl rfl (by kernel_rfl) (fun _ _ _ h => h) (za3 rfl) ?_
  refine za7 5 rfl rfl rfl (by kernel_rfl) (fun _ _ _ h => h) (q_nil rfl) ?_
  refine za7 6 rfl rfl rfl (by kernel_rfl) (fun _ _ _ h => h) (q_f F27_1 rfl) ?_
  refine zau 7 rfl rfl rfl (by kernel_rfl) (fun _ _ _ h => h) (fun w h => h) (q_ldb Y24 rfl (fun w h => B0.now Z h) rfl) ?_
  refine za7 8 rfl rfl rfl (by kernel_rfl) (fun _ _ _ h => h) (q_len Try.underlying24 rfl) ?_
  refine za7 9 rfl rfl rfl (by kernel_rfl) (fun _ _ _ h => h) (q_add64 rfl rfl) ?_
  refine za7 10 rfl rfl rfl (by kernel_rfl) (fun _ _ _ h => h) (q_asg rfl) ?_
  refine zav (by kernel_rfl) ?_
  refine za2 ?_
  refine c_ret ?_
  exact x_r1 () Try.results84 (zaj rfl) rfl (fun w h => za5 [] (by decide) rfl w h)

/-! ### (*loop.example/g01098/impl.Plan).formed$1: function 173 -/
def impl_Plan_formed_1.f (a0 : Int) (a1_0_0 : Int) (l1_0_1 : List SStep) (l1_0_2 : List Int) : Option Bool := (impl_Plan_many.f a1_0_0 l1_0_1 l1_0_2).bind fun _ => (impl_in.f a0 0 (w64 (w64 (a1_0_0 + (l1_0_1.length : Int)) - 1))).bind fun b3 => some (!b3)
set_option maxHeartbeats 600000 in
set_option maxRecDepth 100000 in
theorem impl_Plan_formed_1.calls {w0 ws : World} {P0 : Nat → Prop} (a0 : Int) (g1 : Nat) (g1_0 : Nat) (a1_0_0 : Int) (A1_0_1 : Option Addr) (c1_0_1 : Nat) (n1_0_1 : Nat) (l1_0_1 : List SStep) (A1_0_2 : Option Addr) (c1_0_2 : Nat) (n1_0_2 : Nat) (l1_0_2 : List Int) (Z : Below w0.heap.size w0 ws) (hF : Fr w0 ws P0 [] ws) (R1_0_1 : Stable ws P0 (fun w => Kd.C kStep w A1_0_1 n1_0_1 l1_0_1)) (hc1_0_1 : n1_0_1 ≤ c1_0_1) (R1_0_2 : Stable ws P0 (fun w => Kd.C (Kd.int .i64) w A1_0_2 n1_0_2 l1_0_2)) (hc1_0_2 : n1_0_2 ≤ c1_0_2) (B1_0 : Stable ws P0 (fun w => w.heap[g1_0]? = some (.cells #[.int .i64 a1_0_0, .slice A1_0_1 n1_0_1 c1_0_1, .slice A1_0_2 n1_0_2 c1_0_2] 27 (0, 0)))) (B1 : Stable ws P0 (fun w => w.heap[g1]? = some (.cells #[.pointer (some ⟨g1_0, 0, none⟩)] 97 (0, 0)))) (r_1 : Bool) (h : impl_Plan_formed_1.f a0 a1_0_0 l1_0_1 l1_0_2 = some r_1) :
    Calls Try.prog 173 #[.int .i64 a0, .pointer (some ⟨g1, 0, none⟩)] ws (Post1 w0 ws P0 (fun (_ : Unit) => .bool r_1) (fun (_ : Unit) => [])) := by
  unfold impl_Plan_formed_1.f at h
  obtain rfl := (R1_0_1 ws (KeptB.refl _ _)).1
  obtain rfl := (R1_0_2 ws (KeptB.refl _ _)).1
  refine enter Try.func173 rfl Try.ntmps173 rfl hF ?_
  refine c_seq ?_
  refine za0 ?_
  refine o_q rfl rfl (q_asg rfl) ?_
  refine o_end ?_
  refine za2 ?_
  refine c_seq ?_
  refine za0 ?_
  refine o_q rfl rfl (za3 rfl) ?_
  refine o_q rfl rfl (q_ldb Y97 rfl (fun w h => B1.now Z h) rfl) ?_
  refine za8 h (fun _ hx1 h => ?_) rfl
  refine o_e rfl (za9 0 Z Try.func84 N84 rfl rfl rfl (fun w P1 hF hB hS hT => impl_Plan_many.calls g1_0 a1_0_0 A1_0_1 c1_0_1 l1_0_1.length l1_0_1 A1_0_2 c1_0_2 l1_0_2.length l1_0_2 hB hF (hS _ R1_0_1) hc1_0_1 (hS _ R1_0_2) hc1_0_2 (hS _ B1_0) hx1)) (fun _ => ?_)
  refine o_q rfl rfl (q_sub64 rfl rfl) ?_
  refine za8 h (fun b3 hx2 h => ?_) rfl
  refine o_e rfl (za9 0 Z Try.func58 N58 rfl rfl rfl (fun w P1 hF hB hS hT => impl_in.calls a0 0 (w64 (w64 (a1_0_0 + (l1_0_1.length : Int)) - 1)) hB hF _ hx2)) (fun _ => ?_)
  refine o_q rfl rfl (q_not rfl) ?_
  refine o_q rfl rfl (q_asg rfl) ?_
  refine o_end ?_
  refine za2 ?_
  refine c_ret ?_
  have e0_ := Option.some.inj h; clear h
  subst e0_
  exact x_r1 () Try.results173 (zaj rfl) rfl (fun w h => za5 [] (by decide) rfl w h)

/-! ### slices.IndexFunc[[]int,int]: function 182 -/
def slices_IndexFunc_int_int.l0 (a1_c0_0_0 : Int) (l1_c0_0_1 : List SStep) (l1_c0_0_2 : List Int) : (List Int) → Int → Option ((Int) ⊕ (Unit))
  | [], i1 => some (.inr ())
  | y2 :: ys3, i1 => (impl_Plan_formed_1.f y2 a1_c0_0_0 l1_c0_0_1 l1_c0_0_2).bind fun b14 => if b14 = true then (some (.inl i1)) else (slices_IndexFunc_int_int.l0 a1_c0_0_0 l1_c0_0_1 l1_c0_0_2 ys3 (i1 + 1))
def slices_IndexFunc_int_int.f (l0 : List Int) (a1_c0_0_0 : Int) (l1_c0_0_1 : List SStep) (l1_c0_0_2 : List Int) : Option Int := (slices_IndexFunc_int_int.l0 a1_c0_0_0 l1_c0_0_1 l1_c0_0_2 l0 0).bind fun o_ => match o_ with | .inl r_ => some r_ | .inr _ => some (-1)
set_option maxHeartbeats 600000 in
set_option maxRecDepth 100000 in
theorem slices_IndexFunc_int_int.calls {w0 ws : World} {P0 : Nat → Prop} (A0 : Option Addr) (c0 : Nat) (n0 : Nat) (l0 : List Int) (g1_c0 : Nat) (g1_c0_0 : Nat) (a1_c0_0_0 : Int) (A1_c0_0_1 : Option Addr) (c1_c0_0_1 : Nat) (n1_c0_0_1 : Nat) (l1_c0_0_1 : List SStep) (A1_c0_0_2 : Option Addr) (c1_c0_0_2 : Nat) (n1_c0_0_2 : Nat) (l1_c0_0_2 : List Int) (Z : Below w0.heap.size w0 ws) (hF : Fr w0 ws P0 [] ws) (R0 : Stable ws P0 (fun w => Kd.C (Kd.int .i64) w A0 n0 l0)) (hc0 : n0 ≤ c0) (R1_c0_0_1 : Stable ws P0 (fun w => Kd.C kStep w A1_c0_0_1 n1_c0_0_1 l1_c0_0_1)) (hc1_c0_0_1 : n1_c0_0_1 ≤ c1_c0_0_1) (R1_c0_0_2 : Stable ws P0 (fun w => Kd.C (Kd.int .i64) w A1_c0_0_2 n1_c0_0_2 l1_c0_0_2)) (hc1_c0_0_2 : n1_c0_0_2 ≤ c1_c0_0_2) (B1_c0_0 : Stable ws P0 (fun w => w.heap[g1_c0_0]? = some (.cells #[.int .i64 a1_c0_0_0, .slice A1_c0_0_1 n1_c0_0_1 c1_c0_0_1, .slice A1_c0_0_2 n1_c0_0_2 c1_c0_0_2] 27 (0, 0)))) (B1_c0 : Stable ws P0 (fun w => w.heap[g1_c0]? = some (.cells #[.pointer (some ⟨g1_c0_0, 0, none⟩)] 97 (0, 0)))) (r_1 : Int) (h : slices_IndexFunc_int_int.f l0 a1_c0_0_0 l1_c0_0_1 l1_c0_0_2 = some r_1) :
    Calls Try.prog 182 #[.slice A0 n0 c0, .func (.func 173) #[] #[.pointer (some ⟨g1_c0, 0, none⟩)]] ws (Post1 w0 ws P0 (fun (_ : Unit) => .int .i64 r_1) (fun (_ : Unit) => [])) := by
  unfold slices_IndexFunc_int_int.f at h
  obtain rfl := (R0 ws (KeptB.refl _ _)).1
  obtain rfl := (R1_c0_0_1 ws (KeptB.refl _ _)).1
  obtain rfl := (R1_c0_0_2 ws (KeptB.refl _ _)).1
  refine enter Try.func182 rfl Try.ntmps182 rfl hF ?_
  refine c_seq ?_
  refine za0 ?_
  refine o_q rfl rfl (q_asg rfl) ?_
  refine o_end ?_
  refine za2 ?_
  refine c_seq ?_
  refine c_seq ?_
  refine za0 ?_
  refine o_q rfl rfl (za3 rfl) ?_
  refine o_q rfl rfl (q_len Try.underlying25 rfl) ?_
  refine o_q rfl rfl (za3 rfl) ?_
  refine o_end ?_
  refine za2 ?_
  refine zam ?_
  refine za8 h (fun o9 hl8 hR7 => ?_) rfl
  clear h
  refine c_fact (p := l0.length ≤ 9223372036854775807) (fun w h => (R0.now Z h).2.1) (fun hm6 => ?_)
  refine zaw (σ := (List Int) × Int) (fun k4 ((ys3, i1) : (List Int) × Int) => Rg l0 i1 ys3 ∧ ys3.length = k4 ∧ slices_IndexFunc_int_int.l0 a1_c0_0_0 l1_c0_0_1 l1_c0_0_2 ys3 i1 = some o9) [4, 5, 8, 9, 10, 11, 12, 13, 14, 15, 16, 17, 18] (fun ((ys3, i1) : (List Int) × Int) => [(8, .int .i64 i1)]) (fun ((ys3, i1) : (List Int) × Int) => []) l0.length (l0, 0) ⟨Rg.start _, rfl, hl8⟩ ⟨rfl, trivial⟩ (fun w h => h) ?_
  refine fun k4 => cur2 (listC (fun i1 U10 hJ_ => ?_) (fun y2 ys3 i1 U10 hJ_ => ?_))
  · skip
    clear hl8
    have hr5 := hJ_.1; have hk11 := hJ_.2.1; have h := hJ_.2.2; clear hJ_
    replace h : slices_IndexFunc_int_int.l0 a1_c0_0_0 l1_c0_0_1 l1_c0_0_2 [] i1 = some o9 := h
    rw [slices_IndexFunc_int_int.l0] at h
    refine c_seq ?_
    refine za0 ?_
    refine o_q rfl rfl (q_lss rfl rfl) ?_
    refine o_end ?_
    refine za2 ?_
    refine c_seq ?_
    refine c_false (congrArg Value.bool hr5.ge) ?_
    refine c_exit ?_
    refine za6 ?_
    refine za6 ?_
    have e_ := Option.some.inj h; replace h := hR7; rw [← e_] at h; clear e_
    refine x_hit ?_
    refine za2 ?_
    refine c_seq ?_
    refine za0 ?_
    refine o_q rfl rfl (q_asg rfl) ?_
    refine o_end ?_
    refine za2 ?_
    refine c_ret ?_
    have e0_ := Option.some.inj h; clear h
    subst e0_
    exact x_r1 () Try.results182 (zaj rfl) rfl (fun w h => za5 [] (by decide) rfl w h)
  · skip
    clear hl8
    have hr5 := hJ_.1; have hk11 := hJ_.2.1; have h := hJ_.2.2; clear hJ_
    replace h : slices_IndexFunc_int_int.l0 a1_c0_0_0 l1_c0_0_1 l1_c0_0_2 (y2 :: ys3) i1 = some o9 := h
    rw [slices_IndexFunc_int_int.l0] at h
    refine c_seq ?_
    refine za0 ?_
    refine o_q rfl rfl (q_lss rfl rfl) ?_
    refine o_end ?_
    refine za2 ?_
    refine c_seq ?_
    refine c_true (congrArg Value.bool hr5.lt) ?_
    refine zaq ?_
    refine za2 ?_
    refine c_seq ?_
    refine zam ?_
    refine c_seq ?_
    refine za0 ?_
    refine o_q rfl rfl (za3 rfl) ?_
    refine o_q rfl rfl (q_asg rfl) ?_
    refine o_end ?_
    refine za2 ?_
    refine c_seq ?_
    refine za0 ?_
    refine o_q rfl rfl (za3 rfl) ?_
    refine o_q rfl rfl (za3 rfl) ?_
    refine o_q rfl rfl (za3 rfl) ?_
    refine o_fact (p := Sh A0 l0.length l0.length) (fun w h => f_sh (dk := (Kd.int .i64)) h (fun w h => R0.now Z h)) (fun hq12 => ?_)
    refine o_q rfl rfl (q_ix Try.underlying25 Z3 rfl rfl hq12 hr5.get) ?_
    refine o_q rfl rfl (q_lde (off := 0) Y3 rfl rfl (fun w h => R0.now Z h) hr5.get (fun _ _ h => h) rfl) ?_
    refine za8 h (fun b14 hx13 h => ?_) rfl
    refine o_e rfl (za9 0 Z Try.func173 N173 rfl rfl rfl (fun w P1 hF hB hS hT => impl_Plan_formed_1.calls y2 g1_c0 g1_c0_0 a1_c0_0_0 A1_c0_0_1 c1_c0_0_1 l1_c0_0_1.length l1_c0_0_1 A1_c0_0_2 c1_c0_0_2 l1_c0_0_2.length l1_c0_0_2 hB hF (hS _ R1_c0_0_1) hc1_c0_0_1 (hS _ R1_c0_0_2) hc1_c0_0_2 (hS _ B1_c0_0) (hS _ B1_c0) _ hx13)) (fun _ => ?_)
    refine o_end ?_
    refine za2 ?_
    refine zat _ rfl (fun hb15 => ?_) (fun hb15 => ?_)
    · skip
      replace h := bb_t hb15 h
      refine c_seq ?_
      refine za0 ?_
      refine o_q rfl rfl (za3 rfl) ?_
      refine o_q rfl rfl (q_asg rfl) ?_
      refine o_end ?_
      refine za2 ?_
      refine c_ret ?_
      refine zas ?_
      refine zaf ?_
      refine zaf ?_
      have e_ := Option.some.inj h; replace h := hR7; rw [← e_] at h; clear e_
      refine zas ?_
      refine zaf ?_
      have e0_ := Option.some.inj h; clear h
      subst e0_
      exact x_r1 () Try.results182 (zaj rfl) rfl (fun w h => za5 [] (by decide) rfl w h)
    · skip
      replace h := bb_f hb15 h
      refine zaq ?_
      refine zal ?_
      refine za2 ?_
      refine za0 ?_
      refine o_q rfl rfl (q_up rfl rfl (hr5.up hm6)) ?_
      refine o_q rfl rfl (za3 rfl) ?_
      refine o_end ?_
      refine zak ys3.length (ys3, i1 + 1) (by rw [← hk11]; exact Nat.lt_succ_self _) ⟨hr5.step, rfl, h⟩ ⟨rfl, trivial⟩ (fun w h => za5 [] (by decide) rfl w h) ?_
      repeat (first | exact zad _ _ | refine zah rfl ?_ | refine zae rfl ?_ | refine zai rfl ?_)

/-! ### slices.ContainsFunc[[]int,int]: function 147 -/
def slices_ContainsFunc_int_int.f (l0 : List Int) (a1_c0_0_0 : Int) (l1_c0_0_1 : List SStep) (l1_c0_0_2 : List Int) : Option Bool := (slices_IndexFunc_int_int.f l0 a1_c0_0_0 l1_c0_0_1 l1_c0_0_2).bind fun i2 => some (decide (0 ≤ i2))
set_option maxHeartbeats 600000 in
set_option maxRecDepth 100000 in
theorem slices_ContainsFunc_int_int.calls {w0 ws : World} {P0 : Nat → Prop} (A0 : Option Addr) (c0 : Nat) (n0 : Nat) (l0 : List Int) (g1_c0 : Nat) (g1_c0_0 : Nat) (a1_c0_0_0 : Int) (A1_c0_0_1 : Option Addr) (c1_c0_0_1 : Nat) (n1_c0_0_1 : Nat) (l1_c0_0_1 : List SStep) (A1_c0_0_2 : Option Addr) (c1_c0_0_2 : Nat) (n1_c0_0_2 : Nat) (l1_c0_0_2 : List Int) (Z : Below w0.heap.size w0 ws) (hF : Fr w0 ws P0 [] ws) (R0 : Stable ws P0 (fun w => Kd.C (Kd.int .i64) w A0 n0 l0)) (hc0 : n0 ≤ c0) (R1_c0_0_1 : Stable ws P0 (fun w => Kd.C kStep w A1_c0_0_1 n1_c0_0_1 l1_c0_0_1)) (hc1_c0_0_1 : n1_c0_0_1 ≤ c1_c0_0_1) (R1_c0_0_2 : Stable ws P0 (fun w => Kd.C (Kd.int .i64) w A1_c0_0_2 n1_c0_0_2 l1_c0_0_2)) (hc1_c0_0_2 : n1_c0_0_2 ≤ c1_c0_0_2) (B1_c0_0 : Stable ws P0 (fun w => w.heap[g1_c0_0]? = some (.cells #[.int .i64 a1_c0_0_0, .slice A1_c0_0_1 n1_c0_0_1 c1_c0_0_1, .slice A1_c0_0_2 n1_c0_0_2 c1_c0_0_2] 27 (0, 0)))) (B1_c0 : Stable ws P0 (fun w => w.heap[g1_c0]? = some (.cells #[.pointer (some ⟨g1_c0_0, 0, none⟩)] 97 (0, 0)))) (r_1 : Bool) (h : slices_ContainsFunc_int_int.f l0 a1_c0_0_0 l1_c0_0_1 l1_c0_0_2 = some r_1) :
    Calls Try.prog 147 #[.slice A0 n0 c0, .func (.func 173) #[] #[.pointer (some ⟨g1_c0, 0, none⟩)]] ws (Post1 w0 ws P0 (fun (_ : Unit) => .bool r_1) (fun (_ : Unit) => [])) := by
  unfold slices_ContainsFunc_int_int.f at h
  obtain rfl := (R0 ws (KeptB.refl _ _)).1
  obtain rfl := (R1_c0_0_1 ws (KeptB.refl _ _)).1
  obtain rfl := (R1_c0_0_2 ws (KeptB.refl _ _)).1
  refine enter Try.func147 rfl Try.ntmps147 rfl hF ?_
  refine c_seq ?_
  refine za0 ?_
  refine o_q rfl rfl (q_asg rfl) ?_
  refine o_end ?_
  refine za2 ?_
  refine c_seq ?_
  refine za0 ?_
  refine o_q rfl rfl (za3 rfl) ?_
  refine o_q rfl rfl (za3 rfl) ?_
  refine za8 h (fun i2 hx1 h => ?_) rfl
  refine o_e rfl (za9 0 Z Try.func182 N182 rfl rfl rfl (fun w P1 hF hB hS hT => slices_IndexFunc_int_int.calls A0 c0 l0.length l0 g1_c0 g1_c0_0 a1_c0_0_0 A1_c0_0_1 c1_c0_0_1 l1_c0_0_1.length l1_c0_0_1 A1_c0_0_2 c1_c0_0_2 l1_c0_0_2.length l1_c0_0_2 hB hF (hS _ R0) hc0 (hS _ R1_c0_0_1) hc1_c0_0_1 (hS _ R1_c0_0_2) hc1_c0_0_2 (hS _ B1_c0_0) (hS _ B1_c0) _ hx1)) (fun _ => ?_)
  refine o_q rfl rfl (q_geq rfl rfl) ?_
  refine o_q rfl rfl (q_asg rfl) ?_
  refine o_end ?_
  refine za2 ?_
  refine c_ret ?_
  have e0_ := Option.some.inj h; clear h
  subst e0_
  exact x_r1 () Try.results147 (zaj rfl) rfl (fun w h => za5 [] (by decide) rfl w h)

/-! ### (*loop.example/g01098/impl.Plan).formed: function 130 -/
def impl_Plan_formed.l0 (a0_0 : Int) : (List SStep) → Int → Option ((Bool) ⊕ (Unit))
  | [], i8 => some (.inr ())
  | y9 :: ys10, i8 => if y9.f0 < 0 then (some (.inl false)) else (if y9.f1 < y9.f0 then (some (.inl false)) else (if w64 (a0_0 + i8) ≤ y9.f1 then (some (.inl false)) else (impl_Plan_formed.l0 a0_0 ys10 (i8 + 1))))
def impl_Plan_formed.f (a0_0 : Int) (l0_1 : List SStep) (l0_2 : List Int) : Option Bool := (impl_in.f a0_0 1 6).bind fun b4 => if b4 = true then (if 40 < (l0_1.length : Int) then (some false) else (if 6 < (l0_2.length : Int) then (some false) else ((impl_Plan_formed.l0 a0_0 l0_1 0).bind fun o_ => match o_ with | .inl r_ => some r_ | .inr _ => (slices_ContainsFunc_int_int.f l0_2 a0_0 l0_1 l0_2).bind fun b20 => some (!b20)))) else (some false)
set_option maxHeartbeats 600000 in
set_option maxRecDepth 100000 in
theorem impl_Plan_formed.calls {w0 ws : World} {P0 : Nat → Prop} (g0 : Nat) (a0_0 : Int) (A0_1 : Option Addr) (c0_1 : Nat) (n0_1 : Nat) (l0_1 : List SStep) (A0_2 : Option Addr) (c0_2 : Nat) (n0_2 : Nat) (l0_2 : List Int) (Z : Below w0.heap.size w0 ws) (hF : Fr w0 ws P0 [] ws) (R0_1 : Stable ws P0 (fun w => Kd.C kStep w A0_1 n0_1 l0_1)) (hc0_1 : n0_1 ≤ c0_1) (R0_2 : Stable ws P0 (fun w => Kd.C (Kd.int .i64) w A0_2 n0_2 l0_2)) (hc0_2 : n0_2 ≤ c0_2) (B0 : Stable ws P0 (fun w => w.heap[g0]? = some (.cells #[.int .i64 a0_0, .slice A0_1 n0_1 c0_1, .slice A0_2 n0_2 c0_2] 27 (0, 0)))) (r_1 : Bool) (h : impl_Plan_formed.f a0_0 l0_1 l0_2 = some r_1) :
    Calls Try.prog 130 #[.pointer (some ⟨g0, 0, none⟩)] ws (Post1 w0 ws P0 (fun (_ : Unit) => .bool r_1) (fun (_ : Unit) => [])) := by
  unfold impl_Plan_formed.f at h
  obtain rfl := (R0_1 ws (KeptB.refl _ _)).1
  obtain rfl := (R0_2 ws (KeptB.refl _ _)).1
  refine enter Try.func130 rfl Try.ntmps130 rfl hF ?_
  refine c_seq ?_
  refine za0 ?_
  refine o_e rfl (e_box rfl) (fun g1 => ?_)
  refine o_q rfl rfl (q_asg rfl) ?_
  refine o_end ?_
  refine za2 ?_
  refine c_seq ?_
  refine c_seq ?_
  refine za0 ?_
  refine o_q rfl rfl (q_ldb Y97 rfl (fun w h => h.zac (i := 0) rfl) rfl) ?_
  refine o_q rfl rfl (q_nil rfl) ?_
  refine o_q rfl rfl (q_f F27_0 rfl) ?_
  refine o_q rfl rfl (q_ldb Y3 rfl (fun w h => B0.now Z h) rfl) ?_
  refine za8 h (fun b4 hx3 h => ?_) rfl
  refine o_e rfl (za9 0 Z Try.func58 N58 rfl rfl rfl (fun w P1 hF hB hS hT => impl_in.calls a0_0 1 6 hB hF _ hx3)) (fun _ => ?_)
  refine o_q rfl rfl (q_not rfl) ?_
  refine o_q rfl rfl (za3 rfl) ?_
  refine byB b4 (fun hb5 => ?_) (fun hb5 => ?_)
  · replace h := bb_t hb5 h
    refine o_w (za4 rfl rfl rfl (congrArg (fun b => Value.bool (!(b))) hb5)) rfl (q_ldb Y97 rfl (fun w h => h.zac (i := 0) rfl) rfl) ?_
    refine o_w (za4 rfl rfl rfl (congrArg (fun b => Value.bool (!(b))) hb5)) rfl (q_nil rfl) ?_
    refine o_w (za4 rfl rfl rfl (congrArg (fun b => Value.bool (!(b))) hb5)) rfl (q_f F27_1 rfl) ?_
    refine o_w (za4 rfl rfl rfl (congrArg (fun b => Value.bool (!(b))) hb5)) rfl (q_ldb Y24 rfl (fun w h => B0.now Z h) rfl) ?_
    refine o_w (za4 rfl rfl rfl (congrArg (fun b => Value.bool (!(b))) hb5)) rfl (q_len Try.underlying24 rfl) ?_
    refine o_w (za4 rfl rfl rfl (congrArg (fun b => Value.bool (!(b))) hb5)) rfl (q_gtr rfl rfl) ?_
    refine o_q rfl rfl (zaa false (congrArg (fun b => Value.bool (!(b))) hb5) rfl) ?_
    refine o_q rfl rfl (za3 rfl) ?_
    refine byB (decide (40 < (l0_1.length : Int))) (fun hb6 => ?_) (fun hb6 => ?_)
    · replace h := br_t hb6 h
      refine @o_n _ _ _ _ _ _ _ _ _ _ _ 20 (za1 rfl rfl rfl (congrArg Value.bool hb6) rfl) (Eq.refl (some 20)) ?_
      refine @o_n _ _ _ _ _ _ _ _ _ _ _ 21 (za1 rfl rfl rfl (congrArg Value.bool hb6) rfl) (Eq.refl (some 21)) ?_
      refine @o_n _ _ _ _ _ _ _ _ _ _ _ 22 (za1 rfl rfl rfl (congrArg Value.bool hb6) rfl) (Eq.refl (some 22)) ?_
      refine @o_n _ _ _ _ _ _ _ _ _ _ _ 23 (za1 rfl rfl rfl (congrArg Value.bool hb6) rfl) (Eq.refl (some 23)) ?_
      refine @o_n _ _ _ _ _ _ _ _ _ _ _ 24 (za1 rfl rfl rfl (congrArg Value.bool hb6) rfl) (Eq.refl (some 24)) ?_
      refine @o_n _ _ _ _ _ _ _ _ _ _ _ 25 (za1 rfl rfl rfl (congrArg Value.bool hb6) rfl) (Eq.refl (some 25)) ?_
      refine o_q rfl rfl (zaa true (congrArg Value.bool hb6) rfl) ?_
      refine o_end ?_
      refine za2 ?_
      refine c_true rfl ?_
      refine c_seq ?_
      refine za0 ?_
      refine o_q rfl rfl (q_asg rfl) ?_
      refine o_end ?_
      refine za2 ?_
      refine c_ret ?_
      refine zaf ?_
      have e0_ := Option.some.inj h; clear h
      subst e0_
      exact x_r1 () Try.results130 (zaj rfl) rfl (fun w h => za5 [] (by decide) rfl w h)
    · replace h := br_f hb6 h
      refine o_w (za4 rfl rfl rfl (congrArg Value.bool hb6)) rfl (q_ldb Y97 rfl (fun w h => h.zac (i := 0) rfl) rfl) ?_
      refine o_w (za4 rfl rfl rfl (congrArg Value.bool hb6)) rfl (q_nil rfl) ?_
      refine o_w (za4 rfl rfl rfl (congrArg Value.bool hb6)) rfl (q_f F27_2 rfl) ?_
      refine o_w (za4 rfl rfl rfl (congrArg Value.bool hb6)) rfl (q_ldb Y25 rfl (fun w h => B0.now Z h) rfl) ?_
      refine o_w (za4 rfl rfl rfl (congrArg Value.bool hb6)) rfl (q_len Try.underlying25 rfl) ?_
      refine o_w (za4 rfl rfl rfl (congrArg Value.bool hb6)) rfl (q_gtr rfl rfl) ?_
      refine o_q rfl rfl (zaa false (congrArg Value.bool hb6) rfl) ?_
      refine o_end ?_
      refine za2 ?_
      refine zat _ rfl (fun hb7 => ?_) (fun hb7 => ?_)
      · skip
        replace h := br_t hb7 h
        refine c_seq ?_
        refine za0 ?_
        refine o_q rfl rfl (q_asg rfl) ?_
        refine o_end ?_
        refine za2 ?_
        refine c_ret ?_
        refine zaf ?_
        have e0_ := Option.some.inj h; clear h
        subst e0_
        exact x_r1 () Try.results130 (zaj rfl) rfl (fun w h => za5 [] (by decide) rfl w h)
      · skip
        replace h := br_f hb7 h
        refine zaq ?_
        refine za2 ?_
        refine c_seq ?_
        refine c_seq ?_
        refine za0 ?_
        refine o_q rfl rfl (q_ldb Y97 rfl (fun w h => h.zac (i := 0) rfl) rfl) ?_
        refine o_q rfl rfl (q_nil rfl) ?_
        refine o_q rfl rfl (q_f F27_1 rfl) ?_
        refine o_q rfl rfl (q_ldb Y24 rfl (fun w h => B0.now Z h) rfl) ?_
        refine o_q rfl rfl (q_len Try.underlying24 rfl) ?_
        refine o_q rfl rfl (za3 rfl) ?_
        refine o_end ?_
        refine za2 ?_
        refine zam ?_
        refine za8 h (fun o16 hl15 hR14 => ?_) rfl
        clear h
        refine c_fact (p := l0_1.length ≤ 9223372036854775807) (fun w h => (R0_1.now Z h).2.1) (fun hm13 => ?_)
        refine zaw (σ := (List SStep) × Int) (fun k11 ((ys10, i8) : (List SStep) × Int) => Rg l0_1 i8 ys10 ∧ ys10.length = k11 ∧ impl_Plan_formed.l0 a0_0 ys10 i8 = some o16) [2, 3, 4, 32, 33, 34, 35, 36, 37, 38, 39, 40, 41, 42, 43, 44, 45, 46, 47, 48, 49, 50, 51, 52, 53, 54, 55, 56, 57, 58] (fun ((ys10, i8) : (List SStep) × Int) => [(32, .int .i64 i8)]) (fun ((ys10, i8) : (List SStep) × Int) => [box g1 97 #[.pointer (some ⟨g0, 0, none⟩)]]) l0_1.length (l0_1, 0) ⟨Rg.start _, rfl, hl15⟩ ⟨rfl, trivial⟩ (fun w h => h) ?_
        refine fun k11 => cur2 (listC (fun i8 U17 hJ_ => ?_) (fun y9 ys10 i8 U17 hJ_ => ?_))
        · skip
          clear hl15
          have hr12 := hJ_.1; have hk18 := hJ_.2.1; have h := hJ_.2.2; clear hJ_
          replace h : impl_Plan_formed.l0 a0_0 [] i8 = some o16 := h
          rw [impl_Plan_formed.l0] at h
          refine c_seq ?_
          refine za0 ?_
          refine o_q rfl rfl (q_lss rfl rfl) ?_
          refine o_end ?_
          refine za2 ?_
          refine c_seq ?_
          refine c_false (congrArg Value.bool hr12.ge) ?_
          refine c_exit ?_
          refine za6 ?_
          refine za6 ?_
          have e_ := Option.some.inj h; replace h := hR14; rw [← e_] at h; clear e_
          refine x_hit ?_
          refine za2 ?_
          refine c_seq ?_
          refine za0 ?_
          refine o_q rfl rfl (q_ldb Y97 rfl (fun w h => h.zac (i := 0) rfl) rfl) ?_
          refine o_q rfl rfl (q_nil rfl) ?_
          refine o_q rfl rfl (q_f F27_2 rfl) ?_
          refine o_q rfl rfl (q_ldb Y25 rfl (fun w h => B0.now Z h) rfl) ?_
          refine o_q rfl rfl (q_func rfl rfl) ?_
          refine za8 h (fun b20 hx19 h => ?_) rfl
          refine o_e rfl (za9 0 Z Try.func147 N147 rfl rfl rfl (fun w P1 hF hB hS hT => slices_ContainsFunc_int_int.calls A0_2 c0_2 l0_2.length l0_2 g1 g0 a0_0 A0_1 c0_1 l0_1.length l0_1 A0_2 c0_2 l0_2.length l0_2 hB hF (hS _ R0_2) hc0_2 (hS _ R0_1) hc0_1 (hS _ R0_2) hc0_2 (hS _ B0) (hT 0 _ rfl).box _ hx19)) (fun _ => ?_)
          refine o_q rfl rfl (q_not rfl) ?_
          refine o_q rfl rfl (q_asg rfl) ?_
          refine o_end ?_
          refine za2 ?_
          refine c_ret ?_
          have e0_ := Option.some.inj h; clear h
          subst e0_
          exact x_r1 () Try.results130 (zaj rfl) rfl (fun w h => za5 [] (by decide) rfl w h)
        · skip
          clear hl15
          have hr12 := hJ_.1; have hk18 := hJ_.2.1; have h := hJ_.2.2; clear hJ_
          replace h : impl_Plan_formed.l0 a0_0 (y9 :: ys10) i8 = some o16 := h
          rw [impl_Plan_formed.l0] at h
          refine c_seq ?_
          refine za0 ?_
          refine o_q rfl rfl (q_lss rfl rfl) ?_
          refine o_end ?_
          refine za2 ?_
          refine c_seq ?_
          refine c_true (congrArg Value.bool hr12.lt) ?_
          refine zaq ?_
          refine za2 ?_
          refine c_seq ?_
          refine zam ?_
          refine c_seq ?_
          refine za0 ?_
          refine o_q rfl rfl (za3 rfl) ?_
          refine o_fact (p := Sh A0_1 l0_1.length l0_1.length) (fun w h => f_sh (dk := kStep) h (fun w h => R0_1.now Z h)) (fun hq21 => ?_)
          refine o_q rfl rfl (q_ix Try.underlying24 Z88 rfl rfl hq21 hr12.get) ?_
          refine o_q rfl rfl (q_ldE G88 Z88 rfl rfl (fun w h => R0_1.now Z h) hr12.get (fun _ _ h => h) rfl) ?_
          refine o_e rfl (e_alloc V88 rfl) (fun g22 => ?_)
          refine o_q rfl rfl (q_asg rfl) ?_
          refine o_e rfl (zaz (i := 0) rfl rfl rfl Z88 rfl rfl) (fun _ => ?_)
          refine o_end ?_
          refine za2 ?_
          refine c_seq ?_
          refine a_start (ds := []) MO rfl ?_
          refine za7 0 rfl rfl rfl (by kernel_rfl) (fun _ _ _ h => h) (q_f F88_0 rfl) ?_
          refine zau 1 rfl rfl rfl (by kernel_rfl) (fun _ _ _ h => h) (fun w h => h) (q_ldb Y3 rfl (fun w h => h.zac (i := 0) rfl) rfl) ?_
          refine za7 2 rfl rfl rfl (by kernel_rfl) (fun _ _ _ h => h) (q_lss rfl rfl) ?_
          refine za7 3 rfl rfl rfl (by kernel_rfl) (fun _ _ _ h => h) (za3 rfl) ?_
          refine byB (decide (y9.f0 < 0)) (fun hb24 => ?_) (fun hb24 => ?_)
          · replace h := br_t hb24 h
            refine a_no 4 rfl rfl (za1 rfl rfl rfl (congrArg Value.bool hb24) rfl) (by kernel_rfl) (fun _ _ _ h => h) ?_
            refine a_no 5 rfl rfl (za1 rfl rfl rfl (congrArg Value.bool hb24) rfl) (by kernel_rfl) (fun _ _ _ h => h) ?_
            refine a_no 6 rfl rfl (za1 rfl rfl rfl (congrArg Value.bool hb24) rfl) (by kernel_rfl) (fun _ _ _ h => h) ?_
            refine a_no 7 rfl rfl (za1 rfl rfl rfl (congrArg Value.bool hb24) rfl) (by kernel_rfl) (fun _ _ _ h => h) ?_
            refine a_no 8 rfl rfl (za1 rfl rfl rfl (congrArg Value.bool hb24) rfl) (by kernel_rfl) (fun _ _ _ h => h) ?_
            refine za7 9 rfl rfl rfl (by kernel_rfl) (fun _ _ _ h => h) (zaa true (congrArg Value.bool hb24) rfl) ?_
            refine za7 10 rfl rfl rfl (by kernel_rfl) (fun _ _ _ h => h) (za3 rfl) ?_
            refine a_no 11 rfl rfl (za1 rfl rfl rfl rfl rfl) (by kernel_rfl) (fun _ _ _ h => h) ?_
            refine a_no 12 rfl rfl (za1 rfl rfl rfl rfl rfl) (by kernel_rfl) (fun _ _ _ h => h) ?_
            refine a_no 13 rfl rfl (za1 rfl rfl rfl rfl rfl) (by kernel_rfl) (fun _ _ _ h => h) ?_
            refine a_no 14 rfl rfl (za1 rfl rfl rfl rfl rfl) (by kernel_rfl) (fun _ _ _ h => h) ?_
            refine a_no 15 rfl rfl (za1 rfl rfl rfl rfl rfl) (by kernel_rfl) (fun _ _ _ h => h) ?_
            refine a_no 16 rfl rfl (za1 rfl rfl rfl rfl rfl) (by kernel_rfl) (fun _ _ _ h => h) ?_
            refine a_no 17 rfl rfl (za1 rfl rfl rfl rfl rfl) (by kernel_rfl) (fun _ _ _ h => h) ?_
            refine a_no 18 rfl rfl (za1 rfl rfl rfl rfl rfl) (by kernel_rfl) (fun _ _ _ h => h) ?_
            refine a_no 19 rfl rfl (za1 rfl rfl rfl rfl rfl) (by kernel_rfl) (fun _ _ _ h => h) ?_
            refine za7 20 rfl rfl rfl (by kernel_rfl) (fun _ _ _ h => h) (zaa true rfl rfl) ?_
            refine zav (by kernel_rfl) ?_
            refine za2 ?_
            refine c_true rfl ?_
            refine c_seq ?_
            refine za0 ?_
            refine o_q rfl rfl (q_asg rfl) ?_
            refine o_end ?_
            refine za2 ?_
            refine c_ret ?_
            refine zas ?_
            refine zaf ?_
            refine zaf ?_
            have e_ := Option.some.inj h; replace h := hR14; rw [← e_] at h; clear e_
            refine zas ?_
            refine zaf ?_
            have e0_ := Option.some.inj h; clear h
            subst e0_
            exact x_r1 () Try.results130 (zaj rfl) rfl (fun w h => za5 [] (by decide) rfl w h)
          · replace h := br_f hb24 h
            refine a_purew 4 rfl rfl (za4 rfl rfl rfl (congrArg Value.bool hb24)) (by kernel_rfl) (fun _ _ _ h => h) (q_f F88_0 rfl) ?_
            refine a_takew 5 rfl rfl (za4 rfl rfl rfl (congrArg Value.bool hb24)) (by kernel_rfl) (fun _ _ _ h => h) (fun w h => h) (q_ldb Y3 rfl (fun w h => h.zac (i := 0) rfl) rfl) ?_
            refine a_purew 6 rfl rfl (za4 rfl rfl rfl (congrArg Value.bool hb24)) (by kernel_rfl) (fun _ _ _ h => h) (q_f F88_1 rfl) ?_
            refine a_takew 7 rfl rfl (za4 rfl rfl rfl (congrArg Value.bool hb24)) (by kernel_rfl) (fun _ _ _ h => h) (fun w h => h) (q_ldb Y3 rfl (fun w h => h.zac (i := 0) rfl) rfl) ?_
            refine a_purew 8 rfl rfl (za4 rfl rfl rfl (congrArg Value.bool hb24)) (by kernel_rfl) (fun _ _ _ h => h) (q_gtr rfl rfl) ?_
            refine za7 9 rfl rfl rfl (by kernel_rfl) (fun _ _ _ h => h) (zaa false (congrArg Value.bool hb24) rfl) ?_
            refine za7 10 rfl rfl rfl (by kernel_rfl) (fun _ _ _ h => h) (za3 rfl) ?_
            refine byB (decide (y9.f1 < y9.f0)) (fun hb25 => ?_) (fun hb25 => ?_)
            · replace h := br_t hb25 h
              refine a_no 11 rfl rfl (za1 rfl rfl rfl (congrArg Value.bool hb25) rfl) (by kernel_rfl) (fun _ _ _ h => h) ?_
              refine a_no 12 rfl rfl (za1 rfl rfl rfl (congrArg Value.bool hb25) rfl) (by kernel_rfl) (fun _ _ _ h => h) ?_
              refine a_no 13 rfl rfl (za1 rfl rfl rfl (congrArg Value.bool hb25) rfl) (by kernel_rfl) (fun _ _ _ h => h) ?_
              refine a_no 14 rfl rfl (za1 rfl rfl rfl (congrArg Value.bool hb25) rfl) (by kernel_rfl) (fun _ _ _ h => h) ?_
              refine a_no 15 rfl rfl (za1 rfl rfl rfl (congrArg Value.bool hb25) rfl) (by kernel_rfl) (fun _ _ _ h => h) ?_
              refine a_no 16 rfl rfl (za1 rfl rfl rfl (congrArg Value.bool hb25) rfl) (by kernel_rfl) (fun _ _ _ h => h) ?_
              refine a_no 17 rfl rfl (za1 rfl rfl rfl (congrArg Value.bool hb25) rfl) (by kernel_rfl) (fun _ _ _ h => h) ?_
              refine a_no 18 rfl rfl (za1 rfl rfl rfl (congrArg Value.bool hb25) rfl) (by kernel_rfl) (fun _ _ _ h => h) ?_
              refine a_no 19 rfl rfl (za1 rfl rfl rfl (congrArg Value.bool hb25) rfl) (by kernel_rfl) (fun _ _ _ h => h) ?_
              refine za7 20 rfl rfl rfl (by kernel_rfl) (fun _ _ _ h => h) (zaa true (congrArg Value.bool hb25) rfl) ?_
              refine zav (by kernel_rfl) ?_
              refine za2 ?_
              refine c_true rfl ?_
              refine c_seq ?_
              refine za0 ?_
              refine o_q rfl rfl (q_asg rfl) ?_
              refine o_end ?_
              refine za2 ?_
              refine c_ret ?_
              refine zas ?_
              refine zaf ?_
              refine zaf ?_
              have e_ := Option.some.inj h; replace h := hR14; rw [← e_] at h; clear e_
              refine zas ?_
              refine zaf ?_
              have e0_ := Option.some.inj h; clear h
              subst e0_
              exact x_r1 () Try.results130 (zaj rfl) rfl (fun w h => za5 [] (by decide) rfl w h)
            · replace h := br_f hb25 h
              refine a_purew 11 rfl rfl (za4 rfl rfl rfl (congrArg Value.bool hb25)) (by kernel_rfl) (fun _ _ _ h => h) (q_f F88_1 rfl) ?_
              refine a_takew 12 rfl rfl (za4 rfl rfl rfl (congrArg Value.bool hb25)) (by kernel_rfl) (fun _ _ _ h => h) (fun w h => h) (q_ldb Y3 rfl (fun w h => h.zac (i := 0) rfl) rfl) ?_
              refine a_takew 13 rfl rfl (za4 rfl rfl rfl (congrArg Value.bool hb25)) (by kernel_rfl) (fun _ _ _ h => h) (fun w h => h) (q_ldb Y97 rfl (fun w h => h.zac (i := 1) rfl) rfl) ?_
              refine a_purew 14 rfl rfl (za4 rfl rfl rfl (congrArg Value.bool hb25)) (by kernel_rfl) (fun _ _ _ h => h) (q_nil rfl) ?_
              refine a_purew 15 rfl rfl (za4 rfl rfl rfl (congrArg Value.bool hb25)) (by kernel_rfl) (fun _ _ _ h => h) (q_f F27_0 rfl) ?_
              refine a_takew 16 rfl rfl (za4 rfl rfl rfl (congrArg Value.bool hb25)) (by kernel_rfl) (fun _ _ _ h => h) (fun w h => h) (q_ldb Y3 rfl (fun w h => B0.now Z h) rfl) ?_
              refine a_purew 17 rfl rfl (za4 rfl rfl rfl (congrArg Value.bool hb25)) (by kernel_rfl) (fun _ _ _ h => h) (za3 rfl) ?_
              refine a_purew 18 rfl rfl (za4 rfl rfl rfl (congrArg Value.bool hb25)) (by kernel_rfl) (fun _ _ _ h => h) (q_add64 rfl rfl) ?_
              refine a_purew 19 rfl rfl (za4 rfl rfl rfl (congrArg Value.bool hb25)) (by kernel_rfl) (fun _ _ _ h => h) (q_geq rfl rfl) ?_
              refine za7 20 rfl rfl rfl (by kernel_rfl) (fun _ _ _ h => h) (zaa false (congrArg Value.bool hb25) rfl) ?_
              refine zav (by kernel_rfl) ?_
              refine za2 ?_
              refine zat _ rfl (fun hb26 => ?_) (fun hb26 => ?_)
              · skip
                replace h := br_t hb26 h
                refine c_seq ?_
                refine za0 ?_
                refine o_q rfl rfl (q_asg rfl) ?_
                refine o_end ?_
                refine za2 ?_
                refine c_ret ?_
                refine zas ?_
                refine zaf ?_
                refine zaf ?_
                have e_ := Option.some.inj h; replace h := hR14; rw [← e_] at h; clear e_
                refine zas ?_
                refine zaf ?_
                have e0_ := Option.some.inj h; clear h
                subst e0_
                exact x_r1 () Try.results130 (zaj rfl) rfl (fun w h => za5 [] (by decide) rfl w h)
              · skip
                replace h := br_f hb26 h
                refine zaq ?_
                refine zal ?_
                refine za2 ?_
                refine za0 ?_
                refine o_q rfl rfl (q_up rfl rfl (hr12.up hm13)) ?_
                refine o_q rfl rfl (za3 rfl) ?_
                refine o_end ?_
                refine zak ys10.length (ys10, i8 + 1) (by rw [← hk18]; exact Nat.lt_succ_self _) ⟨hr12.step, rfl, h⟩ ⟨rfl, trivial⟩ (fun w h => za5 [1] (by decide) rfl w h) ?_
                repeat (first | exact zad _ _ | refine zah rfl ?_ | refine zae rfl ?_ | refine zai rfl ?_)
  · replace h := bb_f hb5 h
    refine @o_n _ _ _ _ _ _ _ _ _ _ _ 12 (za1 rfl rfl rfl (congrArg (fun b => Value.bool (!(b))) hb5) rfl) (Eq.refl (some 12)) ?_
    refine @o_n _ _ _ _ _ _ _ _ _ _ _ 13 (za1 rfl rfl rfl (congrArg (fun b => Value.bool (!(b))) hb5) rfl) (Eq.refl (some 13)) ?_
    refine @o_n _ _ _ _ _ _ _ _ _ _ _ 14 (za1 rfl rfl rfl (congrArg (fun b => Value.bool (!(b))) hb5) rfl) (Eq.refl (some 14)) ?_
    refine @o_n _ _ _ _ _ _ _ _ _ _ _ 15 (za1 rfl rfl rfl (congrArg (fun b => Value.bool (!(b))) hb5) rfl) (Eq.refl (some 15)) ?_
    refine @o_n _ _ _ _ _ _ _ _ _ _ _ 16 (za1 rfl rfl rfl (congrArg (fun b => Value.bool (!(b))) hb5) rfl) (Eq.refl (some 16)) ?_
    refine @o_n _ _ _ _ _ _ _ _ _ _ _ 17 (za1 rfl rfl rfl (congrArg (fun b => Value.bool (!(b))) hb5) rfl) (Eq.refl (some 17)) ?_
    refine o_q rfl rfl (zaa true (congrArg (fun b => Value.bool (!(b))) hb5) rfl) ?_
    refine o_q rfl rfl (za3 rfl) ?_
    refine @o_n _ _ _ _ _ _ _ _ _ _ _ 20 (za1 rfl rfl rfl rfl rfl) (Eq.refl (some 20)) ?_
    refine @o_n _ _ _ _ _ _ _ _ _ _ _ 21 (za1 rfl rfl rfl rfl rfl) (Eq.refl (some 21)) ?_
    refine @o_n _ _ _ _ _ _ _ _ _ _ _ 22 (za1 rfl rfl rfl rfl rfl) (Eq.refl (some 22)) ?_
    refine @o_n _ _ _ _ _ _ _ _ _ _ _ 23 (za1 rfl rfl rfl rfl rfl) (Eq.refl (some 23)) ?_
    refine @o_n _ _ _ _ _ _ _ _ _ _ _ 24 (za1 rfl rfl rfl rfl rfl) (Eq.refl (some 24)) ?_
    refine @o_n _ _ _ _ _ _ _ _ _ _ _ 25 (za1 rfl rfl rfl rfl rfl) (Eq.refl (some 25)) ?_
    refine o_q rfl rfl (zaa true rfl rfl) ?_
    refine o_end ?_
    refine za2 ?_
    refine c_true rfl ?_
    refine c_seq ?_
    refine za0 ?_
    refine o_q rfl rfl (q_asg rfl) ?_
    refine o_end ?_
    refine za2 ?_
    refine c_ret ?_
    refine zaf ?_
    have e0_ := Option.some.inj h; clear h
    subst e0_
    exact x_r1 () Try.results130 (zaj rfl) rfl (fun w h => za5 [] (by decide) rfl w h)

/-! ### (*loop.example/g01098/impl.Plan).exponents: function 132 -/
def impl_Plan_exponents.l2 (l20 : List (List Int)) (y25 : SStep) : (List Int) → (List Int) → Int → Option (List Int)
  | [], l45, i48 => some l45
  | y49 :: ys50, l45, i48 => (gt l20 y25.f1).bind fun y70 => (gt y70 i48).bind fun y74 => (ap l45 ([mn (w64 (y49 + y74)) 1000001] : List Int)).bind fun l78 => impl_Plan_exponents.l2 l20 y25 ys50 l78 (i48 + 1)
def impl_Plan_exponents.l1 : (List SStep) → (List (List Int)) → Int → Option (List (List Int))
  | [], l20, i24 => some l20
  | y25 :: ys26, l20, i24 => (gt l20 y25.f0).bind fun y43 => (impl_Plan_exponents.l2 l20 y25 y43 ([] : List Int) 0).bind fun l45 => (ap l20 ([l45] : List (List Int))).bind fun l63 => impl_Plan_exponents.l1 ys26 l63 (i24 + 1)
def impl_Plan_exponents.l0 (a0_0 : Int) : Nat → (List (List Int)) → Int → Option (List (List Int))
  | 0, l4, i8 => some l4
  | k11 + 1, l4, i8 => (mk0 a0_0 (0 : Int)).bind fun l82 => (gt l82 i8).bind fun y89 => (st l82 i8 1).bind fun l90 => (ap l4 ([l90] : List (List Int))).bind fun l96 => impl_Plan_exponents.l0 a0_0 k11 l96 (i8 + 1)
def impl_Plan_exponents.f (a0_0 : Int) (l0_1 : List SStep) (l0_2 : List Int) : Option (List (List Int)) := (bd a0_0).bind fun _ => (impl_Plan_exponents.l0 a0_0 ((a0_0).toNat) ([] : List (List Int)) 0).bind fun l4 => (impl_Plan_exponents.l1 l0_1 l4 0).bind fun l20 => some l20
set_option maxHeartbeats 600000 in
set_option maxRecDepth 100000 in
theorem impl_Plan_exponents.calls {w0 ws : World} {P0 : Nat → Prop} (g0 : Nat) (a0_0 : Int) (A0_1 : Option Addr) (c0_1 : Nat) (n0_1 : Nat) (l0_1 : List SStep) (A0_2 : Option Addr) (c0_2 : Nat) (n0_2 : Nat) (l0_2 : List Int) (Z : Below w0.heap.size w0 ws) (hF : Fr w0 ws P0 [] ws) (R0_1 : Stable ws P0 (fun w => Kd.C kStep w A0_1 n0_1 l0_1)) (hc0_1 : n0_1 ≤ c0_1) (R0_2 : Stable ws P0 (fun w => Kd.C (Kd.int .i64) w A0_2 n0_2 l0_2)) (hc0_2 : n0_2 ≤ c0_2) (B0 : Stable ws P0 (fun w => w.heap[g0]? = some (.cells #[.int .i64 a0_0, .slice A0_1 n0_1 c0_1, .slice A0_2 n0_2 c0_2] 27 (0, 0)))) (r_1 : List (List Int)) (h : impl_Plan_exponents.f a0_0 l0_1 l0_2 = some r_1) :
    Calls Try.prog 132 #[.pointer (some ⟨g0, 0, none⟩)] ws (Post1 w0 ws P0 (fun ((q_2, q_3, q_4) : (Option Addr) × Nat × Hd) => .slice q_2 r_1.length q_3) (fun ((q_2, q_3, q_4) : (Option Addr) × Nat × Hd) => [row (gk 3 (Kd.int .i64)) 25 (.slice q_2 r_1.length q_3) (zp q_4 r_1)])) := by
  unfold impl_Plan_exponents.f at h
  obtain rfl := (R0_1 ws (KeptB.refl _ _)).1
  obtain rfl := (R0_2 ws (KeptB.refl _ _)).1
  refine enter Try.func132 rfl Try.ntmps132 rfl hF ?_
  refine c_seq ?_
  refine za0 ?_
  refine o_q rfl rfl (q_asg rfl) ?_
  refine o_end ?_
  refine za2 ?_
  refine c_seq ?_
  refine za0 ?_
  refine o_e rfl (e_lit0 (gk 3 (Kd.int .i64)) Try.underlying73 I25) (cur2 (fun A1 c2 => ?_))
  refine o_q rfl rfl (q_asg rfl) ?_
  refine o_end ?_
  refine za2 ?_
  refine c_seq ?_
  refine c_seq ?_
  refine za0 ?_
  refine o_q rfl rfl (za3 rfl) ?_
  refine o_q rfl rfl (q_nil rfl) ?_
  refine o_q rfl rfl (q_f F27_0 rfl) ?_
  refine o_q rfl rfl (q_ldb Y3 rfl (fun w h => B0.now Z h) rfl) ?_
  refine o_q rfl rfl (za3 rfl) ?_
  refine o_end ?_
  refine za2 ?_
  refine zam ?_
  refine za8 h (fun _ hbd17 h => ?_) rfl
  refine za8 h (fun o16 hl15 hR14 => ?_) rfl
  clear h
  have hm13 : a0_0 ≤ 9223372036854775807 := bd_le hbd17
  refine zaw (σ := (List (List Int)) × Int × (Option Addr) × Nat × Hd) (fun k11 ((l4, i8, A5, c6, H7) : (List (List Int)) × Int × (Option Addr) × Nat × Hd) => Cn a0_0 i8 k11 ∧ impl_Plan_exponents.l0 a0_0 k11 l4 i8 = some o16) [3, 4, 5, 16, 17, 18, 19, 20, 21, 22, 23, 24, 25, 26, 27, 28, 29, 30, 31] (fun ((l4, i8, A5, c6, H7) : (List (List Int)) × Int × (Option Addr) × Nat × Hd) => [(3, .slice A5 l4.length c6), (16, .int .i64 i8)]) (fun ((l4, i8, A5, c6, H7) : (List (List Int)) × Int × (Option Addr) × Nat × Hd) => [row (gk 3 (Kd.int .i64)) 25 (.slice A5 l4.length c6) (zp H7 l4)]) (a0_0).toNat (([] : List (List Int)), 0, A1, c2, ([] : Hd)) ⟨Cn.start hm13, hl15⟩ ⟨rfl, rfl, trivial⟩ (fun w h => h) ?_
  refine natC (cur5 (fun l4 i8 A5 c6 H7 => fun U18 hJ_ => ?_)) (fun k11 => (cur5 (fun l4 i8 A5 c6 H7 => fun U18 hJ_ => ?_)))
  · skip
    clear hl15
    have hr12 := hJ_.1; have h := hJ_.2; clear hJ_
    replace h : impl_Plan_exponents.l0 a0_0 0 l4 i8 = some o16 := h
    rw [impl_Plan_exponents.l0] at h
    refine c_seq ?_
    refine za0 ?_
    refine o_q rfl rfl (q_lss rfl rfl) ?_
    refine o_end ?_
    refine za2 ?_
    refine c_seq ?_
    refine c_false (congrArg Value.bool hr12.ge) ?_
    refine c_exit ?_
    refine za6 ?_
    refine za6 ?_
    have e_ := Option.some.inj h; replace h := hR14; rw [← e_] at h; clear e_
    refine x_hit ?_
    refine za2 ?_
    refine c_seq ?_
    refine c_seq ?_
    refine za0 ?_
    refine o_q rfl rfl (za3 rfl) ?_
    refine o_q rfl rfl (q_nil rfl) ?_
    refine o_q rfl rfl (q_f F27_1 rfl) ?_
    refine o_q rfl rfl (q_ldb Y24 rfl (fun w h => B0.now Z h) rfl) ?_
    refine o_q rfl rfl (q_len Try.underlying24 rfl) ?_
    refine o_q rfl rfl (za3 rfl) ?_
    refine o_end ?_
    refine za2 ?_
    refine zam ?_
    refine za8 h (fun o32 hl31 hR30 => ?_) rfl
    clear h
    refine c_fact (p := l0_1.length ≤ 9223372036854775807) (fun w h => (R0_1.now Z h).2.1) (fun hm29 => ?_)
    refine zaw (σ := (List SStep) × (List (List Int)) × Int × (Option Addr) × Nat × Hd) (fun k27 ((ys26, l20, i24, A21, c22, H23) : (List SStep) × (List (List Int)) × Int × (Option Addr) × Nat × Hd) => Rg l0_1 i24 ys26 ∧ ys26.length = k27 ∧ impl_Plan_exponents.l1 ys26 l20 i24 = some o32) [3, 7, 8, 9, 10, 37, 38, 39, 40, 41, 42, 43, 44, 45, 46, 47, 48, 49, 50, 51, 52, 53, 54, 55, 56, 57, 58, 59, 60, 61, 62, 63, 64, 65, 66, 67, 68, 69, 70, 71, 72] (fun ((ys26, l20, i24, A21, c22, H23) : (List SStep) × (List (List Int)) × Int × (Option Addr) × Nat × Hd) => [(3, .slice A21 l20.length c22), (37, .int .i64 i24)]) (fun ((ys26, l20, i24, A21, c22, H23) : (List SStep) × (List (List Int)) × Int × (Option Addr) × Nat × Hd) => [row (gk 3 (Kd.int .i64)) 25 (.slice A21 l20.length c22) (zp H23 l20)]) l0_1.length (l0_1, l4, 0, A5, c6, H7) ⟨Rg.start _, rfl, hl31⟩ ⟨rfl, rfl, trivial⟩ (fun w h => h) ?_
    refine fun k27 => cur6 (listC (fun l20 i24 A21 c22 H23 U33 hJ_ => ?_) (fun y25 ys26 l20 i24 A21 c22 H23 U33 hJ_ => ?_))
    · skip
      clear hl31
      have hr28 := hJ_.1; have hk34 := hJ_.2.1; have h := hJ_.2.2; clear hJ_
      replace h : impl_Plan_exponents.l1 [] l20 i24 = some o32 := h
      rw [impl_Plan_exponents.l1] at h
      refine c_seq ?_
      refine za0 ?_
      refine o_q rfl rfl (q_lss rfl rfl) ?_
      refine o_end ?_
      refine za2 ?_
      refine c_seq ?_
      refine c_false (congrArg Value.bool hr28.ge) ?_
      refine c_exit ?_
      refine za6 ?_
      refine za6 ?_
      have e_ := Option.some.inj h; replace h := hR30; rw [← e_] at h; clear e_
      refine x_hit ?_
      refine za2 ?_
      refine c_seq ?_
      refine za0 ?_
      refine o_q rfl rfl (za3 rfl) ?_
      refine o_q rfl rfl (q_asg rfl) ?_
      refine o_end ?_
      refine za2 ?_
      refine c_ret ?_
      have e0_ := Option.some.inj h; clear h
      subst e0_
      exact x_r1 (A21, c22, H23) Try.results132 (zaj rfl) rfl (fun w h => za5 [0] (by decide) rfl w h)
    · skip
      clear hl31
      have hr28 := hJ_.1; have hk34 := hJ_.2.1; have h := hJ_.2.2; clear hJ_
      replace h : impl_Plan_exponents.l1 (y25 :: ys26) l20 i24 = some o32 := h
      rw [impl_Plan_exponents.l1] at h
      refine c_seq ?_
      refine za0 ?_
      refine o_q rfl rfl (q_lss rfl rfl) ?_
      refine o_end ?_
      refine za2 ?_
      refine c_seq ?_
      refine c_true (congrArg Value.bool hr28.lt) ?_
      refine zaq ?_
      refine za2 ?_
      refine c_seq ?_
      refine zam ?_
      refine c_seq ?_
      refine za0 ?_
      refine o_fact (p := Sh A0_1 l0_1.length l0_1.length) (fun w h => f_sh (dk := kStep) h (fun w h => R0_1.now Z h)) (fun hq35 => ?_)
      refine o_q rfl rfl (q_ix Try.underlying24 Z88 rfl rfl hq35 hr28.get) ?_
      refine o_q rfl rfl (q_ldE G88 Z88 rfl rfl (fun w h => R0_1.now Z h) hr28.get (fun _ _ h => h) rfl) ?_
      refine o_e rfl (e_alloc V88 rfl) (fun g36 => ?_)
      refine o_e rfl (zaz (i := 0) rfl rfl rfl Z88 rfl rfl) (fun _ => ?_)
      refine o_end ?_
      refine za2 ?_
      refine c_seq ?_
      refine za0 ?_
      refine o_e rfl (e_lit0 (Kd.int .i64) Try.underlying25 I3) (cur2 (fun A38 c39 => ?_))
      refine o_q rfl rfl (q_asg rfl) ?_
      refine o_end ?_
      refine za2 ?_
      refine c_seq ?_
      refine c_seq ?_
      refine za0 ?_
      refine o_q rfl rfl (za3 rfl) ?_
      refine o_q rfl rfl (q_f F88_0 rfl) ?_
      refine o_q rfl rfl (q_ldb Y3 rfl (fun w h => h.zac (i := 1) rfl) rfl) ?_
      refine o_fact (p := Sh A21 l20.length (zp H23 l20).length) (fun w h => f_sh (dk := (gk 3 (Kd.int .i64))) h (fun w h => h.zay (i := 2) rfl)) (fun hq41 => ?_)
      refine za8 h (fun y43 hg42 h => ?_) rfl
      refine o_q rfl rfl (q_ix Try.underlying73 Z25 rfl rfl hq41 (gt_zp hg42)) ?_
      refine o_fact (p := y43.length ≤ hC H23 y25.f0) (fun w h => (K_in (h.zay (i := 2) rfl) hg42).1) (fun hc44 => ?_)
      refine o_q rfl rfl (q_lde (off := 0) Y25 rfl rfl (fun w h => h.zay (i := 2) rfl) (gt_zp hg42) (fun _ _ h => h.1) rfl) ?_
      refine o_q rfl rfl (q_len Try.underlying25 rfl) ?_
      refine o_q rfl rfl (za3 rfl) ?_
      refine o_end ?_
      refine za2 ?_
      refine zam ?_
      refine za8 h (fun o56 hl55 hR54 => ?_) rfl
      clear h
      refine c_fact (p := y43.length ≤ 9223372036854775807) (fun w h => (C_in (h.zay (i := 2) rfl) hg42).2.1) (fun hm53 => ?_)
      refine zaw (σ := (List Int) × (List Int) × Int × (Option Addr) × Nat) (fun k51 ((ys50, l45, i48, A46, c47) : (List Int) × (List Int) × Int × (Option Addr) × Nat) => Rg y43 i48 ys50 ∧ ys50.length = k51 ∧ impl_Plan_exponents.l2 l20 y25 ys50 l45 i48 = some o56) [8, 9, 10, 48, 49, 50, 51, 52, 53, 54, 55, 56, 57, 58, 59, 60, 61, 62, 63, 64, 65, 66, 67] (fun ((ys50, l45, i48, A46, c47) : (List Int) × (List Int) × Int × (Option Addr) × Nat) => [(8, .slice A46 l45.length c47), (48, .int .i64 i48)]) (fun ((ys50, l45, i48, A46, c47) : (List Int) × (List Int) × Int × (Option Addr) × Nat) => [row (Kd.int .i64) 3 (.slice A46 l45.length c47) l45, box g36 88 #[.int .i64 y25.f0, .int .i64 y25.f1], row (gk 3 (Kd.int .i64)) 25 (.slice A21 l20.length c22) (zp H23 l20)]) y43.length (y43, ([] : List Int), 0, A38, c39) ⟨Rg.start _, rfl, hl55⟩ ⟨rfl, rfl, trivial⟩ (fun w h => h) ?_
      refine fun k51 => cur5 (listC (fun l45 i48 A46 c47 U57 hJ_ => ?_) (fun y49 ys50 l45 i48 A46 c47 U57 hJ_ => ?_))
      · skip
        clear hl55
        have hr52 := hJ_.1; have hk58 := hJ_.2.1; have h := hJ_.2.2; clear hJ_
        replace h : impl_Plan_exponents.l2 l20 y25 [] l45 i48 = some o56 := h
        rw [impl_Plan_exponents.l2] at h
        refine c_seq ?_
        refine za0 ?_
        refine o_q rfl rfl (q_lss rfl rfl) ?_
        refine o_end ?_
        refine za2 ?_
        refine c_seq ?_
        refine c_false (congrArg Value.bool hr52.ge) ?_
        refine c_exit ?_
        refine za6 ?_
        refine za6 ?_
        have e_ := Option.some.inj h; replace h := hR54; rw [← e_] at h; clear e_
        refine x_hit ?_
        refine za2 ?_
        refine za0 ?_
        refine o_q rfl rfl (za3 rfl) ?_
        refine o_q rfl rfl (za3 rfl) ?_
        refine o_e rfl (e_litG (j := 0) (ue := 3) (dk := (Kd.int .i64)) (ys := l45) Try.underlying73 I25 rfl rfl rfl) (cur3 (fun A59 c60 H62 => ?_))
        refine za8 h (fun l63 ha64 h => ?_) rfl
        refine o_e rfl (e_appG (i := 3) (j := 0) Try.underlying73 I25 rfl (by decide) rfl rfl rfl rfl rfl ha64) (cur3 (fun A65 c66 H67 => ?_))
        refine o_q rfl rfl (q_asg rfl) ?_
        refine o_end ?_
        refine zal ?_
        refine za2 ?_
        refine za0 ?_
        refine o_q rfl rfl (q_up rfl rfl (hr28.up hm29)) ?_
        refine o_q rfl rfl (za3 rfl) ?_
        refine o_end ?_
        refine zak ys26.length (ys26, l63, i24 + 1, A65, c66, H67) (by rw [← hk34]; exact Nat.lt_succ_self _) ⟨hr28.step, rfl, h⟩ ⟨rfl, rfl, trivial⟩ (fun w h => za5 [3] (by decide) rfl w h) ?_
        repeat (first | exact zad _ _ | refine zah rfl ?_ | refine zae rfl ?_ | refine zai rfl ?_)
      · skip
        clear hl55
        have hr52 := hJ_.1; have hk58 := hJ_.2.1; have h := hJ_.2.2; clear hJ_
        replace h : impl_Plan_exponents.l2 l20 y25 (y49 :: ys50) l45 i48 = some o56 := h
        rw [impl_Plan_exponents.l2] at h
        refine c_seq ?_
        refine za0 ?_
        refine o_q rfl rfl (q_lss rfl rfl) ?_
        refine o_end ?_
        refine za2 ?_
        refine c_seq ?_
        refine c_true (congrArg Value.bool hr52.lt) ?_
        refine zaq ?_
        refine za2 ?_
        refine c_seq ?_
        refine zam ?_
        refine c_seq ?_
        refine za0 ?_
        refine o_q rfl rfl (za3 rfl) ?_
        refine o_fact (p := Sh (hA H23 y25.f0) y43.length y43.length) (fun w h => f_sh (dk := (Kd.int .i64)) h (fun w h => C_in (h.zay (i := 2) rfl) hg42)) (fun hq68 => ?_)
        refine o_q rfl rfl (q_ix Try.underlying25 Z3 rfl rfl hq68 hr52.get) ?_
        refine o_q rfl rfl (q_lde (off := 0) Y3 rfl rfl (fun w h => C_in (h.zay (i := 2) rfl) hg42) hr52.get (fun _ _ h => h) rfl) ?_
        refine o_q rfl rfl (q_asg rfl) ?_
        refine o_q rfl rfl (q_asg rfl) ?_
        refine o_end ?_
        refine za2 ?_
        refine za0 ?_
        refine o_q rfl rfl (za3 rfl) ?_
        refine o_q rfl rfl (za3 rfl) ?_
        refine o_q rfl rfl (za3 rfl) ?_
        refine o_q rfl rfl (q_f F88_1 rfl) ?_
        refine o_q rfl rfl (q_ldb Y3 rfl (fun w h => h.zac (i := 1) rfl) rfl) ?_
        refine za8 h (fun y70 hg69 h => ?_) rfl
        refine o_q rfl rfl (q_ix Try.underlying73 Z25 rfl rfl hq41 (gt_zp hg69)) ?_
        refine o_fact (p := y70.length ≤ hC H23 y25.f1) (fun w h => (K_in (h.zay (i := 2) rfl) hg69).1) (fun hc71 => ?_)
        refine o_q rfl rfl (q_lde (off := 0) Y25 rfl rfl (fun w h => h.zay (i := 2) rfl) (gt_zp hg69) (fun _ _ h => h.1) rfl) ?_
        refine o_q rfl rfl (za3 rfl) ?_
        refine o_fact (p := Sh (hA H23 y25.f1) y70.length y70.length) (fun w h => f_sh (dk := (Kd.int .i64)) h (fun w h => C_in (h.zay (i := 2) rfl) hg69)) (fun hq72 => ?_)
        refine za8 h (fun y74 hg73 h => ?_) rfl
        refine o_q rfl rfl (q_ix Try.underlying25 Z3 rfl rfl hq72 hg73) ?_
        refine o_q rfl rfl (q_lde (off := 0) Y3 rfl rfl (fun w h => C_in (h.zay (i := 2) rfl) hg69) hg73 (fun _ _ h => h) rfl) ?_
        refine o_q rfl rfl (q_add64 rfl rfl) ?_
        refine o_q rfl rfl (q_min rfl rfl) ?_
        refine o_e rfl (e_lit (vs := [(0, .int .i64 (mn (w64 (y49 + y74)) 1000001))]) (cs := [.int .i64 (mn (w64 (y49 + y74)) 1000001)]) (Kd.int .i64) ([mn (w64 (y49 + y74)) 1000001] : List Int) Try.underlying25 I3 (by decide) rfl (by decide) rfl rfl (fun _ _ => Kd.zao _)) (cur2 (fun A75 c76 => ?_))
        refine za8 h (fun l78 ha79 h => ?_) rfl
        refine o_e rfl (e_app (i := 1) (j := 0) Try.underlying25 I3 rfl (by decide) (by decide) rfl rfl rfl rfl rfl ha79) (cur2 (fun A80 c81 => ?_))
        refine o_q rfl rfl (q_asg rfl) ?_
        refine o_end ?_
        refine zal ?_
        refine za2 ?_
        refine za0 ?_
        refine o_q rfl rfl (q_up rfl rfl (hr52.up hm53)) ?_
        refine o_q rfl rfl (za3 rfl) ?_
        refine o_end ?_
        refine zak ys50.length (ys50, l78, i48 + 1, A80, c81) (by rw [← hk58]; exact Nat.lt_succ_self _) ⟨hr52.step, rfl, h⟩ ⟨rfl, rfl, trivial⟩ (fun w h => za5 [1, 2, 3] (by decide) rfl w h) ?_
        repeat (first | exact zad _ _ | refine zah rfl ?_ | refine zae rfl ?_ | refine zai rfl ?_)
  · skip
    clear hl15
    have hr12 := hJ_.1; have h := hJ_.2; clear hJ_
    replace h : impl_Plan_exponents.l0 a0_0 (k11 + 1) l4 i8 = some o16 := h
    rw [impl_Plan_exponents.l0] at h
    refine c_seq ?_
    refine za0 ?_
    refine o_q rfl rfl (q_lss rfl rfl) ?_
    refine o_end ?_
    refine za2 ?_
    refine c_seq ?_
    refine c_true (congrArg Value.bool hr12.lt) ?_
    refine zaq ?_
    refine za2 ?_
    refine c_seq ?_
    refine zam ?_
    refine c_seq ?_
    refine za0 ?_
    refine o_q rfl rfl (za3 rfl) ?_
    refine o_q rfl rfl (q_asg rfl) ?_
    refine o_end ?_
    refine za2 ?_
    refine c_seq ?_
    refine za0 ?_
    refine o_q rfl rfl (za3 rfl) ?_
    refine o_q rfl rfl (q_nil rfl) ?_
    refine o_q rfl rfl (q_f F27_0 rfl) ?_
    refine o_q rfl rfl (q_ldb Y3 rfl (fun w h => B0.now Z h) rfl) ?_
    refine za8 h (fun l82 hm83 h => ?_) rfl
    refine o_e rfl (e_make (Kd.int .i64) (0 : Int) Try.underlying25 I3 rfl (by decide) (by decide) (fun _ _ => rfl) rfl rfl hm83) (cur2 (fun A84 c85 => ?_))
    refine o_q rfl rfl (q_asg rfl) ?_
    refine o_end ?_
    refine za2 ?_
    refine c_seq ?_
    refine za0 ?_
    refine o_q rfl rfl (za3 rfl) ?_
    refine o_q rfl rfl (za3 rfl) ?_
    refine o_fact (p := Sh A84 l82.length l82.length) (fun w h => f_sh (dk := (Kd.int .i64)) h (fun w h => h.zay (i := 0) rfl)) (fun hq87 => ?_)
    refine za8 h (fun y89 hg88 h => ?_) rfl
    refine o_q rfl rfl (q_ix Try.underlying25 Z3 rfl rfl hq87 hg88) ?_
    refine za8 h (fun l90 hs91 h => ?_) rfl
    refine o_e rfl (e_set (i := 0) rfl rfl rfl Z3 hs91) (fun _ => ?_)
    refine o_end ?_
    refine za2 ?_
    refine za0 ?_
    refine o_q rfl rfl (za3 rfl) ?_
    refine o_q rfl rfl (za3 rfl) ?_
    refine o_e rfl (e_litG (j := 0) (ue := 3) (dk := (Kd.int .i64)) (ys := l90) Try.underlying73 I25 rfl rfl rfl) (cur3 (fun A92 c93 H95 => ?_))
    refine za8 h (fun l96 ha97 h => ?_) rfl
    refine o_e rfl (e_appG (i := 2) (j := 0) Try.underlying73 I25 rfl (by decide) rfl rfl rfl rfl rfl ha97) (cur3 (fun A98 c99 H100 => ?_))
    refine o_q rfl rfl (q_asg rfl) ?_
    refine o_end ?_
    refine zal ?_
    refine za2 ?_
    refine za0 ?_
    refine o_q rfl rfl (q_up rfl rfl hr12.up) ?_
    refine o_q rfl rfl (za3 rfl) ?_
    refine o_end ?_
    refine zak k11 (l96, i8 + 1, A98, c99, H100) (Nat.lt_succ_self _) ⟨hr12.step, h⟩ ⟨rfl, rfl, trivial⟩ (fun w h => za5 [2] (by decide) rfl w h) ?_
    repeat (first | exact zad _ _ | refine zah rfl ?_ | refine zae rfl ?_ | refine zai rfl ?_)

/-! ### slices.Max[[]int,int]: function 134 -/
def slices_Max_int_int.l0 (l0 : List Int) : Nat → Int → Int → Option Int
  | 0, _, _ => none
  | k9 + 1, i5, i6 => if i6 < (l0.length : Int) then ((gt l0 i6).bind fun y19 => slices_Max_int_int.l0 l0 k9 (mx i5 y19) (w64 (i6 + 1))) else (some i5)
def slices_Max_int_int.f (k : Nat) (l0 : List Int) : Option Int := if (l0.length : Int) < 1 then (none) else ((gt l0 0).bind fun y4 => (slices_Max_int_int.l0 l0 k y4 1).bind fun i5 => some i5)
set_option maxHeartbeats 600000 in
set_option maxRecDepth 100000 in
theorem slices_Max_int_int.calls (k : Nat) {w0 ws : World} {P0 : Nat → Prop} (A0 : Option Addr) (c0 : Nat) (n0 : Nat) (l0 : List Int) (Z : Below w0.heap.size w0 ws) (hF : Fr w0 ws P0 [] ws) (R0 : Stable ws P0 (fun w => Kd.C (Kd.int .i64) w A0 n0 l0)) (hc0 : n0 ≤ c0) (r_1 : Int) (h : slices_Max_int_int.f k l0 = some r_1) :
    Calls Try.prog 134 #[.slice A0 n0 c0] ws (Post1 w0 ws P0 (fun (_ : Unit) => .int .i64 r_1) (fun (_ : Unit) => [])) := by
  unfold slices_Max_int_int.f at h
  obtain rfl := (R0 ws (KeptB.refl _ _)).1
  refine enter Try.func134 rfl Try.ntmps134 rfl hF ?_
  refine c_seq ?_
  refine za0 ?_
  refine o_q rfl rfl (q_asg rfl) ?_
  refine o_end ?_
  refine za2 ?_
  refine c_seq ?_
  refine c_seq ?_
  refine za0 ?_
  refine o_q rfl rfl (za3 rfl) ?_
  refine o_q rfl rfl (q_len Try.underlying25 rfl) ?_
  refine o_q rfl rfl (q_lss rfl rfl) ?_
  refine o_end ?_
  refine za2 ?_
  refine zat _ rfl (fun hb1 => ?_) (fun hb1 => ?_)
  · skip
    replace h := br_t hb1 h
    refine za0 ?_
    exact noneE h
  · skip
    replace h := br_f hb1 h
    refine zaq ?_
    refine za2 ?_
    refine c_seq ?_
    refine za0 ?_
    refine o_q rfl rfl (za3 rfl) ?_
    refine o_fact (p := Sh A0 l0.length l0.length) (fun w h => f_sh (dk := (Kd.int .i64)) h (fun w h => R0.now Z h)) (fun hq2 => ?_)
    refine za8 h (fun y4 hg3 h => ?_) rfl
    refine o_q rfl rfl (q_ix Try.underlying25 Z3 rfl rfl hq2 hg3) ?_
    refine o_q rfl rfl (q_lde (off := 0) Y3 rfl rfl (fun w h => R0.now Z h) hg3 (fun _ _ h => h) rfl) ?_
    refine o_q rfl rfl (q_asg rfl) ?_
    refine o_end ?_
    refine za2 ?_
    refine c_seq ?_
    refine c_seq ?_
    refine za0 ?_
    refine o_q rfl rfl (q_asg rfl) ?_
    refine o_end ?_
    refine za2 ?_
    refine zam ?_
    refine za8 h (fun o14 hl13 hR12 => ?_) rfl
    clear h
    refine zaw (σ := Int × Int) (fun k9 ((i5, i6) : Int × Int) => slices_Max_int_int.l0 l0 k9 i5 i6 = some o14) [3, 4, 12, 13, 14, 15, 16, 17, 18, 19, 20, 21, 22, 23] (fun ((i5, i6) : Int × Int) => [(3, .int .i64 i5), (4, .int .i64 i6)]) (fun ((i5, i6) : Int × Int) => []) k (y4, 1) hl13 ⟨rfl, rfl, trivial⟩ (fun w h => h) ?_
    refine natC (cur2 (fun i5 i6 => fun U15 hJ_ => ?_)) (fun k9 => (cur2 (fun i5 i6 => fun U15 hJ_ => ?_)))
    · skip
      replace hJ_ : slices_Max_int_int.l0 l0 0 i5 i6 = some o14 := hJ_
      rw [slices_Max_int_int.l0] at hJ_
      exact noneE hJ_
    · skip
      clear hl13
      have h := hJ_; clear hJ_
      replace h : slices_Max_int_int.l0 l0 (k9 + 1) i5 i6 = some o14 := h
      rw [slices_Max_int_int.l0] at h
      refine c_seq ?_
      refine c_seq ?_
      refine za0 ?_
      refine o_q rfl rfl (za3 rfl) ?_
      refine o_q rfl rfl (za3 rfl) ?_
      refine o_q rfl rfl (q_len Try.underlying25 rfl) ?_
      refine o_q rfl rfl (q_lss rfl rfl) ?_
      refine o_end ?_
      refine za2 ?_
      refine zat _ rfl (fun hb17 => ?_) (fun hb17 => ?_)
      · skip
        replace h := br_t hb17 h
        refine zaq ?_
        refine za2 ?_
        refine c_seq ?_
        refine zam ?_
        refine za0 ?_
        refine o_q rfl rfl (za3 rfl) ?_
        refine o_q rfl rfl (za3 rfl) ?_
        refine o_q rfl rfl (za3 rfl) ?_
        refine za8 h (fun y19 hg18 h => ?_) rfl
        refine o_q rfl rfl (q_ix Try.underlying25 Z3 rfl rfl hq2 hg18) ?_
        refine o_q rfl rfl (q_lde (off := 0) Y3 rfl rfl (fun w h => R0.now Z h) hg18 (fun _ _ h => h) rfl) ?_
        refine o_q rfl rfl (q_max rfl rfl) ?_
        refine o_q rfl rfl (q_asg rfl) ?_
        refine o_end ?_
        refine zal ?_
        refine za2 ?_
        refine za0 ?_
        refine o_q rfl rfl (za3 rfl) ?_
        refine o_q rfl rfl (q_add64 rfl rfl) ?_
        refine o_q rfl rfl (q_asg rfl) ?_
        refine o_end ?_
        refine zak k9 (mx i5 y19, w64 (i6 + 1)) (Nat.lt_succ_self _) h ⟨rfl, rfl, trivial⟩ (fun w h => za5 [] (by decide) rfl w h) ?_
        repeat (first | exact zad _ _ | refine zah rfl ?_ | refine zae rfl ?_ | refine zai rfl ?_)
      · skip
        replace h := br_f hb17 h
        refine c_exit ?_
        refine za6 ?_
        refine za6 ?_
        have e_ := Option.some.inj h; replace h := hR12; rw [← e_] at h; clear e_
        refine x_hit ?_
        refine za2 ?_
        refine c_seq ?_
        refine za0 ?_
        refine o_q rfl rfl (za3 rfl) ?_
        refine o_q rfl rfl (q_asg rfl) ?_
        refine o_end ?_
        refine za2 ?_
        refine c_ret ?_
        have e0_ := Option.some.inj h; clear h
        subst e0_
        exact x_r1 () Try.results134 (zaj rfl) rfl (fun w h => za5 [] (by decide) rfl w h)

/-! ### loop.example/g01098/impl.IsPlan$1: function 133 -/
def impl_IsPlan_1.f (k : Nat) (l0 : List Int) : Option Bool := (slices_Max_int_int.f k l0).bind fun i2 => some (decide (1000000 < i2))
set_option maxHeartbeats 600000 in
set_option maxRecDepth 100000 in
theorem impl_IsPlan_1.calls (k : Nat) {w0 ws : World} {P0 : Nat → Prop} (A0 : Option Addr) (c0 : Nat) (n0 : Nat) (l0 : List Int) (Z : Below w0.heap.size w0 ws) (hF : Fr w0 ws P0 [] ws) (R0 : Stable ws P0 (fun w => Kd.C (Kd.int .i64) w A0 n0 l0)) (hc0 : n0 ≤ c0) (r_1 : Bool) (h : impl_IsPlan_1.f k l0 = some r_1) :
    Calls Try.prog 133 #[.slice A0 n0 c0] ws (Post1 w0 ws P0 (fun (_ : Unit) => .bool r_1) (fun (_ : Unit) => [])) := by
  unfold impl_IsPlan_1.f at h
  obtain rfl := (R0 ws (KeptB.refl _ _)).1
  refine enter Try.func133 rfl Try.ntmps133 rfl hF ?_
  refine c_seq ?_
  refine za0 ?_
  refine o_q rfl rfl (q_asg rfl) ?_
  refine o_end ?_
  refine za2 ?_
  refine c_seq ?_
  refine za0 ?_
  refine o_q rfl rfl (za3 rfl) ?_
  refine za8 h (fun i2 hx1 h => ?_) rfl
  refine o_e rfl (za9 0 Z Try.func134 N134 rfl rfl rfl (fun w P1 hF hB hS hT => slices_Max_int_int.calls k A0 c0 l0.length l0 hB hF (hS _ R0) hc0 _ hx1)) (fun _ => ?_)
  refine o_q rfl rfl (q_gtr rfl rfl) ?_
  refine o_q rfl rfl (q_asg rfl) ?_
  refine o_end ?_
  refine za2 ?_
  refine c_ret ?_
  have e0_ := Option.some.inj h; clear h
  subst e0_
  exact x_r1 () Try.results133 (zaj rfl) rfl (fun w h => za5 [] (by decide) rfl w h)

/-! ### slices.IndexFunc[[][]int,[]int]: function 174 -/
def slices_IndexFunc_int_int_2.l0 (k : Nat) : (List (List Int)) → Int → Option ((Int) ⊕ (Unit))
  | [], i1 => some (.inr ())
  | y2 :: ys3, i1 => (impl_IsPlan_1.f k y2).bind fun b15 => if b15 = true then (some (.inl i1)) else (slices_IndexFunc_int_int_2.l0 k ys3 (i1 + 1))
def slices_IndexFunc_int_int_2.f (k : Nat) (l0 : List (List Int)) : Option Int := (slices_IndexFunc_int_int_2.l0 k l0 0).bind fun o_ => match o_ with | .inl r_ => some r_ | .inr _ => some (-1)
set_option maxHeartbeats 600000 in
set_option maxRecDepth 100000 in
theorem slices_IndexFunc_int_int_2.calls (k : Nat) {w0 ws : World} {P0 : Nat → Prop} (A0 : Option Addr) (c0 : Nat) (n0 : Nat) (H0 : Hd) (l0 : List (List Int)) (Z : Below w0.heap.size w0 ws) (hF : Fr w0 ws P0 [] ws) (R0 : Stable ws P0 (fun w => Kd.C (gk 3 (Kd.int .i64)) w A0 n0 (zp H0 l0))) (hc0 : n0 ≤ c0) (r_1 : Int) (h : slices_IndexFunc_int_int_2.f k l0 = some r_1) :
    Calls Try.prog 174 #[.slice A0 n0 c0, .func (.func 133) #[] #[]] ws (Post1 w0 ws P0 (fun (_ : Unit) => .int .i64 r_1) (fun (_ : Unit) => [])) := by
  unfold slices_IndexFunc_int_int_2.f at h
  obtain rfl := (zp_len _ _).symm.trans (R0 ws (KeptB.refl _ _)).1
  refine enter Try.func174 rfl Try.ntmps174 rfl hF ?_
  refine c_seq ?_
  refine za0 ?_
  refine o_q rfl rfl (q_asg rfl) ?_
  refine o_end ?_
  refine za2 ?_
  refine c_seq ?_
  refine c_seq ?_
  refine za0 ?_
  refine o_q rfl rfl (za3 rfl) ?_
  refine o_q rfl rfl (q_len Try.underlying73 rfl) ?_
  refine o_q rfl rfl (za3 rfl) ?_
  refine o_end ?_
  refine za2 ?_
  refine zam ?_
  refine za8 h (fun o9 hl8 hR7 => ?_) rfl
  clear h
  refine c_fact (p := l0.length ≤ 9223372036854775807) (fun w h => (R0.now Z h).2.1) (fun hm6 => ?_)
  refine zaw (σ := (List (List Int)) × Int) (fun k4 ((ys3, i1) : (List (List Int)) × Int) => Rg l0 i1 ys3 ∧ ys3.length = k4 ∧ slices_IndexFunc_int_int_2.l0 k ys3 i1 = some o9) [4, 5, 8, 9, 10, 11, 12, 13, 14, 15, 16, 17, 18] (fun ((ys3, i1) : (List (List Int)) × Int) => [(8, .int .i64 i1)]) (fun ((ys3, i1) : (List (List Int)) × Int) => []) l0.length (l0, 0) ⟨Rg.start _, rfl, hl8⟩ ⟨rfl, trivial⟩ (fun w h => h) ?_
  refine fun k4 => cur2 (listC (fun i1 U10 hJ_ => ?_) (fun y2 ys3 i1 U10 hJ_ => ?_))
  · skip
    clear hl8
    have hr5 := hJ_.1; have hk11 := hJ_.2.1; have h := hJ_.2.2; clear hJ_
    replace h : slices_IndexFunc_int_int_2.l0 k [] i1 = some o9 := h
    rw [slices_IndexFunc_int_int_2.l0] at h
    refine c_seq ?_
    refine za0 ?_
    refine o_q rfl rfl (q_lss rfl rfl) ?_
    refine o_end ?_
    refine za2 ?_
    refine c_seq ?_
    refine c_false (congrArg Value.bool hr5.ge) ?_
    refine c_exit ?_
    refine za6 ?_
    refine za6 ?_
    have e_ := Option.some.inj h; replace h := hR7; rw [← e_] at h; clear e_
    refine x_hit ?_
    refine za2 ?_
    refine c_seq ?_
    refine za0 ?_
    refine o_q rfl rfl (q_asg rfl) ?_
    refine o_end ?_
    refine za2 ?_
    refine c_ret ?_
    have e0_ := Option.some.inj h; clear h
    subst e0_
    exact x_r1 () Try.results174 (zaj rfl) rfl (fun w h => za5 [] (by decide) rfl w h)
  · skip
    clear hl8
    have hr5 := hJ_.1; have hk11 := hJ_.2.1; have h := hJ_.2.2; clear hJ_
    replace h : slices_IndexFunc_int_int_2.l0 k (y2 :: ys3) i1 = some o9 := h
    rw [slices_IndexFunc_int_int_2.l0] at h
    refine c_seq ?_
    refine za0 ?_
    refine o_q rfl rfl (q_lss rfl rfl) ?_
    refine o_end ?_
    refine za2 ?_
    refine c_seq ?_
    refine c_true (congrArg Value.bool hr5.lt) ?_
    refine zaq ?_
    refine za2 ?_
    refine c_seq ?_
    refine zam ?_
    refine c_seq ?_
    refine za0 ?_
    refine o_q rfl rfl (za3 rfl) ?_
    refine o_q rfl rfl (q_asg rfl) ?_
    refine o_end ?_
    refine za2 ?_
    refine c_seq ?_
    refine za0 ?_
    refine o_q rfl rfl (za3 rfl) ?_
    refine o_q rfl rfl (za3 rfl) ?_
    refine o_q rfl rfl (za3 rfl) ?_
    refine o_fact (p := Sh A0 l0.length (zp H0 l0).length) (fun w h => f_sh (dk := (gk 3 (Kd.int .i64))) h (fun w h => R0.now Z h)) (fun hq12 => ?_)
    refine o_q rfl rfl (q_ix Try.underlying73 Z25 rfl rfl hq12 (gt_zp hr5.get)) ?_
    refine o_fact (p := y2.length ≤ hC H0 i1) (fun w h => (K_in (R0.now Z h) hr5.get).1) (fun hc13 => ?_)
    refine o_q rfl rfl (q_lde (off := 0) Y25 rfl rfl (fun w h => R0.now Z h) (gt_zp hr5.get) (fun _ _ h => h.1) rfl) ?_
    refine za8 h (fun b15 hx14 h => ?_) rfl
    refine o_e rfl (za9 0 Z Try.func133 N133 rfl rfl rfl (fun w P1 hF hB hS hT => impl_IsPlan_1.calls k (hA H0 i1) (hC H0 i1) y2.length y2 hB hF (stab_in (hS _ R0) hr5.get) hc13 _ hx14)) (fun _ => ?_)
    refine o_end ?_
    refine za2 ?_
    refine zat _ rfl (fun hb16 => ?_) (fun hb16 => ?_)
    · skip
      replace h := bb_t hb16 h
      refine c_seq ?_
      refine za0 ?_
      refine o_q rfl rfl (za3 rfl) ?_
      refine o_q rfl rfl (q_asg rfl) ?_
      refine o_end ?_
      refine za2 ?_
      refine c_ret ?_
      refine zas ?_
      refine zaf ?_
      refine zaf ?_
      have e_ := Option.some.inj h; replace h := hR7; rw [← e_] at h; clear e_
      refine zas ?_
      refine zaf ?_
      have e0_ := Option.some.inj h; clear h
      subst e0_
      exact x_r1 () Try.results174 (zaj rfl) rfl (fun w h => za5 [] (by decide) rfl w h)
    · skip
      replace h := bb_f hb16 h
      refine zaq ?_
      refine zal ?_
      refine za2 ?_
      refine za0 ?_
      refine o_q rfl rfl (q_up rfl rfl (hr5.up hm6)) ?_
      refine o_q rfl rfl (za3 rfl) ?_
      refine o_end ?_
      refine zak ys3.length (ys3, i1 + 1) (by rw [← hk11]; exact Nat.lt_succ_self _) ⟨hr5.step, rfl, h⟩ ⟨rfl, trivial⟩ (fun w h => za5 [] (by decide) rfl w h) ?_
      repeat (first | exact zad _ _ | refine zah rfl ?_ | refine zae rfl ?_ | refine zai rfl ?_)

/-! ### slices.ContainsFunc[[][]int,[]int]: function 131 -/
def slices_ContainsFunc_int_int_2.f (k : Nat) (l0 : List (List Int)) : Option Bool := (slices_IndexFunc_int_int_2.f k l0).bind fun i2 => some (decide (0 ≤ i2))
set_option maxHeartbeats 600000 in
set_option maxRecDepth 100000 in
theorem slices_ContainsFunc_int_int_2.calls (k : Nat) {w0 ws : World} {P0 : Nat → Prop} (A0 : Option Addr) (c0 : Nat) (n0 : Nat) (H0 : Hd) (l0 : List (List Int)) (Z : Below w0.heap.size w0 ws) (hF : Fr w0 ws P0 [] ws) (R0 : Stable ws P0 (fun w => Kd.C (gk 3 (Kd.int .i64)) w A0 n0 (zp H0 l0))) (hc0 : n0 ≤ c0) (r_1 : Bool) (h : slices_ContainsFunc_int_int_2.f k l0 = some r_1) :
    Calls Try.prog 131 #[.slice A0 n0 c0, .func (.func 133) #[] #[]] ws (Post1 w0 ws P0 (fun (_ : Unit) => .bool r_1) (fun (_ : Unit) => [])) := by
  unfold slices_ContainsFunc_int_int_2.f at h
  obtain rfl := (zp_len _ _).symm.trans (R0 ws (KeptB.refl _ _)).1
  refine enter Try.func131 rfl Try.ntmps131 rfl hF ?_
  refine c_seq ?_
  refine za0 ?_
  refine o_q rfl rfl (q_asg rfl) ?_
  refine o_end ?_
  refine za2 ?_
  refine c_seq ?_
  refine za0 ?_
  refine o_q rfl rfl (za3 rfl) ?_
  refine o_q rfl rfl (za3 rfl) ?_
  refine za8 h (fun i2 hx1 h => ?_) rfl
  refine o_e rfl (za9 0 Z Try.func174 N174 rfl rfl rfl (fun w P1 hF hB hS hT => slices_IndexFunc_int_int_2.calls k A0 c0 l0.length H0 l0 hB hF (hS _ R0) hc0 _ hx1)) (fun _ => ?_)
  refine o_q rfl rfl (q_geq rfl rfl) ?_
  refine o_q rfl rfl (q_asg rfl) ?_
  refine o_end ?_
  refine za2 ?_
  refine c_ret ?_
  have e0_ := Option.some.inj h; clear h
  subst e0_
  exact x_r1 () Try.results131 (zaj rfl) rfl (fun w h => za5 [] (by decide) rfl w h)

/-! ### loop.example/g01098/impl.IsPlan: function 67 -/
def impl_IsPlan.f (k : Nat) (a0_0 : Int) (l0_1 : List SStep) (l0_2 : List Int) : Option Bool := (impl_Plan_formed.f a0_0 l0_1 l0_2).bind fun b4 => if b4 = true then ((impl_Plan_exponents.f a0_0 l0_1 l0_2).bind fun l7 => (slices_ContainsFunc_int_int_2.f k l7).bind fun b12 => some (!b12)) else (some false)
set_option maxHeartbeats 600000 in
set_option maxRecDepth 100000 in
theorem impl_IsPlan.calls (k : Nat) {w0 ws : World} {P0 : Nat → Prop} (a0_0 : Int) (A0_1 : Option Addr) (c0_1 : Nat) (n0_1 : Nat) (l0_1 : List SStep) (A0_2 : Option Addr) (c0_2 : Nat) (n0_2 : Nat) (l0_2 : List Int) (Z : Below w0.heap.size w0 ws) (hF : Fr w0 ws P0 [] ws) (R0_1 : Stable ws P0 (fun w => Kd.C kStep w A0_1 n0_1 l0_1)) (hc0_1 : n0_1 ≤ c0_1) (R0_2 : Stable ws P0 (fun w => Kd.C (Kd.int .i64) w A0_2 n0_2 l0_2)) (hc0_2 : n0_2 ≤ c0_2) (r_1 : Bool) (h : impl_IsPlan.f k a0_0 l0_1 l0_2 = some r_1) :
    Calls Try.prog 67 #[.agg #[.int .i64 a0_0, .slice A0_1 n0_1 c0_1, .slice A0_2 n0_2 c0_2]] ws (Post1 w0 ws P0 (fun (_ : Unit) => .bool r_1) (fun (_ : Unit) => [])) := by
  unfold impl_IsPlan.f at h
  obtain rfl := (R0_1 ws (KeptB.refl _ _)).1
  obtain rfl := (R0_2 ws (KeptB.refl _ _)).1
  refine enter Try.func67 rfl Try.ntmps67 rfl hF ?_
  refine c_seq ?_
  refine za0 ?_
  refine o_e rfl (e_box rfl) (fun g1 => ?_)
  refine o_q rfl rfl (q_asg rfl) ?_
  refine o_end ?_
  refine za2 ?_
  refine c_seq ?_
  refine za0 ?_
  refine za8 h (fun b4 hx3 h => ?_) rfl
  refine o_e rfl (za9 0 Z Try.func130 N130 rfl rfl rfl (fun w P1 hF hB hS hT => impl_Plan_formed.calls g1 a0_0 A0_1 c0_1 l0_1.length l0_1 A0_2 c0_2 l0_2.length l0_2 hB hF (hS _ R0_1) hc0_1 (hS _ R0_2) hc0_2 (hT 0 _ rfl).box _ hx3)) (fun _ => ?_)
  refine o_q rfl rfl (za3 rfl) ?_
  refine byB b4 (fun hb5 => ?_) (fun hb5 => ?_)
  · replace h := bb_t hb5 h
    refine za8 h (fun l7 hx6 h => ?_) rfl
    refine o_ew (za4 rfl rfl rfl (congrArg Value.bool hb5)) (za9 0 Z Try.func132 N132 rfl rfl rfl (fun w P1 hF hB hS hT => impl_Plan_exponents.calls g1 a0_0 A0_1 c0_1 l0_1.length l0_1 A0_2 c0_2 l0_2.length l0_2 hB hF (hS _ R0_1) hc0_1 (hS _ R0_2) hc0_2 (hT 0 _ rfl).box _ hx6)) (cur3 (fun A8 c9 H10 => ?_))
    refine za8 h (fun b12 hx11 h => ?_) rfl
    refine o_ew (za4 rfl rfl rfl (congrArg Value.bool hb5)) (za9 0 Z Try.func131 N131 rfl rfl rfl (fun w P1 hF hB hS hT => slices_ContainsFunc_int_int_2.calls k A8 c9 l7.length H10 l7 hB hF (hT 0 _ rfl).row (hT 0 _ rfl).cap _ hx11)) (fun _ => ?_)
    refine o_w (za4 rfl rfl rfl (congrArg Value.bool hb5)) rfl (q_not rfl) ?_
    refine o_q rfl rfl (zaa true (congrArg Value.bool hb5) rfl) ?_
    refine o_q rfl rfl (q_asg rfl) ?_
    refine o_end ?_
    refine za2 ?_
    refine c_ret ?_
    have e0_ := Option.some.inj h; clear h
    subst e0_
    exact x_r1 () Try.results67 (zaj rfl) rfl (fun w h => za5 [] (by decide) rfl w h)
  · replace h := bb_f hb5 h
    refine @o_n _ _ _ _ _ _ _ _ _ _ _ 5 (za1 rfl rfl rfl (congrArg Value.bool hb5) rfl) (Eq.refl (some 5)) ?_
    refine @o_n _ _ _ _ _ _ _ _ _ _ _ 6 (za1 rfl rfl rfl (congrArg Value.bool hb5) rfl) (Eq.refl (some 6)) ?_
    refine @o_n _ _ _ _ _ _ _ _ _ _ _ 7 (za1 rfl rfl rfl (congrArg Value.bool hb5) rfl) (Eq.refl (some 7)) ?_
    refine o_q rfl rfl (zaa false (congrArg Value.bool hb5) rfl) ?_
    refine o_q rfl rfl (q_asg rfl) ?_
    refine o_end ?_
    refine za2 ?_
    refine c_ret ?_
    have e0_ := Option.some.inj h; clear h
    subst e0_
    exact x_r1 () Try.results67 (zaj rfl) rfl (fun w h => za5 [] (by decide) rfl w h)

/-! ### loop.example/g01098/impl.orderable: function 57 -/
def impl_orderable.f (k : Nat) (a0_0 : Int) (l0_1 : List SStep) (l0_2 : List Int) : Option Bool := (impl_IsPlan.f k a0_0 l0_1 l0_2).bind fun b4 => if b4 = true then (some (decide ((l0_1.length : Int) ≤ 8))) else (some false)
set_option maxHeartbeats 600000 in
set_option maxRecDepth 100000 in
theorem impl_orderable.calls (k : Nat) {w0 ws : World} {P0 : Nat → Prop} (a0_0 : Int) (A0_1 : Option Addr) (c0_1 : Nat) (n0_1 : Nat) (l0_1 : List SStep) (A0_2 : Option Addr) (c0_2 : Nat) (n0_2 : Nat) (l0_2 : List Int) (Z : Below w0.heap.size w0 ws) (hF : Fr w0 ws P0 [] ws) (R0_1 : Stable ws P0 (fun w => Kd.C kStep w A0_1 n0_1 l0_1)) (hc0_1 : n0_1 ≤ c0_1) (R0_2 : Stable ws P0 (fun w => Kd.C (Kd.int .i64) w A0_2 n0_2 l0_2)) (hc0_2 : n0_2 ≤ c0_2) (r_1 : Bool) (h : impl_orderable.f k a0_0 l0_1 l0_2 = some r_1) :
    Calls Try.prog 57 #[.agg #[.int .i64 a0_0, .slice A0_1 n0_1 c0_1, .slice A0_2 n0_2 c0_2]] ws (Post1 w0 ws P0 (fun (_ : Unit) => .bool r_1) (fun (_ : Unit) => [])) := by
  unfold impl_orderable.f at h
  obtain rfl := (R0_1 ws (KeptB.refl _ _)).1
  obtain rfl := (R0_2 ws (KeptB.refl _ _)).1
  refine enter Try.func57 rfl Try.ntmps57 rfl hF ?_
  refine c_seq ?_
  refine za0 ?_
  refine o_e rfl (e_box rfl) (fun g1 => ?_)
  refine o_q rfl rfl (q_asg rfl) ?_
  refine o_end ?_
  refine za2 ?_
  refine c_seq ?_
  refine za0 ?_
  refine o_q rfl rfl (q_ldB G27 Z27 rfl (fun w h => h.zac (i := 0) rfl) rfl) ?_
  refine za8 h (fun b4 hx3 h => ?_) rfl
  refine o_e rfl (za9 0 Z Try.func67 N67 rfl rfl rfl (fun w P1 hF hB hS hT => impl_IsPlan.calls k a0_0 A0_1 c0_1 l0_1.length l0_1 A0_2 c0_2 l0_2.length l0_2 hB hF (hS _ R0_1) hc0_1 (hS _ R0_2) hc0_2 _ hx3)) (fun _ => ?_)
  refine o_q rfl rfl (za3 rfl) ?_
  refine byB b4 (fun hb5 => ?_) (fun hb5 => ?_)
  · replace h := bb_t hb5 h
    refine o_w (za4 rfl rfl rfl (congrArg Value.bool hb5)) rfl (q_f F27_1 rfl) ?_
    refine o_w (za4 rfl rfl rfl (congrArg Value.bool hb5)) rfl (q_ldb Y24 rfl (fun w h => h.zac (i := 0) rfl) rfl) ?_
    refine o_w (za4 rfl rfl rfl (congrArg Value.bool hb5)) rfl (q_len Try.underlying24 rfl) ?_
    refine o_w (za4 rfl rfl rfl (congrArg Value.bool hb5)) rfl (q_leq rfl rfl) ?_
    refine o_q rfl rfl (zaa true (congrArg Value.bool hb5) rfl) ?_
    refine o_q rfl rfl (q_asg rfl) ?_
    refine o_end ?_
    refine za2 ?_
    refine c_ret ?_
    have e0_ := Option.some.inj h; clear h
    subst e0_
    exact x_r1 () Try.results57 (zaj rfl) rfl (fun w h => za5 [] (by decide) rfl w h)
  · replace h := bb_f hb5 h
    refine @o_n _ _ _ _ _ _ _ _ _ _ _ 6 (za1 rfl rfl rfl (congrArg Value.bool hb5) rfl) (Eq.refl (some 6)) ?_
    refine @o_n _ _ _ _ _ _ _ _ _ _ _ 7 (za1 rfl rfl rfl (congrArg Value.bool hb5) rfl) (Eq.refl (some 7)) ?_
    refine @o_n _ _ _ _ _ _ _ _ _ _ _ 8 (za1 rfl rfl rfl (congrArg Value.bool hb5) rfl) (Eq.refl (some 8)) ?_
    refine @o_n _ _ _ _ _ _ _ _ _ _ _ 9 (za1 rfl rfl rfl (congrArg Value.bool hb5) rfl) (Eq.refl (some 9)) ?_
    refine o_q rfl rfl (zaa false (congrArg Value.bool hb5) rfl) ?_
    refine o_q rfl rfl (q_asg rfl) ?_
    refine o_end ?_
    refine za2 ?_
    refine c_ret ?_
    have e0_ := Option.some.inj h; clear h
    subst e0_
    exact x_r1 () Try.results57 (zaj rfl) rfl (fun w h => za5 [] (by decide) rfl w h)

/-! ### (*loop.example/g01098/impl.Plan).needed: function 68 -/
def impl_Plan_needed.l2 (a0_0 : Int) : (List Bool) → (List Bool) → Int → Option (List Bool)
  | [], l31, i32 => some l31
  | y33 :: ys34, l31, i32 => (gt l31 (w64 (a0_0 + i32))).bind fun y47 => if y47 = true then ((gt l31 (w64 (a0_0 + i32))).bind fun y50 => (st l31 (w64 (a0_0 + i32)) y33).bind fun l51 => impl_Plan_needed.l2 a0_0 ys34 l51 (i32 + 1)) else ((gt l31 (w64 (a0_0 + i32))).bind fun y54 => (st l31 (w64 (a0_0 + i32)) false).bind fun l55 => impl_Plan_needed.l2 a0_0 ys34 l55 (i32 + 1))
def impl_Plan_needed.l1 (l1 : List Bool) : (List SStep) → (List Bool) → Int → Option (List Bool)
  | [], l19, i20 => some l19
  | y21 :: ys22, l19, i20 => (gt l1 i20).bind fun y62 => if y62 = true then (impl_Plan_needed.l1 l1 ys22 l19 (i20 + 1)) else ((gt l19 y21.f0).bind fun y66 => (st l19 y21.f0 true).bind fun l67 => (gt l67 y21.f1).bind fun y71 => (st l67 y21.f1 true).bind fun l72 => impl_Plan_needed.l1 l1 ys22 l72 (i20 + 1))
def impl_Plan_needed.l0 : (List Int) → (List Bool) → Int → Option (List Bool)
  | [], l7, i8 => some l7
  | y9 :: ys10, l7, i8 => (gt l7 y9).bind fun y77 => (st l7 y9 true).bind fun l78 => impl_Plan_needed.l0 ys10 l78 (i8 + 1)
def impl_Plan_needed.f (a0_0 : Int) (l0_1 : List SStep) (l0_2 : List Int) (l1 : List Bool) : Option (List Bool) := (impl_Plan_many.f a0_0 l0_1 l0_2).bind fun _ => (mk0 (w64 (a0_0 + (l0_1.length : Int))) false).bind fun l2 => (impl_Plan_needed.l0 l0_2 l2 0).bind fun l7 => (impl_Plan_needed.l1 l1 l0_1 l7 0).bind fun l19 => (impl_Plan_needed.l2 a0_0 l1 l19 0).bind fun l31 => some l31
set_option maxHeartbeats 600000 in
set_option maxRecDepth 100000 in
theorem impl_Plan_needed.calls {w0 ws : World} {P0 : Nat → Prop} (g0 : Nat) (a0_0 : Int) (A0_1 : Option Addr) (c0_1 : Nat) (n0_1 : Nat) (l0_1 : List SStep) (A0_2 : Option Addr) (c0_2 : Nat) (n0_2 : Nat) (l0_2 : List Int) (A1 : Option Addr) (c1 : Nat) (n1 : Nat) (l1 : List Bool) (Z : Below w0.heap.size w0 ws) (hF : Fr w0 ws P0 [] ws) (R0_1 : Stable ws P0 (fun w => Kd.C kStep w A0_1 n0_1 l0_1)) (hc0_1 : n0_1 ≤ c0_1) (R0_2 : Stable ws P0 (fun w => Kd.C (Kd.int .i64) w A0_2 n0_2 l0_2)) (hc0_2 : n0_2 ≤ c0_2) (B0 : Stable ws P0 (fun w => w.heap[g0]? = some (.cells #[.int .i64 a0_0, .slice A0_1 n0_1 c0_1, .slice A0_2 n0_2 c0_2] 27 (0, 0)))) (R1 : Stable ws P0 (fun w => Kd.C Kd.bool w A1 n1 l1)) (hc1 : n1 ≤ c1) (r_1 : List Bool) (h : impl_Plan_needed.f a0_0 l0_1 l0_2 l1 = some r_1) :
    Calls Try.prog 68 #[.pointer (some ⟨g0, 0, none⟩), .slice A1 n1 c1] ws (Post1 w0 ws P0 (fun ((q_2, q_3) : (Option Addr) × Nat) => .slice q_2 r_1.length q_3) (fun ((q_2, q_3) : (Option Addr) × Nat) => [row Kd.bool 4 (.slice q_2 r_1.length q_3) r_1])) := by
  unfold impl_Plan_needed.f at h
  obtain rfl := (R0_1 ws (KeptB.refl _ _)).1
  obtain rfl := (R0_2 ws (KeptB.refl _ _)).1
  obtain rfl := (R1 ws (KeptB.refl _ _)).1
  refine enter Try.func68 rfl Try.ntmps68 rfl hF ?_
  refine c_seq ?_
  refine za0 ?_
  refine o_q rfl rfl (q_asg rfl) ?_
  refine o_end ?_
  refine za2 ?_
  refine c_seq ?_
  refine za0 ?_
  refine o_q rfl rfl (za3 rfl) ?_
  refine za8 h (fun _ hx1 h => ?_) rfl
  refine o_e rfl (za9 0 Z Try.func84 N84 rfl rfl rfl (fun w P1 hF hB hS hT => impl_Plan_many.calls g0 a0_0 A0_1 c0_1 l0_1.length l0_1 A0_2 c0_2 l0_2.length l0_2 hB hF (hS _ R0_1) hc0_1 (hS _ R0_2) hc0_2 (hS _ B0) hx1)) (fun _ => ?_)
  refine za8 h (fun l2 hm3 h => ?_) rfl
  refine o_e rfl (e_make Kd.bool false Try.underlying78 I4 rfl (by decide) (by decide) (fun _ _ => rfl) rfl rfl hm3) (cur2 (fun A4 c5 => ?_))
  refine o_q rfl rfl (q_asg rfl) ?_
  refine o_end ?_
  refine za2 ?_
  refine c_seq ?_
  refine c_seq ?_
  refine za0 ?_
  refine o_q rfl rfl (za3 rfl) ?_
  refine o_q rfl rfl (q_nil rfl) ?_
  refine o_q rfl rfl (q_f F27_2 rfl) ?_
  refine o_q rfl rfl (q_ldb Y25 rfl (fun w h => B0.now Z h) rfl) ?_
  refine o_q rfl rfl (q_len Try.underlying25 rfl) ?_
  refine o_q rfl rfl (za3 rfl) ?_
  refine o_end ?_
  refine za2 ?_
  refine zam ?_
  refine za8 h (fun o16 hl15 hR14 => ?_) rfl
  clear h
  refine c_fact (p := l0_2.length ≤ 9223372036854775807) (fun w h => (R0_2.now Z h).2.1) (fun hm13 => ?_)
  refine zaw (σ := (List Int) × (List Bool) × Int) (fun k11 ((ys10, l7, i8) : (List Int) × (List Bool) × Int) => Rg l0_2 i8 ys10 ∧ ys10.length = k11 ∧ impl_Plan_needed.l0 ys10 l7 i8 = some o16) [7, 20, 21, 22, 23, 24, 25, 26, 27] (fun ((ys10, l7, i8) : (List Int) × (List Bool) × Int) => [(20, .int .i64 i8)]) (fun ((ys10, l7, i8) : (List Int) × (List Bool) × Int) => [row Kd.bool 4 (.slice A4 l2.length c5) l7]) l0_2.length (l0_2, l2, 0) ⟨Rg.start _, rfl, hl15⟩ ⟨rfl, trivial⟩ (fun w h => h) ?_
  refine fun k11 => cur3 (listC (fun l7 i8 U17 hJ_ => ?_) (fun y9 ys10 l7 i8 U17 hJ_ => ?_))
  · skip
    clear hl15
    have hr12 := hJ_.1; have hk18 := hJ_.2.1; have h := hJ_.2.2; clear hJ_
    replace h : impl_Plan_needed.l0 [] l7 i8 = some o16 := h
    rw [impl_Plan_needed.l0] at h
    refine c_seq ?_
    refine za0 ?_
    refine o_q rfl rfl (q_lss rfl rfl) ?_
    refine o_end ?_
    refine za2 ?_
    refine c_seq ?_
    refine c_false (congrArg Value.bool hr12.ge) ?_
    refine c_exit ?_
    refine za6 ?_
    refine za6 ?_
    have e_ := Option.some.inj h; replace h := hR14; rw [← e_] at h; clear e_
    refine x_hit ?_
    refine za2 ?_
    refine c_seq ?_
    refine c_seq ?_
    refine za0 ?_
    refine o_q rfl rfl (za3 rfl) ?_
    refine o_q rfl rfl (q_nil rfl) ?_
    refine o_q rfl rfl (q_f F27_1 rfl) ?_
    refine o_q rfl rfl (q_ldb Y24 rfl (fun w h => B0.now Z h) rfl) ?_
    refine o_q rfl rfl (q_len Try.underlying24 rfl) ?_
    refine o_q rfl rfl (za3 rfl) ?_
    refine o_end ?_
    refine za2 ?_
    refine zam ?_
    refine za8 h (fun o28 hl27 hR26 => ?_) rfl
    clear h
    refine c_fact (p := l0_1.length ≤ 9223372036854775807) (fun w h => (R0_1.now Z h).2.1) (fun hm25 => ?_)
    refine zaw (σ := (List SStep) × (List Bool) × Int) (fun k23 ((ys22, l19, i20) : (List SStep) × (List Bool) × Int) => Rg l0_1 i20 ys22 ∧ ys22.length = k23 ∧ impl_Plan_needed.l1 l1 ys22 l19 i20 = some o28) [8, 9, 33, 34, 35, 36, 37, 38, 39, 40, 41, 42, 43, 44, 45, 46, 47, 48, 49, 50, 51] (fun ((ys22, l19, i20) : (List SStep) × (List Bool) × Int) => [(33, .int .i64 i20)]) (fun ((ys22, l19, i20) : (List SStep) × (List Bool) × Int) => [row Kd.bool 4 (.slice A4 l2.length c5) l19]) l0_1.length (l0_1, l7, 0) ⟨Rg.start _, rfl, hl27⟩ ⟨rfl, trivial⟩ (fun w h => h) ?_
    refine fun k23 => cur3 (listC (fun l19 i20 U29 hJ_ => ?_) (fun y21 ys22 l19 i20 U29 hJ_ => ?_))
    · skip
      clear hl27
      have hr24 := hJ_.1; have hk30 := hJ_.2.1; have h := hJ_.2.2; clear hJ_
      replace h : impl_Plan_needed.l1 l1 [] l19 i20 = some o28 := h
      rw [impl_Plan_needed.l1] at h
      refine c_seq ?_
      refine za0 ?_
      refine o_q rfl rfl (q_lss rfl rfl) ?_
      refine o_end ?_
      refine za2 ?_
      refine c_seq ?_
      refine c_false (congrArg Value.bool hr24.ge) ?_
      refine c_exit ?_
      refine za6 ?_
      refine za6 ?_
      have e_ := Option.some.inj h; replace h := hR26; rw [← e_] at h; clear e_
      refine x_hit ?_
      refine za2 ?_
      refine c_seq ?_
      refine c_seq ?_
      refine za0 ?_
      refine o_q rfl rfl (za3 rfl) ?_
      refine o_q rfl rfl (q_len Try.underlying78 rfl) ?_
      refine o_q rfl rfl (za3 rfl) ?_
      refine o_end ?_
      refine za2 ?_
      refine zam ?_
      refine za8 h (fun o40 hl39 hR38 => ?_) rfl
      clear h
      refine c_fact (p := l1.length ≤ 9223372036854775807) (fun w h => (R1.now Z h).2.1) (fun hm37 => ?_)
      refine zaw (σ := (List Bool) × (List Bool) × Int) (fun k35 ((ys34, l31, i32) : (List Bool) × (List Bool) × Int) => Rg l1 i32 ys34 ∧ ys34.length = k35 ∧ impl_Plan_needed.l2 a0_0 ys34 l31 i32 = some o40) [10, 11, 54, 55, 56, 57, 58, 59, 60, 61, 62, 63, 64, 65, 66, 67, 68, 69, 70, 71, 72, 73, 74, 75, 76, 77, 78, 79] (fun ((ys34, l31, i32) : (List Bool) × (List Bool) × Int) => [(54, .int .i64 i32)]) (fun ((ys34, l31, i32) : (List Bool) × (List Bool) × Int) => [row Kd.bool 4 (.slice A4 l2.length c5) l31]) l1.length (l1, l19, 0) ⟨Rg.start _, rfl, hl39⟩ ⟨rfl, trivial⟩ (fun w h => h) ?_
      refine fun k35 => cur3 (listC (fun l31 i32 U41 hJ_ => ?_) (fun y33 ys34 l31 i32 U41 hJ_ => ?_))
      · skip
        clear hl39
        have hr36 := hJ_.1; have hk42 := hJ_.2.1; have h := hJ_.2.2; clear hJ_
        replace h : impl_Plan_needed.l2 a0_0 [] l31 i32 = some o40 := h
        rw [impl_Plan_needed.l2] at h
        refine c_seq ?_
        refine za0 ?_
        refine o_q rfl rfl (q_lss rfl rfl) ?_
        refine o_end ?_
        refine za2 ?_
        refine c_seq ?_
        refine c_false (congrArg Value.bool hr36.ge) ?_
        refine c_exit ?_
        refine za6 ?_
        refine za6 ?_
        have e_ := Option.some.inj h; replace h := hR38; rw [← e_] at h; clear e_
        refine x_hit ?_
        refine za2 ?_
        refine c_seq ?_
        refine za0 ?_
        refine o_q rfl rfl (za3 rfl) ?_
        refine o_q rfl rfl (q_asg rfl) ?_
        refine o_end ?_
        refine za2 ?_
        refine c_ret ?_
        refine x_fact (p := l2.length = l31.length) (fun w h => (h.row_C (i := 0) rfl).2.1) (fun hn43 => ?_)
        have e0_ := Option.some.inj h; clear h
        subst e0_
        exact x_r1 (A4, c5) Try.results68 (zaj (v := .slice A4 l2.length c5) rfl) (by (try rw [hn43]); first | done | rfl) (f_pickE (L1 := [row Kd.bool 4 (.slice A4 l2.length c5) l31]) rfl [0] (by decide) rfl (by (try rw [hn43]); first | done | rfl))
      · skip
        clear hl39
        have hr36 := hJ_.1; have hk42 := hJ_.2.1; have h := hJ_.2.2; clear hJ_
        replace h : impl_Plan_needed.l2 a0_0 (y33 :: ys34) l31 i32 = some o40 := h
        rw [impl_Plan_needed.l2] at h
        refine c_seq ?_
        refine za0 ?_
        refine o_q rfl rfl (q_lss rfl rfl) ?_
        refine o_end ?_
        refine za2 ?_
        refine c_seq ?_
        refine c_true (congrArg Value.bool hr36.lt) ?_
        refine zaq ?_
        refine za2 ?_
        refine c_seq ?_
        refine zam ?_
        refine c_seq ?_
        refine za0 ?_
        refine o_q rfl rfl (za3 rfl) ?_
        refine o_fact (p := Sh A1 l1.length l1.length) (fun w h => f_sh (dk := Kd.bool) h (fun w h => R1.now Z h)) (fun hq44 => ?_)
        refine o_q rfl rfl (q_ix Try.underlying78 Z4 rfl rfl hq44 hr36.get) ?_
        refine o_q rfl rfl (q_lde (off := 0) Y4 rfl rfl (fun w h => R1.now Z h) hr36.get (fun _ _ h => h) rfl) ?_
        refine o_q rfl rfl (q_asg rfl) ?_
        refine o_q rfl rfl (q_asg rfl) ?_
        refine o_end ?_
        refine za2 ?_
        refine a_startS (ds := []) [none] MO rfl ?_
        refine za7 0 rfl rfl rfl (by kernel_rfl) (fun _ _ _ h => h) (za3 rfl) ?_
        refine za7 1 rfl rfl rfl (by kernel_rfl) (fun _ _ _ h => h) (za3 rfl) ?_
        refine za7 2 rfl rfl rfl (by kernel_rfl) (fun _ _ _ h => h) (q_nil rfl) ?_
        refine za7 3 rfl rfl rfl (by kernel_rfl) (fun _ _ _ h => h) (q_f F27_0 rfl) ?_
        refine zau 4 rfl rfl rfl (by kernel_rfl) (fun _ _ _ h => h) (fun w h => zab [none] (by decide) w h rfl) (q_ldb Y3 rfl (fun w h => B0.now Z h) rfl) ?_
        refine za7 5 rfl rfl rfl (by kernel_rfl) (fun _ _ _ h => h) (za3 rfl) ?_
        refine za7 6 rfl rfl rfl (by kernel_rfl) (fun _ _ _ h => h) (q_add64 rfl rfl) ?_
        refine za7 7 rfl rfl rfl (by kernel_rfl) (fun _ _ _ h => h) (za3 rfl) ?_
        refine za7 8 rfl rfl rfl (by kernel_rfl) (fun _ _ _ h => h) (za3 rfl) ?_
        refine za7 9 rfl rfl rfl (by kernel_rfl) (fun _ _ _ h => h) (q_nil rfl) ?_
        refine za7 10 rfl rfl rfl (by kernel_rfl) (fun _ _ _ h => h) (q_f F27_0 rfl) ?_
        refine zau 11 rfl rfl rfl (by kernel_rfl) (fun _ _ _ h => h) (fun w h => zab [none] (by decide) w h rfl) (q_ldb Y3 rfl (fun w h => B0.now Z h) rfl) ?_
        refine za7 12 rfl rfl rfl (by kernel_rfl) (fun _ _ _ h => h) (za3 rfl) ?_
        refine za7 13 rfl rfl rfl (by kernel_rfl) (fun _ _ _ h => h) (q_add64 rfl rfl) ?_
        refine a_fact (p := Sh A4 l2.length l31.length) (fun w h => f_sh (dk := Kd.bool) h (fun w h => h.zay (i := 0) rfl)) (fun hq45 => ?_)
        refine za8 h (fun y47 hg46 h => ?_) rfl
        refine za7 14 rfl rfl rfl (by kernel_rfl) (fun _ _ _ h => h) (q_ix Try.underlying78 Z4 rfl rfl hq45 hg46) ?_
        refine a_one 15 rfl rfl (by kernel_rfl) rfl (ev_q rfl (q_lde (off := 0) Y4 rfl rfl (fun w h => h.zay (i := 0) rfl) hg46 (fun _ _ h => h) rfl)) (fun s w h => zab [none] (by decide) w h rfl) (fun _ => ?_)
        refine za7 16 rfl rfl rfl (by kernel_rfl) (fun _ _ _ h => h) (za3 rfl) ?_
        refine byB y47 (fun hb48 => ?_) (fun hb48 => ?_)
        · replace h := bb_t hb48 h
          refine a_purew 17 rfl rfl (za4 rfl rfl rfl (congrArg Value.bool hb48)) (by kernel_rfl) (fun _ _ _ h => h) (za3 rfl) ?_
          refine za7 18 rfl rfl rfl (by kernel_rfl) (fun _ _ _ h => h) (zaa true (congrArg Value.bool hb48) rfl) ?_
          refine za8 h (fun y50 hg49 h => ?_) rfl
          refine za7 19 rfl rfl rfl (by kernel_rfl) (fun _ _ _ h => h) (q_ix Try.underlying78 Z4 rfl rfl hq45 hg49) ?_
          refine za8 h (fun l51 hs52 h => ?_) rfl
          refine a_one 20 rfl rfl (by kernel_rfl) rfl (e_set (i := 0) rfl rfl rfl Z4 hs52) (fun s w h => zab [none] (by decide) w h rfl) (fun _ => ?_)
          refine zav (by kernel_rfl) ?_
          refine zal ?_
          refine za2 ?_
          refine za0 ?_
          refine o_q rfl rfl (q_up rfl rfl (hr36.up hm37)) ?_
          refine o_q rfl rfl (za3 rfl) ?_
          refine o_end ?_
          refine zak ys34.length (ys34, l51, i32 + 1) (by rw [← hk42]; exact Nat.lt_succ_self _) ⟨hr36.step, rfl, h⟩ ⟨rfl, trivial⟩ (fun w h => za5 [0] (by decide) rfl w h) ?_
          repeat (first | exact zad _ _ | refine zah rfl ?_ | refine zae rfl ?_ | refine zai rfl ?_)
        · replace h := bb_f hb48 h
          refine a_no 17 rfl rfl (za1 rfl rfl rfl (congrArg Value.bool hb48) rfl) (by kernel_rfl) (fun _ _ _ h => h) ?_
          refine za7 18 rfl rfl rfl (by kernel_rfl) (fun _ _ _ h => h) (zaa false (congrArg Value.bool hb48) rfl) ?_
          refine za8 h (fun y54 hg53 h => ?_) rfl
          refine za7 19 rfl rfl rfl (by kernel_rfl) (fun _ _ _ h => h) (q_ix Try.underlying78 Z4 rfl rfl hq45 hg53) ?_
          refine za8 h (fun l55 hs56 h => ?_) rfl
          refine a_one 20 rfl rfl (by kernel_rfl) rfl (e_set (i := 0) rfl rfl rfl Z4 hs56) (fun s w h => zab [none] (by decide) w h rfl) (fun _ => ?_)
          refine zav (by kernel_rfl) ?_
          refine zal ?_
          refine za2 ?_
          refine za0 ?_
          refine o_q rfl rfl (q_up rfl rfl (hr36.up hm37)) ?_
          refine o_q rfl rfl (za3 rfl) ?_
          refine o_end ?_
          refine zak ys34.length (ys34, l55, i32 + 1) (by rw [← hk42]; exact Nat.lt_succ_self _) ⟨hr36.step, rfl, h⟩ ⟨rfl, trivial⟩ (fun w h => za5 [0] (by decide) rfl w h) ?_
          repeat (first | exact zad _ _ | refine zah rfl ?_ | refine zae rfl ?_ | refine zai rfl ?_)
    · skip
      clear hl27
      have hr24 := hJ_.1; have hk30 := hJ_.2.1; have h := hJ_.2.2; clear hJ_
      replace h : impl_Plan_needed.l1 l1 (y21 :: ys22) l19 i20 = some o28 := h
      rw [impl_Plan_needed.l1] at h
      refine c_seq ?_
      refine za0 ?_
      refine o_q rfl rfl (q_lss rfl rfl) ?_
      refine o_end ?_
      refine za2 ?_
      refine c_seq ?_
      refine c_true (congrArg Value.bool hr24.lt) ?_
      refine zaq ?_
      refine za2 ?_
      refine c_seq ?_
      refine zam ?_
      refine c_seq ?_
      refine za0 ?_
      refine o_q rfl rfl (za3 rfl) ?_
      refine o_fact (p := Sh A0_1 l0_1.length l0_1.length) (fun w h => f_sh (dk := kStep) h (fun w h => R0_1.now Z h)) (fun hq57 => ?_)
      refine o_q rfl rfl (q_ix Try.underlying24 Z88 rfl rfl hq57 hr24.get) ?_
      refine o_q rfl rfl (q_ldE G88 Z88 rfl rfl (fun w h => R0_1.now Z h) hr24.get (fun _ _ h => h) rfl) ?_
      refine o_e rfl (e_alloc V88 rfl) (fun g58 => ?_)
      refine o_q rfl rfl (q_asg rfl) ?_
      refine o_e rfl (zaz (i := 0) rfl rfl rfl Z88 rfl rfl) (fun _ => ?_)
      refine o_end ?_
      refine za2 ?_
      refine c_seq ?_
      refine za0 ?_
      refine o_q rfl rfl (za3 rfl) ?_
      refine o_q rfl rfl (za3 rfl) ?_
      refine o_fact (p := Sh A1 l1.length l1.length) (fun w h => f_sh (dk := Kd.bool) h (fun w h => R1.now Z h)) (fun hq60 => ?_)
      refine za8 h (fun y62 hg61 h => ?_) rfl
      refine o_q rfl rfl (q_ix Try.underlying78 Z4 rfl rfl hq60 hg61) ?_
      refine o_q rfl rfl (q_lde (off := 0) Y4 rfl rfl (fun w h => R1.now Z h) hg61 (fun _ _ h => h) rfl) ?_
      refine o_q rfl rfl (q_not rfl) ?_
      refine o_end ?_
      refine za2 ?_
      refine zat _ rfl (fun hb63 => ?_) (fun hb63 => ?_)
      · replace hb63 := nt_t hb63
        replace h := bb_f hb63 h
        refine a_startS (ds := []) [some 0, none] MO rfl ?_
        refine za7 0 rfl rfl rfl (by kernel_rfl) (fun _ _ _ h => h) (za3 rfl) ?_
        refine za7 1 rfl rfl rfl (by kernel_rfl) (fun _ _ _ h => h) (q_f F88_0 rfl) ?_
        refine zau 2 rfl rfl rfl (by kernel_rfl) (fun _ _ _ h => h) (fun w h => zab [some 0, none] (by decide) w h rfl) (q_ldb Y3 rfl (fun w h => h.zac (i := 0) rfl) rfl) ?_
        refine za7 3 rfl rfl rfl (by kernel_rfl) (fun _ _ _ h => h) (za3 rfl) ?_
        refine za7 4 rfl rfl rfl (by kernel_rfl) (fun _ _ _ h => h) (q_f F88_1 rfl) ?_
        refine zau 5 rfl rfl rfl (by kernel_rfl) (fun _ _ _ h => h) (fun w h => zab [some 0, none] (by decide) w h rfl) (q_ldb Y3 rfl (fun w h => h.zac (i := 0) rfl) rfl) ?_
        refine a_fact (p := Sh A4 l2.length l19.length) (fun w h => f_sh (dk := Kd.bool) h (fun w h => h.zay (i := 1) rfl)) (fun hq64 => ?_)
        refine za8 h (fun y66 hg65 h => ?_) rfl
        refine za7 6 rfl rfl rfl (by kernel_rfl) (fun _ _ _ h => h) (q_ix Try.underlying78 Z4 rfl rfl hq64 hg65) ?_
        refine za8 h (fun l67 hs68 h => ?_) rfl
        refine a_one 7 rfl rfl (by kernel_rfl) rfl (e_set (i := 1) rfl rfl rfl Z4 hs68) (fun s w h => zab [some 0, none] (by decide) w h rfl) (fun _ => ?_)
        refine a_fact (p := Sh A4 l2.length l67.length) (fun w h => f_sh (dk := Kd.bool) h (fun w h => h.zay (i := 1) rfl)) (fun hq69 => ?_)
        refine za8 h (fun y71 hg70 h => ?_) rfl
        refine za7 8 rfl rfl rfl (by kernel_rfl) (fun _ _ _ h => h) (q_ix Try.underlying78 Z4 rfl rfl hq69 hg70) ?_
        refine za8 h (fun l72 hs73 h => ?_) rfl
        refine a_one 9 rfl rfl (by kernel_rfl) rfl (e_set (i := 1) rfl rfl rfl Z4 hs73) (fun s w h => zab [some 0, none] (by decide) w h rfl) (fun _ => ?_)
        refine zav (by kernel_rfl) ?_
        refine zal ?_
        refine za2 ?_
        refine za0 ?_
        refine o_q rfl rfl (q_up rfl rfl (hr24.up hm25)) ?_
        refine o_q rfl rfl (za3 rfl) ?_
        refine o_end ?_
        refine zak ys22.length (ys22, l72, i20 + 1) (by rw [← hk30]; exact Nat.lt_succ_self _) ⟨hr24.step, rfl, h⟩ ⟨rfl, trivial⟩ (fun w h => za5 [1] (by decide) rfl w h) ?_
        repeat (first | exact zad _ _ | refine zah rfl ?_ | refine zae rfl ?_ | refine zai rfl ?_)
      · replace hb63 := nt_f hb63
        replace h := bb_t hb63 h
        refine zaq ?_
        refine zal ?_
        refine za2 ?_
        refine za0 ?_
        refine o_q rfl rfl (q_up rfl rfl (hr24.up hm25)) ?_
        refine o_q rfl rfl (za3 rfl) ?_
        refine o_end ?_
        refine zak ys22.length (ys22, l19, i20 + 1) (by rw [← hk30]; exact Nat.lt_succ_self _) ⟨hr24.step, rfl, h⟩ ⟨rfl, trivial⟩ (fun w h => za5 [1] (by decide) rfl w h) ?_
        repeat (first | exact zad _ _ | refine zah rfl ?_ | refine zae rfl ?_ | refine zai rfl ?_)
  · skip
    clear hl15
    have hr12 := hJ_.1; have hk18 := hJ_.2.1; have h := hJ_.2.2; clear hJ_
    replace h : impl_Plan_needed.l0 (y9 :: ys10) l7 i8 = some o16 := h
    rw [impl_Plan_needed.l0] at h
    refine c_seq ?_
    refine za0 ?_
    refine o_q rfl rfl (q_lss rfl rfl) ?_
    refine o_end ?_
    refine za2 ?_
    refine c_seq ?_
    refine c_true (congrArg Value.bool hr12.lt) ?_
    refine zaq ?_
    refine za2 ?_
    refine c_seq ?_
    refine zam ?_
    refine c_seq ?_
    refine za0 ?_
    refine o_fact (p := Sh A0_2 l0_2.length l0_2.length) (fun w h => f_sh (dk := (Kd.int .i64)) h (fun w h => R0_2.now Z h)) (fun hq74 => ?_)
    refine o_q rfl rfl (q_ix Try.underlying25 Z3 rfl rfl hq74 hr12.get) ?_
    refine o_q rfl rfl (q_lde (off := 0) Y3 rfl rfl (fun w h => R0_2.now Z h) hr12.get (fun _ _ h => h) rfl) ?_
    refine o_q rfl rfl (q_asg rfl) ?_
    refine o_end ?_
    refine za2 ?_
    refine za0 ?_
    refine o_q rfl rfl (za3 rfl) ?_
    refine o_q rfl rfl (za3 rfl) ?_
    refine o_fact (p := Sh A4 l2.length l7.length) (fun w h => f_sh (dk := Kd.bool) h (fun w h => h.zay (i := 0) rfl)) (fun hq75 => ?_)
    refine za8 h (fun y77 hg76 h => ?_) rfl
    refine o_q rfl rfl (q_ix Try.underlying78 Z4 rfl rfl hq75 hg76) ?_
    refine za8 h (fun l78 hs79 h => ?_) rfl
    refine o_e rfl (e_set (i := 0) rfl rfl rfl Z4 hs79) (fun _ => ?_)
    refine o_end ?_
    refine zal ?_
    refine za2 ?_
    refine za0 ?_
    refine o_q rfl rfl (q_up rfl rfl (hr12.up hm13)) ?_
    refine o_q rfl rfl (za3 rfl) ?_
    refine o_end ?_
    refine zak ys10.length (ys10, l78, i8 + 1) (by rw [← hk18]; exact Nat.lt_succ_self _) ⟨hr12.step, rfl, h⟩ ⟨rfl, trivial⟩ (fun w h => za5 [0] (by decide) rfl w h) ?_
    repeat (first | exact zad _ _ | refine zah rfl ?_ | refine zae rfl ?_ | refine zai rfl ?_)

/-! ### (*loop.example/g01098/impl.Plan).held: function 141 -/
def impl_Plan_held.l0 : (List Bool) → Int → Int → Option Int
  | [], i10, i11 => some i11
  | y12 :: ys13, i10, i11 => if y12 = true then (impl_Plan_held.l0 ys13 (i10 + 1) (w64 (i11 + 1))) else (impl_Plan_held.l0 ys13 (i10 + 1) i11)
def impl_Plan_held.f (a0_0 : Int) (l0_1 : List SStep) (l0_2 : List Int) (l1 : List Bool) (a2 : Int) : Option Int := (impl_Plan_needed.f a0_0 l0_1 l0_2 l1).bind fun l2 => (gt l2 (w64 (a0_0 + a2))).bind fun y7 => (st l2 (w64 (a0_0 + a2)) true).bind fun l8 => (impl_Plan_held.l0 l8 0 0).bind fun i11 => some i11
set_option maxHeartbeats 600000 in
set_option maxRecDepth 100000 in
theorem impl_Plan_held.calls {w0 ws : World} {P0 : Nat → Prop} (g0 : Nat) (a0_0 : Int) (A0_1 : Option Addr) (c0_1 : Nat) (n0_1 : Nat) (l0_1 : List SStep) (A0_2 : Option Addr) (c0_2 : Nat) (n0_2 : Nat) (l0_2 : List Int) (A1 : Option Addr) (c1 : Nat) (n1 : Nat) (l1 : List Bool) (a2 : Int) (Z : Below w0.heap.size w0 ws) (hF : Fr w0 ws P0 [] ws) (R0_1 : Stable ws P0 (fun w => Kd.C kStep w A0_1 n0_1 l0_1)) (hc0_1 : n0_1 ≤ c0_1) (R0_2 : Stable ws P0 (fun w => Kd.C (Kd.int .i64) w A0_2 n0_2 l0_2)) (hc0_2 : n0_2 ≤ c0_2) (B0 : Stable ws P0 (fun w => w.heap[g0]? = some (.cells #[.int .i64 a0_0, .slice A0_1 n0_1 c0_1, .slice A0_2 n0_2 c0_2] 27 (0, 0)))) (R1 : Stable ws P0 (fun w => Kd.C Kd.bool w A1 n1 l1)) (hc1 : n1 ≤ c1) (r_1 : Int) (h : impl_Plan_held.f a0_0 l0_1 l0_2 l1 a2 = some r_1) :
    Calls Try.prog 141 #[.pointer (some ⟨g0, 0, none⟩), .slice A1 n1 c1, .int .i64 a2] ws (Post1 w0 ws P0 (fun (_ : Unit) => .int .i64 r_1) (fun (_ : Unit) => [])) := by
  unfold impl_Plan_held.f at h
  obtain rfl := (R0_1 ws (KeptB.refl _ _)).1
  obtain rfl := (R0_2 ws (KeptB.refl _ _)).1
  obtain rfl := (R1 ws (KeptB.refl _ _)).1
  refine enter Try.func141 rfl Try.ntmps141 rfl hF ?_
  refine c_seq ?_
  refine za0 ?_
  refine o_q rfl rfl (q_asg rfl) ?_
  refine o_end ?_
  refine za2 ?_
  refine c_seq ?_
  refine za0 ?_
  refine o_q rfl rfl (za3 rfl) ?_
  refine o_q rfl rfl (za3 rfl) ?_
  refine za8 h (fun l2 hx1 h => ?_) rfl
  refine o_e rfl (za9 0 Z Try.func68 N68 rfl rfl rfl (fun w P1 hF hB hS hT => impl_Plan_needed.calls g0 a0_0 A0_1 c0_1 l0_1.length l0_1 A0_2 c0_2 l0_2.length l0_2 A1 c1 l1.length l1 hB hF (hS _ R0_1) hc0_1 (hS _ R0_2) hc0_2 (hS _ B0) (hS _ R1) hc1 _ hx1)) (cur2 (fun A3 c4 => ?_))
  refine o_q rfl rfl (q_asg rfl) ?_
  refine o_q rfl rfl (q_asg rfl) ?_
  refine o_end ?_
  refine za2 ?_
  refine c_seq ?_
  refine za0 ?_
  refine o_q rfl rfl (za3 rfl) ?_
  refine o_q rfl rfl (za3 rfl) ?_
  refine o_q rfl rfl (q_nil rfl) ?_
  refine o_q rfl rfl (q_f F27_0 rfl) ?_
  refine o_q rfl rfl (q_ldb Y3 rfl (fun w h => B0.now Z h) rfl) ?_
  refine o_q rfl rfl (za3 rfl) ?_
  refine o_q rfl rfl (q_add64 rfl rfl) ?_
  refine o_fact (p := Sh A3 l2.length l2.length) (fun w h => f_sh (dk := Kd.bool) h (fun w h => h.zay (i := 0) rfl)) (fun hq5 => ?_)
  refine za8 h (fun y7 hg6 h => ?_) rfl
  refine o_q rfl rfl (q_ix Try.underlying78 Z4 rfl rfl hq5 hg6) ?_
  refine za8 h (fun l8 hs9 h => ?_) rfl
  refine o_e rfl (e_set (i := 0) rfl rfl rfl Z4 hs9) (fun _ => ?_)
  refine o_end ?_
  refine za2 ?_
  refine c_seq ?_
  refine c_seq ?_
  refine za0 ?_
  refine o_q rfl rfl (za3 rfl) ?_
  refine o_q rfl rfl (q_len Try.underlying78 rfl) ?_
  refine o_q rfl rfl (za3 rfl) ?_
  refine o_end ?_
  refine za2 ?_
  refine zam ?_
  refine za8 h (fun o19 hl18 hR17 => ?_) rfl
  clear h
  refine c_fact (p := l2.length ≤ 9223372036854775807) (fun w h => (h.zay (i := 0) rfl).2.1) (fun hm16 => ?_)
  refine c_fact (p := l2.length = l8.length) (fun w h => (h.row_C (i := 0) rfl).2.1) (fun hn20 => ?_)
  refine zaw (σ := (List Bool) × Int × Int) (fun k14 ((ys13, i10, i11) : (List Bool) × Int × Int) => Rg l8 i10 ys13 ∧ ys13.length = k14 ∧ impl_Plan_held.l0 ys13 i10 i11 = some o19) [8, 10, 24, 25, 26, 27, 28, 29, 30, 31] (fun ((ys13, i10, i11) : (List Bool) × Int × Int) => [(8, .int .i64 i11), (24, .int .i64 i10)]) (fun ((ys13, i10, i11) : (List Bool) × Int × Int) => [row Kd.bool 4 (.slice A3 l2.length c4) l8]) l8.length (l8, 0, 0) ⟨Rg.start _, rfl, hl18⟩ ⟨rfl, rfl, trivial⟩ (fun w h => h) ?_
  refine fun k14 => cur3 (listC (fun i10 i11 U21 hJ_ => ?_) (fun y12 ys13 i10 i11 U21 hJ_ => ?_))
  · skip
    clear hl18
    have hr15 := hJ_.1; have hk22 := hJ_.2.1; have h := hJ_.2.2; clear hJ_
    replace h : impl_Plan_held.l0 [] i10 i11 = some o19 := h
    rw [impl_Plan_held.l0] at h
    refine c_seq ?_
    refine za0 ?_
    refine o_q rfl rfl (q_lss rfl rfl) ?_
    refine o_end ?_
    refine za2 ?_
    refine c_seq ?_
    refine c_false (congrArg Value.bool (hr15.gen hn20)) ?_
    refine c_exit ?_
    refine za6 ?_
    refine za6 ?_
    have e_ := Option.some.inj h; replace h := hR17; rw [← e_] at h; clear e_
    refine x_hit ?_
    refine za2 ?_
    refine c_seq ?_
    refine za0 ?_
    refine o_q rfl rfl (za3 rfl) ?_
    refine o_q rfl rfl (q_asg rfl) ?_
    refine o_end ?_
    refine za2 ?_
    refine c_ret ?_
    have e0_ := Option.some.inj h; clear h
    subst e0_
    exact x_r1 () Try.results141 (zaj rfl) rfl (fun w h => za5 [] (by decide) rfl w h)
  · skip
    clear hl18
    have hr15 := hJ_.1; have hk22 := hJ_.2.1; have h := hJ_.2.2; clear hJ_
    replace h : impl_Plan_held.l0 (y12 :: ys13) i10 i11 = some o19 := h
    rw [impl_Plan_held.l0] at h
    refine c_seq ?_
    refine za0 ?_
    refine o_q rfl rfl (q_lss rfl rfl) ?_
    refine o_end ?_
    refine za2 ?_
    refine c_seq ?_
    refine c_true (congrArg Value.bool (hr15.ltn hn20)) ?_
    refine zaq ?_
    refine za2 ?_
    refine c_seq ?_
    refine zam ?_
    refine c_seq ?_
    refine za0 ?_
    refine o_fact (p := Sh A3 l2.length l8.length) (fun w h => f_sh (dk := Kd.bool) h (fun w h => h.zay (i := 0) rfl)) (fun hq23 => ?_)
    refine o_q rfl rfl (q_ix Try.underlying78 Z4 rfl rfl hq23 hr15.get) ?_
    refine o_q rfl rfl (q_lde (off := 0) Y4 rfl rfl (fun w h => h.zay (i := 0) rfl) hr15.get (fun _ _ h => h) rfl) ?_
    refine o_q rfl rfl (q_asg rfl) ?_
    refine o_end ?_
    refine za2 ?_
    refine c_seq ?_
    refine za0 ?_
    refine o_q rfl rfl (za3 rfl) ?_
    refine o_end ?_
    refine za2 ?_
    refine zat _ rfl (fun hb24 => ?_) (fun hb24 => ?_)
    · skip
      replace h := bb_t hb24 h
      refine za0 ?_
      refine o_q rfl rfl (za3 rfl) ?_
      refine o_q rfl rfl (q_add64 rfl rfl) ?_
      refine o_q rfl rfl (q_asg rfl) ?_
      refine o_end ?_
      refine zal ?_
      refine za2 ?_
      refine za0 ?_
      refine o_q rfl rfl (q_up rfl rfl (hr15.up (hn20 ▸ hm16))) ?_
      refine o_q rfl rfl (za3 rfl) ?_
      refine o_end ?_
      refine zak ys13.length (ys13, i10 + 1, w64 (i11 + 1)) (by rw [← hk22]; exact Nat.lt_succ_self _) ⟨hr15.step, rfl, h⟩ ⟨rfl, rfl, trivial⟩ (fun w h => za5 [0] (by decide) rfl w h) ?_
      repeat (first | exact zad _ _ | refine zah rfl ?_ | refine zae rfl ?_ | refine zai rfl ?_)
    · skip
      replace h := bb_f hb24 h
      refine zaq ?_
      refine zal ?_
      refine za2 ?_
      refine za0 ?_
      refine o_q rfl rfl (q_up rfl rfl (hr15.up (hn20 ▸ hm16))) ?_
      refine o_q rfl rfl (za3 rfl) ?_
      refine o_end ?_
      refine zak ys13.length (ys13, i10 + 1, i11) (by rw [← hk22]; exact Nat.lt_succ_self _) ⟨hr15.step, rfl, h⟩ ⟨rfl, rfl, trivial⟩ (fun w h => za5 [0] (by decide) rfl w h) ?_
      repeat (first | exact zad _ _ | refine zah rfl ?_ | refine zae rfl ?_ | refine zai rfl ?_)

/-! ### (*loop.example/g01098/impl.Plan).pressure: function 81 -/
def impl_Plan_pressure.l0 (a0_0 : Int) (l0_1 : List SStep) (l0_2 : List Int) : (List Int) → (List Bool) → Int → Int → Option ((List Bool) × Int)
  | [], l7, i8, i9 => some (l7, i9)
  | y10 :: ys11, l7, i8, i9 => (gt l7 y10).bind fun y23 => (st l7 y10 true).bind fun l24 => (impl_Plan_held.f a0_0 l0_1 l0_2 l24 y10).bind fun i27 => impl_Plan_pressure.l0 a0_0 l0_1 l0_2 ys11 l24 (i8 + 1) (mx i9 i27)
def impl_Plan_pressure.f (a0_0 : Int) (l0_1 : List SStep) (l0_2 : List Int) (l1 : List Int) : Option Int := (mk0 (l0_1.length : Int) false).bind fun l2 => (impl_Plan_pressure.l0 a0_0 l0_1 l0_2 l1 l2 0 a0_0).bind fun (l7, i9) => some i9
set_option maxHeartbeats 600000 in
set_option maxRecDepth 100000 in
theorem impl_Plan_pressure.calls {w0 ws : World} {P0 : Nat → Prop} (g0 : Nat) (a0_0 : Int) (A0_1 : Option Addr) (c0_1 : Nat) (n0_1 : Nat) (l0_1 : List SStep) (A0_2 : Option Addr) (c0_2 : Nat) (n0_2 : Nat) (l0_2 : List Int) (A1 : Option Addr) (c1 : Nat) (n1 : Nat) (l1 : List Int) (Z : Below w0.heap.size w0 ws) (hF : Fr w0 ws P0 [] ws) (R0_1 : Stable ws P0 (fun w => Kd.C kStep w A0_1 n0_1 l0_1)) (hc0_1 : n0_1 ≤ c0_1) (R0_2 : Stable ws P0 (fun w => Kd.C (Kd.int .i64) w A0_2 n0_2 l0_2)) (hc0_2 : n0_2 ≤ c0_2) (B0 : Stable ws P0 (fun w => w.heap[g0]? = some (.cells #[.int .i64 a0_0, .slice A0_1 n0_1 c0_1, .slice A0_2 n0_2 c0_2] 27 (0, 0)))) (R1 : Stable ws P0 (fun w => Kd.C (Kd.int .i64) w A1 n1 l1)) (hc1 : n1 ≤ c1) (r_1 : Int) (h : impl_Plan_pressure.f a0_0 l0_1 l0_2 l1 = some r_1) :
    Calls Try.prog 81 #[.pointer (some ⟨g0, 0, none⟩), .slice A1 n1 c1] ws (Post1 w0 ws P0 (fun (_ : Unit) => .int .i64 r_1) (fun (_ : Unit) => [])) := by
  unfold impl_Plan_pressure.f at h
  obtain rfl := (R0_1 ws (KeptB.refl _ _)).1
  obtain rfl := (R0_2 ws (KeptB.refl _ _)).1
  obtain rfl := (R1 ws (KeptB.refl _ _)).1
  refine enter Try.func81 rfl Try.ntmps81 rfl hF ?_
  refine c_seq ?_
  refine za0 ?_
  refine o_q rfl rfl (q_asg rfl) ?_
  refine o_end ?_
  refine za2 ?_
  refine c_seq ?_
  refine a_start (ds := []) MO rfl ?_
  refine za7 0 rfl rfl rfl (by kernel_rfl) (fun _ _ _ h => h) (za3 rfl) ?_
  refine za7 1 rfl rfl rfl (by kernel_rfl) (fun _ _ _ h => h) (q_nil rfl) ?_
  refine za7 2 rfl rfl rfl (by kernel_rfl) (fun _ _ _ h => h) (q_f F27_0 rfl) ?_
  refine zau 3 rfl rfl rfl (by kernel_rfl) (fun _ _ _ h => h) (fun w h => h) (q_ldb Y3 rfl (fun w h => B0.now Z h) rfl) ?_
  refine za7 4 rfl rfl rfl (by kernel_rfl) (fun _ _ _ h => h) (za3 rfl) ?_
  refine za7 5 rfl rfl rfl (by kernel_rfl) (fun _ _ _ h => h) (q_nil rfl) ?_
  refine za7 6 rfl rfl rfl (by kernel_rfl) (fun _ _ _ h => h) (q_f F27_1 rfl) ?_
  refine zau 7 rfl rfl rfl (by kernel_rfl) (fun _ _ _ h => h) (fun w h => h) (q_ldb Y24 rfl (fun w h => B0.now Z h) rfl) ?_
  refine za7 8 rfl rfl rfl (by kernel_rfl) (fun _ _ _ h => h) (q_len Try.underlying24 rfl) ?_
  refine za7 10 rfl rfl rfl (by kernel_rfl) (fun _ _ _ h => h) (q_asg rfl) ?_
  refine za8 h (fun l2 hm3 h => ?_) rfl
  refine a_one 9 rfl rfl (by kernel_rfl) rfl (e_make Kd.bool false Try.underlying78 I4 rfl (by decide) (by decide) (fun _ _ => rfl) rfl rfl hm3) (fun s w h => zab [] (by decide) w h rfl) (cur2 (fun A4 c5 => ?_))
  refine za7 11 rfl rfl rfl (by kernel_rfl) (fun _ _ _ h => h) (q_asg rfl) ?_
  refine zav (by kernel_rfl) ?_
  refine za2 ?_
  refine c_seq ?_
  refine c_seq ?_
  refine za0 ?_
  refine o_q rfl rfl (za3 rfl) ?_
  refine o_q rfl rfl (q_len Try.underlying25 rfl) ?_
  refine o_q rfl rfl (za3 rfl) ?_
  refine o_end ?_
  refine za2 ?_
  refine zam ?_
  refine za8 h (fun o17 hl16 hR15 => ?_) rfl
  clear h
  refine c_fact (p := l1.length ≤ 9223372036854775807) (fun w h => (R1.now Z h).2.1) (fun hm14 => ?_)
  refine zaw (σ := (List Int) × (List Bool) × Int × Int) (fun k12 ((ys11, l7, i8, i9) : (List Int) × (List Bool) × Int × Int) => Rg l1 i8 ys11 ∧ ys11.length = k12 ∧ impl_Plan_pressure.l0 a0_0 l0_1 l0_2 ys11 l7 i8 i9 = some o17) [5, 8, 21, 22, 23, 24, 25, 26, 27, 28, 29, 30, 31, 32, 33, 34] (fun ((ys11, l7, i8, i9) : (List Int) × (List Bool) × Int × Int) => [(5, .int .i64 i9), (21, .int .i64 i8)]) (fun ((ys11, l7, i8, i9) : (List Int) × (List Bool) × Int × Int) => [row Kd.bool 4 (.slice A4 l2.length c5) l7]) l1.length (l1, l2, 0, a0_0) ⟨Rg.start _, rfl, hl16⟩ ⟨rfl, rfl, trivial⟩ (fun w h => h) ?_
  refine fun k12 => cur4 (listC (fun l7 i8 i9 U18 hJ_ => ?_) (fun y10 ys11 l7 i8 i9 U18 hJ_ => ?_))
  · skip
    clear hl16
    have hr13 := hJ_.1; have hk19 := hJ_.2.1; have h := hJ_.2.2; clear hJ_
    replace h : impl_Plan_pressure.l0 a0_0 l0_1 l0_2 [] l7 i8 i9 = some o17 := h
    rw [impl_Plan_pressure.l0] at h
    refine c_seq ?_
    refine za0 ?_
    refine o_q rfl rfl (q_lss rfl rfl) ?_
    refine o_end ?_
    refine za2 ?_
    refine c_seq ?_
    refine c_false (congrArg Value.bool hr13.ge) ?_
    refine c_exit ?_
    refine za6 ?_
    refine za6 ?_
    have e_ := Option.some.inj h; replace h := hR15; rw [← e_] at h; clear e_
    refine x_hit ?_
    refine za2 ?_
    refine c_seq ?_
    refine za0 ?_
    refine o_q rfl rfl (za3 rfl) ?_
    refine o_q rfl rfl (q_asg rfl) ?_
    refine o_end ?_
    refine za2 ?_
    refine c_ret ?_
    have e0_ := Option.some.inj h; clear h
    subst e0_
    exact x_r1 () Try.results81 (zaj rfl) rfl (fun w h => za5 [] (by decide) rfl w h)
  · skip
    clear hl16
    have hr13 := hJ_.1; have hk19 := hJ_.2.1; have h := hJ_.2.2; clear hJ_
    replace h : impl_Plan_pressure.l0 a0_0 l0_1 l0_2 (y10 :: ys11) l7 i8 i9 = some o17 := h
    rw [impl_Plan_pressure.l0] at h
    refine c_seq ?_
    refine za0 ?_
    refine o_q rfl rfl (q_lss rfl rfl) ?_
    refine o_end ?_
    refine za2 ?_
    refine c_seq ?_
    refine c_true (congrArg Value.bool hr13.lt) ?_
    refine zaq ?_
    refine za2 ?_
    refine c_seq ?_
    refine zam ?_
    refine c_seq ?_
    refine za0 ?_
    refine o_fact (p := Sh A1 l1.length l1.length) (fun w h => f_sh (dk := (Kd.int .i64)) h (fun w h => R1.now Z h)) (fun hq20 => ?_)
    refine o_q rfl rfl (q_ix Try.underlying25 Z3 rfl rfl hq20 hr13.get) ?_
    refine o_q rfl rfl (q_lde (off := 0) Y3 rfl rfl (fun w h => R1.now Z h) hr13.get (fun _ _ h => h) rfl) ?_
    refine o_q rfl rfl (q_asg rfl) ?_
    refine o_end ?_
    refine za2 ?_
    refine c_seq ?_
    refine za0 ?_
    refine o_q rfl rfl (za3 rfl) ?_
    refine o_q rfl rfl (za3 rfl) ?_
    refine o_fact (p := Sh A4 l2.length l7.length) (fun w h => f_sh (dk := Kd.bool) h (fun w h => h.zay (i := 0) rfl)) (fun hq21 => ?_)
    refine za8 h (fun y23 hg22 h => ?_) rfl
    refine o_q rfl rfl (q_ix Try.underlying78 Z4 rfl rfl hq21 hg22) ?_
    refine za8 h (fun l24 hs25 h => ?_) rfl
    refine o_e rfl (e_set (i := 0) rfl rfl rfl Z4 hs25) (fun _ => ?_)
    refine o_end ?_
    refine za2 ?_
    refine za0 ?_
    refine o_q rfl rfl (za3 rfl) ?_
    refine o_q rfl rfl (za3 rfl) ?_
    refine o_q rfl rfl (za3 rfl) ?_
    refine o_q rfl rfl (za3 rfl) ?_
    refine za8 h (fun i27 hx26 h => ?_) rfl
    refine o_e rfl (za9 0 Z Try.func141 N141 rfl rfl rfl (fun w P1 hF hB hS hT => impl_Plan_held.calls g0 a0_0 A0_1 c0_1 l0_1.length l0_1 A0_2 c0_2 l0_2.length l0_2 A4 c5 l2.length l24 y10 hB hF (hS _ R0_1) hc0_1 (hS _ R0_2) hc0_2 (hS _ B0) (hT 0 _ rfl).row (hT 0 _ rfl).cap _ hx26)) (fun _ => ?_)
    refine o_q rfl rfl (q_max rfl rfl) ?_
    refine o_q rfl rfl (q_asg rfl) ?_
    refine o_end ?_
    refine zal ?_
    refine za2 ?_
    refine za0 ?_
    refine o_q rfl rfl (q_up rfl rfl (hr13.up hm14)) ?_
    refine o_q rfl rfl (za3 rfl) ?_
    refine o_end ?_
    refine zak ys11.length (ys11, l24, i8 + 1, mx i9 i27) (by rw [← hk19]; exact Nat.lt_succ_self _) ⟨hr13.step, rfl, h⟩ ⟨rfl, rfl, trivial⟩ (fun w h => za5 [0] (by decide) rfl w h) ?_
    repeat (first | exact zad _ _ | refine zah rfl ?_ | refine zae rfl ?_ | refine zai rfl ?_)

/-! ### (*loop.example/g01098/impl.Plan).within$1: function 124 -/
def impl_Plan_within_1.f (l0 : List Int) (a1_0_0 : Int) (l1_0_1 : List SStep) (l1_0_2 : List Int) (a2_0 : Int) (a3_0 : Int) : Option Int := (impl_Plan_pressure.f a1_0_0 l1_0_1 l1_0_2 l0).bind fun i2 => if i2 ≤ a2_0 then (some (w64 (a3_0 + 1))) else (some a3_0)
set_option maxHeartbeats 600000 in
set_option maxRecDepth 100000 in
theorem impl_Plan_within_1.calls {w0 ws : World} {P0 : Nat → Prop} (A0 : Option Addr) (c0 : Nat) (n0 : Nat) (l0 : List Int) (g1 : Nat) (g1_0 : Nat) (a1_0_0 : Int) (A1_0_1 : Option Addr) (c1_0_1 : Nat) (n1_0_1 : Nat) (l1_0_1 : List SStep) (A1_0_2 : Option Addr) (c1_0_2 : Nat) (n1_0_2 : Nat) (l1_0_2 : List Int) (g2 : Nat) (a2_0 : Int) (g3 : Nat) (a3_0 : Int) (Z : Below w0.heap.size w0 ws) (hF : Fr w0 ws P0 [box g3 3 #[.int .i64 a3_0]] ws) (R0 : Stable ws P0 (fun w => Kd.C (Kd.int .i64) w A0 n0 l0)) (hc0 : n0 ≤ c0) (R1_0_1 : Stable ws P0 (fun w => Kd.C kStep w A1_0_1 n1_0_1 l1_0_1)) (hc1_0_1 : n1_0_1 ≤ c1_0_1) (R1_0_2 : Stable ws P0 (fun w => Kd.C (Kd.int .i64) w A1_0_2 n1_0_2 l1_0_2)) (hc1_0_2 : n1_0_2 ≤ c1_0_2) (B1_0 : Stable ws P0 (fun w => w.heap[g1_0]? = some (.cells #[.int .i64 a1_0_0, .slice A1_0_1 n1_0_1 c1_0_1, .slice A1_0_2 n1_0_2 c1_0_2] 27 (0, 0)))) (B1 : Stable ws P0 (fun w => w.heap[g1]? = some (.cells #[.pointer (some ⟨g1_0, 0, none⟩)] 97 (0, 0)))) (B2 : Stable ws P0 (fun w => w.heap[g2]? = some (.cells #[.int .i64 a2_0] 3 (0, 0)))) (r_1 : Int) (h : impl_Plan_within_1.f l0 a1_0_0 l1_0_1 l1_0_2 a2_0 a3_0 = some r_1) :
    Calls Try.prog 124 #[.slice A0 n0 c0, .pointer (some ⟨g1, 0, none⟩), .pointer (some ⟨g2, 0, none⟩), .pointer (some ⟨g3, 0, none⟩)] ws (Post1 w0 ws P0 (fun (_ : Unit) => .tuple #[]) (fun (_ : Unit) => [box g3 3 #[.int .i64 r_1]])) := by
  unfold impl_Plan_within_1.f at h
  obtain rfl := (R0 ws (KeptB.refl _ _)).1
  obtain rfl := (R1_0_1 ws (KeptB.refl _ _)).1
  obtain rfl := (R1_0_2 ws (KeptB.refl _ _)).1
  refine enter Try.func124 rfl Try.ntmps124 rfl hF ?_
  refine c_seq ?_
  refine a_start (ds := []) MO rfl ?_
  refine zau 0 rfl rfl rfl (by kernel_rfl) (fun _ _ _ h => h) (fun w h => h) (q_ldb Y97 rfl (fun w h => B1.now Z h) rfl) ?_
  refine za7 1 rfl rfl rfl (by kernel_rfl) (fun _ _ _ h => h) (za3 rfl) ?_
  refine zau 3 rfl rfl rfl (by kernel_rfl) (fun _ _ _ h => h) (fun w h => h) (q_ldb Y3 rfl (fun w h => B2.now Z h) rfl) ?_
  refine za8 h (fun i2 hx1 h => ?_) rfl
  refine a_one 2 rfl rfl (by kernel_rfl) rfl (za9 0 Z Try.func81 N81 rfl rfl rfl (fun w P1 hF hB hS hT => impl_Plan_pressure.calls g1_0 a1_0_0 A1_0_1 c1_0_1 l1_0_1.length l1_0_1 A1_0_2 c1_0_2 l1_0_2.length l1_0_2 A0 c0 l0.length l0 hB hF (hS _ R1_0_1) hc1_0_1 (hS _ R1_0_2) hc1_0_2 (hS _ B1_0) (hS _ R0) hc0 _ hx1)) (fun s w h => h) (fun _ => ?_)
  refine za7 4 rfl rfl rfl (by kernel_rfl) (fun _ _ _ h => h) (q_leq rfl rfl) ?_
  refine zav (by kernel_rfl) ?_
  refine za2 ?_
  refine zat _ rfl (fun hb3 => ?_) (fun hb3 => ?_)
  · skip
    replace h := br_t hb3 h
    refine za0 ?_
    refine o_q rfl rfl (q_ldb Y3 rfl (fun w h => h.zac (i := 0) rfl) rfl) ?_
    refine o_q rfl rfl (q_add64 rfl rfl) ?_
    refine o_e rfl (e_store (i := 0) rfl rfl rfl rfl Z3 rfl rfl) (fun _ => ?_)
    refine o_end ?_
    have e0_ := Option.some.inj h; clear h
    subst e0_
    exact x_r0 (.inr rfl) () Try.results124 rfl (fun w h => za5 [0] (by decide) rfl w h)
  · skip
    replace h := br_f hb3 h
    refine zaq ?_
    have e0_ := Option.some.inj h; clear h
    subst e0_
    exact x_r0 (.inr rfl) () Try.results124 rfl (fun w h => za5 [0] (by decide) rfl w h)

/-! ### slices.Index[[]int,int]: function 85 -/
def slices_Index_int_int.l0 (a1 : Int) : (List Int) → Int → Option ((Int) ⊕ (Unit))
  | [], i1 => some (.inr ())
  | y2 :: ys3, i1 => if a1 = y2 then (some (.inl i1)) else (slices_Index_int_int.l0 a1 ys3 (i1 + 1))
def slices_Index_int_int.f (l0 : List Int) (a1 : Int) : Option Int := (slices_Index_int_int.l0 a1 l0 0).bind fun o_ => match o_ with | .inl r_ => some r_ | .inr _ => some (-1)
set_option maxHeartbeats 600000 in
set_option maxRecDepth 100000 in
theorem slices_Index_int_int.calls {w0 ws : World} {P0 : Nat → Prop} (A0 : Option Addr) (c0 : Nat) (n0 : Nat) (l0 : List Int) (a1 : Int) (Z : Below w0.heap.size w0 ws) (hF : Fr w0 ws P0 [] ws) (R0 : Stable ws P0 (fun w => Kd.C (Kd.int .i64) w A0 n0 l0)) (hc0 : n0 ≤ c0) (r_1 : Int) (h : slices_Index_int_int.f l0 a1 = some r_1) :
    Calls Try.prog 85 #[.slice A0 n0 c0, .int .i64 a1] ws (Post1 w0 ws P0 (fun (_ : Unit) => .int .i64 r_1) (fun (_ : Unit) => [])) := by
  unfold slices_Index_int_int.f at h
  obtain rfl := (R0 ws (KeptB.refl _ _)).1
  refine enter Try.func85 rfl Try.ntmps85 rfl hF ?_
  refine c_seq ?_
  refine za0 ?_
  refine o_q rfl rfl (q_asg rfl) ?_
  refine o_end ?_
  refine za2 ?_
  refine c_seq ?_
  refine c_seq ?_
  refine za0 ?_
  refine o_q rfl rfl (za3 rfl) ?_
  refine o_q rfl rfl (q_len Try.underlying25 rfl) ?_
  refine o_q rfl rfl (za3 rfl) ?_
  refine o_end ?_
  refine za2 ?_
  refine zam ?_
  refine za8 h (fun o9 hl8 hR7 => ?_) rfl
  clear h
  refine c_fact (p := l0.length ≤ 9223372036854775807) (fun w h => (R0.now Z h).2.1) (fun hm6 => ?_)
  refine zaw (σ := (List Int) × Int) (fun k4 ((ys3, i1) : (List Int) × Int) => Rg l0 i1 ys3 ∧ ys3.length = k4 ∧ slices_Index_int_int.l0 a1 ys3 i1 = some o9) [4, 5, 8, 9, 10, 11, 12, 13, 14, 15, 16, 17, 18] (fun ((ys3, i1) : (List Int) × Int) => [(8, .int .i64 i1)]) (fun ((ys3, i1) : (List Int) × Int) => []) l0.length (l0, 0) ⟨Rg.start _, rfl, hl8⟩ ⟨rfl, trivial⟩ (fun w h => h) ?_
  refine fun k4 => cur2 (listC (fun i1 U10 hJ_ => ?_) (fun y2 ys3 i1 U10 hJ_ => ?_))
  · skip
    clear hl8
    have hr5 := hJ_.1; have hk11 := hJ_.2.1; have h := hJ_.2.2; clear hJ_
    replace h : slices_Index_int_int.l0 a1 [] i1 = some o9 := h
    rw [slices_Index_int_int.l0] at h
    refine c_seq ?_
    refine za0 ?_
    refine o_q rfl rfl (q_lss rfl rfl) ?_
    refine o_end ?_
    refine za2 ?_
    refine c_seq ?_
    refine c_false (congrArg Value.bool hr5.ge) ?_
    refine c_exit ?_
    refine za6 ?_
    refine za6 ?_
    have e_ := Option.some.inj h; replace h := hR7; rw [← e_] at h; clear e_
    refine x_hit ?_
    refine za2 ?_
    refine c_seq ?_
    refine za0 ?_
    refine o_q rfl rfl (q_asg rfl) ?_
    refine o_end ?_
    refine za2 ?_
    refine c_ret ?_
    have e0_ := Option.some.inj h; clear h
    subst e0_
    exact x_r1 () Try.results85 (zaj rfl) rfl (fun w h => za5 [] (by decide) rfl w h)
  · skip
    clear hl8
    have hr5 := hJ_.1; have hk11 := hJ_.2.1; have h := hJ_.2.2; clear hJ_
    replace h : slices_Index_int_int.l0 a1 (y2 :: ys3) i1 = some o9 := h
    rw [slices_Index_int_int.l0] at h
    refine c_seq ?_
    refine za0 ?_
    refine o_q rfl rfl (q_lss rfl rfl) ?_
    refine o_end ?_
    refine za2 ?_
    refine c_seq ?_
    refine c_true (congrArg Value.bool hr5.lt) ?_
    refine zaq ?_
    refine za2 ?_
    refine c_seq ?_
    refine zam ?_
    refine c_seq ?_
    refine za0 ?_
    refine o_q rfl rfl (za3 rfl) ?_
    refine o_q rfl rfl (q_asg rfl) ?_
    refine o_end ?_
    refine za2 ?_
    refine c_seq ?_
    refine za0 ?_
    refine o_q rfl rfl (za3 rfl) ?_
    refine o_q rfl rfl (za3 rfl) ?_
    refine o_q rfl rfl (za3 rfl) ?_
    refine o_fact (p := Sh A0 l0.length l0.length) (fun w h => f_sh (dk := (Kd.int .i64)) h (fun w h => R0.now Z h)) (fun hq12 => ?_)
    refine o_q rfl rfl (q_ix Try.underlying25 Z3 rfl rfl hq12 hr5.get) ?_
    refine o_q rfl rfl (q_lde (off := 0) Y3 rfl rfl (fun w h => R0.now Z h) hr5.get (fun _ _ h => h) rfl) ?_
    refine o_q rfl rfl (q_eql rfl rfl) ?_
    refine o_end ?_
    refine za2 ?_
    refine zat _ rfl (fun hb13 => ?_) (fun hb13 => ?_)
    · skip
      replace h := br_t hb13 h
      refine c_seq ?_
      refine za0 ?_
      refine o_q rfl rfl (za3 rfl) ?_
      refine o_q rfl rfl (q_asg rfl) ?_
      refine o_end ?_
      refine za2 ?_
      refine c_ret ?_
      refine zas ?_
      refine zaf ?_
      refine zaf ?_
      have e_ := Option.some.inj h; replace h := hR7; rw [← e_] at h; clear e_
      refine zas ?_
      refine zaf ?_
      have e0_ := Option.some.inj h; clear h
      subst e0_
      exact x_r1 () Try.results85 (zaj rfl) rfl (fun w h => za5 [] (by decide) rfl w h)
    · skip
      replace h := br_f hb13 h
      refine zaq ?_
      refine zal ?_
      refine za2 ?_
      refine za0 ?_
      refine o_q rfl rfl (q_up rfl rfl (hr5.up hm6)) ?_
      refine o_q rfl rfl (za3 rfl) ?_
      refine o_end ?_
      refine zak ys3.length (ys3, i1 + 1) (by rw [← hk11]; exact Nat.lt_succ_self _) ⟨hr5.step, rfl, h⟩ ⟨rfl, trivial⟩ (fun w h => za5 [] (by decide) rfl w h) ?_
      repeat (first | exact zad _ _ | refine zah rfl ?_ | refine zae rfl ?_ | refine zai rfl ?_)

/-! ### slices.Contains[[]int,int]: function 169 -/
def slices_Contains_int_int.f (l0 : List Int) (a1 : Int) : Option Bool := (slices_Index_int_int.f l0 a1).bind fun i2 => some (decide (0 ≤ i2))
set_option maxHeartbeats 600000 in
set_option maxRecDepth 100000 in
theorem slices_Contains_int_int.calls {w0 ws : World} {P0 : Nat → Prop} (A0 : Option Addr) (c0 : Nat) (n0 : Nat) (l0 : List Int) (a1 : Int) (Z : Below w0.heap.size w0 ws) (hF : Fr w0 ws P0 [] ws) (R0 : Stable ws P0 (fun w => Kd.C (Kd.int .i64) w A0 n0 l0)) (hc0 : n0 ≤ c0) (r_1 : Bool) (h : slices_Contains_int_int.f l0 a1 = some r_1) :
    Calls Try.prog 169 #[.slice A0 n0 c0, .int .i64 a1] ws (Post1 w0 ws P0 (fun (_ : Unit) => .bool r_1) (fun (_ : Unit) => [])) := by
  unfold slices_Contains_int_int.f at h
  obtain rfl := (R0 ws (KeptB.refl _ _)).1
  refine enter Try.func169 rfl Try.ntmps169 rfl hF ?_
  refine c_seq ?_
  refine za0 ?_
  refine o_q rfl rfl (q_asg rfl) ?_
  refine o_end ?_
  refine za2 ?_
  refine c_seq ?_
  refine za0 ?_
  refine o_q rfl rfl (za3 rfl) ?_
  refine o_q rfl rfl (za3 rfl) ?_
  refine za8 h (fun i2 hx1 h => ?_) rfl
  refine o_e rfl (za9 0 Z Try.func85 N85 rfl rfl rfl (fun w P1 hF hB hS hT => slices_Index_int_int.calls A0 c0 l0.length l0 a1 hB hF (hS _ R0) hc0 _ hx1)) (fun _ => ?_)
  refine o_q rfl rfl (q_geq rfl rfl) ?_
  refine o_q rfl rfl (q_asg rfl) ?_
  refine o_end ?_
  refine za2 ?_
  refine c_ret ?_
  have e0_ := Option.some.inj h; clear h
  subst e0_
  exact x_r1 () Try.results169 (zaj rfl) rfl (fun w h => za5 [] (by decide) rfl w h)

/-! ### (*loop.example/g01098/impl.Plan).orders$1: function 168 -/
def impl_Plan_orders_1.f (a0 : Int) (a1_0_0 : Int) (l1_0_1 : List SStep) (l1_0_2 : List Int) (l2_0 : List Int) : Option Bool := if a0 < a1_0_0 then (some true) else ((slices_Contains_int_int.f l2_0 (w64 (a0 - a1_0_0))).bind fun b3 => some b3)
set_option maxHeartbeats 600000 in
set_option maxRecDepth 100000 in
theorem impl_Plan_orders_1.calls {w0 ws : World} {P0 : Nat → Prop} (a0 : Int) (g1 : Nat) (g1_0 : Nat) (a1_0_0 : Int) (A1_0_1 : Option Addr) (c1_0_1 : Nat) (n1_0_1 : Nat) (l1_0_1 : List SStep) (A1_0_2 : Option Addr) (c1_0_2 : Nat) (n1_0_2 : Nat) (l1_0_2 : List Int) (g2 : Nat) (A2_0 : Option Addr) (c2_0 : Nat) (n2_0 : Nat) (l2_0 : List Int) (Z : Below w0.heap.size w0 ws) (hF : Fr w0 ws P0 [] ws) (R1_0_1 : Stable ws P0 (fun w => Kd.C kStep w A1_0_1 n1_0_1 l1_0_1)) (hc1_0_1 : n1_0_1 ≤ c1_0_1) (R1_0_2 : Stable ws P0 (fun w => Kd.C (Kd.int .i64) w A1_0_2 n1_0_2 l1_0_2)) (hc1_0_2 : n1_0_2 ≤ c1_0_2) (B1_0 : Stable ws P0 (fun w => w.heap[g1_0]? = some (.cells #[.int .i64 a1_0_0, .slice A1_0_1 n1_0_1 c1_0_1, .slice A1_0_2 n1_0_2 c1_0_2] 27 (0, 0)))) (B1 : Stable ws P0 (fun w => w.heap[g1]? = some (.cells #[.pointer (some ⟨g1_0, 0, none⟩)] 97 (0, 0)))) (R2_0 : Stable ws P0 (fun w => Kd.C (Kd.int .i64) w A2_0 n2_0 l2_0)) (hc2_0 : n2_0 ≤ c2_0) (B2 : Stable ws P0 (fun w => w.heap[g2]? = some (.cells #[.slice A2_0 n2_0 c2_0] 25 (0, 0)))) (r_1 : Bool) (h : impl_Plan_orders_1.f a0 a1_0_0 l1_0_1 l1_0_2 l2_0 = some r_1) :
    Calls Try.prog 168 #[.int .i64 a0, .pointer (some ⟨g1, 0, none⟩), .pointer (some ⟨g2, 0, none⟩)] ws (Post1 w0 ws P0 (fun (_ : Unit) => .bool r_1) (fun (_ : Unit) => [])) := by
  unfold impl_Plan_orders_1.f at h
  obtain rfl := (R1_0_1 ws (KeptB.refl _ _)).1
  obtain rfl := (R1_0_2 ws (KeptB.refl _ _)).1
  obtain rfl := (R2_0 ws (KeptB.refl _ _)).1
  refine enter Try.func168 rfl Try.ntmps168 rfl hF ?_
  refine c_seq ?_
  refine za0 ?_
  refine o_q rfl rfl (q_asg rfl) ?_
  refine o_end ?_
  refine za2 ?_
  refine c_seq ?_
  refine a_start (ds := []) MO rfl ?_
  refine za7 0 rfl rfl rfl (by kernel_rfl) (fun _ _ _ h => h) (za3 rfl) ?_
  refine zau 1 rfl rfl rfl (by kernel_rfl) (fun _ _ _ h => h) (fun w h => h) (q_ldb Y97 rfl (fun w h => B1.now Z h) rfl) ?_
  refine za7 2 rfl rfl rfl (by kernel_rfl) (fun _ _ _ h => h) (q_nil rfl) ?_
  refine za7 3 rfl rfl rfl (by kernel_rfl) (fun _ _ _ h => h) (q_f F27_0 rfl) ?_
  refine zau 4 rfl rfl rfl (by kernel_rfl) (fun _ _ _ h => h) (fun w h => h) (q_ldb Y3 rfl (fun w h => B1_0.now Z h) rfl) ?_
  refine za7 5 rfl rfl rfl (by kernel_rfl) (fun _ _ _ h => h) (q_lss rfl rfl) ?_
  refine za7 6 rfl rfl rfl (by kernel_rfl) (fun _ _ _ h => h) (za3 rfl) ?_
  refine byB (decide (a0 < a1_0_0)) (fun hb1 => ?_) (fun hb1 => ?_)
  · replace h := br_t hb1 h
    refine a_no 7 rfl rfl (za1 rfl rfl rfl (congrArg Value.bool hb1) rfl) (by kernel_rfl) (fun _ _ _ h => h) ?_
    refine a_no 8 rfl rfl (za1 rfl rfl rfl (congrArg Value.bool hb1) rfl) (by kernel_rfl) (fun _ _ _ h => h) ?_
    refine a_no 9 rfl rfl (za1 rfl rfl rfl (congrArg Value.bool hb1) rfl) (by kernel_rfl) (fun _ _ _ h => h) ?_
    refine a_no 10 rfl rfl (za1 rfl rfl rfl (congrArg Value.bool hb1) rfl) (by kernel_rfl) (fun _ _ _ h => h) ?_
    refine a_no 11 rfl rfl (za1 rfl rfl rfl (congrArg Value.bool hb1) rfl) (by kernel_rfl) (fun _ _ _ h => h) ?_
    refine a_no 12 rfl rfl (za1 rfl rfl rfl (congrArg Value.bool hb1) rfl) (by kernel_rfl) (fun _ _ _ h => h) ?_
    refine a_no 13 rfl rfl (za1 rfl rfl rfl (congrArg Value.bool hb1) rfl) (by kernel_rfl) (fun _ _ _ h => h) ?_
    refine a_no 14 rfl rfl (za1 rfl rfl rfl (congrArg Value.bool hb1) rfl) (by kernel_rfl) (fun _ _ _ h => h) ?_
    refine za7 15 rfl rfl rfl (by kernel_rfl) (fun _ _ _ h => h) (zaa true (congrArg Value.bool hb1) rfl) ?_
    refine za7 16 rfl rfl rfl (by kernel_rfl) (fun _ _ _ h => h) (q_asg rfl) ?_
    refine zav (by kernel_rfl) ?_
    refine za2 ?_
    refine c_ret ?_
    have e0_ := Option.some.inj h; clear h
    subst e0_
    exact x_r1 () Try.results168 (zaj rfl) rfl (fun w h => za5 [] (by decide) rfl w h)
  · replace h := br_f hb1 h
    refine a_takew 7 rfl rfl (za4 rfl rfl rfl (congrArg Value.bool hb1)) (by kernel_rfl) (fun _ _ _ h => h) (fun w h => h) (q_ldb Y25 rfl (fun w h => B2.now Z h) rfl) ?_
    refine a_purew 8 rfl rfl (za4 rfl rfl rfl (congrArg Value.bool hb1)) (by kernel_rfl) (fun _ _ _ h => h) (za3 rfl) ?_
    refine a_takew 9 rfl rfl (za4 rfl rfl rfl (congrArg Value.bool hb1)) (by kernel_rfl) (fun _ _ _ h => h) (fun w h => h) (q_ldb Y97 rfl (fun w h => B1.now Z h) rfl) ?_
    refine a_purew 10 rfl rfl (za4 rfl rfl rfl (congrArg Value.bool hb1)) (by kernel_rfl) (fun _ _ _ h => h) (q_nil rfl) ?_
    refine a_purew 11 rfl rfl (za4 rfl rfl rfl (congrArg Value.bool hb1)) (by kernel_rfl) (fun _ _ _ h => h) (q_f F27_0 rfl) ?_
    refine a_takew 12 rfl rfl (za4 rfl rfl rfl (congrArg Value.bool hb1)) (by kernel_rfl) (fun _ _ _ h => h) (fun w h => h) (q_ldb Y3 rfl (fun w h => B1_0.now Z h) rfl) ?_
    refine a_purew 13 rfl rfl (za4 rfl rfl rfl (congrArg Value.bool hb1)) (by kernel_rfl) (fun _ _ _ h => h) (q_sub64 rfl rfl) ?_
    refine za8 h (fun b3 hx2 h => ?_) rfl
    refine a_onew 14 rfl (za4 rfl rfl rfl (congrArg Value.bool hb1)) (by kernel_rfl) rfl (za9 0 Z Try.func169 N169 rfl rfl rfl (fun w P1 hF hB hS hT => slices_Contains_int_int.calls A2_0 c2_0 l2_0.length l2_0 (w64 (a0 - a1_0_0)) hB hF (hS _ R2_0) hc2_0 _ hx2)) (fun s w h => h) (fun _ => ?_)
    refine za7 15 rfl rfl rfl (by kernel_rfl) (fun _ _ _ h => h) (zaa false (congrArg Value.bool hb1) rfl) ?_
    refine za7 16 rfl rfl rfl (by kernel_rfl) (fun _ _ _ h => h) (q_asg rfl) ?_
    refine zav (by kernel_rfl) ?_
    refine za2 ?_
    refine c_ret ?_
    have e0_ := Option.some.inj h; clear h
    subst e0_
    exact x_r1 () Try.results168 (zaj rfl) rfl (fun w h => za5 [] (by decide) rfl w h)

/-! ### slices.Clip[[]int,int]: function 170 -/
def slices_Clip_int_int.f (l0 : List Int) : Option Unit := some ()
set_option maxHeartbeats 600000 in
set_option maxRecDepth 100000 in
theorem slices_Clip_int_int.calls {w0 ws : World} {P0 : Nat → Prop} (A0 : Option Addr) (c0 : Nat) (n0 : Nat) (l0 : List Int) (Z : Below w0.heap.size w0 ws) (hF : Fr w0 ws P0 [] ws) (R0 : Stable ws P0 (fun w => Kd.C (Kd.int .i64) w A0 n0 l0)) (hc0 : n0 ≤ c0)  (h : slices_Clip_int_int.f l0 = some ()) :
    Calls Try.prog 170 #[.slice A0 n0 c0] ws (Post1 w0 ws P0 (fun (_ : Unit) => .slice A0 n0 n0) (fun (_ : Unit) => [])) := by
  unfold slices_Clip_int_int.f at h
  obtain rfl := (R0 ws (KeptB.refl _ _)).1
  refine enter Try.func170 rfl Try.ntmps170 rfl hF ?_
  refine c_seq ?_
  refine za0 ?_
  refine o_q rfl rfl (q_asg rfl) ?_
  refine o_end ?_
  refine za2 ?_
  refine c_seq ?_
  refine za0 ?_
  refine o_q rfl rfl (za3 rfl) ?_
  refine o_q rfl rfl (za3 rfl) ?_
  refine o_q rfl rfl (q_len Try.underlying25 rfl) ?_
  refine o_q rfl rfl (za3 rfl) ?_
  refine o_q rfl rfl (q_len Try.underlying25 rfl) ?_
  refine o_q rfl rfl (q_clip Try.underlying25 Z3 rfl ⟨_, rfl⟩ ⟨_, rfl⟩ hc0) ?_
  refine o_q rfl rfl (q_asg rfl) ?_
  refine o_end ?_
  refine za2 ?_
  refine c_ret ?_
  exact x_r1 () Try.results170 (zaj rfl) rfl (fun w h => za5 [] (by decide) rfl w h)

/-! ### (*loop.example/g01098/impl.Plan).orders: function 123 -/
def impl_Plan_orders.l0 (self_ : Int → (List SStep) → (List Int) → (List Int) → Int → (List SStep) → (List Int) → Int → Int → Option (Int)) (a0_0 : Int) (l0_1 : List SStep) (l0_2 : List Int) (l1 : List Int) (a2_c0_0_0 : Int) (l2_c0_0_1 : List SStep) (l2_c0_0_2 : List Int) (a2_c1_0 : Int) : (List SStep) → Int → Int → Option Int
  | [], i8, i9 => some i8
  | y10 :: ys11, i8, i9 => ((slices_Contains_int_int.f l1 i9).bind fun b38 => if b38 = true then (some false) else ((impl_Plan_orders_1.f y10.f0 a0_0 l0_1 l0_2 l1).bind fun b41 => if b41 = true then ((impl_Plan_orders_1.f y10.f1 a0_0 l0_1 l0_2 l1).bind fun b44 => some b44) else (some false))).bind fun b31 => if b31 = true then ((slices_Clip_int_int.f l1).bind fun _ => (ap l1 ([i9] : List Int)).bind fun l347 => (self_ a0_0 l0_1 l0_2 l347 a2_c0_0_0 l2_c0_0_1 l2_c0_0_2 a2_c1_0 i8).bind fun i468 => impl_Plan_orders.l0 self_ a0_0 l0_1 l0_2 l1 a2_c0_0_0 l2_c0_0_1 l2_c0_0_2 a2_c1_0 ys11 i468 (i9 + 1)) else (impl_Plan_orders.l0 self_ a0_0 l0_1 l0_2 l1 a2_c0_0_0 l2_c0_0_1 l2_c0_0_2 a2_c1_0 ys11 i8 (i9 + 1))
def impl_Plan_orders.f : Nat → Int → (List SStep) → (List Int) → (List Int) → Int → (List SStep) → (List Int) → Int → Int → Option Int
  | 0, _, _, _, _, _, _, _, _, _ => none
  | k + 1, a0_0, l0_1, l0_2, l1, a2_c0_0_0, l2_c0_0_1, l2_c0_0_2, a2_c1_0, a2_c2_0 => if (l1.length : Int) = (l0_1.length : Int) then ((impl_Plan_within_1.f l1 a2_c0_0_0 l2_c0_0_1 l2_c0_0_2 a2_c1_0 a2_c2_0).bind fun i7 => some i7) else ((impl_Plan_orders.l0 (impl_Plan_orders.f k) a0_0 l0_1 l0_2 l1 a2_c0_0_0 l2_c0_0_1 l2_c0_0_2 a2_c1_0 l0_1 a2_c2_0 0).bind fun i8 => some i8)
set_option maxHeartbeats 600000 in
set_option maxRecDepth 100000 in
theorem impl_Plan_orders.calls : ∀ (k : Nat) {w0 ws : World} {P0 : Nat → Prop} (g0 : Nat) (a0_0 : Int) (A0_1 : Option Addr) (c0_1 : Nat) (n0_1 : Nat) (l0_1 : List SStep) (A0_2 : Option Addr) (c0_2 : Nat) (n0_2 : Nat) (l0_2 : List Int) (A1 : Option Addr) (c1 : Nat) (n1 : Nat) (l1 : List Int) (g2_c0 : Nat) (g2_c0_0 : Nat) (a2_c0_0_0 : Int) (A2_c0_0_1 : Option Addr) (c2_c0_0_1 : Nat) (n2_c0_0_1 : Nat) (l2_c0_0_1 : List SStep) (A2_c0_0_2 : Option Addr) (c2_c0_0_2 : Nat) (n2_c0_0_2 : Nat) (l2_c0_0_2 : List Int) (g2_c1 : Nat) (a2_c1_0 : Int) (g2_c2 : Nat) (a2_c2_0 : Int) (Z : Below w0.heap.size w0 ws) (hF : Fr w0 ws P0 [box g2_c2 3 #[.int .i64 a2_c2_0]] ws) (R0_1 : Stable ws P0 (fun w => Kd.C kStep w A0_1 n0_1 l0_1)) (hc0_1 : n0_1 ≤ c0_1) (R0_2 : Stable ws P0 (fun w => Kd.C (Kd.int .i64) w A0_2 n0_2 l0_2)) (hc0_2 : n0_2 ≤ c0_2) (B0 : Stable ws P0 (fun w => w.heap[g0]? = some (.cells #[.int .i64 a0_0, .slice A0_1 n0_1 c0_1, .slice A0_2 n0_2 c0_2] 27 (0, 0)))) (R1 : Stable ws P0 (fun w => Kd.C (Kd.int .i64) w A1 n1 l1)) (hc1 : n1 ≤ c1) (R2_c0_0_1 : Stable ws P0 (fun w => Kd.C kStep w A2_c0_0_1 n2_c0_0_1 l2_c0_0_1)) (hc2_c0_0_1 : n2_c0_0_1 ≤ c2_c0_0_1) (R2_c0_0_2 : Stable ws P0 (fun w => Kd.C (Kd.int .i64) w A2_c0_0_2 n2_c0_0_2 l2_c0_0_2)) (hc2_c0_0_2 : n2_c0_0_2 ≤ c2_c0_0_2) (B2_c0_0 : Stable ws P0 (fun w => w.heap[g2_c0_0]? = some (.cells #[.int .i64 a2_c0_0_0, .slice A2_c0_0_1 n2_c0_0_1 c2_c0_0_1, .slice A2_c0_0_2 n2_c0_0_2 c2_c0_0_2] 27 (0, 0)))) (B2_c0 : Stable ws P0 (fun w => w.heap[g2_c0]? = some (.cells #[.pointer (some ⟨g2_c0_0, 0, none⟩)] 97 (0, 0)))) (B2_c1 : Stable ws P0 (fun w => w.heap[g2_c1]? = some (.cells #[.int .i64 a2_c1_0] 3 (0, 0)))) (r_1 : Int) (h : impl_Plan_orders.f k a0_0 l0_1 l0_2 l1 a2_c0_0_0 l2_c0_0_1 l2_c0_0_2 a2_c1_0 a2_c2_0 = some r_1),
    Calls Try.prog 123 #[.pointer (some ⟨g0, 0, none⟩), .slice A1 n1 c1, .func (.func 124) #[] #[.pointer (some ⟨g2_c0, 0, none⟩), .pointer (some ⟨g2_c1, 0, none⟩), .pointer (some ⟨g2_c2, 0, none⟩)]] ws (Post1 w0 ws P0 (fun (_ : Unit) => .tuple #[]) (fun (_ : Unit) => [box g2_c2 3 #[.int .i64 r_1]])) := by
  intro k
  induction k with
  | zero =>
    intros
    rename_i h
    cases h
  | succ k ih =>
    intro w0 ws P0 g0 a0_0 A0_1 c0_1 n0_1 l0_1 A0_2 c0_2 n0_2 l0_2 A1 c1 n1 l1 g2_c0 g2_c0_0 a2_c0_0_0 A2_c0_0_1 c2_c0_0_1 n2_c0_0_1 l2_c0_0_1 A2_c0_0_2 c2_c0_0_2 n2_c0_0_2 l2_c0_0_2 g2_c1 a2_c1_0 g2_c2 a2_c2_0 Z hF R0_1 hc0_1 R0_2 hc0_2 B0 R1 hc1 R2_c0_0_1 hc2_c0_0_1 R2_c0_0_2 hc2_c0_0_2 B2_c0_0 B2_c0 B2_c1 r_1 h
    rw [impl_Plan_orders.f] at h
    obtain rfl := (R0_1 ws (KeptB.refl _ _)).1
    obtain rfl := (R0_2 ws (KeptB.refl _ _)).1
    obtain rfl := (R1 ws (KeptB.refl _ _)).1
    obtain rfl := (R2_c0_0_1 ws (KeptB.refl _ _)).1
    obtain rfl := (R2_c0_0_2 ws (KeptB.refl _ _)).1
    refine enter Try.func123 rfl Try.ntmps123 rfl hF ?_
    refine c_seq ?_
    refine za0 ?_
    refine o_e rfl (e_box rfl) (fun g1 => ?_)
    refine o_e rfl (e_box rfl) (fun g3 => ?_)
    refine o_end ?_
    refine za2 ?_
    refine c_seq ?_
    refine c_seq ?_
    refine a_start (ds := []) MO rfl ?_
    refine zau 0 rfl rfl rfl (by kernel_rfl) (fun _ _ _ h => h) (fun w h => h) (q_ldb Y25 rfl (fun w h => h.zac (i := 0) rfl) rfl) ?_
    refine za7 1 rfl rfl rfl (by kernel_rfl) (fun _ _ _ h => h) (q_len Try.underlying25 rfl) ?_
    refine zau 2 rfl rfl rfl (by kernel_rfl) (fun _ _ _ h => h) (fun w h => h) (q_ldb Y97 rfl (fun w h => h.zac (i := 1) rfl) rfl) ?_
    refine za7 3 rfl rfl rfl (by kernel_rfl) (fun _ _ _ h => h) (q_nil rfl) ?_
    refine za7 4 rfl rfl rfl (by kernel_rfl) (fun _ _ _ h => h) (q_f F27_1 rfl) ?_
    refine zau 5 rfl rfl rfl (by kernel_rfl) (fun _ _ _ h => h) (fun w h => h) (q_ldb Y24 rfl (fun w h => B0.now Z h) rfl) ?_
    refine za7 6 rfl rfl rfl (by kernel_rfl) (fun _ _ _ h => h) (q_len Try.underlying24 rfl) ?_
    refine za7 7 rfl rfl rfl (by kernel_rfl) (fun _ _ _ h => h) (q_eql rfl rfl) ?_
    refine zav (by kernel_rfl) ?_
    refine za2 ?_
    refine zat _ rfl (fun hb5 => ?_) (fun hb5 => ?_)
    · skip
      replace h := br_t hb5 h
      refine c_seq ?_
      refine za0 ?_
      refine o_q rfl rfl (za3 rfl) ?_
      refine o_q rfl rfl (q_ldb Y25 rfl (fun w h => h.zac (i := 0) rfl) rfl) ?_
      refine o_pick [2, 0, 1] (by decide) rfl ?_
      refine za8 h (fun i7 hx6 h => ?_) rfl
      refine o_e rfl (za9 1 Z Try.func124 N124 rfl rfl rfl (fun w P1 hF hB hS hT => impl_Plan_within_1.calls A1 c1 l1.length l1 g2_c0 g2_c0_0 a2_c0_0_0 A2_c0_0_1 c2_c0_0_1 l2_c0_0_1.length l2_c0_0_1 A2_c0_0_2 c2_c0_0_2 l2_c0_0_2.length l2_c0_0_2 g2_c1 a2_c1_0 g2_c2 a2_c2_0 hB hF (hS _ R1) hc1 (hS _ R2_c0_0_1) hc2_c0_0_1 (hS _ R2_c0_0_2) hc2_c0_0_2 (hS _ B2_c0_0) (hS _ B2_c0) (hS _ B2_c1) _ hx6)) (fun _ => ?_)
      refine o_end ?_
      refine za2 ?_
      refine c_ret ?_
      refine zaf ?_
      have e0_ := Option.some.inj h; clear h
      subst e0_
      exact x_r0 (.inl rfl) () Try.results123 rfl (fun w h => za5 [0] (by decide) rfl w h)
    · skip
      replace h := br_f hb5 h
      refine zaq ?_
      refine za2 ?_
      refine c_seq ?_
      refine za0 ?_
      refine o_q rfl rfl (q_func rfl rfl) ?_
      refine o_q rfl rfl (q_asg rfl) ?_
      refine o_end ?_
      refine za2 ?_
      refine c_seq ?_
      refine za0 ?_
      refine o_q rfl rfl (q_ldb Y97 rfl (fun w h => h.zac (i := 1) rfl) rfl) ?_
      refine o_q rfl rfl (q_nil rfl) ?_
      refine o_q rfl rfl (q_f F27_1 rfl) ?_
      refine o_q rfl rfl (q_ldb Y24 rfl (fun w h => B0.now Z h) rfl) ?_
      refine o_q rfl rfl (q_len Try.underlying24 rfl) ?_
      refine o_q rfl rfl (za3 rfl) ?_
      refine o_end ?_
      refine za2 ?_
      refine zam ?_
      refine za8 h (fun o17 hl16 hR15 => ?_) rfl
      clear h
      refine c_fact (p := l0_1.length ≤ 9223372036854775807) (fun w h => (R0_1.now Z h).2.1) (fun hm14 => ?_)
      refine zaw (σ := (List SStep) × Int × Int) (fun k12 ((ys11, i8, i9) : (List SStep) × Int × Int) => Rg l0_1 i9 ys11 ∧ ys11.length = k12 ∧ impl_Plan_orders.l0 (impl_Plan_orders.f k) a0_0 l0_1 l0_2 l1 a2_c0_0_0 l2_c0_0_1 l2_c0_0_2 a2_c1_0 ys11 i8 i9 = some o17) [7, 8, 26, 27, 28, 29, 30, 31, 32, 33, 34, 35, 36, 37, 38, 39, 40, 41, 42, 43, 44, 45, 46, 47, 48, 49, 50, 51, 52, 53, 54, 55] (fun ((ys11, i8, i9) : (List SStep) × Int × Int) => [(26, .int .i64 i9)]) (fun ((ys11, i8, i9) : (List SStep) × Int × Int) => [box g3 25 #[.slice A1 l1.length c1], box g1 97 #[.pointer (some ⟨g0, 0, none⟩)], box g2_c2 3 #[.int .i64 i8]]) l0_1.length (l0_1, a2_c2_0, 0) ⟨Rg.start _, rfl, hl16⟩ ⟨rfl, trivial⟩ (fun w h => h) ?_
      refine fun k12 => cur3 (listC (fun i8 i9 U18 hJ_ => ?_) (fun y10 ys11 i8 i9 U18 hJ_ => ?_))
      · skip
        clear hl16
        have hr13 := hJ_.1; have hk19 := hJ_.2.1; have h := hJ_.2.2; clear hJ_
        replace h : impl_Plan_orders.l0 (impl_Plan_orders.f k) a0_0 l0_1 l0_2 l1 a2_c0_0_0 l2_c0_0_1 l2_c0_0_2 a2_c1_0 [] i8 i9 = some o17 := h
        rw [impl_Plan_orders.l0] at h
        refine c_seq ?_
        refine za0 ?_
        refine o_q rfl rfl (q_lss rfl rfl) ?_
        refine o_end ?_
        refine za2 ?_
        refine c_seq ?_
        refine c_false (congrArg Value.bool hr13.ge) ?_
        refine c_exit ?_
        refine za6 ?_
        refine za6 ?_
        have e_ := Option.some.inj h; replace h := hR15; rw [← e_] at h; clear e_
        refine x_hit ?_
        have e0_ := Option.some.inj h; clear h
        subst e0_
        exact x_r0 (.inr rfl) () Try.results123 rfl (fun w h => za5 [2] (by decide) rfl w h)
      · skip
        clear hl16
        have hr13 := hJ_.1; have hk19 := hJ_.2.1; have h := hJ_.2.2; clear hJ_
        replace h : impl_Plan_orders.l0 (impl_Plan_orders.f k) a0_0 l0_1 l0_2 l1 a2_c0_0_0 l2_c0_0_1 l2_c0_0_2 a2_c1_0 (y10 :: ys11) i8 i9 = some o17 := h
        rw [impl_Plan_orders.l0] at h
        refine c_seq ?_
        refine za0 ?_
        refine o_q rfl rfl (q_lss rfl rfl) ?_
        refine o_end ?_
        refine za2 ?_
        refine c_seq ?_
        refine c_true (congrArg Value.bool hr13.lt) ?_
        refine zaq ?_
        refine za2 ?_
        refine c_seq ?_
        refine zam ?_
        refine c_seq ?_
        refine za0 ?_
        refine o_q rfl rfl (za3 rfl) ?_
        refine o_fact (p := Sh A0_1 l0_1.length l0_1.length) (fun w h => f_sh (dk := kStep) h (fun w h => R0_1.now Z h)) (fun hq20 => ?_)
        refine o_q rfl rfl (q_ix Try.underlying24 Z88 rfl rfl hq20 hr13.get) ?_
        refine o_q rfl rfl (q_ldE G88 Z88 rfl rfl (fun w h => R0_1.now Z h) hr13.get (fun _ _ h => h) rfl) ?_
        refine o_e rfl (e_alloc V88 rfl) (fun g21 => ?_)
        refine o_q rfl rfl (q_asg rfl) ?_
        refine o_e rfl (zaz (i := 0) rfl rfl rfl Z88 rfl rfl) (fun _ => ?_)
        refine o_end ?_
        refine za2 ?_
        refine za8 h (fun o32 hl33 hR34 => ?_) rfl
        clear h
        refine c_cutJ (σ := Bool) (fun b31 => some b31 = some o32) [31, 32, 33, 34, 35, 36, 37, 38, 39, 40, 41, 42, 43, 44, 45, 46] (fun b31 => [(46, .bool b31)]) (fun b31 => [box g2_c2 3 #[.int .i64 i8], box g1 97 #[.pointer (some ⟨g0, 0, none⟩)], box g3 25 #[.slice A1 l1.length c1], box g21 88 #[.int .i64 y10.f0, .int .i64 y10.f1]]) ?_ ?_
        · skip
          have h := hl33; clear hl33
          clear hR34
          refine za0 ?_
          refine o_q rfl rfl (q_ldb Y25 rfl (fun w h => h.zac (i := 1) rfl) rfl) ?_
          refine o_q rfl rfl (za3 rfl) ?_
          refine za8 h (fun b38 hx37 h => ?_) rfl
          refine o_e rfl (za9 0 Z Try.func169 N169 rfl rfl rfl (fun w P1 hF hB hS hT => slices_Contains_int_int.calls A1 c1 l1.length l1 i9 hB hF (hS _ R1) hc1 _ hx37)) (fun _ => ?_)
          refine o_q rfl rfl (q_not rfl) ?_
          refine o_q rfl rfl (za3 rfl) ?_
          refine byB b38 (fun hb39 => ?_) (fun hb39 => ?_)
          · replace h := bb_t hb39 h
            refine @o_n _ _ _ _ _ _ _ _ _ _ _ 36 (za1 rfl rfl rfl (congrArg (fun b => Value.bool (!(b))) hb39) rfl) (Eq.refl (some 36)) ?_
            refine @o_n _ _ _ _ _ _ _ _ _ _ _ 37 (za1 rfl rfl rfl (congrArg (fun b => Value.bool (!(b))) hb39) rfl) (Eq.refl (some 37)) ?_
            refine @o_n _ _ _ _ _ _ _ _ _ _ _ 38 (za1 rfl rfl rfl (congrArg (fun b => Value.bool (!(b))) hb39) rfl) (Eq.refl (some 38)) ?_
            refine @o_n _ _ _ _ _ _ _ _ _ _ _ 39 (za1 rfl rfl rfl (congrArg (fun b => Value.bool (!(b))) hb39) rfl) (Eq.refl (some 39)) ?_
            refine o_q rfl rfl (zaa false (congrArg (fun b => Value.bool (!(b))) hb39) rfl) ?_
            refine o_q rfl rfl (za3 rfl) ?_
            refine @o_n _ _ _ _ _ _ _ _ _ _ _ 42 (za1 rfl rfl rfl rfl rfl) (Eq.refl (some 42)) ?_
            refine @o_n _ _ _ _ _ _ _ _ _ _ _ 43 (za1 rfl rfl rfl rfl rfl) (Eq.refl (some 43)) ?_
            refine @o_n _ _ _ _ _ _ _ _ _ _ _ 44 (za1 rfl rfl rfl rfl rfl) (Eq.refl (some 44)) ?_
            refine @o_n _ _ _ _ _ _ _ _ _ _ _ 45 (za1 rfl rfl rfl rfl rfl) (Eq.refl (some 45)) ?_
            refine o_q rfl rfl (zaa false rfl rfl) ?_
            refine o_end ?_
            refine x_meetJ false h ⟨rfl, trivial⟩ (fun w h => za5 [3, 2, 1, 0] (by decide) rfl w h) ?_
            repeat (first | exact zad _ _ | refine zah rfl ?_ | refine zae rfl ?_ | refine zai rfl ?_)
          · replace h := bb_f hb39 h
            refine o_w (za4 rfl rfl rfl (congrArg (fun b => Value.bool (!(b))) hb39)) rfl (za3 rfl) ?_
            refine o_w (za4 rfl rfl rfl (congrArg (fun b => Value.bool (!(b))) hb39)) rfl (q_f F88_0 rfl) ?_
            refine o_w (za4 rfl rfl rfl (congrArg (fun b => Value.bool (!(b))) hb39)) rfl (q_ldb Y3 rfl (fun w h => h.zac (i := 0) rfl) rfl) ?_
            refine za8 h (fun b41 hx40 h => ?_) rfl
            refine o_ew (za4 rfl rfl rfl (congrArg (fun b => Value.bool (!(b))) hb39)) (za9 0 Z Try.func168 N168 rfl rfl rfl (fun w P1 hF hB hS hT => impl_Plan_orders_1.calls y10.f0 g1 g0 a0_0 A0_1 c0_1 l0_1.length l0_1 A0_2 c0_2 l0_2.length l0_2 g3 A1 c1 l1.length l1 hB hF (hS _ R0_1) hc0_1 (hS _ R0_2) hc0_2 (hS _ B0) (hT 2 _ rfl).box (hS _ R1) hc1 (hT 1 _ rfl).box _ hx40)) (fun _ => ?_)
            refine o_q rfl rfl (zaa true (congrArg (fun b => Value.bool (!(b))) hb39) rfl) ?_
            refine o_q rfl rfl (za3 rfl) ?_
            refine byB b41 (fun hb42 => ?_) (fun hb42 => ?_)
            · replace h := bb_t hb42 h
              refine o_w (za4 rfl rfl rfl (congrArg Value.bool hb42)) rfl (za3 rfl) ?_
              refine o_w (za4 rfl rfl rfl (congrArg Value.bool hb42)) rfl (q_f F88_1 rfl) ?_
              refine o_w (za4 rfl rfl rfl (congrArg Value.bool hb42)) rfl (q_ldb Y3 rfl (fun w h => h.zac (i := 0) rfl) rfl) ?_
              refine za8 h (fun b44 hx43 h => ?_) rfl
              refine o_ew (za4 rfl rfl rfl (congrArg Value.bool hb42)) (za9 0 Z Try.func168 N168 rfl rfl rfl (fun w P1 hF hB hS hT => impl_Plan_orders_1.calls y10.f1 g1 g0 a0_0 A0_1 c0_1 l0_1.length l0_1 A0_2 c0_2 l0_2.length l0_2 g3 A1 c1 l1.length l1 hB hF (hS _ R0_1) hc0_1 (hS _ R0_2) hc0_2 (hS _ B0) (hT 2 _ rfl).box (hS _ R1) hc1 (hT 1 _ rfl).box _ hx43)) (fun _ => ?_)
              refine o_q rfl rfl (zaa true (congrArg Value.bool hb42) rfl) ?_
              refine o_end ?_
              refine x_meetJ b44 h ⟨rfl, trivial⟩ (fun w h => za5 [3, 2, 1, 0] (by decide) rfl w h) ?_
              repeat (first | exact zad _ _ | refine zah rfl ?_ | refine zae rfl ?_ | refine zai rfl ?_)
            · replace h := bb_f hb42 h
              refine @o_n _ _ _ _ _ _ _ _ _ _ _ 42 (za1 rfl rfl rfl (congrArg Value.bool hb42) rfl) (Eq.refl (some 42)) ?_
              refine @o_n _ _ _ _ _ _ _ _ _ _ _ 43 (za1 rfl rfl rfl (congrArg Value.bool hb42) rfl) (Eq.refl (some 43)) ?_
              refine @o_n _ _ _ _ _ _ _ _ _ _ _ 44 (za1 rfl rfl rfl (congrArg Value.bool hb42) rfl) (Eq.refl (some 44)) ?_
              refine @o_n _ _ _ _ _ _ _ _ _ _ _ 45 (za1 rfl rfl rfl (congrArg Value.bool hb42) rfl) (Eq.refl (some 45)) ?_
              refine o_q rfl rfl (zaa false (congrArg Value.bool hb42) rfl) ?_
              refine o_end ?_
              refine x_meetJ false h ⟨rfl, trivial⟩ (fun w h => za5 [3, 2, 1, 0] (by decide) rfl w h) ?_
              repeat (first | exact zad _ _ | refine zah rfl ?_ | refine zae rfl ?_ | refine zai rfl ?_)
        · skip
          refine (fun b31 => fun U35 hJ36 => ?_)
          have e_ := Option.some.inj hJ36; have h := hR34; rw [← e_] at h; clear e_ hJ36 hR34 hl33
          refine zat _ rfl (fun hb45 => ?_) (fun hb45 => ?_)
          · skip
            replace h := bb_t hb45 h
            refine za8 h (fun _ hx167 h => ?_) rfl
            refine za8 h (fun l347 ha348 h => ?_) rfl
            refine za8 h (fun i468 hx467 h => ?_) rfl
            refine a_startS (ds := []) [none, some 1, some 2, some 3] MO rfl ?_
            refine zau 0 rfl rfl rfl (by kernel_rfl) (fun _ _ _ h => h) (fun w h => zab [none, some 1, some 2, some 3] (by decide) w h rfl) (q_ldb Y97 rfl (fun w h => h.zac (i := 1) rfl) rfl) ?_
            refine zau 1 rfl rfl rfl (by kernel_rfl) (fun _ _ _ h => h) (fun w h => zab [none, some 1, some 2, some 3] (by decide) w h rfl) (q_ldb Y25 rfl (fun w h => h.zac (i := 2) rfl) rfl) ?_
            refine za7 3 rfl rfl rfl (by kernel_rfl) (fun _ _ _ h => h) (za3 rfl) ?_
            refine za7 6 rfl rfl rfl (by kernel_rfl) (fun _ _ _ h => h) (za3 rfl) ?_
            refine a_two 2 4 rfl rfl rfl rfl (by kernel_rfl) rfl rfl (za9 0 Z Try.func170 N170 rfl rfl rfl (fun w P1 hF hB hS hT => slices_Clip_int_int.calls A1 c1 l1.length l1 hB hF (hS _ R1) hc1 hx167)) (fun s w h => zab [none, some 1, some 2, some 3] (by decide) w h rfl) (e_lit (vs := [(0, .int .i64 i9)]) (cs := [.int .i64 i9]) (Kd.int .i64) ([i9] : List Int) Try.underlying25 I3 (by decide) rfl (by decide) rfl rfl (fun _ _ => Kd.zao _)) (fun s w h => zab [none, some 2, some 3, some 4] (by decide) w h rfl) (fun _ => ?_) (cur2 (fun A287 c288 => ?_))
            · skip
              refine a_one 4 rfl rfl (by kernel_rfl) rfl (e_lit (vs := [(0, .int .i64 i9)]) (cs := [.int .i64 i9]) (Kd.int .i64) ([i9] : List Int) Try.underlying25 I3 (by decide) rfl (by decide) rfl rfl (fun _ _ => Kd.zao _)) (fun s w h => zab [none, some 2, some 3, some 4] (by decide) w h rfl) (cur2 (fun A287 c288 => ?_))
              refine a_one 5 rfl rfl (by kernel_rfl) rfl (e_appF (j := 0) Try.underlying25 I3 rfl (by decide) (fun w h => R1.now Z h) rfl (Nat.succ_pos _) rfl rfl ha348) (fun s w h => zab [none, some 3, some 4, some 5] (by decide) w h rfl) (cur2 (fun A349 c350 => ?_))
              refine a_pick [2, 0, 3, 4, 5] (by decide) rfl ?_
              refine a_one 7 rfl rfl (by kernel_rfl) rfl (za9 1 Z Try.func123 N123 rfl rfl rfl (fun w P1 hF hB hS hT => ih g0 a0_0 A0_1 c0_1 l0_1.length l0_1 A0_2 c0_2 l0_2.length l0_2 A349 c350 l347.length l347 g2_c0 g2_c0_0 a2_c0_0_0 A2_c0_0_1 c2_c0_0_1 l2_c0_0_1.length l2_c0_0_1 A2_c0_0_2 c2_c0_0_2 l2_c0_0_2.length l2_c0_0_2 g2_c1 a2_c1_0 g2_c2 i8 hB hF (hS _ R0_1) hc0_1 (hS _ R0_2) hc0_2 (hS _ B0) (hT 0 _ rfl).row (hT 0 _ rfl).cap (hS _ R2_c0_0_1) hc2_c0_0_1 (hS _ R2_c0_0_2) hc2_c0_0_2 (hS _ B2_c0_0) (hS _ B2_c0) (hS _ B2_c1) _ hx467)) (fun s w h => zab [none, some 2, some 3, some 4] (by decide) w h rfl) (fun _ => ?_)
              refine zav (by kernel_rfl) ?_
              refine zal ?_
              refine za2 ?_
              refine za0 ?_
              refine o_q rfl rfl (q_up rfl rfl (hr13.up hm14)) ?_
              refine o_q rfl rfl (za3 rfl) ?_
              refine o_end ?_
              refine zak ys11.length (ys11, i468, i9 + 1) (by rw [← hk19]; exact Nat.lt_succ_self _) ⟨hr13.step, rfl, h⟩ ⟨rfl, trivial⟩ (fun w h => za5 [3, 2, 0] (by decide) rfl w h) ?_
              repeat (first | exact zad _ _ | refine zah rfl ?_ | refine zae rfl ?_ | refine zai rfl ?_)
            · skip
              refine a_one 2 rfl rfl (by kernel_rfl) rfl (za9 0 Z Try.func170 N170 rfl rfl rfl (fun w P1 hF hB hS hT => slices_Clip_int_int.calls A1 c1 l1.length l1 hB hF (hS _ R1) hc1 hx167)) (fun s w h => zab [none, some 2, some 3, some 4] (by decide) w h rfl) (fun _ => ?_)
              refine a_one 5 rfl rfl (by kernel_rfl) rfl (e_appF (j := 0) Try.underlying25 I3 rfl (by decide) (fun w h => R1.now Z h) rfl (Nat.succ_pos _) rfl rfl ha348) (fun s w h => zab [none, some 3, some 4, some 5] (by decide) w h rfl) (cur2 (fun A349 c350 => ?_))
              refine a_pick [2, 0, 3, 4, 5] (by decide) rfl ?_
              refine a_one 7 rfl rfl (by kernel_rfl) rfl (za9 1 Z Try.func123 N123 rfl rfl rfl (fun w P1 hF hB hS hT => ih g0 a0_0 A0_1 c0_1 l0_1.length l0_1 A0_2 c0_2 l0_2.length l0_2 A349 c350 l347.length l347 g2_c0 g2_c0_0 a2_c0_0_0 A2_c0_0_1 c2_c0_0_1 l2_c0_0_1.length l2_c0_0_1 A2_c0_0_2 c2_c0_0_2 l2_c0_0_2.length l2_c0_0_2 g2_c1 a2_c1_0 g2_c2 i8 hB hF (hS _ R0_1) hc0_1 (hS _ R0_2) hc0_2 (hS _ B0) (hT 0 _ rfl).row (hT 0 _ rfl).cap (hS _ R2_c0_0_1) hc2_c0_0_1 (hS _ R2_c0_0_2) hc2_c0_0_2 (hS _ B2_c0_0) (hS _ B2_c0) (hS _ B2_c1) _ hx467)) (fun s w h => zab [none, some 2, some 3, some 4] (by decide) w h rfl) (fun _ => ?_)
              refine zav (by kernel_rfl) ?_
              refine zal ?_
              refine za2 ?_
              refine za0 ?_
              refine o_q rfl rfl (q_up rfl rfl (hr13.up hm14)) ?_
              refine o_q rfl rfl (za3 rfl) ?_
              refine o_end ?_
              refine zak ys11.length (ys11, i468, i9 + 1) (by rw [← hk19]; exact Nat.lt_succ_self _) ⟨hr13.step, rfl, h⟩ ⟨rfl, trivial⟩ (fun w h => za5 [3, 2, 0] (by decide) rfl w h) ?_
              repeat (first | exact zad _ _ | refine zah rfl ?_ | refine zae rfl ?_ | refine zai rfl ?_)
          · skip
            replace h := bb_f hb45 h
            refine zaq ?_
            refine zal ?_
            refine za2 ?_
            refine za0 ?_
            refine o_q rfl rfl (q_up rfl rfl (hr13.up hm14)) ?_
            refine o_q rfl rfl (za3 rfl) ?_
            refine o_end ?_
            refine zak ys11.length (ys11, i8, i9 + 1) (by rw [← hk19]; exact Nat.lt_succ_self _) ⟨hr13.step, rfl, h⟩ ⟨rfl, trivial⟩ (fun w h => za5 [2, 1, 0] (by decide) rfl w h) ?_
            repeat (first | exact zad _ _ | refine zah rfl ?_ | refine zae rfl ?_ | refine zai rfl ?_)

end Go.Proofs.Ytdicngjloiphkaa.FW
