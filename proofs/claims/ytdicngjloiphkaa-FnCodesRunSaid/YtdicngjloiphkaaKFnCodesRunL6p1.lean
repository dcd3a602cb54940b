import Derived.Test.YtdicngjloiphkaaKFnCodesRunHand
import Derived.Test.YtdicngjloiphkaaProg
import Derived.Test.YtdicngjloiphkaaKFnCodesRunWMore
import Derived.KernelRfl
namespace Go.Proofs.Ytdicngjloiphkaa.L6
open Go.RowKit Go.Proofs.Ytdicngjloiphkaa.Frame Go.Proofs.YtdicngjloiphkaaW.PrintLast Go.Proofs.Ytdicngjloiphkaa.Hand
open Go.Proofs.YtdicngjloiphkaaW.PrintWords hiding mn mx
set_option linter.unusedVariables false
structure SStep where
 f0 : Int
 f1 : Int
def kStep : Kd SStep := flat (fun x => [.int .i64 x.f0, .int .i64 x.f1]) 2 (fun _ => rfl) (fun x u hu => by
 simp only [List.mem_cons, List.not_mem_nil, or_false] at hu
 rcases hu with rfl | rfl <;> rfl)
structure SRegOp where
 f0 : Int
 f1 : Int
 f2 : Int
def zb6 : Kd SRegOp := flat (fun x => [.int .i64 x.f0, .int .i64 x.f1, .int .i64 x.f2]) 3 (fun _ => rfl) (fun x u hu => by
 simp only [List.mem_cons, List.not_mem_nil, or_false] at hu
 rcases hu with rfl | rfl | rfl <;> rfl)
theorem E88 : Try.prog.eqGuardType Try.prog.depth 88 = false := by kernel_rfl
theorem F27_0 : fldOff Try.prog 27 0 = some 0 := by kernel_rfl
theorem F27_1 : fldOff Try.prog 27 1 = some 1 := by kernel_rfl
theorem F27_2 : fldOff Try.prog 27 2 = some 2 := by kernel_rfl
theorem F43_0 : fldOff Try.prog 43 0 = some 0 := by kernel_rfl
theorem F43_1 : fldOff Try.prog 43 1 = some 1 := by kernel_rfl
theorem F43_2 : fldOff Try.prog 43 2 = some 2 := by kernel_rfl
theorem F43_3 : fldOff Try.prog 43 3 = some 3 := by kernel_rfl
theorem F67_0 : fldOff Try.prog 67 0 = some 0 := by kernel_rfl
theorem F67_1 : fldOff Try.prog 67 1 = some 1 := by kernel_rfl
theorem F67_2 : fldOff Try.prog 67 2 = some 2 := by kernel_rfl
theorem F88_0 : fldOff Try.prog 88 0 = some 0 := by kernel_rfl
theorem F88_1 : fldOff Try.prog 88 1 = some 1 := by kernel_rfl
theorem F94_0 : fldOff Try.prog 94 0 = some 0 := by kernel_rfl
theorem F94_1 : fldOff Try.prog 94 1 = some 1 := by kernel_rfl
theorem F94_2 : fldOff Try.prog 94 2 = some 2 := by kernel_rfl
theorem G27 : aggTy (Try.prog.underlying 27) = true := by kernel_rfl
theorem G43 : aggTy (Try.prog.underlying 43) = true := by kernel_rfl
theorem G88 : aggTy (Try.prog.underlying 88) = true := by kernel_rfl
theorem G94 : aggTy (Try.prog.underlying 94) = true := by kernel_rfl
theorem I25 : (Try.prog.info? 25).map (fun i => (i.zero, i.size, i.bytes)) = some (some (.slice none 0 0), 1, 24) := by kernel_rfl
theorem I3 : (Try.prog.info? 3).map (fun i => (i.zero, i.size, i.bytes)) = some (some (.int .i64 0), 1, 8) := by kernel_rfl
theorem I4 : (Try.prog.info? 4).map (fun i => (i.zero, i.size, i.bytes)) = some (some (.bool false), 1, 1) := by kernel_rfl
theorem I88 : (Try.prog.info? 88).map (fun i => (i.zero, i.size, i.bytes)) = some (some (.agg #[.int .i64 0, .int .i64 0]), 2, 16) := by kernel_rfl
theorem I94 : (Try.prog.info? 94).map (fun i => (i.zero, i.size, i.bytes)) = some (some (.agg #[.int .i64 0, .int .i64 0, .int .i64 0]), 3, 24) := by kernel_rfl
theorem MO : Try.prog.follows .mixedOrders = true := by kernel_rfl
theorem N100 : (Try.f100.name == "runtime.NumGoroutine") = false := by kernel_rfl
theorem N101 : (Try.f101.name == "runtime.NumGoroutine") = false := by kernel_rfl
theorem N102 : (Try.f102.name == "runtime.NumGoroutine") = false := by kernel_rfl
theorem N103 : (Try.f103.name == "runtime.NumGoroutine") = false := by kernel_rfl
theorem N125 : (Try.f125.name == "runtime.NumGoroutine") = false := by kernel_rfl
theorem N126 : (Try.f126.name == "runtime.NumGoroutine") = false := by kernel_rfl
theorem N127 : (Try.f127.name == "runtime.NumGoroutine") = false := by kernel_rfl
theorem N128 : (Try.f128.name == "runtime.NumGoroutine") = false := by kernel_rfl
theorem N129 : (Try.f129.name == "runtime.NumGoroutine") = false := by kernel_rfl
theorem N130 : (Try.f130.name == "runtime.NumGoroutine") = false := by kernel_rfl
theorem N131 : (Try.f131.name == "runtime.NumGoroutine") = false := by kernel_rfl
theorem N132 : (Try.f132.name == "runtime.NumGoroutine") = false := by kernel_rfl
theorem N133 : (Try.f133.name == "runtime.NumGoroutine") = false := by kernel_rfl
theorem N134 : (Try.f134.name == "runtime.NumGoroutine") = false := by kernel_rfl
theorem N135 : (Try.f135.name == "runtime.NumGoroutine") = false := by kernel_rfl
theorem N137 : (Try.f137.name == "runtime.NumGoroutine") = false := by kernel_rfl
theorem N138 : (Try.f138.name == "runtime.NumGoroutine") = false := by kernel_rfl
theorem N141 : (Try.f141.name == "runtime.NumGoroutine") = false := by kernel_rfl
theorem N143 : (Try.f143.name == "runtime.NumGoroutine") = false := by kernel_rfl
theorem N144 : (Try.f144.name == "runtime.NumGoroutine") = false := by kernel_rfl
theorem N145 : (Try.f145.name == "runtime.NumGoroutine") = false := by kernel_rfl
theorem N146 : (Try.f146.name == "runtime.NumGoroutine") = false := by kernel_rfl
theorem N147 : (Try.f147.name == "runtime.NumGoroutine") = false := by kernel_rfl
theorem N148 : (Try.f148.name == "runtime.NumGoroutine") = false := by kernel_rfl
theorem N149 : (Try.f149.name == "runtime.NumGoroutine") = false := by kernel_rfl
theorem N15 : (Try.f15.name == "runtime.NumGoroutine") = false := by kernel_rfl
theorem N150 : (Try.f150.name == "runtime.NumGoroutine") = false := by kernel_rfl
theorem N151 : (Try.f151.name == "runtime.NumGoroutine") = false := by kernel_rfl
theorem N152 : (Try.f152.name == "runtime.NumGoroutine") = false := by kernel_rfl
theorem N153 : (Try.f153.name == "runtime.NumGoroutine") = false := by kernel_rfl
theorem N171 : (Try.f171.name == "runtime.NumGoroutine") = false := by kernel_rfl
theorem N172 : (Try.f172.name == "runtime.NumGoroutine") = false := by kernel_rfl
theorem N173 : (Try.f173.name == "runtime.NumGoroutine") = false := by kernel_rfl
theorem N174 : (Try.f174.name == "runtime.NumGoroutine") = false := by kernel_rfl
theorem N175 : (Try.f175.name == "runtime.NumGoroutine") = false := by kernel_rfl
theorem N181 : (Try.f181.name == "runtime.NumGoroutine") = false := by kernel_rfl
theorem N182 : (Try.f182.name == "runtime.NumGoroutine") = false := by kernel_rfl
theorem N183 : (Try.f183.name == "runtime.NumGoroutine") = false := by kernel_rfl
theorem N26 : (Try.f26.name == "runtime.NumGoroutine") = false := by kernel_rfl
theorem N29 : (Try.f29.name == "runtime.NumGoroutine") = false := by kernel_rfl
theorem N30 : (Try.f30.name == "runtime.NumGoroutine") = false := by kernel_rfl
theorem N31 : (Try.f31.name == "runtime.NumGoroutine") = false := by kernel_rfl
theorem N32 : (Try.f32.name == "runtime.NumGoroutine") = false := by kernel_rfl
theorem N34 : (Try.f34.name == "runtime.NumGoroutine") = false := by kernel_rfl
theorem N35 : (Try.f35.name == "runtime.NumGoroutine") = false := by kernel_rfl
theorem N36 : (Try.f36.name == "runtime.NumGoroutine") = false := by kernel_rfl
theorem N37 : (Try.f37.name == "runtime.NumGoroutine") = false := by kernel_rfl
theorem N38 : (Try.f38.name == "runtime.NumGoroutine") = false := by kernel_rfl
theorem N39 : (Try.f39.name == "runtime.NumGoroutine") = false := by kernel_rfl
theorem N40 : (Try.f40.name == "runtime.NumGoroutine") = false := by kernel_rfl
theorem N41 : (Try.f41.name == "runtime.NumGoroutine") = false := by kernel_rfl
theorem N56 : (Try.f56.name == "runtime.NumGoroutine") = false := by kernel_rfl
theorem N58 : (Try.f58.name == "runtime.NumGoroutine") = false := by kernel_rfl
theorem N61 : (Try.f61.name == "runtime.NumGoroutine") = false := by kernel_rfl
theorem N63 : (Try.f63.name == "runtime.NumGoroutine") = false := by kernel_rfl
theorem N64 : (Try.f64.name == "runtime.NumGoroutine") = false := by kernel_rfl
theorem N65 : (Try.f65.name == "runtime.NumGoroutine") = false := by kernel_rfl
theorem N66 : (Try.f66.name == "runtime.NumGoroutine") = false := by kernel_rfl
theorem N67 : (Try.f67.name == "runtime.NumGoroutine") = false := by kernel_rfl
theorem N68 : (Try.f68.name == "runtime.NumGoroutine") = false := by kernel_rfl
theorem N69 : (Try.f69.name == "runtime.NumGoroutine") = false := by kernel_rfl
theorem N70 : (Try.f70.name == "runtime.NumGoroutine") = false := by kernel_rfl
theorem N71 : (Try.f71.name == "runtime.NumGoroutine") = false := by kernel_rfl
theorem N72 : (Try.f72.name == "runtime.NumGoroutine") = false := by kernel_rfl
theorem N77 : (Try.f77.name == "runtime.NumGoroutine") = false := by kernel_rfl
theorem N78 : (Try.f78.name == "runtime.NumGoroutine") = false := by kernel_rfl
theorem N79 : (Try.f79.name == "runtime.NumGoroutine") = false := by kernel_rfl
theorem N8 : (Try.f8.name == "runtime.NumGoroutine") = false := by kernel_rfl
theorem N80 : (Try.f80.name == "runtime.NumGoroutine") = false := by kernel_rfl
theorem N81 : (Try.f81.name == "runtime.NumGoroutine") = false := by kernel_rfl
theorem N83 : (Try.f83.name == "runtime.NumGoroutine") = false := by kernel_rfl
theorem N84 : (Try.f84.name == "runtime.NumGoroutine") = false := by kernel_rfl
theorem N85 : (Try.f85.name == "runtime.NumGoroutine") = false := by kernel_rfl
theorem N86 : (Try.f86.name == "runtime.NumGoroutine") = false := by kernel_rfl
theorem N87 : (Try.f87.name == "runtime.NumGoroutine") = false := by kernel_rfl
theorem N88 : (Try.f88.name == "runtime.NumGoroutine") = false := by kernel_rfl
theorem N89 : (Try.f89.name == "runtime.NumGoroutine") = false := by kernel_rfl
theorem N90 : (Try.f90.name == "runtime.NumGoroutine") = false := by kernel_rfl
theorem N91 : (Try.f91.name == "runtime.NumGoroutine") = false := by kernel_rfl
theorem N92 : (Try.f92.name == "runtime.NumGoroutine") = false := by kernel_rfl
theorem N93 : (Try.f93.name == "runtime.NumGoroutine") = false := by kernel_rfl
theorem N94 : (Try.f94.name == "runtime.NumGoroutine") = false := by kernel_rfl
theorem N95 : (Try.f95.name == "runtime.NumGoroutine") = false := by kernel_rfl
theorem N96 : (Try.f96.name == "runtime.NumGoroutine") = false := by kernel_rfl
theorem N97 : (Try.f97.name == "runtime.NumGoroutine") = false := by kernel_rfl
theorem N98 : (Try.f98.name == "runtime.NumGoroutine") = false := by kernel_rfl
theorem N99 : (Try.f99.name == "runtime.NumGoroutine") = false := by kernel_rfl
theorem O88 : Try.prog.underlying 88 = some (.struct (Try.prog.fieldsOf 88)) := by kernel_rfl
theorem P88 : Try.prog.stoodInHeld 88 = false := by kernel_rfl
theorem Q88 : ∀ (a0 a1 b0 b1 : Int), fldsEq Try.prog (Try.prog.fieldsOf 88).toList #[.int .i64 a0, .int .i64 a1] #[.int .i64 b0, .int .i64 b1] = some (a0 == b0 && (a1 == b1 && true)) := by intros; kernel_rfl
theorem V25 : (Try.prog.info? 25).bind (·.zero) = some (.slice none 0 0) := by kernel_rfl
theorem V27 : (Try.prog.info? 27).bind (·.zero) = some (.agg #[.int .i64 0, .slice none 0 0, .slice none 0 0]) := by kernel_rfl
theorem V43 : (Try.prog.info? 43).bind (·.zero) = some (.agg #[.int .i64 0, .slice none 0 0, .slice none 0 0, .slice none 0 0]) := by kernel_rfl
theorem V88 : (Try.prog.info? 88).bind (·.zero) = some (.agg #[.int .i64 0, .int .i64 0]) := by kernel_rfl
theorem V94 : (Try.prog.info? 94).bind (·.zero) = some (.agg #[.int .i64 0, .int .i64 0, .int .i64 0]) := by kernel_rfl
theorem Y22 : cellTy (Try.prog.underlying 22) = true := by kernel_rfl
theorem Y24 : cellTy (Try.prog.underlying 24) = true := by kernel_rfl
theorem Y25 : cellTy (Try.prog.underlying 25) = true := by kernel_rfl
theorem Y3 : cellTy (Try.prog.underlying 3) = true := by kernel_rfl
theorem Y4 : cellTy (Try.prog.underlying 4) = true := by kernel_rfl
theorem Y41 : cellTy (Try.prog.underlying 41) = true := by kernel_rfl
theorem Y5 : cellTy (Try.prog.underlying 5) = true := by kernel_rfl
theorem Y65 : cellTy (Try.prog.underlying 65) = true := by kernel_rfl
theorem Y97 : cellTy (Try.prog.underlying 97) = true := by kernel_rfl
theorem Z24 : (Try.prog.info? 24).map (·.size) = some 1 := by kernel_rfl
theorem Z25 : (Try.prog.info? 25).map (·.size) = some 1 := by kernel_rfl
theorem Z27 : (Try.prog.info? 27).map (·.size) = some 3 := by kernel_rfl
theorem Z3 : (Try.prog.info? 3).map (·.size) = some 1 := by kernel_rfl
theorem Z4 : (Try.prog.info? 4).map (·.size) = some 1 := by kernel_rfl
theorem Z41 : (Try.prog.info? 41).map (·.size) = some 1 := by kernel_rfl
theorem Z43 : (Try.prog.info? 43).map (·.size) = some 4 := by kernel_rfl
theorem Z5 : (Try.prog.info? 5).map (·.size) = some 1 := by kernel_rfl
theorem Z65 : (Try.prog.info? 65).map (·.size) = some 1 := by kernel_rfl
theorem Z88 : (Try.prog.info? 88).map (·.size) = some 2 := by kernel_rfl
theorem Z94 : (Try.prog.info? 94).map (·.size) = some 3 := by kernel_rfl
/-! ### loop.example/g01098/laws.big: function 8 -/
def laws_big.f (l0 : List Int) (l1 : List Int) : Option Bool := if 1048576 < (l0.length : Int) then (some true) else (some (decide (w64 (1048576 - (l0.length : Int)) < (l1.length : Int))))
set_option maxHeartbeats 600000 in
set_option maxRecDepth 100000 in
theorem laws_big.calls {w0 ws : World} {P0 : Nat → Prop} (A0 : Option Addr) (c0 : Nat) (n0 : Nat) (l0 : List Int) (A1 : Option Addr) (c1 : Nat) (n1 : Nat) (l1 : List Int) (Z : Below w0.heap.size w0 ws) (hF : Fr w0 ws P0 [] ws) (R0 : Stable ws P0 (fun w => Kd.C (Kd.int .u8) w A0 n0 l0)) (hc0 : n0 ≤ c0) (R1 : Stable ws P0 (fun w => Kd.C (Kd.int .u8) w A1 n1 l1)) (hc1 : n1 ≤ c1) (r_1 : Bool) (h : laws_big.f l0 l1 = some r_1) :
  Calls Try.prog 8 #[.slice A0 n0 c0, .slice A1 n1 c1] ws (Post1 w0 ws P0 (fun (_ : Unit) => .bool r_1) (fun (_ : Unit) => [])) := by
 unfold laws_big.f at h
 obtain rfl := (R0 ws (KeptB.refl _ _)).1
 obtain rfl := (R1 ws (KeptB.refl _ _)).1
 refine enter Try.func8 rfl Try.ntmps8 rfl hF ?_
 refine c_seq ?_
 refine za0 ?_
 refine o_q rfl rfl (q_asg rfl) ?_
 refine o_end ?_
 refine za1 ?_
 refine c_seq ?_
 refine za0 ?_
 refine o_q rfl rfl (za2 rfl) ?_
 refine o_q rfl rfl (q_len Try.underlying22 rfl) ?_
 refine o_q rfl rfl (q_gtr rfl rfl) ?_
 refine o_q rfl rfl (za2 rfl) ?_
 refine byB (decide (1048576 < (l0.length : Int))) (fun hb1 => ?_) (fun hb1 => ?_)
 ·replace h := br_t hb1 h
  refine @o_n _ _ _ _ _ _ _ _ _ _ _ 9 (za3 rfl rfl rfl (congrArg Value.bool hb1) rfl) (Eq.refl (some 9)) ?_
  refine @o_n _ _ _ _ _ _ _ _ _ _ _ 10 (za3 rfl rfl rfl (congrArg Value.bool hb1) rfl) (Eq.refl (some 10)) ?_
  refine @o_n _ _ _ _ _ _ _ _ _ _ _ 11 (za3 rfl rfl rfl (congrArg Value.bool hb1) rfl) (Eq.refl (some 11)) ?_
  refine @o_n _ _ _ _ _ _ _ _ _ _ _ 12 (za3 rfl rfl rfl (congrArg Value.bool hb1) rfl) (Eq.refl (some 12)) ?_
  refine @o_n _ _ _ _ _ _ _ _ _ _ _ 13 (za3 rfl rfl rfl (congrArg Value.bool hb1) rfl) (Eq.refl (some 13)) ?_
  refine @o_n _ _ _ _ _ _ _ _ _ _ _ 14 (za3 rfl rfl rfl (congrArg Value.bool hb1) rfl) (Eq.refl (some 14)) ?_
  refine o_q rfl rfl (zaq true (congrArg Value.bool hb1) rfl) ?_
  refine o_q rfl rfl (q_asg rfl) ?_
  refine o_end ?_
  refine za1 ?_
  refine c_ret ?_
  have e0_ := Option.some.inj h; clear h
  subst e0_
  exact x_r1 () Try.results8 (zai rfl) rfl (fun w h => za6 [] (by decide) rfl w h)
 ·replace h := br_f hb1 h
  refine o_w (za4 rfl rfl rfl (congrArg Value.bool hb1)) rfl (za2 rfl) ?_
  refine o_w (za4 rfl rfl rfl (congrArg Value.bool hb1)) rfl (q_len Try.underlying22 rfl) ?_
  refine o_w (za4 rfl rfl rfl (congrArg Value.bool hb1)) rfl (za2 rfl) ?_
  refine o_w (za4 rfl rfl rfl (congrArg Value.bool hb1)) rfl (q_len Try.underlying22 rfl) ?_
  refine o_w (za4 rfl rfl rfl (congrArg Value.bool hb1)) rfl (q_sub64 rfl rfl) ?_
  refine o_w (za4 rfl rfl rfl (congrArg Value.bool hb1)) rfl (q_gtr rfl rfl) ?_
  refine o_q rfl rfl (zaq false (congrArg Value.bool hb1) rfl) ?_
  refine o_q rfl rfl (q_asg rfl) ?_
  refine o_end ?_
  refine za1 ?_
  refine c_ret ?_
  have e0_ := Option.some.inj h; clear h
  subst e0_
  exact x_r1 () Try.results8 (zai rfl) rfl (fun w h => za6 [] (by decide) rfl w h)

/-! ### (*loop.example/g01098/spec.l1Cur).next: function 129 -/
def spec_l1Cur_next.f (l0_0 : List Int) (a0_1 : Int) (a0_2 : Int) : Option (Int × Int) := (if a0_1 < (l0_0.length : Int) then ((gt l0_0 a0_1).bind fun y14 => some (w64 y14)) else (some 0)).bind fun i5 => if w64 (a0_1 + 1) ≤ (l0_0.length : Int) then (some (i5, IntKind.u64.wrap (IntKind.u64.wrap (IntKind.u64.wrap (a0_2 * 6364136223846793005) + (IntKind.u64.wrap i5)) + 1442695040888963407))) else (some (w64 (Go.bits .and .u64 ((IntKind.u64.wrap (IntKind.u64.wrap (IntKind.u64.wrap (a0_2 * 6364136223846793005) + (IntKind.u64.wrap i5)) + 1442695040888963407)) / 2 ^ min (40 : Int).toNat IntKind.u64.bits) 255), IntKind.u64.wrap (IntKind.u64.wrap (IntKind.u64.wrap (a0_2 * 6364136223846793005) + (IntKind.u64.wrap i5)) + 1442695040888963407)))
set_option maxHeartbeats 600000 in
set_option maxRecDepth 100000 in
theorem spec_l1Cur_next.calls {w0 ws : World} {P0 : Nat → Prop} (g0 : Nat) (A0_0 : Option Addr) (c0_0 : Nat) (n0_0 : Nat) (l0_0 : List Int) (a0_1 : Int) (a0_2 : Int) (Z : Below w0.heap.size w0 ws) (hF : Fr w0 ws P0 [box g0 67 #[.slice A0_0 n0_0 c0_0, .int .i64 a0_1, .int .u64 a0_2]] ws) (R0_0 : Stable ws P0 (fun w => Kd.C (Kd.int .u8) w A0_0 n0_0 l0_0)) (hc0_0 : n0_0 ≤ c0_0) (r_1 : Int) (r_2 : Int) (h : spec_l1Cur_next.f l0_0 a0_1 a0_2 = some (r_1, r_2)) :
  Calls Try.prog 129 #[.pointer (some ⟨g0, 0, none⟩)] ws (Post1 w0 ws P0 (fun (_ : Unit) => .int .i64 r_1) (fun (_ : Unit) => [box g0 67 #[.slice A0_0 n0_0 c0_0, .int .i64 (w64 (a0_1 + 1)), .int .u64 r_2]])) := by
 unfold spec_l1Cur_next.f at h
 obtain rfl := (R0_0 ws (KeptB.refl _ _)).1
 refine enter Try.func129 rfl Try.ntmps129 rfl hF ?_
 refine c_seq ?_
 refine za0 ?_
 refine o_q rfl rfl (q_asg rfl) ?_
 refine o_end ?_
 refine za1 ?_
 refine c_seq ?_
 refine za0 ?_
 refine o_q rfl rfl (q_asg rfl) ?_
 refine o_end ?_
 refine za1 ?_
 refine za7 h (fun o6 hl7 hR8 => ?_) rfl
 clear h
 refine c_cutJ (σ := Int) (fun i5 => some i5 = some o6) [3, 4, 5, 6, 7, 8, 9, 10, 11, 12, 13, 14, 15, 16, 17, 18, 19, 20, 21, 22, 23, 24] (fun i5 => [(3, .int .i64 i5)]) (fun i5 => [box g0 67 #[.slice A0_0 l0_0.length c0_0, .int .i64 a0_1, .int .u64 a0_2]]) ?_ ?_
 ·skip
  have h := hl7; clear hl7
  clear hR8
  refine c_seq ?_
  refine a_start (ds := []) MO rfl ?_
  refine za9 0 rfl rfl rfl (by kernel_rfl) (fun _ _ _ h => h) (za2 rfl) ?_
  refine za9 1 rfl rfl rfl (by kernel_rfl) (fun _ _ _ h => h) (q_nil rfl) ?_
  refine za9 2 rfl rfl rfl (by kernel_rfl) (fun _ _ _ h => h) (q_f F67_1 rfl) ?_
  refine zb0 3 rfl rfl rfl (by kernel_rfl) (fun _ _ _ h => h) (fun w h => h) (q_ldb Y3 rfl (fun w h => h.zae (i := 0) rfl) rfl) ?_
  refine za9 4 rfl rfl rfl (by kernel_rfl) (fun _ _ _ h => h) (za2 rfl) ?_
  refine za9 5 rfl rfl rfl (by kernel_rfl) (fun _ _ _ h => h) (q_nil rfl) ?_
  refine za9 6 rfl rfl rfl (by kernel_rfl) (fun _ _ _ h => h) (q_f F67_0 rfl) ?_
  refine zb0 7 rfl rfl rfl (by kernel_rfl) (fun _ _ _ h => h) (fun w h => h) (q_ldb Y22 rfl (fun w h => h.zae (i := 0) rfl) rfl) ?_
  refine za9 8 rfl rfl rfl (by kernel_rfl) (fun _ _ _ h => h) (q_len Try.underlying22 rfl) ?_
  refine za9 9 rfl rfl rfl (by kernel_rfl) (fun _ _ _ h => h) (q_lss rfl rfl) ?_
  refine zav (by kernel_rfl) ?_
  refine za1 ?_
  refine zau _ rfl (fun hb11 => ?_) (fun hb11 => ?_)
  ·skip
   replace h := br_t hb11 h
   refine a_start (ds := []) MO rfl ?_
   refine za9 0 rfl rfl rfl (by kernel_rfl) (fun _ _ _ h => h) (za2 rfl) ?_
   refine za9 1 rfl rfl rfl (by kernel_rfl) (fun _ _ _ h => h) (q_nil rfl) ?_
   refine za9 2 rfl rfl rfl (by kernel_rfl) (fun _ _ _ h => h) (q_f F67_0 rfl) ?_
   refine zb0 3 rfl rfl rfl (by kernel_rfl) (fun _ _ _ h => h) (fun w h => h) (q_ldb Y22 rfl (fun w h => h.zae (i := 0) rfl) rfl) ?_
   refine za9 4 rfl rfl rfl (by kernel_rfl) (fun _ _ _ h => h) (za2 rfl) ?_
   refine za9 5 rfl rfl rfl (by kernel_rfl) (fun _ _ _ h => h) (q_nil rfl) ?_
   refine za9 6 rfl rfl rfl (by kernel_rfl) (fun _ _ _ h => h) (q_f F67_1 rfl) ?_
   refine zb0 7 rfl rfl rfl (by kernel_rfl) (fun _ _ _ h => h) (fun w h => h) (q_ldb Y3 rfl (fun w h => h.zae (i := 0) rfl) rfl) ?_
   refine a_fact (p := Sh A0_0 l0_0.length l0_0.length) (fun w h => f_sh (dk := (Kd.int .u8)) h (fun w h => R0_0.now Z h)) (fun hq12 => ?_)
   refine za7 h (fun y14 hg13 h => ?_) rfl
   refine za9 8 rfl rfl rfl (by kernel_rfl) (fun _ _ _ h => h) (q_ix Try.underlying22 Z5 rfl rfl hq12 hg13) ?_
   refine zb0 9 rfl rfl rfl (by kernel_rfl) (fun _ _ _ h => h) (fun w h => h) (q_lde (off := 0) Y5 rfl rfl (fun w h => R0_0.now Z h) hg13 (fun _ _ h => h) rfl) ?_
   refine za9 10 rfl rfl rfl (by kernel_rfl) (fun _ _ _ h => h) (q_conv (by rw [Try.underlying5]; rfl) Try.underlying3 rfl) ?_
   refine za9 11 rfl rfl rfl (by kernel_rfl) (fun _ _ _ h => h) (q_asg rfl) ?_
   refine zav (by kernel_rfl) ?_
   refine zas (w64 y14) h ⟨rfl, trivial⟩ (fun w h => za6 [0] (by decide) rfl w h) ?_
   repeat (first | exact zac _ _ | refine zaf rfl ?_ | refine zad rfl ?_ | refine zah rfl ?_)
  ·skip
   replace h := br_f hb11 h
   refine zao ?_
   refine zas 0 h ⟨rfl, trivial⟩ (fun w h => za6 [0] (by decide) rfl w h) ?_
   repeat (first | exact zac _ _ | refine zaf rfl ?_ | refine zad rfl ?_ | refine zah rfl ?_)
 ·skip
  refine (fun i5 => fun U9 hJ10 => ?_)
  have e_ := Option.some.inj hJ10; have h := hR8; rw [← e_] at h; clear e_ hJ10 hR8 hl7
  refine c_seq ?_
  refine za0 ?_
  refine o_q rfl rfl (za2 rfl) ?_
  refine o_q rfl rfl (q_nil rfl) ?_
  refine o_q rfl rfl (q_f F67_1 rfl) ?_
  refine o_q rfl rfl (q_ldb Y3 rfl (fun w h => h.zae (i := 0) rfl) rfl) ?_
  refine o_q rfl rfl (zb8 rfl rfl) ?_
  refine o_q rfl rfl (q_nil rfl) ?_
  refine o_q rfl rfl (q_f F67_1 rfl) ?_
  refine o_e rfl (zay (i := 0) rfl rfl rfl rfl Z3 rfl rfl) (fun _ => ?_)
  refine o_end ?_
  refine za1 ?_
  refine c_seq ?_
  refine za0 ?_
  refine o_q rfl rfl (za2 rfl) ?_
  refine o_q rfl rfl (za2 rfl) ?_
  refine o_q rfl rfl (q_nil rfl) ?_
  refine o_q rfl rfl (q_f F67_2 rfl) ?_
  refine o_q rfl rfl (q_ldb Y65 rfl (fun w h => h.zae (i := 0) rfl) rfl) ?_
  refine o_q rfl rfl (q_mul rfl rfl) ?_
  refine o_q rfl rfl (za2 rfl) ?_
  refine o_q rfl rfl (q_conv (by rw [Try.underlying3]; rfl) Try.underlying65 rfl) ?_
  refine o_q rfl rfl (q_add rfl rfl) ?_
  refine o_q rfl rfl (q_add rfl rfl) ?_
  refine o_q rfl rfl (q_nil rfl) ?_
  refine o_q rfl rfl (q_f F67_2 rfl) ?_
  refine o_e rfl (zay (i := 0) rfl rfl rfl rfl Z65 rfl rfl) (fun _ => ?_)
  refine o_end ?_
  refine za1 ?_
  refine c_seq ?_
  refine c_seq ?_
  refine a_start (ds := []) MO rfl ?_
  refine za9 0 rfl rfl rfl (by kernel_rfl) (fun _ _ _ h => h) (za2 rfl) ?_
  refine za9 1 rfl rfl rfl (by kernel_rfl) (fun _ _ _ h => h) (q_nil rfl) ?_
  refine za9 2 rfl rfl rfl (by kernel_rfl) (fun _ _ _ h => h) (q_f F67_1 rfl) ?_
  refine zb0 3 rfl rfl rfl (by kernel_rfl) (fun _ _ _ h => h) (fun w h => h) (q_ldb Y3 rfl (fun w h => h.zae (i := 0) rfl) rfl) ?_
  refine za9 4 rfl rfl rfl (by kernel_rfl) (fun _ _ _ h => h) (za2 rfl) ?_
  refine za9 5 rfl rfl rfl (by kernel_rfl) (fun _ _ _ h => h) (q_nil rfl) ?_
  refine za9 6 rfl rfl rfl (by kernel_rfl) (fun _ _ _ h => h) (q_f F67_0 rfl) ?_
  refine zb0 7 rfl rfl rfl (by kernel_rfl) (fun _ _ _ h => h) (fun w h => h) (q_ldb Y22 rfl (fun w h => h.zae (i := 0) rfl) rfl) ?_
  refine za9 8 rfl rfl rfl (by kernel_rfl) (fun _ _ _ h => h) (q_len Try.underlying22 rfl) ?_
  refine za9 9 rfl rfl rfl (by kernel_rfl) (fun _ _ _ h => h) (q_leq rfl rfl) ?_
  refine zav (by kernel_rfl) ?_
  refine za1 ?_
  refine zau _ rfl (fun hb15 => ?_) (fun hb15 => ?_)
  ·skip
   replace h := br_t hb15 h
   refine c_seq ?_
   refine za0 ?_
   refine o_q rfl rfl (za2 rfl) ?_
   refine o_q rfl rfl (q_asg rfl) ?_
   refine o_end ?_
   refine za1 ?_
   refine c_ret ?_
   refine zaa ?_
   have e0_ := Option.some.inj h; clear h
   have d0_ := (Prod.mk.inj e0_).1; have e1_ := (Prod.mk.inj e0_).2; clear e0_; subst d0_
   subst e1_
   exact x_r1 () Try.results129 (zai rfl) rfl (fun w h => za6 [0] (by decide) rfl w h)
  ·skip
   replace h := br_f hb15 h
   refine zao ?_
   refine za1 ?_
   refine c_seq ?_
   refine za0 ?_
   refine o_q rfl rfl (za2 rfl) ?_
   refine o_q rfl rfl (q_nil rfl) ?_
   refine o_q rfl rfl (q_f F67_2 rfl) ?_
   refine o_q rfl rfl (q_ldb Y65 rfl (fun w h => h.zae (i := 0) rfl) rfl) ?_
   refine o_q rfl rfl (q_shr rfl rfl (by decide)) ?_
   refine o_q rfl rfl (q_and rfl rfl) ?_
   refine o_q rfl rfl (q_conv (by rw [Try.underlying65]; rfl) Try.underlying3 rfl) ?_
   refine o_q rfl rfl (q_asg rfl) ?_
   refine o_end ?_
   refine za1 ?_
   refine c_ret ?_
   have e0_ := Option.some.inj h; clear h
   have d0_ := (Prod.mk.inj e0_).1; have e1_ := (Prod.mk.inj e0_).2; clear e0_; subst d0_
   subst e1_
   exact x_r1 () Try.results129 (zai rfl) rfl (fun w h => za6 [0] (by decide) rfl w h)

/-! ### (*loop.example/g01098/spec.l1Cur).pick: function 66 -/
def spec_l1Cur_pick.f (l0_0 : List Int) (a0_1 : Int) (a0_2 : Int) (a1 : Int) : Option (Int × Int × Int) := if a1 ≤ 1 then (some (0, a0_1, a0_2)) else ((spec_l1Cur_next.f l0_0 a0_1 a0_2).bind fun (i3, i4) => if 200 < a1 then ((spec_l1Cur_next.f l0_0 (w64 (a0_1 + 1)) i4).bind fun (i7, i8) => (nz a1).bind fun _ => some ((w64 (w64 (i3 * 256) + i7)).tmod a1, w64 ((w64 (a0_1 + 1)) + 1), i8)) else ((nz a1).bind fun _ => some (i3.tmod a1, w64 (a0_1 + 1), i4)))
set_option maxHeartbeats 600000 in
set_option maxRecDepth 100000 in
theorem spec_l1Cur_pick.calls {w0 ws : World} {P0 : Nat → Prop} (g0 : Nat) (A0_0 : Option Addr) (c0_0 : Nat) (n0_0 : Nat) (l0_0 : List Int) (a0_1 : Int) (a0_2 : Int) (a1 : Int) (Z : Below w0.heap.size w0 ws) (hF : Fr w0 ws P0 [box g0 67 #[.slice A0_0 n0_0 c0_0, .int .i64 a0_1, .int .u64 a0_2]] ws) (R0_0 : Stable ws P0 (fun w => Kd.C (Kd.int .u8) w A0_0 n0_0 l0_0)) (hc0_0 : n0_0 ≤ c0_0) (r_1 : Int) (r_2 : Int) (r_3 : Int) (h : spec_l1Cur_pick.f l0_0 a0_1 a0_2 a1 = some (r_1, r_2, r_3)) :
  Calls Try.prog 66 #[.pointer (some ⟨g0, 0, none⟩), .int .i64 a1] ws (Post1 w0 ws P0 (fun (_ : Unit) => .int .i64 r_1) (fun (_ : Unit) => [box g0 67 #[.slice A0_0 n0_0 c0_0, .int .i64 r_2, .int .u64 r_3]])) := by
 unfold spec_l1Cur_pick.f at h
 obtain rfl := (R0_0 ws (KeptB.refl _ _)).1
 refine enter Try.func66 rfl Try.ntmps66 rfl hF ?_
 refine c_seq ?_
 refine za0 ?_
 refine o_q rfl rfl (q_asg rfl) ?_
 refine o_end ?_
 refine za1 ?_
 refine c_seq ?_
 refine c_seq ?_
 refine za0 ?_
 refine o_q rfl rfl (za2 rfl) ?_
 refine o_q rfl rfl (q_leq rfl rfl) ?_
 refine o_end ?_
 refine za1 ?_
 refine zau _ rfl (fun hb1 => ?_) (fun hb1 => ?_)
 ·skip
  replace h := br_t hb1 h
  refine c_seq ?_
  refine za0 ?_
  refine o_q rfl rfl (q_asg rfl) ?_
  refine o_end ?_
  refine za1 ?_
  refine c_ret ?_
  refine zaa ?_
  have e0_ := Option.some.inj h; clear h
  have d0_ := (Prod.mk.inj e0_).1; have e1_ := (Prod.mk.inj e0_).2; clear e0_; subst d0_
  have d1_ := (Prod.mk.inj e1_).1; have e2_ := (Prod.mk.inj e1_).2; clear e1_; subst d1_
  subst e2_
  exact x_r1 () Try.results66 (zai rfl) rfl (fun w h => za6 [0] (by decide) rfl w h)
 ·skip
  replace h := br_f hb1 h
  refine zao ?_
  refine za1 ?_
  refine c_seq ?_
  refine za0 ?_
  refine o_q rfl rfl (za2 rfl) ?_
  refine bindE2 h (fun i3 i4 hx2 h => ?_) rfl
  refine o_e rfl (zab 1 Z Try.func129 N129 rfl rfl rfl (fun w P1 hF hB hS hT => spec_l1Cur_next.calls g0 A0_0 c0_0 l0_0.length l0_0 a0_1 a0_2 hB hF (hS _ R0_0) hc0_0 _ _ hx2)) (fun _ => ?_)
  refine o_q rfl rfl (q_asg rfl) ?_
  refine o_end ?_
  refine za1 ?_
  refine c_seq ?_
  refine c_seq ?_
  refine za0 ?_
  refine o_q rfl rfl (za2 rfl) ?_
  refine o_q rfl rfl (q_gtr rfl rfl) ?_
  refine o_end ?_
  refine za1 ?_
  refine zau _ rfl (fun hb5 => ?_) (fun hb5 => ?_)
  ·skip
   replace h := br_t hb5 h
   refine za0 ?_
   refine o_q rfl rfl (za2 rfl) ?_
   refine o_q rfl rfl (q_mul64 rfl rfl) ?_
   refine o_q rfl rfl (za2 rfl) ?_
   refine bindE2 h (fun i7 i8 hx6 h => ?_) rfl
   refine o_e rfl (zab 1 Z Try.func129 N129 rfl rfl rfl (fun w P1 hF hB hS hT => spec_l1Cur_next.calls g0 A0_0 c0_0 l0_0.length l0_0 (w64 (a0_1 + 1)) i4 hB hF (hS _ R0_0) hc0_0 _ _ hx6)) (fun _ => ?_)
   refine o_q rfl rfl (zb8 rfl rfl) ?_
   refine o_q rfl rfl (q_asg rfl) ?_
   refine o_end ?_
   refine za1 ?_
   refine c_seq ?_
   refine za0 ?_
   refine o_q rfl rfl (za2 rfl) ?_
   refine o_q rfl rfl (za2 rfl) ?_
   refine za7 h (fun _ hz9 h => ?_) rfl
   refine o_q rfl rfl (q_rem rfl rfl (nz_ne hz9)) ?_
   refine o_q rfl rfl (q_asg rfl) ?_
   refine o_end ?_
   refine za1 ?_
   refine c_ret ?_
   have e0_ := Option.some.inj h; clear h
   have d0_ := (Prod.mk.inj e0_).1; have e1_ := (Prod.mk.inj e0_).2; clear e0_; subst d0_
   have d1_ := (Prod.mk.inj e1_).1; have e2_ := (Prod.mk.inj e1_).2; clear e1_; subst d1_
   subst e2_
   exact x_r1 () Try.results66 (zai rfl) rfl (fun w h => za6 [0] (by decide) rfl w h)
  ·skip
   replace h := br_f hb5 h
   refine zao ?_
   refine za1 ?_
   refine c_seq ?_
   refine za0 ?_
   refine o_q rfl rfl (za2 rfl) ?_
   refine o_q rfl rfl (za2 rfl) ?_
   refine za7 h (fun _ hz10 h => ?_) rfl
   refine o_q rfl rfl (q_rem rfl rfl (nz_ne hz10)) ?_
   refine o_q rfl rfl (q_asg rfl) ?_
   refine o_end ?_
   refine za1 ?_
   refine c_ret ?_
   have e0_ := Option.some.inj h; clear h
   have d0_ := (Prod.mk.inj e0_).1; have e1_ := (Prod.mk.inj e0_).2; clear e0_; subst d0_
   have d1_ := (Prod.mk.inj e1_).1; have e2_ := (Prod.mk.inj e1_).2; clear e1_; subst d1_
   subst e2_
   exact x_r1 () Try.results66 (zai rfl) rfl (fun w h => za6 [0] (by decide) rfl w h)

/-! ### (*loop.example/g01098/spec.l1Cur).one: function 102 -/
def spec_l1Cur_one.f (l0_0 : List Int) (a0_1 : Int) (a0_2 : Int) (a1 : Int) : Option (Bool × Int × Int) := (spec_l1Cur_pick.f l0_0 a0_1 a0_2 a1).bind fun (i2, i3, i4) => some (decide (i2 = 0), i3, i4)
set_option maxHeartbeats 600000 in
set_option maxRecDepth 100000 in
theorem spec_l1Cur_one.calls {w0 ws : World} {P0 : Nat → Prop} (g0 : Nat) (A0_0 : Option Addr) (c0_0 : Nat) (n0_0 : Nat) (l0_0 : List Int) (a0_1 : Int) (a0_2 : Int) (a1 : Int) (Z : Below w0.heap.size w0 ws) (hF : Fr w0 ws P0 [box g0 67 #[.slice A0_0 n0_0 c0_0, .int .i64 a0_1, .int .u64 a0_2]] ws) (R0_0 : Stable ws P0 (fun w => Kd.C (Kd.int .u8) w A0_0 n0_0 l0_0)) (hc0_0 : n0_0 ≤ c0_0) (r_1 : Bool) (r_2 : Int) (r_3 : Int) (h : spec_l1Cur_one.f l0_0 a0_1 a0_2 a1 = some (r_1, r_2, r_3)) :
  Calls Try.prog 102 #[.pointer (some ⟨g0, 0, none⟩), .int .i64 a1] ws (Post1 w0 ws P0 (fun (_ : Unit) => .bool r_1) (fun (_ : Unit) => [box g0 67 #[.slice A0_0 n0_0 c0_0, .int .i64 r_2, .int .u64 r_3]])) := by
 unfold spec_l1Cur_one.f at h
 obtain rfl := (R0_0 ws (KeptB.refl _ _)).1
 refine enter Try.func102 rfl Try.ntmps102 rfl hF ?_
 refine c_seq ?_
 refine za0 ?_
 refine o_q rfl rfl (q_asg rfl) ?_
 refine o_end ?_
 refine za1 ?_
 refine c_seq ?_
 refine za0 ?_
 refine o_q rfl rfl (za2 rfl) ?_
 refine o_q rfl rfl (za2 rfl) ?_
 refine bindE3 h (fun i2 i3 i4 hx1 h => ?_) rfl
 refine o_e rfl (zab 1 Z Try.func66 N66 rfl rfl rfl (fun w P1 hF hB hS hT => spec_l1Cur_pick.calls g0 A0_0 c0_0 l0_0.length l0_0 a0_1 a0_2 a1 hB hF (hS _ R0_0) hc0_0 _ _ _ hx1)) (fun _ => ?_)
 refine o_q rfl rfl (q_eql rfl rfl) ?_
 refine o_q rfl rfl (q_asg rfl) ?_
 refine o_end ?_
 refine za1 ?_
 refine c_ret ?_
 have e0_ := Option.some.inj h; clear h
 have d0_ := (Prod.mk.inj e0_).1; have e1_ := (Prod.mk.inj e0_).2; clear e0_; subst d0_
 have d1_ := (Prod.mk.inj e1_).1; have e2_ := (Prod.mk.inj e1_).2; clear e1_; subst d1_
 subst e2_
 exact x_r1 () Try.results102 (zai rfl) rfl (fun w h => za6 [0] (by decide) rfl w h)

/-! ### (*loop.example/g01098/spec.l1Cur).among: function 56 -/
def spec_l1Cur_among.f (l0_0 : List Int) (a0_1 : Int) (a0_2 : Int) (l1 : List Int) : Option (Int × Int × Int) := (spec_l1Cur_pick.f l0_0 a0_1 a0_2 (l1.length : Int)).bind fun (i2, i3, i4) => (gt l1 i2).bind fun y7 => some (y7, i3, i4)
set_option maxHeartbeats 600000 in
set_option maxRecDepth 100000 in
theorem spec_l1Cur_among.calls {w0 ws : World} {P0 : Nat → Prop} (g0 : Nat) (A0_0 : Option Addr) (c0_0 : Nat) (n0_0 : Nat) (l0_0 : List Int) (a0_1 : Int) (a0_2 : Int) (A1 : Option Addr) (c1 : Nat) (n1 : Nat) (l1 : List Int) (Z : Below w0.heap.size w0 ws) (hF : Fr w0 ws P0 [box g0 67 #[.slice A0_0 n0_0 c0_0, .int .i64 a0_1, .int .u64 a0_2]] ws) (R0_0 : Stable ws P0 (fun w => Kd.C (Kd.int .u8) w A0_0 n0_0 l0_0)) (hc0_0 : n0_0 ≤ c0_0) (R1 : Stable ws P0 (fun w => Kd.C (Kd.int .i64) w A1 n1 l1)) (hc1 : n1 ≤ c1) (r_1 : Int) (r_2 : Int) (r_3 : Int) (h : spec_l1Cur_among.f l0_0 a0_1 a0_2 l1 = some (r_1, r_2, r_3)) :
  Calls Try.prog 56 #[.pointer (some ⟨g0, 0, none⟩), .slice A1 n1 c1] ws (Post1 w0 ws P0 (fun (_ : Unit) => .int .i64 r_1) (fun (_ : Unit) => [box g0 67 #[.slice A0_0 n0_0 c0_0, .int .i64 r_2, .int .u64 r_3]])) := by
 unfold spec_l1Cur_among.f at h
 obtain rfl := (R0_0 ws (KeptB.refl _ _)).1
 obtain rfl := (R1 ws (KeptB.refl _ _)).1
 refine enter Try.func56 rfl Try.ntmps56 rfl hF ?_
 refine c_seq ?_
 refine za0 ?_
 refine o_q rfl rfl (q_asg rfl) ?_
 refine o_end ?_
 refine za1 ?_
 refine c_seq ?_
 refine za0 ?_
 refine o_q rfl rfl (za2 rfl) ?_
 refine o_q rfl rfl (za2 rfl) ?_
 refine o_q rfl rfl (za2 rfl) ?_
 refine o_q rfl rfl (q_len Try.underlying25 rfl) ?_
 refine bindE3 h (fun i2 i3 i4 hx1 h => ?_) rfl
 refine o_e rfl (zab 1 Z Try.func66 N66 rfl rfl rfl (fun w P1 hF hB hS hT => spec_l1Cur_pick.calls g0 A0_0 c0_0 l0_0.length l0_0 a0_1 a0_2 (l1.length : Int) hB hF (hS _ R0_0) hc0_0 _ _ _ hx1)) (fun _ => ?_)
 refine zaz (p := Sh A1 l1.length l1.length) (fun w h => f_sh (dk := (Kd.int .i64)) h (fun w h => R1.now Z h)) (fun hq5 => ?_)
 refine za7 h (fun y7 hg6 h => ?_) rfl
 refine o_q rfl rfl (q_ix Try.underlying25 Z3 rfl rfl hq5 hg6) ?_
 refine o_q rfl rfl (q_lde (off := 0) Y3 rfl rfl (fun w h => R1.now Z h) hg6 (fun _ _ h => h) rfl) ?_
 refine o_q rfl rfl (q_asg rfl) ?_
 refine o_end ?_
 refine za1 ?_
 refine c_ret ?_
 have e0_ := Option.some.inj h; clear h
 have d0_ := (Prod.mk.inj e0_).1; have e1_ := (Prod.mk.inj e0_).2; clear e0_; subst d0_
 have d1_ := (Prod.mk.inj e1_).1; have e2_ := (Prod.mk.inj e1_).2; clear e1_; subst d1_
 subst e2_
 exact x_r1 () Try.results56 (zai rfl) rfl (fun w h => za6 [0] (by decide) rfl w h)

/-! ### (*loop.example/g01098/spec.l1Cur).inputs: function 65 -/
def spec_l1Cur_inputs.f (l0_0 : List Int) (a0_1 : Int) (a0_2 : Int) : Option (Int × Int × Int) := (spec_l1Cur_among.f l0_0 a0_1 a0_2 ([1, 1, 2, 2, 3, 4] : List Int)).bind fun (i5, i6, i7) => some (i5, i6, i7)
set_option maxHeartbeats 600000 in
set_option maxRecDepth 100000 in
theorem spec_l1Cur_inputs.calls {w0 ws : World} {P0 : Nat → Prop} (g0 : Nat) (A0_0 : Option Addr) (c0_0 : Nat) (n0_0 : Nat) (l0_0 : List Int) (a0_1 : Int) (a0_2 : Int) (Z : Below w0.heap.size w0 ws) (hF : Fr w0 ws P0 [box g0 67 #[.slice A0_0 n0_0 c0_0, .int .i64 a0_1, .int .u64 a0_2]] ws) (R0_0 : Stable ws P0 (fun w => Kd.C (Kd.int .u8) w A0_0 n0_0 l0_0)) (hc0_0 : n0_0 ≤ c0_0) (r_1 : Int) (r_2 : Int) (r_3 : Int) (h : spec_l1Cur_inputs.f l0_0 a0_1 a0_2 = some (r_1, r_2, r_3)) :
  Calls Try.prog 65 #[.pointer (some ⟨g0, 0, none⟩)] ws (Post1 w0 ws P0 (fun (_ : Unit) => .int .i64 r_1) (fun (_ : Unit) => [box g0 67 #[.slice A0_0 n0_0 c0_0, .int .i64 r_2, .int .u64 r_3]])) := by
 unfold spec_l1Cur_inputs.f at h
 obtain rfl := (R0_0 ws (KeptB.refl _ _)).1
 refine enter Try.func65 rfl Try.ntmps65 rfl hF ?_
 refine c_seq ?_
 refine za0 ?_
 refine o_q rfl rfl (q_asg rfl) ?_
 refine o_end ?_
 refine za1 ?_
 refine c_seq ?_
 refine za0 ?_
 refine o_q rfl rfl (za2 rfl) ?_
 refine o_e rfl (e_lit (vs := [(0, .int .i64 1), (1, .int .i64 1), (2, .int .i64 2), (3, .int .i64 2), (4, .int .i64 3), (5, .int .i64 4)]) (cs := [.int .i64 1, .int .i64 1, .int .i64 2, .int .i64 2, .int .i64 3, .int .i64 4]) (Kd.int .i64) ([1, 1, 2, 2, 3, 4] : List Int) Try.underlying25 I3 (by decide) rfl (by decide) rfl rfl (fun _ _ => Kd.zak _)) (cur2 (fun A1 c2 => ?_))
 refine o_pick [1, 0] (by decide) rfl ?_
 refine bindE3 h (fun i5 i6 i7 hx4 h => ?_) rfl
 refine o_e rfl (zab 1 Z Try.func56 N56 rfl rfl rfl (fun w P1 hF hB hS hT => spec_l1Cur_among.calls g0 A0_0 c0_0 l0_0.length l0_0 a0_1 a0_2 A1 c2 (([1, 1, 2, 2, 3, 4] : List Int).length) ([1, 1, 2, 2, 3, 4] : List Int) hB hF (hS _ R0_0) hc0_0 (hT 0 _ rfl).row (hT 0 _ rfl).cap _ _ _ hx4)) (fun _ => ?_)
 refine o_q rfl rfl (q_asg rfl) ?_
 refine o_end ?_
 refine za1 ?_
 refine c_ret ?_
 have e0_ := Option.some.inj h; clear h
 have d0_ := (Prod.mk.inj e0_).1; have e1_ := (Prod.mk.inj e0_).2; clear e0_; subst d0_
 have d1_ := (Prod.mk.inj e1_).1; have e2_ := (Prod.mk.inj e1_).2; clear e1_; subst d1_
 subst e2_
 exact x_r1 () Try.results65 (zai rfl) rfl (fun w h => za6 [0] (by decide) rfl w h)

/-! ### loop.example/g01098/spec.l1Least: function 172 -/
def spec_l1Least.f (a0 : Int) (a1 : Int) : Option Int := if a0 < a1 then (some a0) else (some a1)
set_option maxHeartbeats 600000 in
set_option maxRecDepth 100000 in
theorem spec_l1Least.calls {w0 ws : World} {P0 : Nat → Prop} (a0 : Int) (a1 : Int) (Z : Below w0.heap.size w0 ws) (hF : Fr w0 ws P0 [] ws)  (r_1 : Int) (h : spec_l1Least.f a0 a1 = some r_1) :
  Calls Try.prog 172 #[.int .i64 a0, .int .i64 a1] ws (Post1 w0 ws P0 (fun (_ : Unit) => .int .i64 r_1) (fun (_ : Unit) => [])) := by
 unfold spec_l1Least.f at h
 refine enter Try.func172 rfl Try.ntmps172 rfl hF ?_
 refine c_seq ?_
 refine za0 ?_
 refine o_q rfl rfl (q_asg rfl) ?_
 refine o_end ?_
 refine za1 ?_
 refine c_seq ?_
 refine c_seq ?_
 refine za0 ?_
 refine o_q rfl rfl (za2 rfl) ?_
 refine o_q rfl rfl (za2 rfl) ?_
 refine o_q rfl rfl (q_lss rfl rfl) ?_
 refine o_end ?_
 refine za1 ?_
 refine zau _ rfl (fun hb1 => ?_) (fun hb1 => ?_)
 ·skip
  replace h := br_t hb1 h
  refine c_seq ?_
  refine za0 ?_
  refine o_q rfl rfl (za2 rfl) ?_
  refine o_q rfl rfl (q_asg rfl) ?_
  refine o_end ?_
  refine za1 ?_
  refine c_ret ?_
  refine zaa ?_
  have e0_ := Option.some.inj h; clear h
  subst e0_
  exact x_r1 () Try.results172 (zai rfl) rfl (fun w h => za6 [] (by decide) rfl w h)
 ·skip
  replace h := br_f hb1 h
  refine zao ?_
  refine za1 ?_
  refine c_seq ?_
  refine za0 ?_
  refine o_q rfl rfl (za2 rfl) ?_
  refine o_q rfl rfl (q_asg rfl) ?_
  refine o_end ?_
  refine za1 ?_
  refine c_ret ?_
  have e0_ := Option.some.inj h; clear h
  subst e0_
  exact x_r1 () Try.results172 (zai rfl) rfl (fun w h => za6 [] (by decide) rfl w h)

/-! ### loop.example/g01098/spec.l1Most: function 126 -/
def spec_l1Most.f (a0 : Int) (a1 : Int) : Option Int := if a1 < a0 then (some a0) else (some a1)
set_option maxHeartbeats 600000 in
set_option maxRecDepth 100000 in
theorem spec_l1Most.calls {w0 ws : World} {P0 : Nat → Prop} (a0 : Int) (a1 : Int) (Z : Below w0.heap.size w0 ws) (hF : Fr w0 ws P0 [] ws)  (r_1 : Int) (h : spec_l1Most.f a0 a1 = some r_1) :
  Calls Try.prog 126 #[.int .i64 a0, .int .i64 a1] ws (Post1 w0 ws P0 (fun (_ : Unit) => .int .i64 r_1) (fun (_ : Unit) => [])) := by
 unfold spec_l1Most.f at h
 refine enter Try.func126 rfl Try.ntmps126 rfl hF ?_
 refine c_seq ?_
 refine za0 ?_
 refine o_q rfl rfl (q_asg rfl) ?_
 refine o_end ?_
 refine za1 ?_
 refine c_seq ?_
 refine c_seq ?_
 refine za0 ?_
 refine o_q rfl rfl (za2 rfl) ?_
 refine o_q rfl rfl (za2 rfl) ?_
 refine o_q rfl rfl (q_gtr rfl rfl) ?_
 refine o_end ?_
 refine za1 ?_
 refine zau _ rfl (fun hb1 => ?_) (fun hb1 => ?_)
 ·skip
  replace h := br_t hb1 h
  refine c_seq ?_
  refine za0 ?_
  refine o_q rfl rfl (za2 rfl) ?_
  refine o_q rfl rfl (q_asg rfl) ?_
  refine o_end ?_
  refine za1 ?_
  refine c_ret ?_
  refine zaa ?_
  have e0_ := Option.some.inj h; clear h
  subst e0_
  exact x_r1 () Try.results126 (zai rfl) rfl (fun w h => za6 [] (by decide) rfl w h)
 ·skip
  replace h := br_f hb1 h
  refine zao ?_
  refine za1 ?_
  refine c_seq ?_
  refine za0 ?_
  refine o_q rfl rfl (za2 rfl) ?_
  refine o_q rfl rfl (q_asg rfl) ?_
  refine o_end ?_
  refine za1 ?_
  refine c_ret ?_
  have e0_ := Option.some.inj h; clear h
  subst e0_
  exact x_r1 () Try.results126 (zai rfl) rfl (fun w h => za6 [] (by decide) rfl w h)

/-! ### loop.example/g01098/spec.plStep: function 171 -/
def spec_plStep.f (a0 : Int) (a1 : Int) : Option SStep := (spec_l1Least.f a0 a1).bind fun i4 => (spec_l1Most.f a0 a1).bind fun i6 => some (⟨i4, i6⟩ : SStep)
set_option maxHeartbeats 600000 in
set_option maxRecDepth 100000 in
theorem spec_plStep.calls {w0 ws : World} {P0 : Nat → Prop} (a0 : Int) (a1 : Int) (Z : Below w0.heap.size w0 ws) (hF : Fr w0 ws P0 [] ws)  (r_1 : SStep) (h : spec_plStep.f a0 a1 = some r_1) :
  Calls Try.prog 171 #[.int .i64 a0, .int .i64 a1] ws (Post1 w0 ws P0 (fun (_ : Unit) => .agg #[.int .i64 r_1.f0, .int .i64 r_1.f1]) (fun (_ : Unit) => [])) := by
 unfold spec_plStep.f at h
 refine enter Try.func171 rfl Try.ntmps171 rfl hF ?_
 refine c_seq ?_
 refine za0 ?_
 refine o_e rfl (zat V88 rfl) (fun g1 => ?_)
 refine o_end ?_
 refine za1 ?_
 refine c_seq ?_
 refine za0 ?_
 refine o_q rfl rfl (za2 rfl) ?_
 refine o_q rfl rfl (za2 rfl) ?_
 refine za7 h (fun i4 hx3 h => ?_) rfl
 refine o_e rfl (zab 0 Z Try.func172 N172 rfl rfl rfl (fun w P1 hF hB hS hT => spec_l1Least.calls a0 a1 hB hF _ hx3)) (fun _ => ?_)
 refine o_q rfl rfl (za2 rfl) ?_
 refine o_q rfl rfl (za2 rfl) ?_
 refine za7 h (fun i6 hx5 h => ?_) rfl
 refine o_e rfl (zab 0 Z Try.func126 N126 rfl rfl rfl (fun w P1 hF hB hS hT => spec_l1Most.calls a0 a1 hB hF _ hx5)) (fun _ => ?_)
 refine o_q rfl rfl (zb5 (vs := [(0, .int .i64 i4), (1, .int .i64 i6)]) (cs := [.int .i64 i4, .int .i64 i6]) rfl rfl) ?_
 refine o_e rfl (zan (i := 0) rfl rfl rfl Z88 rfl rfl) (fun _ => ?_)
 refine o_end ?_
 refine za1 ?_
 refine c_ret ?_
 have e0_ := Option.some.inj h; clear h
 subst e0_
 exact x_r1 () Try.results171 (rv_cell rfl G88 Z88 (fun w h => h.zae (i := 0) rfl) rfl) rfl (fun w h => za6 [] (by decide) rfl w h)

/-! ### (*loop.example/g01098/spec.l1Cur).plan: function 128 -/
def spec_l1Cur_plan.l1 (l0_0 : List Int) (i4 : Int) (l14 : List SStep) : Nat → (List Int) → Int → Int → Int → Option ((List Int) × Int × Int)
 | 0, _, _, _, _ => none
 | k787 + 1, l779, i782, i783, i784 => if 0 < i784 then ((spec_l1Least.f (w64 (w64 (1 + i4) + (l14.length : Int))) 4).bind fun i1158 => (spec_l1Cur_pick.f l0_0 i782 i783 i1158).bind fun (i1218, i1219, i1220) => (ap l779 ([w64 (w64 (w64 (w64 (1 + i4) + (l14.length : Int)) - 1) - i1218)] : List Int)).bind fun l1397 => spec_l1Cur_plan.l1 l0_0 i4 l14 k787 l1397 i1219 i1220 (w64 (i784 - 1))) else (some (l779, i782, i783))
def spec_l1Cur_plan.l0 (l0_0 : List Int) (i4 : Int) : Nat → (List SStep) → Int → Int → Int → Option ((List SStep) × Int × Int)
 | 0, _, _, _, _ => none
 | k22 + 1, l14, i17, i18, i19 => if 0 < i19 then ((spec_l1Cur_pick.f l0_0 i17 i18 (w64 (w64 (1 + i4) + (l14.length : Int)))).bind fun (i32, i33, i34) => ((spec_l1Cur_one.f l0_0 i33 i34 2).bind fun (b49, i50, i51) => if b49 = true then (some (i50, i51, w64 (w64 (w64 (1 + i4) + (l14.length : Int)) - 1))) else (some (i50, i51, i32))).bind fun (i40, i41, i42) => (spec_l1Cur_pick.f l0_0 i40 i41 (w64 (w64 (1 + i4) + (l14.length : Int)))).bind fun (i355, i356, i357) => (spec_plStep.f i42 i355).bind fun z415 => (ap l14 ([z415] : List SStep)).bind fun l534 => spec_l1Cur_plan.l0 l0_0 i4 k22 l534 i356 i357 (w64 (i19 - 1))) else (some (l14, i17, i18))
def spec_l1Cur_plan.f (k : Nat) (l0_0 : List Int) (a0_1 : Int) (a0_2 : Int) (a1 : Int) (a2 : Int) : Option (Int × (List SStep) × (List Int) × Int × Int) := (spec_l1Cur_pick.f l0_0 a0_1 a0_2 a1).bind fun (i4, i5, i6) => (spec_l1Cur_pick.f l0_0 i5 i6 (w64 (a2 + 1))).bind fun (i10, i11, i12) => (spec_l1Cur_plan.l0 l0_0 i4 k ([] : List SStep) i11 i12 i10).bind fun (l14, i17, i18) => (spec_l1Cur_pick.f l0_0 i17 i18 3).bind fun (i775, i776, i777) => (spec_l1Cur_plan.l1 l0_0 i4 l14 k ([] : List Int) i776 i777 (w64 (1 + i775))).bind fun (l779, i782, i783) => ((spec_l1Cur_one.f l0_0 i782 i783 12).bind fun (b1653, i1654, i1655) => if b1653 = true then (some (([] : List Int), i1654, i1655)) else (some (l779, i1654, i1655))).bind fun (l1642, i1645, i1646) => some (w64 (1 + i4), l14, l1642, i1645, i1646)
set_option maxHeartbeats 600000 in
set_option maxRecDepth 100000 in
theorem spec_l1Cur_plan.calls (k : Nat) {w0 ws : World} {P0 : Nat → Prop} (g0 : Nat) (A0_0 : Option Addr) (c0_0 : Nat) (n0_0 : Nat) (l0_0 : List Int) (a0_1 : Int) (a0_2 : Int) (a1 : Int) (a2 : Int) (Z : Below w0.heap.size w0 ws) (hF : Fr w0 ws P0 [box g0 67 #[.slice A0_0 n0_0 c0_0, .int .i64 a0_1, .int .u64 a0_2]] ws) (R0_0 : Stable ws P0 (fun w => Kd.C (Kd.int .u8) w A0_0 n0_0 l0_0)) (hc0_0 : n0_0 ≤ c0_0) (r_1 : Int) (r_2 : List SStep) (r_5 : List Int) (r_8 : Int) (r_9 : Int) (h : spec_l1Cur_plan.f k l0_0 a0_1 a0_2 a1 a2 = some (r_1, r_2, r_5, r_8, r_9)) :
  Calls Try.prog 128 #[.pointer (some ⟨g0, 0, none⟩), .int .i64 a1, .int .i64 a2] ws (Post1 w0 ws P0 (fun ((q_3, q_4, q_6, q_7) : (Option Addr) × Nat × (Option Addr) × Nat) => .agg #[.int .i64 r_1, .slice q_3 r_2.length q_4, .slice q_6 r_5.length q_7]) (fun ((q_3, q_4, q_6, q_7) : (Option Addr) × Nat × (Option Addr) × Nat) => [row kStep 88 (.slice q_3 r_2.length q_4) r_2, row (Kd.int .i64) 3 (.slice q_6 r_5.length q_7) r_5, box g0 67 #[.slice A0_0 n0_0 c0_0, .int .i64 r_8, .int .u64 r_9]])) := by
 unfold spec_l1Cur_plan.f at h
 obtain rfl := (R0_0 ws (KeptB.refl _ _)).1
 refine enter Try.func128 rfl Try.ntmps128 rfl hF ?_
 refine c_seq ?_
 refine za0 ?_
 refine o_e rfl (zat V27 rfl) (fun g1 => ?_)
 refine o_end ?_
 refine za1 ?_
 refine c_seq ?_
 refine za0 ?_
 refine o_q rfl rfl (za2 rfl) ?_
 refine o_q rfl rfl (za2 rfl) ?_
 refine o_pick [1, 0] (by decide) rfl ?_
 refine bindE3 h (fun i4 i5 i6 hx3 h => ?_) rfl
 refine o_e rfl (zab 1 Z Try.func66 N66 rfl rfl rfl (fun w P1 hF hB hS hT => spec_l1Cur_pick.calls g0 A0_0 c0_0 l0_0.length l0_0 a0_1 a0_2 a1 hB hF (hS _ R0_0) hc0_0 _ _ _ hx3)) (fun _ => ?_)
 refine o_q rfl rfl (zb8 rfl rfl) ?_
 refine o_q rfl rfl (zb5 (vs := [(0, .int .i64 (w64 (1 + i4)))]) (cs := [.int .i64 (w64 (1 + i4)), .slice none 0 0, .slice none 0 0]) rfl rfl) ?_
 refine o_e rfl (zat V27 rfl) (fun g7 => ?_)
 refine o_e rfl (zan (i := 0) rfl rfl rfl Z27 rfl rfl) (fun _ => ?_)
 refine o_end ?_
 refine za1 ?_
 refine c_seq ?_
 refine c_seq ?_
 refine za0 ?_
 refine o_q rfl rfl (za2 rfl) ?_
 refine o_q rfl rfl (za2 rfl) ?_
 refine o_q rfl rfl (zb8 rfl rfl) ?_
 refine o_pick [1, 0, 2] (by decide) rfl ?_
 refine bindE3 h (fun i10 i11 i12 hx9 h => ?_) rfl
 refine o_e rfl (zab 1 Z Try.func66 N66 rfl rfl rfl (fun w P1 hF hB hS hT => spec_l1Cur_pick.calls g0 A0_0 c0_0 l0_0.length l0_0 i5 i6 (w64 (a2 + 1)) hB hF (hS _ R0_0) hc0_0 _ _ _ hx9)) (fun _ => ?_)
 refine o_q rfl rfl (q_asg rfl) ?_
 refine o_end ?_
 refine za1 ?_
 refine zaj ?_
 refine c_nil kStep 88 ?_
 refine za7 h (fun o27 hl26 hR25 => ?_) rfl
 clear h
 refine zax (σ := (List SStep) × Int × Int × Int × (Option Addr) × Nat) (fun k22 ((l14, i17, i18, i19, A15, c16) : (List SStep) × Int × Int × Int × (Option Addr) × Nat) => spec_l1Cur_plan.l0 l0_0 i4 k22 l14 i17 i18 i19 = some o27) [8, 9, 10, 22, 23, 24, 25, 26, 27, 28, 29, 30, 31, 32, 33, 34, 35, 36, 37, 38, 39, 40, 41, 42, 43, 44, 45, 46, 47, 48] (fun ((l14, i17, i18, i19, A15, c16) : (List SStep) × Int × Int × Int × (Option Addr) × Nat) => [(8, .int .i64 i19)]) (fun ((l14, i17, i18, i19, A15, c16) : (List SStep) × Int × Int × Int × (Option Addr) × Nat) => [row kStep 88 (.slice A15 l14.length c16) l14, box g0 67 #[.slice A0_0 l0_0.length c0_0, .int .i64 i17, .int .u64 i18], box g7 27 #[.int .i64 (w64 (1 + i4)), .slice A15 l14.length c16, .slice none 0 0], box g1 27 #[.int .i64 0, .slice none 0 0, .slice none 0 0]]) k (([] : List SStep), i11, i12, i10, none, 0) hl26 ⟨rfl, trivial⟩ (fun w h => h) ?_
 refine natC (cur6 (fun l14 i17 i18 i19 A15 c16 => fun U28 hJ_ => ?_)) (fun k22 => (cur6 (fun l14 i17 i18 i19 A15 c16 => fun U28 hJ_ => ?_)))
 ·skip
  replace hJ_ : spec_l1Cur_plan.l0 l0_0 i4 0 l14 i17 i18 i19 = some o27 := hJ_
  rw [spec_l1Cur_plan.l0] at hJ_
  exact noneE hJ_
 ·skip
  clear hl26
  have h := hJ_; clear hJ_
  replace h : spec_l1Cur_plan.l0 l0_0 i4 (k22 + 1) l14 i17 i18 i19 = some o27 := h
  rw [spec_l1Cur_plan.l0] at h
  refine c_seq ?_
  refine c_seq ?_
  refine za0 ?_
  refine o_q rfl rfl (za2 rfl) ?_
  refine o_q rfl rfl (q_gtr rfl rfl) ?_
  refine o_end ?_
  refine za1 ?_
  refine zau _ rfl (fun hb30 => ?_) (fun hb30 => ?_)
  ·skip
   replace h := br_t hb30 h
   refine zao ?_
   refine za1 ?_
   refine c_seq ?_
   refine zaj ?_
   refine c_seq ?_
   refine za0 ?_
   refine o_q rfl rfl (q_f F27_0 rfl) ?_
   refine o_q rfl rfl (q_ldb Y3 rfl (fun w h => h.zae (i := 2) rfl) rfl) ?_
   refine o_q rfl rfl (q_f F27_1 rfl) ?_
   refine o_q rfl rfl (q_ldb Y24 rfl (fun w h => h.zae (i := 2) rfl) rfl) ?_
   refine o_q rfl rfl (q_len Try.underlying24 rfl) ?_
   refine o_q rfl rfl (zb8 rfl rfl) ?_
   refine o_q rfl rfl (q_asg rfl) ?_
   refine o_end ?_
   refine za1 ?_
   refine c_seq ?_
   refine za0 ?_
   refine o_q rfl rfl (za2 rfl) ?_
   refine o_q rfl rfl (za2 rfl) ?_
   refine o_pick [1, 0, 2, 3] (by decide) rfl ?_
   refine bindE3 h (fun i32 i33 i34 hx31 h => ?_) rfl
   refine o_e rfl (zab 1 Z Try.func66 N66 rfl rfl rfl (fun w P1 hF hB hS hT => spec_l1Cur_pick.calls g0 A0_0 c0_0 l0_0.length l0_0 i17 i18 (w64 (w64 (1 + i4) + (l14.length : Int))) hB hF (hS _ R0_0) hc0_0 _ _ _ hx31)) (fun _ => ?_)
   refine o_q rfl rfl (q_asg rfl) ?_
   refine o_end ?_
   refine za1 ?_
   refine za7 h (fun o43 hl44 hR45 => ?_) rfl
   clear h
   refine c_cutJ (σ := Int × Int × Int) (fun (i40, i41, i42) => some (i40, i41, i42) = some o43) [10, 35, 36, 37, 38] (fun (i40, i41, i42) => [(10, .int .i64 i42)]) (fun (i40, i41, i42) => [box g0 67 #[.slice A0_0 l0_0.length c0_0, .int .i64 i40, .int .u64 i41], box g1 27 #[.int .i64 0, .slice none 0 0, .slice none 0 0], box g7 27 #[.int .i64 (w64 (1 + i4)), .slice A15 l14.length c16, .slice none 0 0], row kStep 88 (.slice A15 l14.length c16) l14]) ?_ ?_
   ·skip
    have h := hl44; clear hl44
    clear hR45
    refine c_seq ?_
    refine za0 ?_
    refine o_q rfl rfl (za2 rfl) ?_
    refine bindE3 h (fun b49 i50 i51 hx48 h => ?_) rfl
    refine o_e rfl (zab 1 Z Try.func102 N102 rfl rfl rfl (fun w P1 hF hB hS hT => spec_l1Cur_one.calls g0 A0_0 c0_0 l0_0.length l0_0 i33 i34 2 hB hF (hS _ R0_0) hc0_0 _ _ _ hx48)) (fun _ => ?_)
    refine o_end ?_
    refine za1 ?_
    refine zau _ rfl (fun hb52 => ?_) (fun hb52 => ?_)
    ·skip
     replace h := bb_t hb52 h
     refine za0 ?_
     refine o_q rfl rfl (za2 rfl) ?_
     refine o_q rfl rfl (q_sub64 rfl rfl) ?_
     refine o_q rfl rfl (q_asg rfl) ?_
     refine o_end ?_
     refine zas (i50, i51, w64 (w64 (w64 (1 + i4) + (l14.length : Int)) - 1)) h ⟨rfl, trivial⟩ (fun w h => za6 [0, 3, 2, 1] (by decide) rfl w h) ?_
     repeat (first | exact zac _ _ | refine zaf rfl ?_ | refine zad rfl ?_ | refine zah rfl ?_)
    ·skip
     replace h := bb_f hb52 h
     refine zao ?_
     refine zas (i50, i51, i32) h ⟨rfl, trivial⟩ (fun w h => za6 [0, 3, 2, 1] (by decide) rfl w h) ?_
     repeat (first | exact zac _ _ | refine zaf rfl ?_ | refine zad rfl ?_ | refine zah rfl ?_)
   ·skip
    refine (cur3 (fun i40 i41 i42 => fun U46 hJ47 => ?_))
    have e_ := Option.some.inj hJ47; have h := hR45; rw [← e_] at h; clear e_ hJ47 hR45 hl44
    refine bindE3 h (fun i355 i356 i357 hx354 h => ?_) rfl
    refine za7 h (fun z415 hx414 h => ?_) rfl
    refine za7 h (fun l534 ha535 h => ?_) rfl
    refine a_startS (ds := []) [none, some 1, none, none] MO rfl ?_
    refine za9 0 rfl rfl rfl (by kernel_rfl) (fun _ _ _ h => h) (q_f F27_1 rfl) ?_
    refine za9 2 rfl rfl rfl (by kernel_rfl) (fun _ _ _ h => h) (za2 rfl) ?_
    refine za9 3 rfl rfl rfl (by kernel_rfl) (fun _ _ _ h => h) (za2 rfl) ?_
    refine za9 4 rfl rfl rfl (by kernel_rfl) (fun _ _ _ h => h) (za2 rfl) ?_
    refine a_two 1 5 rfl rfl rfl rfl (by kernel_rfl) rfl rfl (ev_q rfl (q_ldb Y24 rfl (fun w h => h.zae (i := 2) rfl) rfl)) (fun s w h => za5 [none, some 1, none, none] (by decide) w h rfl) (zab 1 Z Try.func66 N66 rfl rfl rfl (fun w P1 hF hB hS hT => spec_l1Cur_pick.calls g0 A0_0 c0_0 l0_0.length l0_0 i40 i41 (w64 (w64 (1 + i4) + (l14.length : Int))) hB hF (hS _ R0_0) hc0_0 _ _ _ hx354)) (fun s w h => za5 [none, some 1, none, none] (by decide) w h rfl) (fun _ => ?_) (fun _ => ?_)
    ·skip
     refine a_one 5 rfl rfl (by kernel_rfl) rfl (zab 1 Z Try.func66 N66 rfl rfl rfl (fun w P1 hF hB hS hT => spec_l1Cur_pick.calls g0 A0_0 c0_0 l0_0.length l0_0 i40 i41 (w64 (w64 (1 + i4) + (l14.length : Int))) hB hF (hS _ R0_0) hc0_0 _ _ _ hx354)) (fun s w h => za5 [none, some 1, none, none] (by decide) w h rfl) (fun _ => ?_)
     refine a_one 6 rfl rfl (by kernel_rfl) rfl (zab 0 Z Try.func171 N171 rfl rfl rfl (fun w P1 hF hB hS hT => spec_plStep.calls i42 i355 hB hF _ hx414)) (fun s w h => za5 [none, some 1, none, none] (by decide) w h rfl) (fun _ => ?_)
     refine a_one 7 rfl rfl (by kernel_rfl) rfl (e_lit (vs := [(0, .agg #[.int .i64 z415.f0, .int .i64 z415.f1])]) (cs := [.int .i64 z415.f0, .int .i64 z415.f1]) kStep ([z415] : List SStep) Try.underlying24 I88 (by decide) rfl (by decide) rfl rfl (fun _ _ => zb9 _)) (fun s w h => za5 [none, some 2, none, none] (by decide) w h rfl) (cur2 (fun A474 c475 => ?_))
     refine a_one 8 rfl rfl (by kernel_rfl) rfl (e_app (i := 4) (j := 0) Try.underlying24 I88 rfl (by decide) (by decide) rfl rfl rfl rfl rfl ha535) (fun s w h => za5 [none, some 2, none, none] (by decide) w h rfl) (cur2 (fun A536 c537 => ?_))
     refine za9 9 rfl rfl rfl (by kernel_rfl) (fun _ _ _ h => h) (q_f F27_1 rfl) ?_
     refine a_one 10 rfl rfl (by kernel_rfl) rfl (zay (i := 3) rfl rfl rfl rfl Z24 rfl rfl) (fun s w h => za5 [none, some 2, none, none] (by decide) w h rfl) (fun _ => ?_)
     refine zav (by kernel_rfl) ?_
     refine zal ?_
     refine za1 ?_
     refine za0 ?_
     refine o_q rfl rfl (za2 rfl) ?_
     refine o_q rfl rfl (q_sub64 rfl rfl) ?_
     refine o_q rfl rfl (q_asg rfl) ?_
     refine o_end ?_
     refine zam k22 (l534, i356, i357, w64 (i19 - 1), A536, c537) (Nat.lt_succ_self _) h ⟨rfl, trivial⟩ (fun w h => za6 [4, 1, 3, 2] (by decide) rfl w h) ?_
     repeat (first | exact zac _ _ | refine zaf rfl ?_ | refine zad rfl ?_ | refine zah rfl ?_)
    ·skip
     refine a_two 1 6 rfl rfl rfl rfl (by kernel_rfl) rfl rfl (ev_q rfl (q_ldb Y24 rfl (fun w h => h.zae (i := 2) rfl) rfl)) (fun s w h => za5 [none, some 1, none, none] (by decide) w h rfl) (zab 0 Z Try.func171 N171 rfl rfl rfl (fun w P1 hF hB hS hT => spec_plStep.calls i42 i355 hB hF _ hx414)) (fun s w h => za5 [none, some 1, none, none] (by decide) w h rfl) (fun _ => ?_) (fun _ => ?_)
     ·skip
      refine a_one 6 rfl rfl (by kernel_rfl) rfl (zab 0 Z Try.func171 N171 rfl rfl rfl (fun w P1 hF hB hS hT => spec_plStep.calls i42 i355 hB hF _ hx414)) (fun s w h => za5 [none, some 1, none, none] (by decide) w h rfl) (fun _ => ?_)
      refine a_one 7 rfl rfl (by kernel_rfl) rfl (e_lit (vs := [(0, .agg #[.int .i64 z415.f0, .int .i64 z415.f1])]) (cs := [.int .i64 z415.f0, .int .i64 z415.f1]) kStep ([z415] : List SStep) Try.underlying24 I88 (by decide) rfl (by decide) rfl rfl (fun _ _ => zb9 _)) (fun s w h => za5 [none, some 2, none, none] (by decide) w h rfl) (cur2 (fun A474 c475 => ?_))
      refine a_one 8 rfl rfl (by kernel_rfl) rfl (e_app (i := 4) (j := 0) Try.underlying24 I88 rfl (by decide) (by decide) rfl rfl rfl rfl rfl ha535) (fun s w h => za5 [none, some 2, none, none] (by decide) w h rfl) (cur2 (fun A536 c537 => ?_))
      refine za9 9 rfl rfl rfl (by kernel_rfl) (fun _ _ _ h => h) (q_f F27_1 rfl) ?_
      refine a_one 10 rfl rfl (by kernel_rfl) rfl (zay (i := 3) rfl rfl rfl rfl Z24 rfl rfl) (fun s w h => za5 [none, some 2, none, none] (by decide) w h rfl) (fun _ => ?_)
      refine zav (by kernel_rfl) ?_
      refine zal ?_
      refine za1 ?_
      refine za0 ?_
      refine o_q rfl rfl (za2 rfl) ?_
      refine o_q rfl rfl (q_sub64 rfl rfl) ?_
      refine o_q rfl rfl (q_asg rfl) ?_
      refine o_end ?_
      refine zam k22 (l534, i356, i357, w64 (i19 - 1), A536, c537) (Nat.lt_succ_self _) h ⟨rfl, trivial⟩ (fun w h => za6 [4, 1, 3, 2] (by decide) rfl w h) ?_
      repeat (first | exact zac _ _ | refine zaf rfl ?_ | refine zad rfl ?_ | refine zah rfl ?_)
     ·skip
      refine a_two 1 7 rfl rfl rfl rfl (by kernel_rfl) rfl rfl (ev_q rfl (q_ldb Y24 rfl (fun w h => h.zae (i := 2) rfl) rfl)) (fun s w h => za5 [none, some 1, none, none] (by decide) w h rfl) (e_lit (vs := [(0, .agg #[.int .i64 z415.f0, .int .i64 z415.f1])]) (cs := [.int .i64 z415.f0, .int .i64 z415.f1]) kStep ([z415] : List SStep) Try.underlying24 I88 (by decide) rfl (by decide) rfl rfl (fun _ _ => zb9 _)) (fun s w h => za5 [none, some 2, none, none] (by decide) w h rfl) (fun _ => ?_) (cur2 (fun A474 c475 => ?_))
      ·skip
       refine a_one 7 rfl rfl (by kernel_rfl) rfl (e_lit (vs := [(0, .agg #[.int .i64 z415.f0, .int .i64 z415.f1])]) (cs := [.int .i64 z415.f0, .int .i64 z415.f1]) kStep ([z415] : List SStep) Try.underlying24 I88 (by decide) rfl (by decide) rfl rfl (fun _ _ => zb9 _)) (fun s w h => za5 [none, some 2, none, none] (by decide) w h rfl) (cur2 (fun A474 c475 => ?_))
       refine a_one 8 rfl rfl (by kernel_rfl) rfl (e_app (i := 4) (j := 0) Try.underlying24 I88 rfl (by decide) (by decide) rfl rfl rfl rfl rfl ha535) (fun s w h => za5 [none, some 2, none, none] (by decide) w h rfl) (cur2 (fun A536 c537 => ?_))
       refine za9 9 rfl rfl rfl (by kernel_rfl) (fun _ _ _ h => h) (q_f F27_1 rfl) ?_
       refine a_one 10 rfl rfl (by kernel_rfl) rfl (zay (i := 3) rfl rfl rfl rfl Z24 rfl rfl) (fun s w h => za5 [none, some 2, none, none] (by decide) w h rfl) (fun _ => ?_)
       refine zav (by kernel_rfl) ?_
       refine zal ?_
       refine za1 ?_
       refine za0 ?_
       refine o_q rfl rfl (za2 rfl) ?_
       refine o_q rfl rfl (q_sub64 rfl rfl) ?_
       refine o_q rfl rfl (q_asg rfl) ?_
       refine o_end ?_
       refine zam k22 (l534, i356, i357, w64 (i19 - 1), A536, c537) (Nat.lt_succ_self _) h ⟨rfl, trivial⟩ (fun w h => za6 [4, 1, 3, 2] (by decide) rfl w h) ?_
       repeat (first | exact zac _ _ | refine zaf rfl ?_ | refine zad rfl ?_ | refine zah rfl ?_)
      ·skip
       refine a_one 1 rfl rfl (by kernel_rfl) rfl (ev_q rfl (q_ldb Y24 rfl (fun w h => h.zae (i := 3) rfl) rfl)) (fun s w h => za5 [none, some 2, none, none] (by decide) w h rfl) (fun _ => ?_)
       refine a_one 8 rfl rfl (by kernel_rfl) rfl (e_app (i := 4) (j := 0) Try.underlying24 I88 rfl (by decide) (by decide) rfl rfl rfl rfl rfl ha535) (fun s w h => za5 [none, some 2, none, none] (by decide) w h rfl) (cur2 (fun A536 c537 => ?_))
       refine za9 9 rfl rfl rfl (by kernel_rfl) (fun _ _ _ h => h) (q_f F27_1 rfl) ?_
       refine a_one 10 rfl rfl (by kernel_rfl) rfl (zay (i := 3) rfl rfl rfl rfl Z24 rfl rfl) (fun s w h => za5 [none, some 2, none, none] (by decide) w h rfl) (fun _ => ?_)
       refine zav (by kernel_rfl) ?_
       refine zal ?_
       refine za1 ?_
       refine za0 ?_
       refine o_q rfl rfl (za2 rfl) ?_
       refine o_q rfl rfl (q_sub64 rfl rfl) ?_
       refine o_q rfl rfl (q_asg rfl) ?_
       refine o_end ?_
       refine zam k22 (l534, i356, i357, w64 (i19 - 1), A536, c537) (Nat.lt_succ_self _) h ⟨rfl, trivial⟩ (fun w h => za6 [4, 1, 3, 2] (by decide) rfl w h) ?_
       repeat (first | exact zac _ _ | refine zaf rfl ?_ | refine zad rfl ?_ | refine zah rfl ?_)
  ·skip
   replace h := br_f hb30 h
   refine zb4 ?_
   refine za8 ?_
   refine za8 ?_
   have e_ := Option.some.inj h; replace h := hR25; rw [← e_] at h; clear e_
   refine x_hit ?_
   refine za1 ?_
   refine c_seq ?_
   refine za0 ?_
   refine o_q rfl rfl (q_f F27_0 rfl) ?_
   refine o_q rfl rfl (q_ldb Y3 rfl (fun w h => h.zae (i := 2) rfl) rfl) ?_
   refine o_q rfl rfl (q_f F27_1 rfl) ?_
   refine o_q rfl rfl (q_ldb Y24 rfl (fun w h => h.zae (i := 2) rfl) rfl) ?_
   refine o_q rfl rfl (q_len Try.underlying24 rfl) ?_
   refine o_q rfl rfl (zb8 rfl rfl) ?_
   refine o_q rfl rfl (q_asg rfl) ?_
   refine o_end ?_
   refine za1 ?_
   refine c_seq ?_
   refine c_seq ?_
   refine za0 ?_
   refine o_q rfl rfl (za2 rfl) ?_
   refine o_pick [1, 0, 2, 3] (by decide) rfl ?_
   refine bindE3 h (fun i775 i776 i777 hx774 h => ?_) rfl
   refine o_e rfl (zab 1 Z Try.func66 N66 rfl rfl rfl (fun w P1 hF hB hS hT => spec_l1Cur_pick.calls g0 A0_0 c0_0 l0_0.length l0_0 i17 i18 3 hB hF (hS _ R0_0) hc0_0 _ _ _ hx774)) (fun _ => ?_)
   refine o_q rfl rfl (zb8 rfl rfl) ?_
   refine o_q rfl rfl (q_asg rfl) ?_
   refine o_end ?_
   refine za1 ?_
   refine zaj ?_
   refine c_nil (Kd.int .i64) 3 ?_
   refine za7 h (fun o792 hl791 hR790 => ?_) rfl
   clear h
   refine zax (σ := (List Int) × Int × Int × Int × (Option Addr) × Nat) (fun k787 ((l779, i782, i783, i784, A780, c781) : (List Int) × Int × Int × Int × (Option Addr) × Nat) => spec_l1Cur_plan.l1 l0_0 i4 l14 k787 l779 i782 i783 i784 = some o792) [12, 58, 59, 60, 61, 62, 63, 64, 65, 66, 67, 68, 69, 70, 71, 72, 73] (fun ((l779, i782, i783, i784, A780, c781) : (List Int) × Int × Int × Int × (Option Addr) × Nat) => [(12, .int .i64 i784)]) (fun ((l779, i782, i783, i784, A780, c781) : (List Int) × Int × Int × Int × (Option Addr) × Nat) => [row (Kd.int .i64) 3 (.slice A780 l779.length c781) l779, box g0 67 #[.slice A0_0 l0_0.length c0_0, .int .i64 i782, .int .u64 i783], row kStep 88 (.slice A15 l14.length c16) l14, box g7 27 #[.int .i64 (w64 (1 + i4)), .slice A15 l14.length c16, .slice A780 l779.length c781], box g1 27 #[.int .i64 0, .slice none 0 0, .slice none 0 0]]) k (([] : List Int), i776, i777, w64 (1 + i775), none, 0) hl791 ⟨rfl, trivial⟩ (fun w h => h) ?_
   refine natC (cur6 (fun l779 i782 i783 i784 A780 c781 => fun U793 hJ_ => ?_)) (fun k787 => (cur6 (fun l779 i782 i783 i784 A780 c781 => fun U793 hJ_ => ?_)))
   ·skip
    replace hJ_ : spec_l1Cur_plan.l1 l0_0 i4 l14 0 l779 i782 i783 i784 = some o792 := hJ_
    rw [spec_l1Cur_plan.l1] at hJ_
    exact noneE hJ_
   ·skip
    clear hl791
    have h := hJ_; clear hJ_
    replace h : spec_l1Cur_plan.l1 l0_0 i4 l14 (k787 + 1) l779 i782 i783 i784 = some o792 := h
    rw [spec_l1Cur_plan.l1] at h
    refine c_seq ?_
    refine c_seq ?_
    refine za0 ?_
    refine o_q rfl rfl (za2 rfl) ?_
    refine o_q rfl rfl (q_gtr rfl rfl) ?_
    refine o_end ?_
    refine za1 ?_
    refine zau _ rfl (fun hb795 => ?_) (fun hb795 => ?_)
    ·skip
     replace h := br_t hb795 h
     refine zao ?_
     refine za1 ?_
     refine c_seq ?_
     refine zaj ?_
     refine za7 h (fun i1158 hx1157 h => ?_) rfl
     refine bindE3 h (fun i1218 i1219 i1220 hx1217 h => ?_) rfl
     refine za7 h (fun l1397 ha1398 h => ?_) rfl
     refine a_startS (ds := []) [none, none, some 2, none, some 4] MO rfl ?_
     refine za9 0 rfl rfl rfl (by kernel_rfl) (fun _ _ _ h => h) (q_f F27_2 rfl) ?_
     refine za9 2 rfl rfl rfl (by kernel_rfl) (fun _ _ _ h => h) (za2 rfl) ?_
     refine za9 3 rfl rfl rfl (by kernel_rfl) (fun _ _ _ h => h) (q_sub64 rfl rfl) ?_
     refine za9 4 rfl rfl rfl (by kernel_rfl) (fun _ _ _ h => h) (za2 rfl) ?_
     refine za9 5 rfl rfl rfl (by kernel_rfl) (fun _ _ _ h => h) (za2 rfl) ?_
     refine a_two 1 6 rfl rfl rfl rfl (by kernel_rfl) rfl rfl (ev_q rfl (q_ldb Y25 rfl (fun w h => h.zae (i := 3) rfl) rfl)) (fun s w h => za5 [none, none, some 2, none, some 4] (by decide) w h rfl) (zab 0 Z Try.func172 N172 rfl rfl rfl (fun w P1 hF hB hS hT => spec_l1Least.calls (w64 (w64 (1 + i4) + (l14.length : Int))) 4 hB hF _ hx1157)) (fun s w h => za5 [none, none, some 2, none, some 4] (by decide) w h rfl) (fun _ => ?_) (fun _ => ?_)
     ·skip
      refine a_one 6 rfl rfl (by kernel_rfl) rfl (zab 0 Z Try.func172 N172 rfl rfl rfl (fun w P1 hF hB hS hT => spec_l1Least.calls (w64 (w64 (1 + i4) + (l14.length : Int))) 4 hB hF _ hx1157)) (fun s w h => za5 [none, none, some 2, none, some 4] (by decide) w h rfl) (fun _ => ?_)
      refine a_pick [1, 0, 2, 3, 4] (by decide) rfl ?_
      refine a_one 7 rfl rfl (by kernel_rfl) rfl (zab 1 Z Try.func66 N66 rfl rfl rfl (fun w P1 hF hB hS hT => spec_l1Cur_pick.calls g0 A0_0 c0_0 l0_0.length l0_0 i782 i783 i1158 hB hF (hS _ R0_0) hc0_0 _ _ _ hx1217)) (fun s w h => za5 [none, none, some 2, none, some 4] (by decide) w h rfl) (fun _ => ?_)
      refine za9 8 rfl rfl rfl (by kernel_rfl) (fun _ _ _ h => h) (q_sub64 rfl rfl) ?_
      refine a_one 9 rfl rfl (by kernel_rfl) rfl (e_lit (vs := [(0, .int .i64 (w64 (w64 (w64 (w64 (1 + i4) + (l14.length : Int)) - 1) - i1218)))]) (cs := [.int .i64 (w64 (w64 (w64 (w64 (1 + i4) + (l14.length : Int)) - 1) - i1218))]) (Kd.int .i64) ([w64 (w64 (w64 (w64 (1 + i4) + (l14.length : Int)) - 1) - i1218)] : List Int) Try.underlying25 I3 (by decide) rfl (by decide) rfl rfl (fun _ _ => Kd.zak _)) (fun s w h => za5 [none, none, some 3, none, some 5] (by decide) w h rfl) (cur2 (fun A1337 c1338 => ?_))
      refine a_one 10 rfl rfl (by kernel_rfl) rfl (e_app (i := 2) (j := 0) Try.underlying25 I3 rfl (by decide) (by decide) rfl rfl rfl rfl rfl ha1398) (fun s w h => za5 [none, none, some 3, none, some 5] (by decide) w h rfl) (cur2 (fun A1399 c1400 => ?_))
      refine za9 11 rfl rfl rfl (by kernel_rfl) (fun _ _ _ h => h) (q_f F27_2 rfl) ?_
      refine a_one 12 rfl rfl (by kernel_rfl) rfl (zay (i := 4) rfl rfl rfl rfl Z25 rfl rfl) (fun s w h => za5 [none, none, some 3, none, some 5] (by decide) w h rfl) (fun _ => ?_)
      refine zav (by kernel_rfl) ?_
      refine zal ?_
      refine za1 ?_
      refine za0 ?_
      refine o_q rfl rfl (za2 rfl) ?_
      refine o_q rfl rfl (q_sub64 rfl rfl) ?_
      refine o_q rfl rfl (q_asg rfl) ?_
      refine o_end ?_
      refine zam k787 (l1397, i1219, i1220, w64 (i784 - 1), A1399, c1400) (Nat.lt_succ_self _) h ⟨rfl, trivial⟩ (fun w h => za6 [2, 1, 3, 4, 5] (by decide) rfl w h) ?_
      repeat (first | exact zac _ _ | refine zaf rfl ?_ | refine zad rfl ?_ | refine zah rfl ?_)
     ·skip
      refine a_two 1 7 rfl rfl rfl rfl (by kernel_rfl) rfl rfl (ev_q rfl (q_ldb Y25 rfl (fun w h => h.zae (i := 3) rfl) rfl)) (fun s w h => za5 [none, none, some 2, none, some 4] (by decide) w h rfl) (ev_pick [1, 0, 2, 3, 4] (by decide) rfl (zab 1 Z Try.func66 N66 rfl rfl rfl (fun w P1 hF hB hS hT => spec_l1Cur_pick.calls g0 A0_0 c0_0 l0_0.length l0_0 i782 i783 i1158 hB hF (hS _ R0_0) hc0_0 _ _ _ hx1217))) (fun s w h => za5 [none, none, some 2, none, some 4] (by decide) w h rfl) (fun _ => ?_) (fun _ => ?_)
      ·skip
       refine a_pick [1, 0, 2, 3, 4] (by decide) rfl ?_
       refine a_one 7 rfl rfl (by kernel_rfl) rfl (zab 1 Z Try.func66 N66 rfl rfl rfl (fun w P1 hF hB hS hT => spec_l1Cur_pick.calls g0 A0_0 c0_0 l0_0.length l0_0 i782 i783 i1158 hB hF (hS _ R0_0) hc0_0 _ _ _ hx1217)) (fun s w h => za5 [none, none, some 2, none, some 4] (by decide) w h rfl) (fun _ => ?_)
       refine za9 8 rfl rfl rfl (by kernel_rfl) (fun _ _ _ h => h) (q_sub64 rfl rfl) ?_
       refine a_one 9 rfl rfl (by kernel_rfl) rfl (e_lit (vs := [(0, .int .i64 (w64 (w64 (w64 (w64 (1 + i4) + (l14.length : Int)) - 1) - i1218)))]) (cs := [.int .i64 (w64 (w64 (w64 (w64 (1 + i4) + (l14.length : Int)) - 1) - i1218))]) (Kd.int .i64) ([w64 (w64 (w64 (w64 (1 + i4) + (l14.length : Int)) - 1) - i1218)] : List Int) Try.underlying25 I3 (by decide) rfl (by decide) rfl rfl (fun _ _ => Kd.zak _)) (fun s w h => za5 [none, none, some 3, none, some 5] (by decide) w h rfl) (cur2 (fun A1337 c1338 => ?_))
       refine a_one 10 rfl rfl (by kernel_rfl) rfl (e_app (i := 2) (j := 0) Try.underlying25 I3 rfl (by decide) (by decide) rfl rfl rfl rfl rfl ha1398) (fun s w h => za5 [none, none, some 3, none, some 5] (by decide) w h rfl) (cur2 (fun A1399 c1400 => ?_))
       refine za9 11 rfl rfl rfl (by kernel_rfl) (fun _ _ _ h => h) (q_f F27_2 rfl) ?_
       refine a_one 12 rfl rfl (by kernel_rfl) rfl (zay (i := 4) rfl rfl rfl rfl Z25 rfl rfl) (fun s w h => za5 [none, none, some 3, none, some 5] (by decide) w h rfl) (fun _ => ?_)
       refine zav (by kernel_rfl) ?_
       refine zal ?_
       refine za1 ?_
       refine za0 ?_
       refine o_q rfl rfl (za2 rfl) ?_
       refine o_q rfl rfl (q_sub64 rfl rfl) ?_
       refine o_q rfl rfl (q_asg rfl) ?_
       refine o_end ?_
       refine zam k787 (l1397, i1219, i1220, w64 (i784 - 1), A1399, c1400) (Nat.lt_succ_self _) h ⟨rfl, trivial⟩ (fun w h => za6 [2, 1, 3, 4, 5] (by decide) rfl w h) ?_
       repeat (first | exact zac _ _ | refine zaf rfl ?_ | refine zad rfl ?_ | refine zah rfl ?_)
      ·skip
       refine za9 8 rfl rfl rfl (by kernel_rfl) (fun _ _ _ h => h) (q_sub64 rfl rfl) ?_
       refine a_two 1 9 rfl rfl rfl rfl (by kernel_rfl) rfl rfl (ev_q rfl (q_ldb Y25 rfl (fun w h => h.zae (i := 3) rfl) rfl)) (fun s w h => za5 [none, none, some 2, none, some 4] (by decide) w h rfl) (e_lit (vs := [(0, .int .i64 (w64 (w64 (w64 (w64 (1 + i4) + (l14.length : Int)) - 1) - i1218)))]) (cs := [.int .i64 (w64 (w64 (w64 (w64 (1 + i4) + (l14.length : Int)) - 1) - i1218))]) (Kd.int .i64) ([w64 (w64 (w64 (w64 (1 + i4) + (l14.length : Int)) - 1) - i1218)] : List Int) Try.underlying25 I3 (by decide) rfl (by decide) rfl rfl (fun _ _ => Kd.zak _)) (fun s w h => za5 [none, none, some 3, none, some 5] (by decide) w h rfl) (fun _ => ?_) (cur2 (fun A1337 c1338 => ?_))
       ·skip
        refine a_one 9 rfl rfl (by kernel_rfl) rfl (e_lit (vs := [(0, .int .i64 (w64 (w64 (w64 (w64 (1 + i4) + (l14.length : Int)) - 1) - i1218)))]) (cs := [.int .i64 (w64 (w64 (w64 (w64 (1 + i4) + (l14.length : Int)) - 1) - i1218))]) (Kd.int .i64) ([w64 (w64 (w64 (w64 (1 + i4) + (l14.length : Int)) - 1) - i1218)] : List Int) Try.underlying25 I3 (by decide) rfl (by decide) rfl rfl (fun _ _ => Kd.zak _)) (fun s w h => za5 [none, none, some 3, none, some 5] (by decide) w h rfl) (cur2 (fun A1337 c1338 => ?_))
        refine a_one 10 rfl rfl (by kernel_rfl) rfl (e_app (i := 2) (j := 0) Try.underlying25 I3 rfl (by decide) (by decide) rfl rfl rfl rfl rfl ha1398) (fun s w h => za5 [none, none, some 3, none, some 5] (by decide) w h rfl) (cur2 (fun A1399 c1400 => ?_))
        refine za9 11 rfl rfl rfl (by kernel_rfl) (fun _ _ _ h => h) (q_f F27_2 rfl) ?_
        refine a_one 12 rfl rfl (by kernel_rfl) rfl (zay (i := 4) rfl rfl rfl rfl Z25 rfl rfl) (fun s w h => za5 [none, none, some 3, none, some 5] (by decide) w h rfl) (fun _ => ?_)
        refine zav (by kernel_rfl) ?_
        refine zal ?_
        refine za1 ?_
        refine za0 ?_
        refine o_q rfl rfl (za2 rfl) ?_
        refine o_q rfl rfl (q_sub64 rfl rfl) ?_
        refine o_q rfl rfl (q_asg rfl) ?_
        refine o_end ?_
        refine zam k787 (l1397, i1219, i1220, w64 (i784 - 1), A1399, c1400) (Nat.lt_succ_self _) h ⟨rfl, trivial⟩ (fun w h => za6 [2, 1, 3, 4, 5] (by decide) rfl w h) ?_
        repeat (first | exact zac _ _ | refine zaf rfl ?_ | refine zad rfl ?_ | refine zah rfl ?_)
       ·skip
        refine a_one 1 rfl rfl (by kernel_rfl) rfl (ev_q rfl (q_ldb Y25 rfl (fun w h => h.zae (i := 4) rfl) rfl)) (fun s w h => za5 [none, none, some 3, none, some 5] (by decide) w h rfl) (fun _ => ?_)
        refine a_one 10 rfl rfl (by kernel_rfl) rfl (e_app (i := 2) (j := 0) Try.underlying25 I3 rfl (by decide) (by decide) rfl rfl rfl rfl rfl ha1398) (fun s w h => za5 [none, none, some 3, none, some 5] (by decide) w h rfl) (cur2 (fun A1399 c1400 => ?_))
        refine za9 11 rfl rfl rfl (by kernel_rfl) (fun _ _ _ h => h) (q_f F27_2 rfl) ?_
        refine a_one 12 rfl rfl (by kernel_rfl) rfl (zay (i := 4) rfl rfl rfl rfl Z25 rfl rfl) (fun s w h => za5 [none, none, some 3, none, some 5] (by decide) w h rfl) (fun _ => ?_)
        refine zav (by kernel_rfl) ?_
        refine zal ?_
        refine za1 ?_
        refine za0 ?_
        refine o_q rfl rfl (za2 rfl) ?_
        refine o_q rfl rfl (q_sub64 rfl rfl) ?_
        refine o_q rfl rfl (q_asg rfl) ?_
        refine o_end ?_
        refine zam k787 (l1397, i1219, i1220, w64 (i784 - 1), A1399, c1400) (Nat.lt_succ_self _) h ⟨rfl, trivial⟩ (fun w h => za6 [2, 1, 3, 4, 5] (by decide) rfl w h) ?_
        repeat (first | exact zac _ _ | refine zaf rfl ?_ | refine zad rfl ?_ | refine zah rfl ?_)
    ·skip
     replace h := br_f hb795 h
     refine zb4 ?_
     refine za8 ?_
     refine za8 ?_
     have e_ := Option.some.inj h; replace h := hR790; rw [← e_] at h; clear e_
     refine x_hit ?_
     refine za1 ?_
     refine za7 h (fun o1647 hl1648 hR1649 => ?_) rfl
     clear h
     refine c_cutJ (σ := (List Int) × Int × Int × (Option Addr) × Nat) (fun (l1642, i1645, i1646, A1643, c1644) => some (l1642, i1645, i1646) = some o1647) [74, 75, 76] (fun (l1642, i1645, i1646, A1643, c1644) => []) (fun (l1642, i1645, i1646, A1643, c1644) => [box g1 27 #[.int .i64 0, .slice none 0 0, .slice none 0 0], box g7 27 #[.int .i64 (w64 (1 + i4)), .slice A15 l14.length c16, .slice A1643 l1642.length c1644], row kStep 88 (.slice A15 l14.length c16) l14, row (Kd.int .i64) 3 (.slice A1643 l1642.length c1644) l1642, box g0 67 #[.slice A0_0 l0_0.length c0_0, .int .i64 i1645, .int .u64 i1646]]) ?_ ?_
     ·skip
      have h := hl1648; clear hl1648
      clear hR1649
      refine c_seq ?_
      refine za0 ?_
      refine o_q rfl rfl (za2 rfl) ?_
      refine o_pick [1, 0, 2, 3, 4] (by decide) rfl ?_
      refine bindE3 h (fun b1653 i1654 i1655 hx1652 h => ?_) rfl
      refine o_e rfl (zab 1 Z Try.func102 N102 rfl rfl rfl (fun w P1 hF hB hS hT => spec_l1Cur_one.calls g0 A0_0 c0_0 l0_0.length l0_0 i782 i783 12 hB hF (hS _ R0_0) hc0_0 _ _ _ hx1652)) (fun _ => ?_)
      refine o_end ?_
      refine za1 ?_
      refine zau _ rfl (fun hb1656 => ?_) (fun hb1656 => ?_)
      ·skip
       replace h := bb_t hb1656 h
       refine za0 ?_
       refine o_q rfl rfl (q_f F27_2 rfl) ?_
       refine o_e rfl (zay (i := 3) rfl rfl rfl rfl Z25 rfl rfl) (fun _ => ?_)
       refine o_end ?_
       refine x_nil (Kd.int .i64) 3 ?_
       refine zas (([] : List Int), i1654, i1655, none, 0) h trivial (fun w h => za6 [5, 4, 3, 0, 1] (by decide) rfl w h) ?_
       repeat (first | exact zac _ _ | refine zaf rfl ?_ | refine zad rfl ?_ | refine zah rfl ?_)
      ·skip
       replace h := bb_f hb1656 h
       refine zao ?_
       refine zas (l779, i1654, i1655, A780, c781) h trivial (fun w h => za6 [4, 3, 2, 1, 0] (by decide) rfl w h) ?_
       repeat (first | exact zac _ _ | refine zaf rfl ?_ | refine zad rfl ?_ | refine zah rfl ?_)
     ·skip
      refine (cur5 (fun l1642 i1645 i1646 A1643 c1644 => fun U1650 hJ1651 => ?_))
      have e_ := Option.some.inj hJ1651; have h := hR1649; rw [← e_] at h; clear e_ hJ1651 hR1649 hl1648
      refine c_seq ?_
      refine za0 ?_
      refine o_q rfl rfl (q_ldB G27 Z27 rfl (fun w h => h.zae (i := 1) rfl) rfl) ?_
      refine o_e rfl (zan (i := 0) rfl rfl rfl Z27 rfl rfl) (fun _ => ?_)
      refine o_end ?_
      refine za1 ?_
      refine c_ret ?_
      have e0_ := Option.some.inj h; clear h
      have d0_ := (Prod.mk.inj e0_).1; have e1_ := (Prod.mk.inj e0_).2; clear e0_; subst d0_
      have d1_ := (Prod.mk.inj e1_).1; have e2_ := (Prod.mk.inj e1_).2; clear e1_; subst d1_
      have d2_ := (Prod.mk.inj e2_).1; have e3_ := (Prod.mk.inj e2_).2; clear e2_; subst d2_
      have d3_ := (Prod.mk.inj e3_).1; have e4_ := (Prod.mk.inj e3_).2; clear e3_; subst d3_
      subst e4_
      exact x_r1 (A15, c16, A1643, c1644) Try.results128 (rv_cell rfl G27 Z27 (fun w h => h.zae (i := 0) rfl) rfl) rfl (fun w h => za6 [2, 3, 4] (by decide) rfl w h)

/-! ### loop.example/g01098/spec.l1In: function 61 -/
def spec_l1In.f (a0 : Int) (a1 : Int) (a2 : Int) : Option Bool := if a1 ≤ a0 then (some (decide (a0 ≤ a2))) else (some false)
set_option maxHeartbeats 600000 in
set_option maxRecDepth 100000 in
theorem spec_l1In.calls {w0 ws : World} {P0 : Nat → Prop} (a0 : Int) (a1 : Int) (a2 : Int) (Z : Below w0.heap.size w0 ws) (hF : Fr w0 ws P0 [] ws)  (r_1 : Bool) (h : spec_l1In.f a0 a1 a2 = some r_1) :
  Calls Try.prog 61 #[.int .i64 a0, .int .i64 a1, .int .i64 a2] ws (Post1 w0 ws P0 (fun (_ : Unit) => .bool r_1) (fun (_ : Unit) => [])) := by
 unfold spec_l1In.f at h
 refine enter Try.func61 rfl Try.ntmps61 rfl hF ?_
 refine c_seq ?_
 refine za0 ?_
 refine o_q rfl rfl (q_asg rfl) ?_
 refine o_end ?_
 refine za1 ?_
 refine c_seq ?_
 refine za0 ?_
 refine o_q rfl rfl (za2 rfl) ?_
 refine o_q rfl rfl (za2 rfl) ?_
 refine o_q rfl rfl (q_geq rfl rfl) ?_
 refine o_q rfl rfl (za2 rfl) ?_
 refine byB (decide (a1 ≤ a0)) (fun hb1 => ?_) (fun hb1 => ?_)
 ·replace h := br_t hb1 h
  refine o_w (za4 rfl rfl rfl (congrArg Value.bool hb1)) rfl (za2 rfl) ?_
  refine o_w (za4 rfl rfl rfl (congrArg Value.bool hb1)) rfl (za2 rfl) ?_
  refine o_w (za4 rfl rfl rfl (congrArg Value.bool hb1)) rfl (q_leq rfl rfl) ?_
  refine o_q rfl rfl (zaq true (congrArg Value.bool hb1) rfl) ?_
  refine o_q rfl rfl (q_asg rfl) ?_
  refine o_end ?_
  refine za1 ?_
  refine c_ret ?_
  have e0_ := Option.some.inj h; clear h
  subst e0_
  exact x_r1 () Try.results61 (zai rfl) rfl (fun w h => za6 [] (by decide) rfl w h)
 ·replace h := br_f hb1 h
  refine @o_n _ _ _ _ _ _ _ _ _ _ _ 11 (za3 rfl rfl rfl (congrArg Value.bool hb1) rfl) (Eq.refl (some 11)) ?_
  refine @o_n _ _ _ _ _ _ _ _ _ _ _ 12 (za3 rfl rfl rfl (congrArg Value.bool hb1) rfl) (Eq.refl (some 12)) ?_
  refine @o_n _ _ _ _ _ _ _ _ _ _ _ 13 (za3 rfl rfl rfl (congrArg Value.bool hb1) rfl) (Eq.refl (some 13)) ?_
  refine o_q rfl rfl (zaq false (congrArg Value.bool hb1) rfl) ?_
  refine o_q rfl rfl (q_asg rfl) ?_
  refine o_end ?_
  refine za1 ?_
  refine c_ret ?_
  have e0_ := Option.some.inj h; clear h
  subst e0_
  exact x_r1 () Try.results61 (zai rfl) rfl (fun w h => za6 [] (by decide) rfl w h)

/-! ### loop.example/g01098/spec.plSum: function 175 -/
def spec_plSum.l0 (l1 : List Int) : (List Int) → (List Int) → Int → Option (List Int)
 | [], l3, i6 => some l3
 | y7 :: ys8, l3, i6 => (gt l1 i6).bind fun y20 => (spec_l1Least.f (w64 (y7 + y20)) 1000001).bind fun i22 => (ap l3 ([i22] : List Int)).bind fun l26 => spec_plSum.l0 l1 ys8 l26 (i6 + 1)
def spec_plSum.f (l0 : List Int) (l1 : List Int) : Option (List Int) := (spec_plSum.l0 l1 l0 ([] : List Int) 0).bind fun l3 => some l3
set_option maxHeartbeats 600000 in
set_option maxRecDepth 100000 in
theorem spec_plSum.calls {w0 ws : World} {P0 : Nat → Prop} (A0 : Option Addr) (c0 : Nat) (n0 : Nat) (l0 : List Int) (A1 : Option Addr) (c1 : Nat) (n1 : Nat) (l1 : List Int) (Z : Below w0.heap.size w0 ws) (hF : Fr w0 ws P0 [] ws) (R0 : Stable ws P0 (fun w => Kd.C (Kd.int .i64) w A0 n0 l0)) (hc0 : n0 ≤ c0) (R1 : Stable ws P0 (fun w => Kd.C (Kd.int .i64) w A1 n1 l1)) (hc1 : n1 ≤ c1) (r_1 : List Int) (h : spec_plSum.f l0 l1 = some r_1) :
  Calls Try.prog 175 #[.slice A0 n0 c0, .slice A1 n1 c1] ws (Post1 w0 ws P0 (fun ((q_2, q_3) : (Option Addr) × Nat) => .slice q_2 r_1.length q_3) (fun ((q_2, q_3) : (Option Addr) × Nat) => [row (Kd.int .i64) 3 (.slice q_2 r_1.length q_3) r_1])) := by
 unfold spec_plSum.f at h
 obtain rfl := (R0 ws (KeptB.refl _ _)).1
 obtain rfl := (R1 ws (KeptB.refl _ _)).1
 refine enter Try.func175 rfl Try.ntmps175 rfl hF ?_
 refine c_seq ?_
 refine za0 ?_
 refine o_q rfl rfl (q_asg rfl) ?_
 refine o_end ?_
 refine za1 ?_
 refine c_seq ?_
 refine za0 ?_
 refine o_q rfl rfl (q_asg rfl) ?_
 refine o_end ?_
 refine za1 ?_
 refine c_seq ?_
 refine c_seq ?_
 refine za0 ?_
 refine o_q rfl rfl (za2 rfl) ?_
 refine o_q rfl rfl (q_len Try.underlying25 rfl) ?_
 refine o_q rfl rfl (za2 rfl) ?_
 refine o_end ?_
 refine za1 ?_
 refine zaj ?_
 refine c_nil (Kd.int .i64) 3 ?_
 refine za7 h (fun o14 hl13 hR12 => ?_) rfl
 clear h
 refine zba (p := l0.length ≤ 9223372036854775807) (fun w h => (R0.now Z h).2.1) (fun hm11 => ?_)
 refine zax (σ := (List Int) × (List Int) × Int × (Option Addr) × Nat) (fun k9 ((ys8, l3, i6, A4, c5) : (List Int) × (List Int) × Int × (Option Addr) × Nat) => Rg l0 i6 ys8 ∧ ys8.length = k9 ∧ spec_plSum.l0 l1 ys8 l3 i6 = some o14) [5, 6, 9, 10, 11, 12, 13, 14, 15, 16, 17, 18, 19, 20, 21, 22, 23, 24, 25] (fun ((ys8, l3, i6, A4, c5) : (List Int) × (List Int) × Int × (Option Addr) × Nat) => [(5, .slice A4 l3.length c5), (9, .int .i64 i6)]) (fun ((ys8, l3, i6, A4, c5) : (List Int) × (List Int) × Int × (Option Addr) × Nat) => [row (Kd.int .i64) 3 (.slice A4 l3.length c5) l3]) l0.length (l0, ([] : List Int), 0, none, 0) ⟨Rg.start _, rfl, hl13⟩ ⟨rfl, rfl, trivial⟩ (fun w h => h) ?_
 refine fun k9 => cur5 (listC (fun l3 i6 A4 c5 U15 hJ_ => ?_) (fun y7 ys8 l3 i6 A4 c5 U15 hJ_ => ?_))
 ·skip
  clear hl13
  have hr10 := hJ_.1; have hk16 := hJ_.2.1; have h := hJ_.2.2; clear hJ_
  replace h : spec_plSum.l0 l1 [] l3 i6 = some o14 := h
  rw [spec_plSum.l0] at h
  refine c_seq ?_
  refine za0 ?_
  refine o_q rfl rfl (q_lss rfl rfl) ?_
  refine o_end ?_
  refine za1 ?_
  refine c_seq ?_
  refine zb3 (congrArg Value.bool hr10.ge) ?_
  refine zb4 ?_
  refine za8 ?_
  refine za8 ?_
  have e_ := Option.some.inj h; replace h := hR12; rw [← e_] at h; clear e_
  refine x_hit ?_
  refine za1 ?_
  refine c_seq ?_
  refine za0 ?_
  refine o_q rfl rfl (za2 rfl) ?_
  refine o_q rfl rfl (q_asg rfl) ?_
  refine o_end ?_
  refine za1 ?_
  refine c_ret ?_
  have e0_ := Option.some.inj h; clear h
  subst e0_
  exact x_r1 (A4, c5) Try.results175 (zai rfl) rfl (fun w h => za6 [0] (by decide) rfl w h)
 ·skip
  clear hl13
  have hr10 := hJ_.1; have hk16 := hJ_.2.1; have h := hJ_.2.2; clear hJ_
  replace h : spec_plSum.l0 l1 (y7 :: ys8) l3 i6 = some o14 := h
  rw [spec_plSum.l0] at h
  refine c_seq ?_
  refine za0 ?_
  refine o_q rfl rfl (q_lss rfl rfl) ?_
  refine o_end ?_
  refine za1 ?_
  refine c_seq ?_
  refine zb1 (congrArg Value.bool hr10.lt) ?_
  refine zao ?_
  refine za1 ?_
  refine c_seq ?_
  refine zaj ?_
  refine c_seq ?_
  refine za0 ?_
  refine o_q rfl rfl (za2 rfl) ?_
  refine o_q rfl rfl (q_asg rfl) ?_
  refine o_end ?_
  refine za1 ?_
  refine a_startS (ds := []) [none] MO rfl ?_
  refine za9 0 rfl rfl rfl (by kernel_rfl) (fun _ _ _ h => h) (za2 rfl) ?_
  refine za9 1 rfl rfl rfl (by kernel_rfl) (fun _ _ _ h => h) (za2 rfl) ?_
  refine za9 2 rfl rfl rfl (by kernel_rfl) (fun _ _ _ h => h) (za2 rfl) ?_
  refine a_fact (p := Sh A0 l0.length l0.length) (fun w h => f_sh (dk := (Kd.int .i64)) h (fun w h => R0.now Z h)) (fun hq17 => ?_)
  refine za9 3 rfl rfl rfl (by kernel_rfl) (fun _ _ _ h => h) (q_ix Try.underlying25 Z3 rfl rfl hq17 hr10.get) ?_
  refine zb0 4 rfl rfl rfl (by kernel_rfl) (fun _ _ _ h => h) (fun w h => za5 [none] (by decide) w h rfl) (q_lde (off := 0) Y3 rfl rfl (fun w h => R0.now Z h) hr10.get (fun _ _ h => h) rfl) ?_
  refine za9 5 rfl rfl rfl (by kernel_rfl) (fun _ _ _ h => h) (za2 rfl) ?_
  refine za9 6 rfl rfl rfl (by kernel_rfl) (fun _ _ _ h => h) (za2 rfl) ?_
  refine a_fact (p := Sh A1 l1.length l1.length) (fun w h => f_sh (dk := (Kd.int .i64)) h (fun w h => R1.now Z h)) (fun hq18 => ?_)
  refine za7 h (fun y20 hg19 h => ?_) rfl
  refine za9 7 rfl rfl rfl (by kernel_rfl) (fun _ _ _ h => h) (q_ix Try.underlying25 Z3 rfl rfl hq18 hg19) ?_
  refine zb0 8 rfl rfl rfl (by kernel_rfl) (fun _ _ _ h => h) (fun w h => za5 [none] (by decide) w h rfl) (q_lde (off := 0) Y3 rfl rfl (fun w h => R1.now Z h) hg19 (fun _ _ h => h) rfl) ?_
  refine za9 9 rfl rfl rfl (by kernel_rfl) (fun _ _ _ h => h) (zb8 rfl rfl) ?_
  refine za7 h (fun i22 hx21 h => ?_) rfl
  refine a_one 10 rfl rfl (by kernel_rfl) rfl (zab 0 Z Try.func172 N172 rfl rfl rfl (fun w P1 hF hB hS hT => spec_l1Least.calls (w64 (y7 + y20)) 1000001 hB hF _ hx21)) (fun s w h => za5 [none] (by decide) w h rfl) (fun _ => ?_)
  refine a_one 11 rfl rfl (by kernel_rfl) rfl (e_lit (vs := [(0, .int .i64 i22)]) (cs := [.int .i64 i22]) (Kd.int .i64) ([i22] : List Int) Try.underlying25 I3 (by decide) rfl (by decide) rfl rfl (fun _ _ => Kd.zak _)) (fun s w h => za5 [none] (by decide) w h rfl) (cur2 (fun A23 c24 => ?_))
  refine za7 h (fun l26 ha27 h => ?_) rfl
  refine a_one 12 rfl rfl (by kernel_rfl) rfl (e_app (i := 1) (j := 0) Try.underlying25 I3 rfl (by decide) (by decide) rfl rfl rfl rfl rfl ha27) (fun s w h => za5 [none] (by decide) w h rfl) (cur2 (fun A28 c29 => ?_))
  refine za9 13 rfl rfl rfl (by kernel_rfl) (fun _ _ _ h => h) (q_asg rfl) ?_
  refine zav (by kernel_rfl) ?_
  refine zal ?_
  refine za1 ?_
  refine za0 ?_
  refine o_q rfl rfl (q_up rfl rfl (hr10.up hm11)) ?_
  refine o_q rfl rfl (za2 rfl) ?_
  refine o_end ?_
  refine zam ys8.length (ys8, l26, i6 + 1, A28, c29) (by rw [← hk16]; exact Nat.lt_succ_self _) ⟨hr10.step, rfl, h⟩ ⟨rfl, rfl, trivial⟩ (fun w h => za6 [1] (by decide) rfl w h) ?_
  repeat (first | exact zac _ _ | refine zaf rfl ?_ | refine zad rfl ?_ | refine zah rfl ?_)

/-! ### loop.example/g01098/spec.plExponents: function 135 -/
def spec_plExponents.l1 : (List SStep) → (List (List Int)) → Int → Option (List (List Int))
 | [], l39, i43 => some l39
 | y44 :: ys45, l39, i43 => (gt l39 y44.f0).bind fun y300 => (gt l39 y44.f1).bind fun y599 => (spec_plSum.f y300 y599).bind fun l719 => (ap l39 ([l719] : List (List Int))).bind fun l838 => spec_plExponents.l1 ys45 l838 (i43 + 1)
def spec_plExponents.l0 (a0_0 : Int) : Nat → (List (List Int)) → Int → Option (List (List Int))
 | 0, _, _ => none
 | k11 + 1, l4, i8 => if i8 < a0_0 then ((mk0 a0_0 (0 : Int)).bind fun l20 => (gt l20 i8).bind fun y27 => (st l20 i8 1).bind fun l28 => (ap l4 ([l28] : List (List Int))).bind fun l34 => spec_plExponents.l0 a0_0 k11 l34 (w64 (i8 + 1))) else (some l4)
def spec_plExponents.f (k : Nat) (a0_0 : Int) (l0_1 : List SStep) (l0_2 : List Int) : Option (List (List Int)) := (spec_plExponents.l0 a0_0 k ([] : List (List Int)) 0).bind fun l4 => (spec_plExponents.l1 l0_1 l4 0).bind fun l39 => some l39
set_option maxHeartbeats 600000 in
set_option maxRecDepth 100000 in
theorem spec_plExponents.calls (k : Nat) {w0 ws : World} {P0 : Nat → Prop} (a0_0 : Int) (A0_1 : Option Addr) (c0_1 : Nat) (n0_1 : Nat) (l0_1 : List SStep) (A0_2 : Option Addr) (c0_2 : Nat) (n0_2 : Nat) (l0_2 : List Int) (Z : Below w0.heap.size w0 ws) (hF : Fr w0 ws P0 [] ws) (R0_1 : Stable ws P0 (fun w => Kd.C kStep w A0_1 n0_1 l0_1)) (hc0_1 : n0_1 ≤ c0_1) (R0_2 : Stable ws P0 (fun w => Kd.C (Kd.int .i64) w A0_2 n0_2 l0_2)) (hc0_2 : n0_2 ≤ c0_2) (r_1 : List (List Int)) (h : spec_plExponents.f k a0_0 l0_1 l0_2 = some r_1) :
  Calls Try.prog 135 #[.agg #[.int .i64 a0_0, .slice A0_1 n0_1 c0_1, .slice A0_2 n0_2 c0_2]] ws (Post1 w0 ws P0 (fun ((q_2, q_3, q_4) : (Option Addr) × Nat × Hd) => .slice q_2 r_1.length q_3) (fun ((q_2, q_3, q_4) : (Option Addr) × Nat × Hd) => [row (gk 3 (Kd.int .i64)) 25 (.slice q_2 r_1.length q_3) (zp q_4 r_1)])) := by
 unfold spec_plExponents.f at h
 obtain rfl := (R0_1 ws (KeptB.refl _ _)).1
 obtain rfl := (R0_2 ws (KeptB.refl _ _)).1
 refine enter Try.func135 rfl Try.ntmps135 rfl hF ?_
 refine c_seq ?_
 refine za0 ?_
 refine o_e rfl (e_box rfl) (fun g1 => ?_)
 refine o_q rfl rfl (q_asg rfl) ?_
 refine o_end ?_
 refine za1 ?_
 refine c_seq ?_
 refine za0 ?_
 refine o_q rfl rfl (q_asg rfl) ?_
 refine o_end ?_
 refine za1 ?_
 refine c_seq ?_
 refine c_seq ?_
 refine za0 ?_
 refine o_q rfl rfl (q_asg rfl) ?_
 refine o_end ?_
 refine za1 ?_
 refine zaj ?_
 refine c_nil (gk 3 (Kd.int .i64)) 25 ?_
 refine za7 h (fun o16 hl15 hR14 => ?_) rfl
 clear h
 refine zax (σ := (List (List Int)) × Int × (Option Addr) × Nat × Hd) (fun k11 ((l4, i8, A5, c6, H7) : (List (List Int)) × Int × (Option Addr) × Nat × Hd) => spec_plExponents.l0 a0_0 k11 l4 i8 = some o16) [3, 4, 5, 8, 9, 10, 11, 12, 13, 14, 15, 16, 17, 18, 19, 20, 21, 22, 23] (fun ((l4, i8, A5, c6, H7) : (List (List Int)) × Int × (Option Addr) × Nat × Hd) => [(3, .slice A5 l4.length c6), (4, .int .i64 i8)]) (fun ((l4, i8, A5, c6, H7) : (List (List Int)) × Int × (Option Addr) × Nat × Hd) => [row (gk 3 (Kd.int .i64)) 25 (.slice A5 l4.length c6) (zp H7 l4), box g1 27 #[.int .i64 a0_0, .slice A0_1 l0_1.length c0_1, .slice A0_2 l0_2.length c0_2]]) k (([] : List (List Int)), 0, none, 0, ([] : Hd)) hl15 ⟨rfl, rfl, trivial⟩ (fun w h => h) ?_
 refine natC (cur5 (fun l4 i8 A5 c6 H7 => fun U17 hJ_ => ?_)) (fun k11 => (cur5 (fun l4 i8 A5 c6 H7 => fun U17 hJ_ => ?_)))
 ·skip
  replace hJ_ : spec_plExponents.l0 a0_0 0 l4 i8 = some o16 := hJ_
  rw [spec_plExponents.l0] at hJ_
  exact noneE hJ_
 ·skip
  clear hl15
  have h := hJ_; clear hJ_
  replace h : spec_plExponents.l0 a0_0 (k11 + 1) l4 i8 = some o16 := h
  rw [spec_plExponents.l0] at h
  refine c_seq ?_
  refine c_seq ?_
  refine za0 ?_
  refine o_q rfl rfl (za2 rfl) ?_
  refine o_q rfl rfl (q_f F27_0 rfl) ?_
  refine o_q rfl rfl (q_ldb Y3 rfl (fun w h => h.zae (i := 1) rfl) rfl) ?_
  refine o_q rfl rfl (q_lss rfl rfl) ?_
  refine o_end ?_
  refine za1 ?_
  refine zau _ rfl (fun hb19 => ?_) (fun hb19 => ?_)
  ·skip
   replace h := br_t hb19 h
   refine zao ?_
   refine za1 ?_
   refine c_seq ?_
   refine zaj ?_
   refine c_seq ?_
   refine za0 ?_
   refine o_q rfl rfl (q_f F27_0 rfl) ?_
   refine o_q rfl rfl (q_ldb Y3 rfl (fun w h => h.zae (i := 1) rfl) rfl) ?_
   refine za7 h (fun l20 hm21 h => ?_) rfl
   refine o_e rfl (e_make (Kd.int .i64) (0 : Int) Try.underlying25 I3 rfl (by decide) (by decide) (fun _ _ => rfl) rfl rfl hm21) (cur2 (fun A22 c23 => ?_))
   refine o_q rfl rfl (q_asg rfl) ?_
   refine o_end ?_
   refine za1 ?_
   refine c_seq ?_
   refine za0 ?_
   refine o_q rfl rfl (za2 rfl) ?_
   refine o_q rfl rfl (za2 rfl) ?_
   refine zaz (p := Sh A22 l20.length l20.length) (fun w h => f_sh (dk := (Kd.int .i64)) h (fun w h => h.zaw (i := 0) rfl)) (fun hq25 => ?_)
   refine za7 h (fun y27 hg26 h => ?_) rfl
   refine o_q rfl rfl (q_ix Try.underlying25 Z3 rfl rfl hq25 hg26) ?_
   refine za7 h (fun l28 hs29 h => ?_) rfl
   refine o_e rfl (e_set (i := 0) rfl rfl rfl Z3 hs29) (fun _ => ?_)
   refine o_end ?_
   refine za1 ?_
   refine za0 ?_
   refine o_q rfl rfl (za2 rfl) ?_
   refine o_q rfl rfl (za2 rfl) ?_
   refine o_e rfl (e_litG (j := 0) (ue := 3) (dk := (Kd.int .i64)) (ys := l28) Try.underlying73 I25 rfl rfl rfl) (cur3 (fun A30 c31 H33 => ?_))
   refine za7 h (fun l34 ha35 h => ?_) rfl
   refine o_e rfl (e_appG (i := 2) (j := 0) Try.underlying73 I25 rfl (by decide) rfl rfl rfl rfl rfl ha35) (cur3 (fun A36 c37 H38 => ?_))
   refine o_q rfl rfl (q_asg rfl) ?_
   refine o_end ?_
   refine zal ?_
   refine za1 ?_
   refine za0 ?_
   refine o_q rfl rfl (za2 rfl) ?_
   refine o_q rfl rfl (zb8 rfl rfl) ?_
   refine o_q rfl rfl (q_asg rfl) ?_
   refine o_end ?_
   refine zam k11 (l34, w64 (i8 + 1), A36, c37, H38) (Nat.lt_succ_self _) h ⟨rfl, rfl, trivial⟩ (fun w h => za6 [2, 3] (by decide) rfl w h) ?_
   repeat (first | exact zac _ _ | refine zaf rfl ?_ | refine zad rfl ?_ | refine zah rfl ?_)
  ·skip
   replace h := br_f hb19 h
   refine zb4 ?_
   refine za8 ?_
   refine za8 ?_
   have e_ := Option.some.inj h; replace h := hR14; rw [← e_] at h; clear e_
   refine x_hit ?_
   refine za1 ?_
   refine c_seq ?_
   refine c_seq ?_
   refine za0 ?_
   refine o_q rfl rfl (q_f F27_1 rfl) ?_
   refine o_q rfl rfl (q_ldb Y24 rfl (fun w h => h.zae (i := 1) rfl) rfl) ?_
   refine o_q rfl rfl (q_len Try.underlying24 rfl) ?_
   refine o_q rfl rfl (za2 rfl) ?_
   refine o_end ?_
   refine za1 ?_
   refine zaj ?_
   refine za7 h (fun o51 hl50 hR49 => ?_) rfl
   clear h
   refine zba (p := l0_1.length ≤ 9223372036854775807) (fun w h => (R0_1.now Z h).2.1) (fun hm48 => ?_)
   refine zax (σ := (List SStep) × (List (List Int)) × Int × (Option Addr) × Nat × Hd) (fun k46 ((ys45, l39, i43, A40, c41, H42) : (List SStep) × (List (List Int)) × Int × (Option Addr) × Nat × Hd) => Rg l0_1 i43 ys45 ∧ ys45.length = k46 ∧ spec_plExponents.l1 ys45 l39 i43 = some o51) [3, 7, 27, 28, 29, 30, 31, 32, 33, 34, 35, 36, 37, 38, 39, 40, 41, 42, 43, 44, 45] (fun ((ys45, l39, i43, A40, c41, H42) : (List SStep) × (List (List Int)) × Int × (Option Addr) × Nat × Hd) => [(3, .slice A40 l39.length c41), (27, .int .i64 i43)]) (fun ((ys45, l39, i43, A40, c41, H42) : (List SStep) × (List (List Int)) × Int × (Option Addr) × Nat × Hd) => [row (gk 3 (Kd.int .i64)) 25 (.slice A40 l39.length c41) (zp H42 l39), box g1 27 #[.int .i64 a0_0, .slice A0_1 l0_1.length c0_1, .slice A0_2 l0_2.length c0_2]]) l0_1.length (l0_1, l4, 0, A5, c6, H7) ⟨Rg.start _, rfl, hl50⟩ ⟨rfl, rfl, trivial⟩ (fun w h => h) ?_
   refine fun k46 => cur6 (listC (fun l39 i43 A40 c41 H42 U52 hJ_ => ?_) (fun y44 ys45 l39 i43 A40 c41 H42 U52 hJ_ => ?_))
   ·skip
    clear hl50
    have hr47 := hJ_.1; have hk53 := hJ_.2.1; have h := hJ_.2.2; clear hJ_
    replace h : spec_plExponents.l1 [] l39 i43 = some o51 := h
    rw [spec_plExponents.l1] at h
    refine c_seq ?_
    refine za0 ?_
    refine o_q rfl rfl (q_lss rfl rfl) ?_
    refine o_end ?_
    refine za1 ?_
    refine c_seq ?_
    refine zb3 (congrArg Value.bool hr47.ge) ?_
    refine zb4 ?_
    refine za8 ?_
    refine za8 ?_
    have e_ := Option.some.inj h; replace h := hR49; rw [← e_] at h; clear e_
    refine x_hit ?_
    refine za1 ?_
    refine c_seq ?_
    refine za0 ?_
    refine o_q rfl rfl (za2 rfl) ?_
    refine o_q rfl rfl (q_asg rfl) ?_
    refine o_end ?_
    refine za1 ?_
    refine c_ret ?_
    have e0_ := Option.some.inj h; clear h
    subst e0_
    exact x_r1 (A40, c41, H42) Try.results135 (zai rfl) rfl (fun w h => za6 [0] (by decide) rfl w h)
   ·skip
    clear hl50
    have hr47 := hJ_.1; have hk53 := hJ_.2.1; have h := hJ_.2.2; clear hJ_
    replace h : spec_plExponents.l1 (y44 :: ys45) l39 i43 = some o51 := h
    rw [spec_plExponents.l1] at h
    refine c_seq ?_
    refine za0 ?_
    refine o_q rfl rfl (q_lss rfl rfl) ?_
    refine o_end ?_
    refine za1 ?_
    refine c_seq ?_
    refine zb1 (congrArg Value.bool hr47.lt) ?_
    refine zao ?_
    refine za1 ?_
    refine c_seq ?_
    refine zaj ?_
    refine c_seq ?_
    refine za0 ?_
    refine zaz (p := Sh A0_1 l0_1.length l0_1.length) (fun w h => f_sh (dk := kStep) h (fun w h => R0_1.now Z h)) (fun hq54 => ?_)
    refine o_q rfl rfl (q_ix Try.underlying24 Z88 rfl rfl hq54 hr47.get) ?_
    refine o_q rfl rfl (q_ldE G88 Z88 rfl rfl (fun w h => R0_1.now Z h) hr47.get (fun _ _ h => h) rfl) ?_
    refine o_e rfl (zat V88 rfl) (fun g55 => ?_)
    refine o_e rfl (zan (i := 0) rfl rfl rfl Z88 rfl rfl) (fun _ => ?_)
    refine o_end ?_
    refine za1 ?_
    refine za7 h (fun y300 hg299 h => ?_) rfl
    refine za7 h (fun y599 hg598 h => ?_) rfl
    refine za7 h (fun l719 hx718 h => ?_) rfl
    refine za7 h (fun l838 ha839 h => ?_) rfl
    refine a_startS (ds := []) [some 0, none, some 2] MO rfl ?_
    refine za9 0 rfl rfl rfl (by kernel_rfl) (fun _ _ _ h => h) (za2 rfl) ?_
    refine za9 1 rfl rfl rfl (by kernel_rfl) (fun _ _ _ h => h) (za2 rfl) ?_
    refine za9 2 rfl rfl rfl (by kernel_rfl) (fun _ _ _ h => h) (q_f F88_0 rfl) ?_
    refine zb0 3 rfl rfl rfl (by kernel_rfl) (fun _ _ _ h => h) (fun w h => za5 [some 0, none, some 2] (by decide) w h rfl) (q_ldb Y3 rfl (fun w h => h.zae (i := 0) rfl) rfl) ?_
    refine a_fact (p := Sh A40 l39.length (zp H42 l39).length) (fun w h => f_sh (dk := (gk 3 (Kd.int .i64))) h (fun w h => h.zaw (i := 1) rfl)) (fun hq298 => ?_)
    refine za9 4 rfl rfl rfl (by kernel_rfl) (fun _ _ _ h => h) (q_ix Try.underlying73 Z25 rfl rfl hq298 (gt_zp hg299)) ?_
    refine za9 6 rfl rfl rfl (by kernel_rfl) (fun _ _ _ h => h) (za2 rfl) ?_
    refine za9 7 rfl rfl rfl (by kernel_rfl) (fun _ _ _ h => h) (q_f F88_1 rfl) ?_
    refine zb0 8 rfl rfl rfl (by kernel_rfl) (fun _ _ _ h => h) (fun w h => za5 [some 0, none, some 2] (by decide) w h rfl) (q_ldb Y3 rfl (fun w h => h.zae (i := 0) rfl) rfl) ?_
    refine za9 9 rfl rfl rfl (by kernel_rfl) (fun _ _ _ h => h) (q_ix Try.underlying73 Z25 rfl rfl hq298 (gt_zp hg598)) ?_
    refine a_fact (p := y300.length ≤ hC H42 y44.f0) (fun w h => (K_in (h.zaw (i := 1) rfl) hg299).1) (fun hc358 => ?_)
    refine a_fact (p := y599.length ≤ hC H42 y44.f1) (fun w h => (K_in (h.zaw (i := 1) rfl) hg598).1) (fun hc658 => ?_)
    refine a_two 5 10 rfl rfl rfl rfl (by kernel_rfl) rfl rfl (ev_q rfl (q_lde (off := 0) Y25 rfl rfl (fun w h => h.zaw (i := 1) rfl) (gt_zp hg299) (fun _ _ h => h.1) rfl)) (fun s w h => za5 [some 0, none, some 2] (by decide) w h rfl) (ev_q rfl (q_lde (off := 0) Y25 rfl rfl (fun w h => h.zaw (i := 1) rfl) (gt_zp hg598) (fun _ _ h => h.1) rfl)) (fun s w h => za5 [some 0, none, some 2] (by decide) w h rfl) (fun _ => ?_) (fun _ => ?_)
    ·skip
     refine a_fact (p := y599.length ≤ hC H42 y44.f1) (fun w h => (K_in (h.zaw (i := 1) rfl) hg598).1) (fun hc658 => ?_)
     refine a_one 10 rfl rfl (by kernel_rfl) rfl (ev_q rfl (q_lde (off := 0) Y25 rfl rfl (fun w h => h.zaw (i := 1) rfl) (gt_zp hg598) (fun _ _ h => h.1) rfl)) (fun s w h => za5 [some 0, none, some 2] (by decide) w h rfl) (fun _ => ?_)
     refine a_one 11 rfl rfl (by kernel_rfl) rfl (zab 0 Z Try.func175 N175 rfl rfl rfl (fun w P1 hF hB hS hT => spec_plSum.calls (hA H42 y44.f0) (hC H42 y44.f0) y300.length y300 (hA H42 y44.f1) (hC H42 y44.f1) y599.length y599 hB hF (stab_in (hT 1 _ rfl).row hg299) hc358 (stab_in (hT 1 _ rfl).row hg598) hc658 _ hx718)) (fun s w h => za5 [some 1, none, some 3] (by decide) w h rfl) (cur2 (fun A720 c721 => ?_))
     refine a_one 12 rfl rfl (by kernel_rfl) rfl (e_litG (j := 0) (ue := 3) (dk := (Kd.int .i64)) (ys := l719) Try.underlying73 I25 rfl rfl rfl) (fun s w h => za5 [some 2, none, some 4] (by decide) w h rfl) (cur3 (fun A778 c779 H781 => ?_))
     refine a_one 13 rfl rfl (by kernel_rfl) rfl (e_appG (i := 3) (j := 0) Try.underlying73 I25 rfl (by decide) rfl rfl rfl rfl rfl ha839) (fun s w h => za5 [some 2, none, some 4] (by decide) w h rfl) (cur3 (fun A840 c841 H842 => ?_))
     refine za9 14 rfl rfl rfl (by kernel_rfl) (fun _ _ _ h => h) (q_asg rfl) ?_
     refine zav (by kernel_rfl) ?_
     refine zal ?_
     refine za1 ?_
     refine za0 ?_
     refine o_q rfl rfl (q_up rfl rfl (hr47.up hm48)) ?_
     refine o_q rfl rfl (za2 rfl) ?_
     refine o_end ?_
     refine zam ys45.length (ys45, l838, i43 + 1, A840, c841, H842) (by rw [← hk53]; exact Nat.lt_succ_self _) ⟨hr47.step, rfl, h⟩ ⟨rfl, rfl, trivial⟩ (fun w h => za6 [3, 4] (by decide) rfl w h) ?_
     repeat (first | exact zac _ _ | refine zaf rfl ?_ | refine zad rfl ?_ | refine zah rfl ?_)
    ·skip
     refine a_fact (p := y300.length ≤ hC H42 y44.f0) (fun w h => (K_in (h.zaw (i := 1) rfl) hg299).1) (fun hc358 => ?_)
     refine a_one 5 rfl rfl (by kernel_rfl) rfl (ev_q rfl (q_lde (off := 0) Y25 rfl rfl (fun w h => h.zaw (i := 1) rfl) (gt_zp hg299) (fun _ _ h => h.1) rfl)) (fun s w h => za5 [some 0, none, some 2] (by decide) w h rfl) (fun _ => ?_)
     refine a_one 11 rfl rfl (by kernel_rfl) rfl (zab 0 Z Try.func175 N175 rfl rfl rfl (fun w P1 hF hB hS hT => spec_plSum.calls (hA H42 y44.f0) (hC H42 y44.f0) y300.length y300 (hA H42 y44.f1) (hC H42 y44.f1) y599.length y599 hB hF (stab_in (hT 1 _ rfl).row hg299) hc358 (stab_in (hT 1 _ rfl).row hg598) hc658 _ hx718)) (fun s w h => za5 [some 1, none, some 3] (by decide) w h rfl) (cur2 (fun A720 c721 => ?_))
     refine a_one 12 rfl rfl (by kernel_rfl) rfl (e_litG (j := 0) (ue := 3) (dk := (Kd.int .i64)) (ys := l719) Try.underlying73 I25 rfl rfl rfl) (fun s w h => za5 [some 2, none, some 4] (by decide) w h rfl) (cur3 (fun A778 c779 H781 => ?_))
     refine a_one 13 rfl rfl (by kernel_rfl) rfl (e_appG (i := 3) (j := 0) Try.underlying73 I25 rfl (by decide) rfl rfl rfl rfl rfl ha839) (fun s w h => za5 [some 2, none, some 4] (by decide) w h rfl) (cur3 (fun A840 c841 H842 => ?_))
     refine za9 14 rfl rfl rfl (by kernel_rfl) (fun _ _ _ h => h) (q_asg rfl) ?_
     refine zav (by kernel_rfl) ?_
     refine zal ?_
     refine za1 ?_
     refine za0 ?_
     refine o_q rfl rfl (q_up rfl rfl (hr47.up hm48)) ?_
     refine o_q rfl rfl (za2 rfl) ?_
     refine o_end ?_
     refine zam ys45.length (ys45, l838, i43 + 1, A840, c841, H842) (by rw [← hk53]; exact Nat.lt_succ_self _) ⟨hr47.step, rfl, h⟩ ⟨rfl, rfl, trivial⟩ (fun w h => za6 [3, 4] (by decide) rfl w h) ?_
     repeat (first | exact zac _ _ | refine zaf rfl ?_ | refine zad rfl ?_ | refine zah rfl ?_)

/-! ### loop.example/g01098/spec.l1All: function 99 -/
def spec_l1All.l0 (a1 : Int) (a2 : Int) : (List Int) → Int → Option ((Bool) ⊕ (Unit))
 | [], i1 => some (.inr ())
 | y2 :: ys3, i1 => (spec_l1In.f y2 a1 a2).bind fun b14 => if b14 = true then (spec_l1All.l0 a1 a2 ys3 (i1 + 1)) else (some (.inl false))
def spec_l1All.f (l0 : List Int) (a1 : Int) (a2 : Int) : Option Bool := (spec_l1All.l0 a1 a2 l0 0).bind fun o_ => match o_ with | .inl r_ => some r_ | .inr _ => some true
set_option maxHeartbeats 600000 in
set_option maxRecDepth 100000 in
theorem spec_l1All.calls {w0 ws : World} {P0 : Nat → Prop} (A0 : Option Addr) (c0 : Nat) (n0 : Nat) (l0 : List Int) (a1 : Int) (a2 : Int) (Z : Below w0.heap.size w0 ws) (hF : Fr w0 ws P0 [] ws) (R0 : Stable ws P0 (fun w => Kd.C (Kd.int .i64) w A0 n0 l0)) (hc0 : n0 ≤ c0) (r_1 : Bool) (h : spec_l1All.f l0 a1 a2 = some r_1) :
  Calls Try.prog 99 #[.slice A0 n0 c0, .int .i64 a1, .int .i64 a2] ws (Post1 w0 ws P0 (fun (_ : Unit) => .bool r_1) (fun (_ : Unit) => [])) := by
 unfold spec_l1All.f at h
 obtain rfl := (R0 ws (KeptB.refl _ _)).1
 refine enter Try.func99 rfl Try.ntmps99 rfl hF ?_
 refine c_seq ?_
 refine za0 ?_
 refine o_q rfl rfl (q_asg rfl) ?_
 refine o_end ?_
 refine za1 ?_
 refine c_seq ?_
 refine c_seq ?_
 refine za0 ?_
 refine o_q rfl rfl (za2 rfl) ?_
 refine o_q rfl rfl (q_len Try.underlying25 rfl) ?_
 refine o_q rfl rfl (za2 rfl) ?_
 refine o_end ?_
 refine za1 ?_
 refine zaj ?_
 refine za7 h (fun o9 hl8 hR7 => ?_) rfl
 clear h
 refine zba (p := l0.length ≤ 9223372036854775807) (fun w h => (R0.now Z h).2.1) (fun hm6 => ?_)
 refine zax (σ := (List Int) × Int) (fun k4 ((ys3, i1) : (List Int) × Int) => Rg l0 i1 ys3 ∧ ys3.length = k4 ∧ spec_l1All.l0 a1 a2 ys3 i1 = some o9) [6, 8, 11, 12, 13, 14, 15, 16, 17, 18, 19, 20] (fun ((ys3, i1) : (List Int) × Int) => [(11, .int .i64 i1)]) (fun ((ys3, i1) : (List Int) × Int) => []) l0.length (l0, 0) ⟨Rg.start _, rfl, hl8⟩ ⟨rfl, trivial⟩ (fun w h => h) ?_
 refine fun k4 => cur2 (listC (fun i1 U10 hJ_ => ?_) (fun y2 ys3 i1 U10 hJ_ => ?_))
 ·skip
  clear hl8
  have hr5 := hJ_.1; have hk11 := hJ_.2.1; have h := hJ_.2.2; clear hJ_
  replace h : spec_l1All.l0 a1 a2 [] i1 = some o9 := h
  rw [spec_l1All.l0] at h
  refine c_seq ?_
  refine za0 ?_
  refine o_q rfl rfl (q_lss rfl rfl) ?_
  refine o_end ?_
  refine za1 ?_
  refine c_seq ?_
  refine zb3 (congrArg Value.bool hr5.ge) ?_
  refine zb4 ?_
  refine za8 ?_
  refine za8 ?_
  have e_ := Option.some.inj h; replace h := hR7; rw [← e_] at h; clear e_
  refine x_hit ?_
  refine za1 ?_
  refine c_seq ?_
  refine za0 ?_
  refine o_q rfl rfl (q_asg rfl) ?_
  refine o_end ?_
  refine za1 ?_
  refine c_ret ?_
  have e0_ := Option.some.inj h; clear h
  subst e0_
  exact x_r1 () Try.results99 (zai rfl) rfl (fun w h => za6 [] (by decide) rfl w h)
 ·skip
  clear hl8
  have hr5 := hJ_.1; have hk11 := hJ_.2.1; have h := hJ_.2.2; clear hJ_
  replace h : spec_l1All.l0 a1 a2 (y2 :: ys3) i1 = some o9 := h
  rw [spec_l1All.l0] at h
  refine c_seq ?_
  refine za0 ?_
  refine o_q rfl rfl (q_lss rfl rfl) ?_
  refine o_end ?_
  refine za1 ?_
  refine c_seq ?_
  refine zb1 (congrArg Value.bool hr5.lt) ?_
  refine zao ?_
  refine za1 ?_
  refine c_seq ?_
  refine zaj ?_
  refine c_seq ?_
  refine za0 ?_
  refine zaz (p := Sh A0 l0.length l0.length) (fun w h => f_sh (dk := (Kd.int .i64)) h (fun w h => R0.now Z h)) (fun hq12 => ?_)
  refine o_q rfl rfl (q_ix Try.underlying25 Z3 rfl rfl hq12 hr5.get) ?_
  refine o_q rfl rfl (q_lde (off := 0) Y3 rfl rfl (fun w h => R0.now Z h) hr5.get (fun _ _ h => h) rfl) ?_
  refine o_q rfl rfl (q_asg rfl) ?_
  refine o_end ?_
  refine za1 ?_
  refine c_seq ?_
  refine za0 ?_
  refine o_q rfl rfl (za2 rfl) ?_
  refine o_q rfl rfl (za2 rfl) ?_
  refine o_q rfl rfl (za2 rfl) ?_
  refine za7 h (fun b14 hx13 h => ?_) rfl
  refine o_e rfl (zab 0 Z Try.func61 N61 rfl rfl rfl (fun w P1 hF hB hS hT => spec_l1In.calls y2 a1 a2 hB hF _ hx13)) (fun _ => ?_)
  refine o_q rfl rfl (q_not rfl) ?_
  refine o_end ?_
  refine za1 ?_
  refine zau _ rfl (fun hb15 => ?_) (fun hb15 => ?_)
  ·replace hb15 := nt_t hb15
   replace h := bb_f hb15 h
   refine c_seq ?_
   refine za0 ?_
   refine o_q rfl rfl (q_asg rfl) ?_
   refine o_end ?_
   refine za1 ?_
   refine c_ret ?_
   refine zar ?_
   refine zaa ?_
   refine zaa ?_
   have e_ := Option.some.inj h; replace h := hR7; rw [← e_] at h; clear e_
   refine zar ?_
   refine zaa ?_
   have e0_ := Option.some.inj h; clear h
   subst e0_
   exact x_r1 () Try.results99 (zai rfl) rfl (fun w h => za6 [] (by decide) rfl w h)
  ·replace hb15 := nt_f hb15
   replace h := bb_t hb15 h
   refine zao ?_
   refine zal ?_
   refine za1 ?_
   refine za0 ?_
   refine o_q rfl rfl (q_up rfl rfl (hr5.up hm6)) ?_
   refine o_q rfl rfl (za2 rfl) ?_
   refine o_end ?_
   refine zam ys3.length (ys3, i1 + 1) (by rw [← hk11]; exact Nat.lt_succ_self _) ⟨hr5.step, rfl, h⟩ ⟨rfl, trivial⟩ (fun w h => za6 [] (by decide) rfl w h) ?_
   repeat (first | exact zac _ _ | refine zaf rfl ?_ | refine zad rfl ?_ | refine zah rfl ?_)

/-! ### loop.example/g01098/spec.plGood: function 70 -/
def spec_plGood.l1 : (List (List Int)) → Int → Option ((Bool) ⊕ (Unit))
 | [], i24 => some (.inr ())
 | y25 :: ys26, i24 => (spec_l1All.f y25 0 1000000).bind fun b40 => if b40 = true then (spec_plGood.l1 ys26 (i24 + 1)) else (some (.inl false))
def spec_plGood.l0 (a0_0 : Int) : (List SStep) → Int → Option ((Bool) ⊕ (Unit))
 | [], i8 => some (.inr ())
 | y9 :: ys10, i8 => (spec_l1In.f y9.f0 0 y9.f1).bind fun b46 => if b46 = true then (if w64 (a0_0 + i8) ≤ y9.f1 then (some (.inl false)) else (spec_plGood.l0 a0_0 ys10 (i8 + 1))) else (some (.inl false))
def spec_plGood.f (k : Nat) (a0_0 : Int) (l0_1 : List SStep) (l0_2 : List Int) : Option Bool := (spec_l1In.f a0_0 1 6).bind fun b4 => if b4 = true then (if 40 < (l0_1.length : Int) then (some false) else (if 6 < (l0_2.length : Int) then (some false) else ((spec_plGood.l0 a0_0 l0_1 0).bind fun o_ => match o_ with | .inl r_ => some r_ | .inr _ => (spec_plExponents.f k a0_0 l0_1 l0_2).bind fun l20 => (spec_plGood.l1 l20 0).bind fun o_ => match o_ with | .inl r_ => some r_ | .inr _ => (spec_l1All.f l0_2 0 (w64 (w64 (a0_0 + (l0_1.length : Int)) - 1))).bind fun b36 => some b36))) else (some false)
set_option maxHeartbeats 600000 in
set_option maxRecDepth 100000 in
theorem spec_plGood.calls (k : Nat) {w0 ws : World} {P0 : Nat → Prop} (a0_0 : Int) (A0_1 : Option Addr) (c0_1 : Nat) (n0_1 : Nat) (l0_1 : List SStep) (A0_2 : Option Addr) (c0_2 : Nat) (n0_2 : Nat) (l0_2 : List Int) (Z : Below w0.heap.size w0 ws) (hF : Fr w0 ws P0 [] ws) (R0_1 : Stable ws P0 (fun w => Kd.C kStep w A0_1 n0_1 l0_1)) (hc0_1 : n0_1 ≤ c0_1) (R0_2 : Stable ws P0 (fun w => Kd.C (Kd.int .i64) w A0_2 n0_2 l0_2)) (hc0_2 : n0_2 ≤ c0_2) (r_1 : Bool) (h : spec_plGood.f k a0_0 l0_1 l0_2 = some r_1) :
  Calls Try.prog 70 #[.agg #[.int .i64 a0_0, .slice A0_1 n0_1 c0_1, .slice A0_2 n0_2 c0_2]] ws (Post1 w0 ws P0 (fun (_ : Unit) => .bool r_1) (fun (_ : Unit) => [])) := by
 unfold spec_plGood.f at h
 obtain rfl := (R0_1 ws (KeptB.refl _ _)).1
 obtain rfl := (R0_2 ws (KeptB.refl _ _)).1
 refine enter Try.func70 rfl Try.ntmps70 rfl hF ?_
 refine c_seq ?_
 refine za0 ?_
 refine o_e rfl (e_box rfl) (fun g1 => ?_)
 refine o_q rfl rfl (q_asg rfl) ?_
 refine o_end ?_
 refine za1 ?_
 refine c_seq ?_
 refine c_seq ?_
 refine za0 ?_
 refine o_q rfl rfl (q_f F27_0 rfl) ?_
 refine o_q rfl rfl (q_ldb Y3 rfl (fun w h => h.zae (i := 0) rfl) rfl) ?_
 refine za7 h (fun b4 hx3 h => ?_) rfl
 refine o_e rfl (zab 0 Z Try.func61 N61 rfl rfl rfl (fun w P1 hF hB hS hT => spec_l1In.calls a0_0 1 6 hB hF _ hx3)) (fun _ => ?_)
 refine o_q rfl rfl (q_not rfl) ?_
 refine o_q rfl rfl (za2 rfl) ?_
 refine byB b4 (fun hb5 => ?_) (fun hb5 => ?_)
 ·replace h := bb_t hb5 h
  refine o_w (za4 rfl rfl rfl (congrArg (fun b => Value.bool (!(b))) hb5)) rfl (q_f F27_1 rfl) ?_
  refine o_w (za4 rfl rfl rfl (congrArg (fun b => Value.bool (!(b))) hb5)) rfl (q_ldb Y24 rfl (fun w h => h.zae (i := 0) rfl) rfl) ?_
  refine o_w (za4 rfl rfl rfl (congrArg (fun b => Value.bool (!(b))) hb5)) rfl (q_len Try.underlying24 rfl) ?_
  refine o_w (za4 rfl rfl rfl (congrArg (fun b => Value.bool (!(b))) hb5)) rfl (q_gtr rfl rfl) ?_
  refine o_q rfl rfl (zaq false (congrArg (fun b => Value.bool (!(b))) hb5) rfl) ?_
  refine o_q rfl rfl (za2 rfl) ?_
  refine byB (decide (40 < (l0_1.length : Int))) (fun hb6 => ?_) (fun hb6 => ?_)
  ·replace h := br_t hb6 h
   refine @o_n _ _ _ _ _ _ _ _ _ _ _ 18 (za3 rfl rfl rfl (congrArg Value.bool hb6) rfl) (Eq.refl (some 18)) ?_
   refine @o_n _ _ _ _ _ _ _ _ _ _ _ 19 (za3 rfl rfl rfl (congrArg Value.bool hb6) rfl) (Eq.refl (some 19)) ?_
   refine @o_n _ _ _ _ _ _ _ _ _ _ _ 20 (za3 rfl rfl rfl (congrArg Value.bool hb6) rfl) (Eq.refl (some 20)) ?_
   refine @o_n _ _ _ _ _ _ _ _ _ _ _ 21 (za3 rfl rfl rfl (congrArg Value.bool hb6) rfl) (Eq.refl (some 21)) ?_
   refine o_q rfl rfl (zaq true (congrArg Value.bool hb6) rfl) ?_
   refine o_end ?_
   refine za1 ?_
   refine zb1 rfl ?_
   refine c_seq ?_
   refine za0 ?_
   refine o_q rfl rfl (q_asg rfl) ?_
   refine o_end ?_
   refine za1 ?_
   refine c_ret ?_
   refine zaa ?_
   have e0_ := Option.some.inj h; clear h
   subst e0_
   exact x_r1 () Try.results70 (zai rfl) rfl (fun w h => za6 [] (by decide) rfl w h)
  ·replace h := br_f hb6 h
   refine o_w (za4 rfl rfl rfl (congrArg Value.bool hb6)) rfl (q_f F27_2 rfl) ?_
   refine o_w (za4 rfl rfl rfl (congrArg Value.bool hb6)) rfl (q_ldb Y25 rfl (fun w h => h.zae (i := 0) rfl) rfl) ?_
   refine o_w (za4 rfl rfl rfl (congrArg Value.bool hb6)) rfl (q_len Try.underlying25 rfl) ?_
   refine o_w (za4 rfl rfl rfl (congrArg Value.bool hb6)) rfl (q_gtr rfl rfl) ?_
   refine o_q rfl rfl (zaq false (congrArg Value.bool hb6) rfl) ?_
   refine o_end ?_
   refine za1 ?_
   refine zau _ rfl (fun hb7 => ?_) (fun hb7 => ?_)
   ·skip
    replace h := br_t hb7 h
    refine c_seq ?_
    refine za0 ?_
    refine o_q rfl rfl (q_asg rfl) ?_
    refine o_end ?_
    refine za1 ?_
    refine c_ret ?_
    refine zaa ?_
    have e0_ := Option.some.inj h; clear h
    subst e0_
    exact x_r1 () Try.results70 (zai rfl) rfl (fun w h => za6 [] (by decide) rfl w h)
   ·skip
    replace h := br_f hb7 h
    refine zao ?_
    refine za1 ?_
    refine c_seq ?_
    refine c_seq ?_
    refine za0 ?_
    refine o_q rfl rfl (q_f F27_1 rfl) ?_
    refine o_q rfl rfl (q_ldb Y24 rfl (fun w h => h.zae (i := 0) rfl) rfl) ?_
    refine o_q rfl rfl (q_len Try.underlying24 rfl) ?_
    refine o_q rfl rfl (za2 rfl) ?_
    refine o_end ?_
    refine za1 ?_
    refine zaj ?_
    refine za7 h (fun o16 hl15 hR14 => ?_) rfl
    clear h
    refine zba (p := l0_1.length ≤ 9223372036854775807) (fun w h => (R0_1.now Z h).2.1) (fun hm13 => ?_)
    refine zax (σ := (List SStep) × Int) (fun k11 ((ys10, i8) : (List SStep) × Int) => Rg l0_1 i8 ys10 ∧ ys10.length = k11 ∧ spec_plGood.l0 a0_0 ys10 i8 = some o16) [2, 3, 4, 26, 27, 28, 29, 30, 31, 32, 33, 34, 35, 36, 37, 38, 39, 40, 41, 42, 43, 44, 45, 46] (fun ((ys10, i8) : (List SStep) × Int) => [(26, .int .i64 i8)]) (fun ((ys10, i8) : (List SStep) × Int) => [box g1 27 #[.int .i64 a0_0, .slice A0_1 l0_1.length c0_1, .slice A0_2 l0_2.length c0_2]]) l0_1.length (l0_1, 0) ⟨Rg.start _, rfl, hl15⟩ ⟨rfl, trivial⟩ (fun w h => h) ?_
    refine fun k11 => cur2 (listC (fun i8 U17 hJ_ => ?_) (fun y9 ys10 i8 U17 hJ_ => ?_))
    ·skip
     clear hl15
     have hr12 := hJ_.1; have hk18 := hJ_.2.1; have h := hJ_.2.2; clear hJ_
     replace h : spec_plGood.l0 a0_0 [] i8 = some o16 := h
     rw [spec_plGood.l0] at h
     refine c_seq ?_
     refine za0 ?_
     refine o_q rfl rfl (q_lss rfl rfl) ?_
     refine o_end ?_
     refine za1 ?_
     refine c_seq ?_
     refine zb3 (congrArg Value.bool hr12.ge) ?_
     refine zb4 ?_
     refine za8 ?_
     refine za8 ?_
     have e_ := Option.some.inj h; replace h := hR14; rw [← e_] at h; clear e_
     refine x_hit ?_
     refine za1 ?_
     refine c_seq ?_
     refine c_seq ?_
     refine za0 ?_
     refine o_q rfl rfl (q_ldB G27 Z27 rfl (fun w h => h.zae (i := 0) rfl) rfl) ?_
     refine za7 h (fun l20 hx19 h => ?_) rfl
     refine o_e rfl (zab 0 Z Try.func135 N135 rfl rfl rfl (fun w P1 hF hB hS hT => spec_plExponents.calls k a0_0 A0_1 c0_1 l0_1.length l0_1 A0_2 c0_2 l0_2.length l0_2 hB hF (hS _ R0_1) hc0_1 (hS _ R0_2) hc0_2 _ hx19)) (cur3 (fun A21 c22 H23 => ?_))
     refine o_q rfl rfl (q_len Try.underlying73 rfl) ?_
     refine o_q rfl rfl (za2 rfl) ?_
     refine o_end ?_
     refine za1 ?_
     refine zaj ?_
     refine za7 h (fun o32 hl31 hR30 => ?_) rfl
     clear h
     refine zba (p := l20.length ≤ 9223372036854775807) (fun w h => (h.zaw (i := 0) rfl).2.1) (fun hm29 => ?_)
     refine zax (σ := (List (List Int)) × Int) (fun k27 ((ys26, i24) : (List (List Int)) × Int) => Rg l20 i24 ys26 ∧ ys26.length = k27 ∧ spec_plGood.l1 ys26 i24 = some o32) [2, 6, 50, 51, 52, 53, 54, 55, 56, 57] (fun ((ys26, i24) : (List (List Int)) × Int) => [(50, .int .i64 i24)]) (fun ((ys26, i24) : (List (List Int)) × Int) => [row (gk 3 (Kd.int .i64)) 25 (.slice A21 l20.length c22) (zp H23 l20), box g1 27 #[.int .i64 a0_0, .slice A0_1 l0_1.length c0_1, .slice A0_2 l0_2.length c0_2]]) l20.length (l20, 0) ⟨Rg.start _, rfl, hl31⟩ ⟨rfl, trivial⟩ (fun w h => h) ?_
     refine fun k27 => cur2 (listC (fun i24 U33 hJ_ => ?_) (fun y25 ys26 i24 U33 hJ_ => ?_))
     ·skip
      clear hl31
      have hr28 := hJ_.1; have hk34 := hJ_.2.1; have h := hJ_.2.2; clear hJ_
      replace h : spec_plGood.l1 [] i24 = some o32 := h
      rw [spec_plGood.l1] at h
      refine c_seq ?_
      refine za0 ?_
      refine o_q rfl rfl (q_lss rfl rfl) ?_
      refine o_end ?_
      refine za1 ?_
      refine c_seq ?_
      refine zb3 (congrArg Value.bool hr28.ge) ?_
      refine zb4 ?_
      refine za8 ?_
      refine za8 ?_
      have e_ := Option.some.inj h; replace h := hR30; rw [← e_] at h; clear e_
      refine x_hit ?_
      refine za1 ?_
      refine c_seq ?_
      refine za0 ?_
      refine o_q rfl rfl (q_f F27_2 rfl) ?_
      refine o_q rfl rfl (q_ldb Y25 rfl (fun w h => h.zae (i := 1) rfl) rfl) ?_
      refine o_q rfl rfl (q_f F27_0 rfl) ?_
      refine o_q rfl rfl (q_ldb Y3 rfl (fun w h => h.zae (i := 1) rfl) rfl) ?_
      refine o_q rfl rfl (q_f F27_1 rfl) ?_
      refine o_q rfl rfl (q_ldb Y24 rfl (fun w h => h.zae (i := 1) rfl) rfl) ?_
      refine o_q rfl rfl (q_len Try.underlying24 rfl) ?_
      refine o_q rfl rfl (zb8 rfl rfl) ?_
      refine o_q rfl rfl (q_sub64 rfl rfl) ?_
      refine za7 h (fun b36 hx35 h => ?_) rfl
      refine o_e rfl (zab 0 Z Try.func99 N99 rfl rfl rfl (fun w P1 hF hB hS hT => spec_l1All.calls A0_2 c0_2 l0_2.length l0_2 0 (w64 (w64 (a0_0 + (l0_1.length : Int)) - 1)) hB hF (hS _ R0_2) hc0_2 _ hx35)) (fun _ => ?_)
      refine o_q rfl rfl (q_asg rfl) ?_
      refine o_end ?_
      refine za1 ?_
      refine c_ret ?_
      have e0_ := Option.some.inj h; clear h
      subst e0_
      exact x_r1 () Try.results70 (zai rfl) rfl (fun w h => za6 [] (by decide) rfl w h)
     ·skip
      clear hl31
      have hr28 := hJ_.1; have hk34 := hJ_.2.1; have h := hJ_.2.2; clear hJ_
      replace h : spec_plGood.l1 (y25 :: ys26) i24 = some o32 := h
      rw [spec_plGood.l1] at h
      refine c_seq ?_
      refine za0 ?_
      refine o_q rfl rfl (q_lss rfl rfl) ?_
      refine o_end ?_
      refine za1 ?_
      refine c_seq ?_
      refine zb1 (congrArg Value.bool hr28.lt) ?_
      refine zao ?_
      refine za1 ?_
      refine c_seq ?_
      refine zaj ?_
      refine c_seq ?_
      refine za0 ?_
      refine zaz (p := Sh A21 l20.length (zp H23 l20).length) (fun w h => f_sh (dk := (gk 3 (Kd.int .i64))) h (fun w h => h.zaw (i := 0) rfl)) (fun hq37 => ?_)
      refine o_q rfl rfl (q_ix Try.underlying73 Z25 rfl rfl hq37 (gt_zp hr28.get)) ?_
      refine zaz (p := y25.length ≤ hC H23 i24) (fun w h => (K_in (h.zaw (i := 0) rfl) hr28.get).1) (fun hc38 => ?_)
      refine o_q rfl rfl (q_lde (off := 0) Y25 rfl rfl (fun w h => h.zaw (i := 0) rfl) (gt_zp hr28.get) (fun _ _ h => h.1) rfl) ?_
      refine o_q rfl rfl (q_asg rfl) ?_
      refine o_end ?_
      refine za1 ?_
      refine c_seq ?_
      refine za0 ?_
      refine o_q rfl rfl (za2 rfl) ?_
      refine za7 h (fun b40 hx39 h => ?_) rfl
      refine o_e rfl (zab 0 Z Try.func99 N99 rfl rfl rfl (fun w P1 hF hB hS hT => spec_l1All.calls (hA H23 i24) (hC H23 i24) y25.length y25 0 1000000 hB hF (stab_in (hT 0 _ rfl).row hr28.get) hc38 _ hx39)) (fun _ => ?_)
      refine o_q rfl rfl (q_not rfl) ?_
      refine o_end ?_
      refine za1 ?_
      refine zau _ rfl (fun hb41 => ?_) (fun hb41 => ?_)
      ·replace hb41 := nt_t hb41
       replace h := bb_f hb41 h
       refine c_seq ?_
       refine za0 ?_
       refine o_q rfl rfl (q_asg rfl) ?_
       refine o_end ?_
       refine za1 ?_
       refine c_ret ?_
       refine zar ?_
       refine zaa ?_
       refine zaa ?_
       have e_ := Option.some.inj h; replace h := hR30; rw [← e_] at h; clear e_
       refine zar ?_
       refine zaa ?_
       have e0_ := Option.some.inj h; clear h
       subst e0_
       exact x_r1 () Try.results70 (zai rfl) rfl (fun w h => za6 [] (by decide) rfl w h)
      ·replace hb41 := nt_f hb41
       replace h := bb_t hb41 h
       refine zao ?_
       refine zal ?_
       refine za1 ?_
       refine za0 ?_
       refine o_q rfl rfl (q_up rfl rfl (hr28.up hm29)) ?_
       refine o_q rfl rfl (za2 rfl) ?_
       refine o_end ?_
       refine zam ys26.length (ys26, i24 + 1) (by rw [← hk34]; exact Nat.lt_succ_self _) ⟨hr28.step, rfl, h⟩ ⟨rfl, trivial⟩ (fun w h => za6 [0, 1] (by decide) rfl w h) ?_
       repeat (first | exact zac _ _ | refine zaf rfl ?_ | refine zad rfl ?_ | refine zah rfl ?_)
    ·skip
     clear hl15
     have hr12 := hJ_.1; have hk18 := hJ_.2.1; have h := hJ_.2.2; clear hJ_
     replace h : spec_plGood.l0 a0_0 (y9 :: ys10) i8 = some o16 := h
     rw [spec_plGood.l0] at h
     refine c_seq ?_
     refine za0 ?_
     refine o_q rfl rfl (q_lss rfl rfl) ?_
     refine o_end ?_
     refine za1 ?_
     refine c_seq ?_
     refine zb1 (congrArg Value.bool hr12.lt) ?_
     refine zao ?_
     refine za1 ?_
     refine c_seq ?_
     refine zaj ?_
     refine c_seq ?_
     refine za0 ?_
     refine o_q rfl rfl (za2 rfl) ?_
     refine zaz (p := Sh A0_1 l0_1.length l0_1.length) (fun w h => f_sh (dk := kStep) h (fun w h => R0_1.now Z h)) (fun hq42 => ?_)
     refine o_q rfl rfl (q_ix Try.underlying24 Z88 rfl rfl hq42 hr12.get) ?_
     refine o_q rfl rfl (q_ldE G88 Z88 rfl rfl (fun w h => R0_1.now Z h) hr12.get (fun _ _ h => h) rfl) ?_
     refine o_e rfl (zat V88 rfl) (fun g43 => ?_)
     refine o_q rfl rfl (q_asg rfl) ?_
     refine o_e rfl (zan (i := 0) rfl rfl rfl Z88 rfl rfl) (fun _ => ?_)
     refine o_end ?_
     refine za1 ?_
     refine c_seq ?_
     refine za0 ?_
     refine o_q rfl rfl (q_f F88_0 rfl) ?_
     refine o_q rfl rfl (q_ldb Y3 rfl (fun w h => h.zae (i := 0) rfl) rfl) ?_
     refine o_q rfl rfl (q_f F88_1 rfl) ?_
     refine o_q rfl rfl (q_ldb Y3 rfl (fun w h => h.zae (i := 0) rfl) rfl) ?_
     refine za7 h (fun b46 hx45 h => ?_) rfl
     refine o_e rfl (zab 0 Z Try.func61 N61 rfl rfl rfl (fun w P1 hF hB hS hT => spec_l1In.calls y9.f0 0 y9.f1 hB hF _ hx45)) (fun _ => ?_)
     refine o_q rfl rfl (q_not rfl) ?_
     refine o_q rfl rfl (za2 rfl) ?_
     refine byB b46 (fun hb47 => ?_) (fun hb47 => ?_)
     ·replace h := bb_t hb47 h
      refine o_w (za4 rfl rfl rfl (congrArg (fun b => Value.bool (!(b))) hb47)) rfl (q_f F88_1 rfl) ?_
      refine o_w (za4 rfl rfl rfl (congrArg (fun b => Value.bool (!(b))) hb47)) rfl (q_ldb Y3 rfl (fun w h => h.zae (i := 0) rfl) rfl) ?_
      refine o_w (za4 rfl rfl rfl (congrArg (fun b => Value.bool (!(b))) hb47)) rfl (q_f F27_0 rfl) ?_
      refine o_w (za4 rfl rfl rfl (congrArg (fun b => Value.bool (!(b))) hb47)) rfl (q_ldb Y3 rfl (fun w h => h.zae (i := 1) rfl) rfl) ?_
      refine o_w (za4 rfl rfl rfl (congrArg (fun b => Value.bool (!(b))) hb47)) rfl (za2 rfl) ?_
      refine o_w (za4 rfl rfl rfl (congrArg (fun b => Value.bool (!(b))) hb47)) rfl (zb8 rfl rfl) ?_
      refine o_w (za4 rfl rfl rfl (congrArg (fun b => Value.bool (!(b))) hb47)) rfl (q_geq rfl rfl) ?_
      refine o_q rfl rfl (zaq false (congrArg (fun b => Value.bool (!(b))) hb47) rfl) ?_
      refine o_end ?_
      refine za1 ?_
      refine zau _ rfl (fun hb48 => ?_) (fun hb48 => ?_)
      ·skip
       replace h := br_t hb48 h
       refine c_seq ?_
       refine za0 ?_
       refine o_q rfl rfl (q_asg rfl) ?_
       refine o_end ?_
       refine za1 ?_
       refine c_ret ?_
       refine zar ?_
       refine zaa ?_
       refine zaa ?_
       have e_ := Option.some.inj h; replace h := hR14; rw [← e_] at h; clear e_
       refine zar ?_
       refine zaa ?_
       have e0_ := Option.some.inj h; clear h
       subst e0_
       exact x_r1 () Try.results70 (zai rfl) rfl (fun w h => za6 [] (by decide) rfl w h)
      ·skip
       replace h := br_f hb48 h
       refine zao ?_
       refine zal ?_
       refine za1 ?_
       refine za0 ?_
       refine o_q rfl rfl (q_up rfl rfl (hr12.up hm13)) ?_
       refine o_q rfl rfl (za2 rfl) ?_
       refine o_end ?_
       refine zam ys10.length (ys10, i8 + 1) (by rw [← hk18]; exact Nat.lt_succ_self _) ⟨hr12.step, rfl, h⟩ ⟨rfl, trivial⟩ (fun w h => za6 [1] (by decide) rfl w h) ?_
       repeat (first | exact zac _ _ | refine zaf rfl ?_ | refine zad rfl ?_ | refine zah rfl ?_)
     ·replace h := bb_f hb47 h
      refine @o_n _ _ _ _ _ _ _ _ _ _ _ 38 (za3 rfl rfl rfl (congrArg (fun b => Value.bool (!(b))) hb47) rfl) (Eq.refl (some 38)) ?_
      refine @o_n _ _ _ _ _ _ _ _ _ _ _ 39 (za3 rfl rfl rfl (congrArg (fun b => Value.bool (!(b))) hb47) rfl) (Eq.refl (some 39)) ?_
      refine @o_n _ _ _ _ _ _ _ _ _ _ _ 40 (za3 rfl rfl rfl (congrArg (fun b => Value.bool (!(b))) hb47) rfl) (Eq.refl (some 40)) ?_
      refine @o_n _ _ _ _ _ _ _ _ _ _ _ 41 (za3 rfl rfl rfl (congrArg (fun b => Value.bool (!(b))) hb47) rfl) (Eq.refl (some 41)) ?_
      refine @o_n _ _ _ _ _ _ _ _ _ _ _ 42 (za3 rfl rfl rfl (congrArg (fun b => Value.bool (!(b))) hb47) rfl) (Eq.refl (some 42)) ?_
      refine @o_n _ _ _ _ _ _ _ _ _ _ _ 43 (za3 rfl rfl rfl (congrArg (fun b => Value.bool (!(b))) hb47) rfl) (Eq.refl (some 43)) ?_
      refine @o_n _ _ _ _ _ _ _ _ _ _ _ 44 (za3 rfl rfl rfl (congrArg (fun b => Value.bool (!(b))) hb47) rfl) (Eq.refl (some 44)) ?_
      refine o_q rfl rfl (zaq true (congrArg (fun b => Value.bool (!(b))) hb47) rfl) ?_
      refine o_end ?_
      refine za1 ?_
      refine zb1 rfl ?_
      refine c_seq ?_
      refine za0 ?_
      refine o_q rfl rfl (q_asg rfl) ?_
      refine o_end ?_
      refine za1 ?_
      refine c_ret ?_
      refine zar ?_
      refine zaa ?_
      refine zaa ?_
      have e_ := Option.some.inj h; replace h := hR14; rw [← e_] at h; clear e_
      refine zar ?_
      refine zaa ?_
      have e0_ := Option.some.inj h; clear h
      subst e0_
      exact x_r1 () Try.results70 (zai rfl) rfl (fun w h => za6 [] (by decide) rfl w h)
 ·replace h := bb_f hb5 h
  refine @o_n _ _ _ _ _ _ _ _ _ _ _ 12 (za3 rfl rfl rfl (congrArg (fun b => Value.bool (!(b))) hb5) rfl) (Eq.refl (some 12)) ?_
  refine @o_n _ _ _ _ _ _ _ _ _ _ _ 13 (za3 rfl rfl rfl (congrArg (fun b => Value.bool (!(b))) hb5) rfl) (Eq.refl (some 13)) ?_
  refine @o_n _ _ _ _ _ _ _ _ _ _ _ 14 (za3 rfl rfl rfl (congrArg (fun b => Value.bool (!(b))) hb5) rfl) (Eq.refl (some 14)) ?_
  refine @o_n _ _ _ _ _ _ _ _ _ _ _ 15 (za3 rfl rfl rfl (congrArg (fun b => Value.bool (!(b))) hb5) rfl) (Eq.refl (some 15)) ?_
  refine o_q rfl rfl (zaq true (congrArg (fun b => Value.bool (!(b))) hb5) rfl) ?_
  refine o_q rfl rfl (za2 rfl) ?_
  refine @o_n _ _ _ _ _ _ _ _ _ _ _ 18 (za3 rfl rfl rfl rfl rfl) (Eq.refl (some 18)) ?_
  refine @o_n _ _ _ _ _ _ _ _ _ _ _ 19 (za3 rfl rfl rfl rfl rfl) (Eq.refl (some 19)) ?_
  refine @o_n _ _ _ _ _ _ _ _ _ _ _ 20 (za3 rfl rfl rfl rfl rfl) (Eq.refl (some 20)) ?_
  refine @o_n _ _ _ _ _ _ _ _ _ _ _ 21 (za3 rfl rfl rfl rfl rfl) (Eq.refl (some 21)) ?_
  refine o_q rfl rfl (zaq true rfl rfl) ?_
  refine o_end ?_
  refine za1 ?_
  refine zb1 rfl ?_
  refine c_seq ?_
  refine za0 ?_
  refine o_q rfl rfl (q_asg rfl) ?_
  refine o_end ?_
  refine za1 ?_
  refine c_ret ?_
  refine zaa ?_
  have e0_ := Option.some.inj h; clear h
  subst e0_
  exact x_r1 () Try.results70 (zai rfl) rfl (fun w h => za6 [] (by decide) rfl w h)

/-! ### loop.example/g01098/spec.plUpTo: function 72 -/
def spec_plUpTo.l0 (a0 : Int) : Nat → (List Int) → Int → Option (List Int)
 | 0, _, _ => none
 | k8 + 1, l2, i5 => if i5 < a0 then ((ap l2 ([i5] : List Int)).bind fun l20 => spec_plUpTo.l0 a0 k8 l20 (w64 (i5 + 1))) else (some l2)
def spec_plUpTo.f (k : Nat) (a0 : Int) : Option (List Int) := (spec_plUpTo.l0 a0 k ([] : List Int) 0).bind fun l2 => some l2
set_option maxHeartbeats 600000 in
set_option maxRecDepth 100000 in
theorem spec_plUpTo.calls (k : Nat) {w0 ws : World} {P0 : Nat → Prop} (a0 : Int) (Z : Below w0.heap.size w0 ws) (hF : Fr w0 ws P0 [] ws)  (r_1 : List Int) (h : spec_plUpTo.f k a0 = some r_1) :
  Calls Try.prog 72 #[.int .i64 a0] ws (Post1 w0 ws P0 (fun ((q_2, q_3) : (Option Addr) × Nat) => .slice q_2 r_1.length q_3) (fun ((q_2, q_3) : (Option Addr) × Nat) => [row (Kd.int .i64) 3 (.slice q_2 r_1.length q_3) r_1])) := by
 unfold spec_plUpTo.f at h
 refine enter Try.func72 rfl Try.ntmps72 rfl hF ?_
 refine c_seq ?_
 refine za0 ?_
 refine o_q rfl rfl (q_asg rfl) ?_
 refine o_end ?_
 refine za1 ?_
 refine c_seq ?_
 refine za0 ?_
 refine o_q rfl rfl (q_asg rfl) ?_
 refine o_end ?_
 refine za1 ?_
 refine c_seq ?_
 refine c_seq ?_
 refine za0 ?_
 refine o_q rfl rfl (q_asg rfl) ?_
 refine o_end ?_
 refine za1 ?_
 refine zaj ?_
 refine c_nil (Kd.int .i64) 3 ?_
 refine za7 h (fun o13 hl12 hR11 => ?_) rfl
 clear h
 refine zax (σ := (List Int) × Int × (Option Addr) × Nat) (fun k8 ((l2, i5, A3, c4) : (List Int) × Int × (Option Addr) × Nat) => spec_plUpTo.l0 a0 k8 l2 i5 = some o13) [3, 4, 5, 6, 7, 8, 9, 10, 11, 12, 13] (fun ((l2, i5, A3, c4) : (List Int) × Int × (Option Addr) × Nat) => [(3, .slice A3 l2.length c4), (4, .int .i64 i5)]) (fun ((l2, i5, A3, c4) : (List Int) × Int × (Option Addr) × Nat) => [row (Kd.int .i64) 3 (.slice A3 l2.length c4) l2]) k (([] : List Int), 0, none, 0) hl12 ⟨rfl, rfl, trivial⟩ (fun w h => h) ?_
 refine natC (cur4 (fun l2 i5 A3 c4 => fun U14 hJ_ => ?_)) (fun k8 => (cur4 (fun l2 i5 A3 c4 => fun U14 hJ_ => ?_)))
 ·skip
  replace hJ_ : spec_plUpTo.l0 a0 0 l2 i5 = some o13 := hJ_
  rw [spec_plUpTo.l0] at hJ_
  exact noneE hJ_
 ·skip
  clear hl12
  have h := hJ_; clear hJ_
  replace h : spec_plUpTo.l0 a0 (k8 + 1) l2 i5 = some o13 := h
  rw [spec_plUpTo.l0] at h
  refine c_seq ?_
  refine c_seq ?_
  refine za0 ?_
  refine o_q rfl rfl (za2 rfl) ?_
  refine o_q rfl rfl (za2 rfl) ?_
  refine o_q rfl rfl (q_lss rfl rfl) ?_
  refine o_end ?_
  refine za1 ?_
  refine zau _ rfl (fun hb16 => ?_) (fun hb16 => ?_)
  ·skip
   replace h := br_t hb16 h
   refine zao ?_
   refine za1 ?_
   refine c_seq ?_
   refine zaj ?_
   refine za0 ?_
   refine o_q rfl rfl (za2 rfl) ?_
   refine o_q rfl rfl (za2 rfl) ?_
   refine o_e rfl (e_lit (vs := [(0, .int .i64 i5)]) (cs := [.int .i64 i5]) (Kd.int .i64) ([i5] : List Int) Try.underlying25 I3 (by decide) rfl (by decide) rfl rfl (fun _ _ => Kd.zak _)) (cur2 (fun A17 c18 => ?_))
   refine za7 h (fun l20 ha21 h => ?_) rfl
   refine o_e rfl (e_app (i := 1) (j := 0) Try.underlying25 I3 rfl (by decide) (by decide) rfl rfl rfl rfl rfl ha21) (cur2 (fun A22 c23 => ?_))
   refine o_q rfl rfl (q_asg rfl) ?_
   refine o_end ?_
   refine zal ?_
   refine za1 ?_
   refine za0 ?_
   refine o_q rfl rfl (za2 rfl) ?_
   refine o_q rfl rfl (zb8 rfl rfl) ?_
   refine o_q rfl rfl (q_asg rfl) ?_
   refine o_end ?_
   refine zam k8 (l20, w64 (i5 + 1), A22, c23) (Nat.lt_succ_self _) h ⟨rfl, rfl, trivial⟩ (fun w h => za6 [1] (by decide) rfl w h) ?_
   repeat (first | exact zac _ _ | refine zaf rfl ?_ | refine zad rfl ?_ | refine zah rfl ?_)
  ·skip
   replace h := br_f hb16 h
   refine zb4 ?_
   refine za8 ?_
   refine za8 ?_
   have e_ := Option.some.inj h; replace h := hR11; rw [← e_] at h; clear e_
   refine x_hit ?_
   refine za1 ?_
   refine c_seq ?_
   refine za0 ?_
   refine o_q rfl rfl (za2 rfl) ?_
   refine o_q rfl rfl (q_asg rfl) ?_
   refine o_end ?_
   refine za1 ?_
   refine c_ret ?_
   have e0_ := Option.some.inj h; clear h
   subst e0_
   exact x_r1 (A3, c4) Try.results72 (zai rfl) rfl (fun w h => za6 [0] (by decide) rfl w h)

/-! ### loop.example/g01098/spec.l1Has: function 87 -/
def spec_l1Has.l0 (a1 : Int) : (List Int) → Int → Option ((Bool) ⊕ (Unit))
 | [], i1 => some (.inr ())
 | y2 :: ys3, i1 => if y2 = a1 then (some (.inl true)) else (spec_l1Has.l0 a1 ys3 (i1 + 1))
def spec_l1Has.f (l0 : List Int) (a1 : Int) : Option Bool := (spec_l1Has.l0 a1 l0 0).bind fun o_ => match o_ with | .inl r_ => some r_ | .inr _ => some false
set_option maxHeartbeats 600000 in
set_option maxRecDepth 100000 in
theorem spec_l1Has.calls {w0 ws : World} {P0 : Nat → Prop} (A0 : Option Addr) (c0 : Nat) (n0 : Nat) (l0 : List Int) (a1 : Int) (Z : Below w0.heap.size w0 ws) (hF : Fr w0 ws P0 [] ws) (R0 : Stable ws P0 (fun w => Kd.C (Kd.int .i64) w A0 n0 l0)) (hc0 : n0 ≤ c0) (r_1 : Bool) (h : spec_l1Has.f l0 a1 = some r_1) :
  Calls Try.prog 87 #[.slice A0 n0 c0, .int .i64 a1] ws (Post1 w0 ws P0 (fun (_ : Unit) => .bool r_1) (fun (_ : Unit) => [])) := by
 unfold spec_l1Has.f at h
 obtain rfl := (R0 ws (KeptB.refl _ _)).1
 refine enter Try.func87 rfl Try.ntmps87 rfl hF ?_
 refine c_seq ?_
 refine za0 ?_
 refine o_q rfl rfl (q_asg rfl) ?_
 refine o_end ?_
 refine za1 ?_
 refine c_seq ?_
 refine c_seq ?_
 refine za0 ?_
 refine o_q rfl rfl (za2 rfl) ?_
 refine o_q rfl rfl (q_len Try.underlying25 rfl) ?_
 refine o_q rfl rfl (za2 rfl) ?_
 refine o_end ?_
 refine za1 ?_
 refine zaj ?_
 refine za7 h (fun o9 hl8 hR7 => ?_) rfl
 clear h
 refine zba (p := l0.length ≤ 9223372036854775807) (fun w h => (R0.now Z h).2.1) (fun hm6 => ?_)
 refine zax (σ := (List Int) × Int) (fun k4 ((ys3, i1) : (List Int) × Int) => Rg l0 i1 ys3 ∧ ys3.length = k4 ∧ spec_l1Has.l0 a1 ys3 i1 = some o9) [4, 6, 9, 10, 11, 12, 13, 14, 15, 16] (fun ((ys3, i1) : (List Int) × Int) => [(9, .int .i64 i1)]) (fun ((ys3, i1) : (List Int) × Int) => []) l0.length (l0, 0) ⟨Rg.start _, rfl, hl8⟩ ⟨rfl, trivial⟩ (fun w h => h) ?_
 refine fun k4 => cur2 (listC (fun i1 U10 hJ_ => ?_) (fun y2 ys3 i1 U10 hJ_ => ?_))
 ·skip
  clear hl8
  have hr5 := hJ_.1; have hk11 := hJ_.2.1; have h := hJ_.2.2; clear hJ_
  replace h : spec_l1Has.l0 a1 [] i1 = some o9 := h
  rw [spec_l1Has.l0] at h
  refine c_seq ?_
  refine za0 ?_
  refine o_q rfl rfl (q_lss rfl rfl) ?_
  refine o_end ?_
  refine za1 ?_
  refine c_seq ?_
  refine zb3 (congrArg Value.bool hr5.ge) ?_
  refine zb4 ?_
  refine za8 ?_
  refine za8 ?_
  have e_ := Option.some.inj h; replace h := hR7; rw [← e_] at h; clear e_
  refine x_hit ?_
  refine za1 ?_
  refine c_seq ?_
  refine za0 ?_
  refine o_q rfl rfl (q_asg rfl) ?_
  refine o_end ?_
  refine za1 ?_
  refine c_ret ?_
  have e0_ := Option.some.inj h; clear h
  subst e0_
  exact x_r1 () Try.results87 (zai rfl) rfl (fun w h => za6 [] (by decide) rfl w h)
 ·skip
  clear hl8
  have hr5 := hJ_.1; have hk11 := hJ_.2.1; have h := hJ_.2.2; clear hJ_
  replace h : spec_l1Has.l0 a1 (y2 :: ys3) i1 = some o9 := h
  rw [spec_l1Has.l0] at h
  refine c_seq ?_
  refine za0 ?_
  refine o_q rfl rfl (q_lss rfl rfl) ?_
  refine o_end ?_
  refine za1 ?_
  refine c_seq ?_
  refine zb1 (congrArg Value.bool hr5.lt) ?_
  refine zao ?_
  refine za1 ?_
  refine c_seq ?_
  refine zaj ?_
  refine c_seq ?_
  refine za0 ?_
  refine zaz (p := Sh A0 l0.length l0.length) (fun w h => f_sh (dk := (Kd.int .i64)) h (fun w h => R0.now Z h)) (fun hq12 => ?_)
  refine o_q rfl rfl (q_ix Try.underlying25 Z3 rfl rfl hq12 hr5.get) ?_
  refine o_q rfl rfl (q_lde (off := 0) Y3 rfl rfl (fun w h => R0.now Z h) hr5.get (fun _ _ h => h) rfl) ?_
  refine o_q rfl rfl (q_asg rfl) ?_
  refine o_end ?_
  refine za1 ?_
  refine c_seq ?_
  refine za0 ?_
  refine o_q rfl rfl (za2 rfl) ?_
  refine o_q rfl rfl (za2 rfl) ?_
  refine o_q rfl rfl (q_eql rfl rfl) ?_
  refine o_end ?_
  refine za1 ?_
  refine zau _ rfl (fun hb13 => ?_) (fun hb13 => ?_)
  ·skip
   replace h := br_t hb13 h
   refine c_seq ?_
   refine za0 ?_
   refine o_q rfl rfl (q_asg rfl) ?_
   refine o_end ?_
   refine za1 ?_
   refine c_ret ?_
   refine zar ?_
   refine zaa ?_
   refine zaa ?_
   have e_ := Option.some.inj h; replace h := hR7; rw [← e_] at h; clear e_
   refine zar ?_
   refine zaa ?_
   have e0_ := Option.some.inj h; clear h
   subst e0_
   exact x_r1 () Try.results87 (zai rfl) rfl (fun w h => za6 [] (by decide) rfl w h)
  ·skip
   replace h := br_f hb13 h
   refine zao ?_
   refine zal ?_
   refine za1 ?_
   refine za0 ?_
   refine o_q rfl rfl (q_up rfl rfl (hr5.up hm6)) ?_
   refine o_q rfl rfl (za2 rfl) ?_
   refine o_end ?_
   refine zam ys3.length (ys3, i1 + 1) (by rw [← hk11]; exact Nat.lt_succ_self _) ⟨hr5.step, rfl, h⟩ ⟨rfl, trivial⟩ (fun w h => za6 [] (by decide) rfl w h) ?_
   repeat (first | exact zac _ _ | refine zaf rfl ?_ | refine zad rfl ?_ | refine zah rfl ?_)

/-! ### loop.example/g01098/spec.reNeeded: function 71 -/
def spec_reNeeded.l1 (l1 : List Int) (i7 : Int) : (List SStep) → Int → Bool → Option Bool
 | [], i25, b26 => some b26
 | y27 :: ys28, i25, b26 => if b26 = true then (spec_reNeeded.l1 l1 i7 ys28 (i25 + 1) true) else ((spec_l1Has.f l1 i25).bind fun b50 => if b50 = true then (spec_reNeeded.l1 l1 i7 ys28 (i25 + 1) false) else (if y27.f0 = i7 then (spec_reNeeded.l1 l1 i7 ys28 (i25 + 1) true) else (spec_reNeeded.l1 l1 i7 ys28 (i25 + 1) (decide (y27.f1 = i7)))))
def spec_reNeeded.l2 (l1 : List Int) (i7 : Int) : (List SStep) → Int → Bool → Option Bool
 | [], i55, b56 => some b56
 | y57 :: ys58, i55, b56 => if b56 = true then (spec_reNeeded.l2 l1 i7 ys58 (i55 + 1) true) else ((spec_l1Has.f l1 i55).bind fun b80 => if b80 = true then (spec_reNeeded.l2 l1 i7 ys58 (i55 + 1) false) else (if y57.f0 = i7 then (spec_reNeeded.l2 l1 i7 ys58 (i55 + 1) true) else (spec_reNeeded.l2 l1 i7 ys58 (i55 + 1) (decide (y57.f1 = i7)))))
def spec_reNeeded.l0 (a0_0 : Int) (l0_1 : List SStep) (l0_2 : List Int) (l1 : List Int) : Nat → (List Int) → Int → Option (List Int)
 | 0, _, _ => none
 | k10 + 1, l4, i7 => if i7 < w64 (a0_0 + (l0_1.length : Int)) then (if a0_0 ≤ i7 then ((spec_l1Has.f l1 (w64 (i7 - a0_0))).bind fun b21 => if b21 = true then ((spec_l1Has.f l0_2 i7).bind fun b24 => (spec_reNeeded.l1 l1 i7 l0_1 0 b24).bind fun b26 => if b26 = true then ((ap l4 ([i7] : List Int)).bind fun l41 => spec_reNeeded.l0 a0_0 l0_1 l0_2 l1 k10 l41 (w64 (i7 + 1))) else (spec_reNeeded.l0 a0_0 l0_1 l0_2 l1 k10 l4 (w64 (i7 + 1)))) else (spec_reNeeded.l0 a0_0 l0_1 l0_2 l1 k10 l4 (w64 (i7 + 1)))) else ((spec_l1Has.f l0_2 i7).bind fun b54 => (spec_reNeeded.l2 l1 i7 l0_1 0 b54).bind fun b56 => if b56 = true then ((ap l4 ([i7] : List Int)).bind fun l71 => spec_reNeeded.l0 a0_0 l0_1 l0_2 l1 k10 l71 (w64 (i7 + 1))) else (spec_reNeeded.l0 a0_0 l0_1 l0_2 l1 k10 l4 (w64 (i7 + 1))))) else (some l4)
def spec_reNeeded.f (k : Nat) (a0_0 : Int) (l0_1 : List SStep) (l0_2 : List Int) (l1 : List Int) : Option (List Int) := (spec_reNeeded.l0 a0_0 l0_1 l0_2 l1 k ([] : List Int) 0).bind fun l4 => some l4
set_option maxHeartbeats 600000 in
set_option maxRecDepth 100000 in
theorem spec_reNeeded.calls (k : Nat) {w0 ws : World} {P0 : Nat → Prop} (a0_0 : Int) (A0_1 : Option Addr) (c0_1 : Nat) (n0_1 : Nat) (l0_1 : List SStep) (A0_2 : Option Addr) (c0_2 : Nat) (n0_2 : Nat) (l0_2 : List Int) (A1 : Option Addr) (c1 : Nat) (n1 : Nat) (l1 : List Int) (Z : Below w0.heap.size w0 ws) (hF : Fr w0 ws P0 [] ws) (R0_1 : Stable ws P0 (fun w => Kd.C kStep w A0_1 n0_1 l0_1)) (hc0_1 : n0_1 ≤ c0_1) (R0_2 : Stable ws P0 (fun w => Kd.C (Kd.int .i64) w A0_2 n0_2 l0_2)) (hc0_2 : n0_2 ≤ c0_2) (R1 : Stable ws P0 (fun w => Kd.C (Kd.int .i64) w A1 n1 l1)) (hc1 : n1 ≤ c1) (r_1 : List Int) (h : spec_reNeeded.f k a0_0 l0_1 l0_2 l1 = some r_1) :
  Calls Try.prog 71 #[.agg #[.int .i64 a0_0, .slice A0_1 n0_1 c0_1, .slice A0_2 n0_2 c0_2], .slice A1 n1 c1] ws (Post1 w0 ws P0 (fun ((q_2, q_3) : (Option Addr) × Nat) => .slice q_2 r_1.length q_3) (fun ((q_2, q_3) : (Option Addr) × Nat) => [row (Kd.int .i64) 3 (.slice q_2 r_1.length q_3) r_1])) := by
 unfold spec_reNeeded.f at h
 obtain rfl := (R0_1 ws (KeptB.refl _ _)).1
 obtain rfl := (R0_2 ws (KeptB.refl _ _)).1
 obtain rfl := (R1 ws (KeptB.refl _ _)).1
 refine enter Try.func71 rfl Try.ntmps71 rfl hF ?_
 refine c_seq ?_
 refine za0 ?_
 refine o_e rfl (e_box rfl) (fun g1 => ?_)
 refine o_q rfl rfl (q_asg rfl) ?_
 refine o_end ?_
 refine za1 ?_
 refine c_seq ?_
 refine za0 ?_
 refine o_q rfl rfl (q_asg rfl) ?_
 refine o_end ?_
 refine za1 ?_
 refine c_seq ?_
 refine c_seq ?_
 refine za0 ?_
 refine o_q rfl rfl (q_asg rfl) ?_
 refine o_end ?_
 refine za1 ?_
 refine zaj ?_
 refine c_nil (Kd.int .i64) 3 ?_
 refine za7 h (fun o15 hl14 hR13 => ?_) rfl
 clear h
 refine zax (σ := (List Int) × Int × (Option Addr) × Nat) (fun k10 ((l4, i7, A5, c6) : (List Int) × Int × (Option Addr) × Nat) => spec_reNeeded.l0 a0_0 l0_1 l0_2 l1 k10 l4 i7 = some o15) [5, 6, 7, 8, 9, 10, 11, 12, 13, 14, 15, 16, 17, 18, 19, 20, 21, 22, 23, 24, 25, 26, 27, 28, 29, 30, 31, 32, 33, 34, 35, 36, 37, 38, 39, 40, 41, 42, 43, 44, 45, 46, 47, 48, 49, 50, 51, 52, 53, 54, 55, 56, 57, 58, 59, 60, 61, 62, 63, 64, 65, 66, 67, 68, 69] (fun ((l4, i7, A5, c6) : (List Int) × Int × (Option Addr) × Nat) => [(5, .slice A5 l4.length c6), (6, .int .i64 i7)]) (fun ((l4, i7, A5, c6) : (List Int) × Int × (Option Addr) × Nat) => [row (Kd.int .i64) 3 (.slice A5 l4.length c6) l4, box g1 27 #[.int .i64 a0_0, .slice A0_1 l0_1.length c0_1, .slice A0_2 l0_2.length c0_2]]) k (([] : List Int), 0, none, 0) hl14 ⟨rfl, rfl, trivial⟩ (fun w h => h) ?_
 refine natC (cur4 (fun l4 i7 A5 c6 => fun U16 hJ_ => ?_)) (fun k10 => (cur4 (fun l4 i7 A5 c6 => fun U16 hJ_ => ?_)))
 ·skip
  replace hJ_ : spec_reNeeded.l0 a0_0 l0_1 l0_2 l1 0 l4 i7 = some o15 := hJ_
  rw [spec_reNeeded.l0] at hJ_
  exact noneE hJ_
 ·skip
  clear hl14
  have h := hJ_; clear hJ_
  replace h : spec_reNeeded.l0 a0_0 l0_1 l0_2 l1 (k10 + 1) l4 i7 = some o15 := h
  rw [spec_reNeeded.l0] at h
  refine c_seq ?_
  refine c_seq ?_
  refine za0 ?_
  refine o_q rfl rfl (za2 rfl) ?_
  refine o_q rfl rfl (q_f F27_0 rfl) ?_
  refine o_q rfl rfl (q_ldb Y3 rfl (fun w h => h.zae (i := 1) rfl) rfl) ?_
  refine o_q rfl rfl (q_f F27_1 rfl) ?_
  refine o_q rfl rfl (q_ldb Y24 rfl (fun w h => h.zae (i := 1) rfl) rfl) ?_
  refine o_q rfl rfl (q_len Try.underlying24 rfl) ?_
  refine o_q rfl rfl (zb8 rfl rfl) ?_
  refine o_q rfl rfl (q_lss rfl rfl) ?_
  refine o_end ?_
  refine za1 ?_
  refine zau _ rfl (fun hb18 => ?_) (fun hb18 => ?_)
  ·skip
   replace h := br_t hb18 h
   refine zao ?_
   refine za1 ?_
   refine c_seq ?_
   refine zaj ?_
   refine c_seq ?_
   refine c_seq ?_
   refine za0 ?_
   refine o_q rfl rfl (za2 rfl) ?_
   refine o_q rfl rfl (q_f F27_0 rfl) ?_
   refine o_q rfl rfl (q_ldb Y3 rfl (fun w h => h.zae (i := 1) rfl) rfl) ?_
   refine o_q rfl rfl (q_geq rfl rfl) ?_
   refine o_q rfl rfl (za2 rfl) ?_
   refine byB (decide (a0_0 ≤ i7)) (fun hb19 => ?_) (fun hb19 => ?_)
   ·replace h := br_t hb19 h
    refine o_w (za4 rfl rfl rfl (congrArg Value.bool hb19)) rfl (za2 rfl) ?_
    refine o_w (za4 rfl rfl rfl (congrArg Value.bool hb19)) rfl (za2 rfl) ?_
    refine o_w (za4 rfl rfl rfl (congrArg Value.bool hb19)) rfl (q_f F27_0 rfl) ?_
    refine o_w (za4 rfl rfl rfl (congrArg Value.bool hb19)) rfl (q_ldb Y3 rfl (fun w h => h.zae (i := 1) rfl) rfl) ?_
    refine o_w (za4 rfl rfl rfl (congrArg Value.bool hb19)) rfl (q_sub64 rfl rfl) ?_
    refine za7 h (fun b21 hx20 h => ?_) rfl
    refine o_ew (za4 rfl rfl rfl (congrArg Value.bool hb19)) (zab 0 Z Try.func87 N87 rfl rfl rfl (fun w P1 hF hB hS hT => spec_l1Has.calls A1 c1 l1.length l1 (w64 (i7 - a0_0)) hB hF (hS _ R1) hc1 _ hx20)) (fun _ => ?_)
    refine o_w (za4 rfl rfl rfl (congrArg Value.bool hb19)) rfl (q_not rfl) ?_
    refine o_q rfl rfl (zaq true (congrArg Value.bool hb19) rfl) ?_
    refine o_end ?_
    refine za1 ?_
    refine zau _ rfl (fun hb22 => ?_) (fun hb22 => ?_)
    ·replace hb22 := nt_t hb22
     replace h := bb_f hb22 h
     refine zb4 ?_
     refine za8 ?_
     refine x_hit ?_
     refine za1 ?_
     refine za0 ?_
     refine o_q rfl rfl (za2 rfl) ?_
     refine o_q rfl rfl (zb8 rfl rfl) ?_
     refine o_q rfl rfl (q_asg rfl) ?_
     refine o_end ?_
     refine zam k10 (l4, w64 (i7 + 1), A5, c6) (Nat.lt_succ_self _) h ⟨rfl, rfl, trivial⟩ (fun w h => za6 [0, 1] (by decide) rfl w h) ?_
     repeat (first | exact zac _ _ | refine zaf rfl ?_ | refine zad rfl ?_ | refine zah rfl ?_)
    ·replace hb22 := nt_f hb22
     replace h := bb_t hb22 h
     refine zao ?_
     refine za1 ?_
     refine c_seq ?_
     refine za0 ?_
     refine o_q rfl rfl (q_f F27_2 rfl) ?_
     refine o_q rfl rfl (q_ldb Y25 rfl (fun w h => h.zae (i := 1) rfl) rfl) ?_
     refine o_q rfl rfl (za2 rfl) ?_
     refine za7 h (fun b24 hx23 h => ?_) rfl
     refine o_e rfl (zab 0 Z Try.func87 N87 rfl rfl rfl (fun w P1 hF hB hS hT => spec_l1Has.calls A0_2 c0_2 l0_2.length l0_2 i7 hB hF (hS _ R0_2) hc0_2 _ hx23)) (fun _ => ?_)
     refine o_q rfl rfl (q_asg rfl) ?_
     refine o_end ?_
     refine za1 ?_
     refine c_seq ?_
     refine c_seq ?_
     refine za0 ?_
     refine o_q rfl rfl (q_f F27_1 rfl) ?_
     refine o_q rfl rfl (q_ldb Y24 rfl (fun w h => h.zae (i := 1) rfl) rfl) ?_
     refine o_q rfl rfl (q_len Try.underlying24 rfl) ?_
     refine o_q rfl rfl (za2 rfl) ?_
     refine o_end ?_
     refine za1 ?_
     refine zaj ?_
     refine za7 h (fun o34 hl33 hR32 => ?_) rfl
     clear h
     refine zba (p := l0_1.length ≤ 9223372036854775807) (fun w h => (R0_1.now Z h).2.1) (fun hm31 => ?_)
     refine zax (σ := (List SStep) × Int × Bool) (fun k29 ((ys28, i25, b26) : (List SStep) × Int × Bool) => Rg l0_1 i25 ys28 ∧ ys28.length = k29 ∧ spec_reNeeded.l1 l1 i7 ys28 i25 b26 = some o34) [7, 8, 9, 40, 41, 42, 43, 44, 45, 46, 47, 48, 49, 50, 51, 52, 53, 54, 55, 56, 57, 58, 59, 60, 61, 62, 63, 64] (fun ((ys28, i25, b26) : (List SStep) × Int × Bool) => [(7, .bool b26), (40, .int .i64 i25)]) (fun ((ys28, i25, b26) : (List SStep) × Int × Bool) => [row (Kd.int .i64) 3 (.slice A5 l4.length c6) l4, box g1 27 #[.int .i64 a0_0, .slice A0_1 l0_1.length c0_1, .slice A0_2 l0_2.length c0_2]]) l0_1.length (l0_1, 0, b24) ⟨Rg.start _, rfl, hl33⟩ ⟨rfl, rfl, trivial⟩ (fun w h => h) ?_
     refine fun k29 => cur3 (listC (fun i25 b26 U35 hJ_ => ?_) (fun y27 ys28 i25 b26 U35 hJ_ => ?_))
     ·skip
      clear hl33
      have hr30 := hJ_.1; have hk36 := hJ_.2.1; have h := hJ_.2.2; clear hJ_
      replace h : spec_reNeeded.l1 l1 i7 [] i25 b26 = some o34 := h
      rw [spec_reNeeded.l1] at h
      refine c_seq ?_
      refine za0 ?_
      refine o_q rfl rfl (q_lss rfl rfl) ?_
      refine o_end ?_
      refine za1 ?_
      refine c_seq ?_
      refine zb3 (congrArg Value.bool hr30.ge) ?_
      refine zb4 ?_
      refine za8 ?_
      refine za8 ?_
      have e_ := Option.some.inj h; replace h := hR32; rw [← e_] at h; clear e_
      refine x_hit ?_
      refine za1 ?_
      refine c_seq ?_
      refine za0 ?_
      refine o_q rfl rfl (za2 rfl) ?_
      refine o_end ?_
      refine za1 ?_
      refine zau _ rfl (fun hb37 => ?_) (fun hb37 => ?_)
      ·skip
       replace h := bb_t hb37 h
       refine za0 ?_
       refine o_q rfl rfl (za2 rfl) ?_
       refine o_q rfl rfl (za2 rfl) ?_
       refine o_e rfl (e_lit (vs := [(0, .int .i64 i7)]) (cs := [.int .i64 i7]) (Kd.int .i64) ([i7] : List Int) Try.underlying25 I3 (by decide) rfl (by decide) rfl rfl (fun _ _ => Kd.zak _)) (cur2 (fun A38 c39 => ?_))
       refine za7 h (fun l41 ha42 h => ?_) rfl
       refine o_e rfl (e_app (i := 1) (j := 0) Try.underlying25 I3 rfl (by decide) (by decide) rfl rfl rfl rfl rfl ha42) (cur2 (fun A43 c44 => ?_))
       refine o_q rfl rfl (q_asg rfl) ?_
       refine o_end ?_
       refine zal ?_
       refine za1 ?_
       refine za0 ?_
       refine o_q rfl rfl (za2 rfl) ?_
       refine o_q rfl rfl (zb8 rfl rfl) ?_
       refine o_q rfl rfl (q_asg rfl) ?_
       refine o_end ?_
       refine zam k10 (l41, w64 (i7 + 1), A43, c44) (Nat.lt_succ_self _) h ⟨rfl, rfl, trivial⟩ (fun w h => za6 [1, 2] (by decide) rfl w h) ?_
       repeat (first | exact zac _ _ | refine zaf rfl ?_ | refine zad rfl ?_ | refine zah rfl ?_)
      ·skip
       replace h := bb_f hb37 h
       refine zao ?_
       refine zal ?_
       refine za1 ?_
       refine za0 ?_
       refine o_q rfl rfl (za2 rfl) ?_
       refine o_q rfl rfl (zb8 rfl rfl) ?_
       refine o_q rfl rfl (q_asg rfl) ?_
       refine o_end ?_
       refine zam k10 (l4, w64 (i7 + 1), A5, c6) (Nat.lt_succ_self _) h ⟨rfl, rfl, trivial⟩ (fun w h => za6 [0, 1] (by decide) rfl w h) ?_
       repeat (first | exact zac _ _ | refine zaf rfl ?_ | refine zad rfl ?_ | refine zah rfl ?_)
     ·skip
      clear hl33
      have hr30 := hJ_.1; have hk36 := hJ_.2.1; have h := hJ_.2.2; clear hJ_
      replace h : spec_reNeeded.l1 l1 i7 (y27 :: ys28) i25 b26 = some o34 := h
      rw [spec_reNeeded.l1] at h
      refine c_seq ?_
      refine za0 ?_
      refine o_q rfl rfl (q_lss rfl rfl) ?_
      refine o_end ?_
      refine za1 ?_
      refine c_seq ?_
      refine zb1 (congrArg Value.bool hr30.lt) ?_
      refine zao ?_
      refine za1 ?_
      refine c_seq ?_
      refine zaj ?_
      refine c_seq ?_
      refine za0 ?_
      refine o_q rfl rfl (za2 rfl) ?_
      refine zaz (p := Sh A0_1 l0_1.length l0_1.length) (fun w h => f_sh (dk := kStep) h (fun w h => R0_1.now Z h)) (fun hq45 => ?_)
      refine o_q rfl rfl (q_ix Try.underlying24 Z88 rfl rfl hq45 hr30.get) ?_
      refine o_q rfl rfl (q_ldE G88 Z88 rfl rfl (fun w h => R0_1.now Z h) hr30.get (fun _ _ h => h) rfl) ?_
      refine o_e rfl (zat V88 rfl) (fun g46 => ?_)
      refine o_q rfl rfl (q_asg rfl) ?_
      refine o_e rfl (zan (i := 0) rfl rfl rfl Z88 rfl rfl) (fun _ => ?_)
      refine o_end ?_
      refine za1 ?_
      refine za0 ?_
      refine o_q rfl rfl (za2 rfl) ?_
      refine o_q rfl rfl (za2 rfl) ?_
      refine byB b26 (fun hb48 => ?_) (fun hb48 => ?_)
      ·replace h := bb_t hb48 h
       refine @o_n _ _ _ _ _ _ _ _ _ _ _ 47 (za3 rfl rfl rfl (congrArg Value.bool hb48) rfl) (Eq.refl (some 47)) ?_
       refine @o_n _ _ _ _ _ _ _ _ _ _ _ 48 (za3 rfl rfl rfl (congrArg Value.bool hb48) rfl) (Eq.refl (some 48)) ?_
       refine @o_n _ _ _ _ _ _ _ _ _ _ _ 49 (za3 rfl rfl rfl (congrArg Value.bool hb48) rfl) (Eq.refl (some 49)) ?_
       refine @o_n _ _ _ _ _ _ _ _ _ _ _ 50 (za3 rfl rfl rfl (congrArg Value.bool hb48) rfl) (Eq.refl (some 50)) ?_
       refine @o_n _ _ _ _ _ _ _ _ _ _ _ 51 (za3 rfl rfl rfl (congrArg Value.bool hb48) rfl) (Eq.refl (some 51)) ?_
       refine @o_n _ _ _ _ _ _ _ _ _ _ _ 52 (zb7 rfl rfl rfl rfl) (Eq.refl (some 52)) ?_
       refine @o_n _ _ _ _ _ _ _ _ _ _ _ 53 (zb7 rfl rfl rfl rfl) (Eq.refl (some 53)) ?_
       refine @o_n _ _ _ _ _ _ _ _ _ _ _ 54 (zb7 rfl rfl rfl rfl) (Eq.refl (some 54)) ?_
       refine @o_n _ _ _ _ _ _ _ _ _ _ _ 55 (zb7 rfl rfl rfl rfl) (Eq.refl (some 55)) ?_
       refine @o_n _ _ _ _ _ _ _ _ _ _ _ 56 (zb7 rfl rfl rfl rfl) (Eq.refl (some 56)) ?_
       refine @o_n _ _ _ _ _ _ _ _ _ _ _ 57 (zb7 rfl rfl rfl rfl) (Eq.refl (some 57)) ?_
       refine @o_n _ _ _ _ _ _ _ _ _ _ _ 58 (zb7 rfl rfl rfl rfl) (Eq.refl (some 58)) ?_
       refine @o_n _ _ _ _ _ _ _ _ _ _ _ 59 (zb7 rfl rfl rfl rfl) (Eq.refl (some 59)) ?_
       refine @o_n _ _ _ _ _ _ _ _ _ _ _ 60 (zb7 rfl rfl rfl rfl) (Eq.refl (some 60)) ?_
       refine @o_n _ _ _ _ _ _ _ _ _ _ _ 61 (zb7 rfl rfl rfl rfl) (Eq.refl (some 61)) ?_
       refine @o_n _ _ _ _ _ _ _ _ _ _ _ 62 (za3 rfl rfl rfl (congrArg Value.bool hb48) rfl) (Eq.refl (some 62)) ?_
       refine o_q rfl rfl (zaq true (congrArg Value.bool hb48) rfl) ?_
       refine o_q rfl rfl (q_asg rfl) ?_
       refine o_end ?_
       refine zal ?_
       refine za1 ?_
       refine za0 ?_
       refine o_q rfl rfl (q_up rfl rfl (hr30.up hm31)) ?_
       refine o_q rfl rfl (za2 rfl) ?_
       refine o_end ?_
       refine zam ys28.length (ys28, i25 + 1, true) (by rw [← hk36]; exact Nat.lt_succ_self _) ⟨hr30.step, rfl, h⟩ ⟨rfl, rfl, trivial⟩ (fun w h => za6 [1, 2] (by decide) rfl w h) ?_
       repeat (first | exact zac _ _ | refine zaf rfl ?_ | refine zad rfl ?_ | refine zah rfl ?_)
      ·replace h := bb_f hb48 h
       refine o_w (za4 rfl rfl rfl (congrArg Value.bool hb48)) rfl (za2 rfl) ?_
       refine o_w (za4 rfl rfl rfl (congrArg Value.bool hb48)) rfl (za2 rfl) ?_
       refine za7 h (fun b50 hx49 h => ?_) rfl
       refine o_ew (za4 rfl rfl rfl (congrArg Value.bool hb48)) (zab 0 Z Try.func87 N87 rfl rfl rfl (fun w P1 hF hB hS hT => spec_l1Has.calls A1 c1 l1.length l1 i25 hB hF (hS _ R1) hc1 _ hx49)) (fun _ => ?_)
       refine o_w (za4 rfl rfl rfl (congrArg Value.bool hb48)) rfl (q_not rfl) ?_
       refine o_w (za4 rfl rfl rfl (congrArg Value.bool hb48)) rfl (za2 rfl) ?_
       refine byB b50 (fun hb51 => ?_) (fun hb51 => ?_)
       ·replace h := bb_t hb51 h
        refine @o_n _ _ _ _ _ _ _ _ _ _ _ 52 (za3 rfl rfl rfl (congrArg (fun b => Value.bool (!(b))) hb51) rfl) (Eq.refl (some 52)) ?_
        refine @o_n _ _ _ _ _ _ _ _ _ _ _ 53 (za3 rfl rfl rfl (congrArg (fun b => Value.bool (!(b))) hb51) rfl) (Eq.refl (some 53)) ?_
        refine @o_n _ _ _ _ _ _ _ _ _ _ _ 54 (za3 rfl rfl rfl (congrArg (fun b => Value.bool (!(b))) hb51) rfl) (Eq.refl (some 54)) ?_
        refine @o_n _ _ _ _ _ _ _ _ _ _ _ 55 (za3 rfl rfl rfl (congrArg (fun b => Value.bool (!(b))) hb51) rfl) (Eq.refl (some 55)) ?_
        refine @o_n _ _ _ _ _ _ _ _ _ _ _ 56 (za3 rfl rfl rfl (congrArg (fun b => Value.bool (!(b))) hb51) rfl) (Eq.refl (some 56)) ?_
        refine @o_n _ _ _ _ _ _ _ _ _ _ _ 57 (zb7 rfl rfl rfl rfl) (Eq.refl (some 57)) ?_
        refine @o_n _ _ _ _ _ _ _ _ _ _ _ 58 (zb7 rfl rfl rfl rfl) (Eq.refl (some 58)) ?_
        refine @o_n _ _ _ _ _ _ _ _ _ _ _ 59 (zb7 rfl rfl rfl rfl) (Eq.refl (some 59)) ?_
        refine @o_n _ _ _ _ _ _ _ _ _ _ _ 60 (zb7 rfl rfl rfl rfl) (Eq.refl (some 60)) ?_
        refine @o_n _ _ _ _ _ _ _ _ _ _ _ 61 (za3 rfl rfl rfl (congrArg (fun b => Value.bool (!(b))) hb51) rfl) (Eq.refl (some 61)) ?_
        refine o_w (za4 rfl rfl rfl (congrArg Value.bool hb48)) rfl (zaq false (congrArg (fun b => Value.bool (!(b))) hb51) rfl) ?_
        refine o_q rfl rfl (zaq false (congrArg Value.bool hb48) rfl) ?_
        refine o_q rfl rfl (q_asg rfl) ?_
        refine o_end ?_
        refine zal ?_
        refine za1 ?_
        refine za0 ?_
        refine o_q rfl rfl (q_up rfl rfl (hr30.up hm31)) ?_
        refine o_q rfl rfl (za2 rfl) ?_
        refine o_end ?_
        refine zam ys28.length (ys28, i25 + 1, false) (by rw [← hk36]; exact Nat.lt_succ_self _) ⟨hr30.step, rfl, h⟩ ⟨rfl, rfl, trivial⟩ (fun w h => za6 [1, 2] (by decide) rfl w h) ?_
        repeat (first | exact zac _ _ | refine zaf rfl ?_ | refine zad rfl ?_ | refine zah rfl ?_)
       ·replace h := bb_f hb51 h
        refine o_w (za4 rfl rfl rfl (congrArg (fun b => Value.bool (!(b))) hb51)) rfl (q_f F88_0 rfl) ?_
        refine o_w (za4 rfl rfl rfl (congrArg (fun b => Value.bool (!(b))) hb51)) rfl (q_ldb Y3 rfl (fun w h => h.zae (i := 0) rfl) rfl) ?_
        refine o_w (za4 rfl rfl rfl (congrArg (fun b => Value.bool (!(b))) hb51)) rfl (za2 rfl) ?_
        refine o_w (za4 rfl rfl rfl (congrArg (fun b => Value.bool (!(b))) hb51)) rfl (q_eql rfl rfl) ?_
        refine o_w (za4 rfl rfl rfl (congrArg (fun b => Value.bool (!(b))) hb51)) rfl (za2 rfl) ?_
        refine byB (decide (y27.f0 = i7)) (fun hb52 => ?_) (fun hb52 => ?_)
        ·replace h := br_t hb52 h
         refine @o_n _ _ _ _ _ _ _ _ _ _ _ 57 (za3 rfl rfl rfl (congrArg Value.bool hb52) rfl) (Eq.refl (some 57)) ?_
         refine @o_n _ _ _ _ _ _ _ _ _ _ _ 58 (za3 rfl rfl rfl (congrArg Value.bool hb52) rfl) (Eq.refl (some 58)) ?_
         refine @o_n _ _ _ _ _ _ _ _ _ _ _ 59 (za3 rfl rfl rfl (congrArg Value.bool hb52) rfl) (Eq.refl (some 59)) ?_
         refine @o_n _ _ _ _ _ _ _ _ _ _ _ 60 (za3 rfl rfl rfl (congrArg Value.bool hb52) rfl) (Eq.refl (some 60)) ?_
         refine o_w (za4 rfl rfl rfl (congrArg (fun b => Value.bool (!(b))) hb51)) rfl (zaq true (congrArg Value.bool hb52) rfl) ?_
         refine o_w (za4 rfl rfl rfl (congrArg Value.bool hb48)) rfl (zaq true (congrArg (fun b => Value.bool (!(b))) hb51) rfl) ?_
         refine o_q rfl rfl (zaq false (congrArg Value.bool hb48) rfl) ?_
         refine o_q rfl rfl (q_asg rfl) ?_
         refine o_end ?_
         refine zal ?_
         refine za1 ?_
         refine za0 ?_
         refine o_q rfl rfl (q_up rfl rfl (hr30.up hm31)) ?_
         refine o_q rfl rfl (za2 rfl) ?_
         refine o_end ?_
         refine zam ys28.length (ys28, i25 + 1, true) (by rw [← hk36]; exact Nat.lt_succ_self _) ⟨hr30.step, rfl, h⟩ ⟨rfl, rfl, trivial⟩ (fun w h => za6 [1, 2] (by decide) rfl w h) ?_
         repeat (first | exact zac _ _ | refine zaf rfl ?_ | refine zad rfl ?_ | refine zah rfl ?_)
        ·replace h := br_f hb52 h
         refine o_w (za4 rfl rfl rfl (congrArg Value.bool hb52)) rfl (q_f F88_1 rfl) ?_
         refine o_w (za4 rfl rfl rfl (congrArg Value.bool hb52)) rfl (q_ldb Y3 rfl (fun w h => h.zae (i := 0) rfl) rfl) ?_
         refine o_w (za4 rfl rfl rfl (congrArg Value.bool hb52)) rfl (za2 rfl) ?_
         refine o_w (za4 rfl rfl rfl (congrArg Value.bool hb52)) rfl (q_eql rfl rfl) ?_
         refine o_w (za4 rfl rfl rfl (congrArg (fun b => Value.bool (!(b))) hb51)) rfl (zaq false (congrArg Value.bool hb52) rfl) ?_
         refine o_w (za4 rfl rfl rfl (congrArg Value.bool hb48)) rfl (zaq true (congrArg (fun b => Value.bool (!(b))) hb51) rfl) ?_
         refine o_q rfl rfl (zaq false (congrArg Value.bool hb48) rfl) ?_
         refine o_q rfl rfl (q_asg rfl) ?_
         refine o_end ?_
         refine zal ?_
         refine za1 ?_
         refine za0 ?_
         refine o_q rfl rfl (q_up rfl rfl (hr30.up hm31)) ?_
         refine o_q rfl rfl (za2 rfl) ?_
         refine o_end ?_
         refine zam ys28.length (ys28, i25 + 1, decide (y27.f1 = i7)) (by rw [← hk36]; exact Nat.lt_succ_self _) ⟨hr30.step, rfl, h⟩ ⟨rfl, rfl, trivial⟩ (fun w h => za6 [1, 2] (by decide) rfl w h) ?_
         repeat (first | exact zac _ _ | refine zaf rfl ?_ | refine zad rfl ?_ | refine zah rfl ?_)
   ·replace h := br_f hb19 h
    refine @o_n _ _ _ _ _ _ _ _ _ _ _ 25 (za3 rfl rfl rfl (congrArg Value.bool hb19) rfl) (Eq.refl (some 25)) ?_
    refine @o_n _ _ _ _ _ _ _ _ _ _ _ 26 (za3 rfl rfl rfl (congrArg Value.bool hb19) rfl) (Eq.refl (some 26)) ?_
    refine @o_n _ _ _ _ _ _ _ _ _ _ _ 27 (za3 rfl rfl rfl (congrArg Value.bool hb19) rfl) (Eq.refl (some 27)) ?_
    refine @o_n _ _ _ _ _ _ _ _ _ _ _ 28 (za3 rfl rfl rfl (congrArg Value.bool hb19) rfl) (Eq.refl (some 28)) ?_
    refine @o_n _ _ _ _ _ _ _ _ _ _ _ 29 (za3 rfl rfl rfl (congrArg Value.bool hb19) rfl) (Eq.refl (some 29)) ?_
    refine @o_n _ _ _ _ _ _ _ _ _ _ _ 30 (za3 rfl rfl rfl (congrArg Value.bool hb19) rfl) (Eq.refl (some 30)) ?_
    refine @o_n _ _ _ _ _ _ _ _ _ _ _ 31 (za3 rfl rfl rfl (congrArg Value.bool hb19) rfl) (Eq.refl (some 31)) ?_
    refine o_q rfl rfl (zaq false (congrArg Value.bool hb19) rfl) ?_
    refine o_end ?_
    refine za1 ?_
    refine zb3 rfl ?_
    refine zao ?_
    refine za1 ?_
    refine c_seq ?_
    refine za0 ?_
    refine o_q rfl rfl (q_f F27_2 rfl) ?_
    refine o_q rfl rfl (q_ldb Y25 rfl (fun w h => h.zae (i := 1) rfl) rfl) ?_
    refine o_q rfl rfl (za2 rfl) ?_
    refine za7 h (fun b54 hx53 h => ?_) rfl
    refine o_e rfl (zab 0 Z Try.func87 N87 rfl rfl rfl (fun w P1 hF hB hS hT => spec_l1Has.calls A0_2 c0_2 l0_2.length l0_2 i7 hB hF (hS _ R0_2) hc0_2 _ hx53)) (fun _ => ?_)
    refine o_q rfl rfl (q_asg rfl) ?_
    refine o_end ?_
    refine za1 ?_
    refine c_seq ?_
    refine c_seq ?_
    refine za0 ?_
    refine o_q rfl rfl (q_f F27_1 rfl) ?_
    refine o_q rfl rfl (q_ldb Y24 rfl (fun w h => h.zae (i := 1) rfl) rfl) ?_
    refine o_q rfl rfl (q_len Try.underlying24 rfl) ?_
    refine o_q rfl rfl (za2 rfl) ?_
    refine o_end ?_
    refine za1 ?_
    refine zaj ?_
    refine za7 h (fun o64 hl63 hR62 => ?_) rfl
    clear h
    refine zba (p := l0_1.length ≤ 9223372036854775807) (fun w h => (R0_1.now Z h).2.1) (fun hm61 => ?_)
    refine zax (σ := (List SStep) × Int × Bool) (fun k59 ((ys58, i55, b56) : (List SStep) × Int × Bool) => Rg l0_1 i55 ys58 ∧ ys58.length = k59 ∧ spec_reNeeded.l2 l1 i7 ys58 i55 b56 = some o64) [7, 8, 9, 40, 41, 42, 43, 44, 45, 46, 47, 48, 49, 50, 51, 52, 53, 54, 55, 56, 57, 58, 59, 60, 61, 62, 63, 64] (fun ((ys58, i55, b56) : (List SStep) × Int × Bool) => [(7, .bool b56), (40, .int .i64 i55)]) (fun ((ys58, i55, b56) : (List SStep) × Int × Bool) => [row (Kd.int .i64) 3 (.slice A5 l4.length c6) l4, box g1 27 #[.int .i64 a0_0, .slice A0_1 l0_1.length c0_1, .slice A0_2 l0_2.length c0_2]]) l0_1.length (l0_1, 0, b54) ⟨Rg.start _, rfl, hl63⟩ ⟨rfl, rfl, trivial⟩ (fun w h => h) ?_
    refine fun k59 => cur3 (listC (fun i55 b56 U65 hJ_ => ?_) (fun y57 ys58 i55 b56 U65 hJ_ => ?_))
    ·skip
     clear hl63
     have hr60 := hJ_.1; have hk66 := hJ_.2.1; have h := hJ_.2.2; clear hJ_
     replace h : spec_reNeeded.l2 l1 i7 [] i55 b56 = some o64 := h
     rw [spec_reNeeded.l2] at h
     refine c_seq ?_
     refine za0 ?_
     refine o_q rfl rfl (q_lss rfl rfl) ?_
     refine o_end ?_
     refine za1 ?_
     refine c_seq ?_
     refine zb3 (congrArg Value.bool hr60.ge) ?_
     refine zb4 ?_
     refine za8 ?_
     refine za8 ?_
     have e_ := Option.some.inj h; replace h := hR62; rw [← e_] at h; clear e_
     refine x_hit ?_
     refine za1 ?_
     refine c_seq ?_
     refine za0 ?_
     refine o_q rfl rfl (za2 rfl) ?_
     refine o_end ?_
     refine za1 ?_
     refine zau _ rfl (fun hb67 => ?_) (fun hb67 => ?_)
     ·skip
      replace h := bb_t hb67 h
      refine za0 ?_
      refine o_q rfl rfl (za2 rfl) ?_
      refine o_q rfl rfl (za2 rfl) ?_
      refine o_e rfl (e_lit (vs := [(0, .int .i64 i7)]) (cs := [.int .i64 i7]) (Kd.int .i64) ([i7] : List Int) Try.underlying25 I3 (by decide) rfl (by decide) rfl rfl (fun _ _ => Kd.zak _)) (cur2 (fun A68 c69 => ?_))
      refine za7 h (fun l71 ha72 h => ?_) rfl
      refine o_e rfl (e_app (i := 1) (j := 0) Try.underlying25 I3 rfl (by decide) (by decide) rfl rfl rfl rfl rfl ha72) (cur2 (fun A73 c74 => ?_))
      refine o_q rfl rfl (q_asg rfl) ?_
      refine o_end ?_
      refine zal ?_
      refine za1 ?_
      refine za0 ?_
      refine o_q rfl rfl (za2 rfl) ?_
      refine o_q rfl rfl (zb8 rfl rfl) ?_
      refine o_q rfl rfl (q_asg rfl) ?_
      refine o_end ?_
      refine zam k10 (l71, w64 (i7 + 1), A73, c74) (Nat.lt_succ_self _) h ⟨rfl, rfl, trivial⟩ (fun w h => za6 [1, 2] (by decide) rfl w h) ?_
      repeat (first | exact zac _ _ | refine zaf rfl ?_ | refine zad rfl ?_ | refine zah rfl ?_)
     ·skip
      replace h := bb_f hb67 h
      refine zao ?_
      refine zal ?_
      refine za1 ?_
      refine za0 ?_
      refine o_q rfl rfl (za2 rfl) ?_
      refine o_q rfl rfl (zb8 rfl rfl) ?_
      refine o_q rfl rfl (q_asg rfl) ?_
      refine o_end ?_
      refine zam k10 (l4, w64 (i7 + 1), A5, c6) (Nat.lt_succ_self _) h ⟨rfl, rfl, trivial⟩ (fun w h => za6 [0, 1] (by decide) rfl w h) ?_
      repeat (first | exact zac _ _ | refine zaf rfl ?_ | refine zad rfl ?_ | refine zah rfl ?_)
    ·skip
     clear hl63
     have hr60 := hJ_.1; have hk66 := hJ_.2.1; have h := hJ_.2.2; clear hJ_
     replace h : spec_reNeeded.l2 l1 i7 (y57 :: ys58) i55 b56 = some o64 := h
     rw [spec_reNeeded.l2] at h
     refine c_seq ?_
     refine za0 ?_
     refine o_q rfl rfl (q_lss rfl rfl) ?_
     refine o_end ?_
     refine za1 ?_
     refine c_seq ?_
     refine zb1 (congrArg Value.bool hr60.lt) ?_
     refine zao ?_
     refine za1 ?_
     refine c_seq ?_
     refine zaj ?_
     refine c_seq ?_
     refine za0 ?_
     refine o_q rfl rfl (za2 rfl) ?_
     refine zaz (p := Sh A0_1 l0_1.length l0_1.length) (fun w h => f_sh (dk := kStep) h (fun w h => R0_1.now Z h)) (fun hq75 => ?_)
     refine o_q rfl rfl (q_ix Try.underlying24 Z88 rfl rfl hq75 hr60.get) ?_
     refine o_q rfl rfl (q_ldE G88 Z88 rfl rfl (fun w h => R0_1.now Z h) hr60.get (fun _ _ h => h) rfl) ?_
     refine o_e rfl (zat V88 rfl) (fun g76 => ?_)
     refine o_q rfl rfl (q_asg rfl) ?_
     refine o_e rfl (zan (i := 0) rfl rfl rfl Z88 rfl rfl) (fun _ => ?_)
     refine o_end ?_
     refine za1 ?_
     refine za0 ?_
     refine o_q rfl rfl (za2 rfl) ?_
     refine o_q rfl rfl (za2 rfl) ?_
     refine byB b56 (fun hb78 => ?_) (fun hb78 => ?_)
     ·replace h := bb_t hb78 h
      refine @o_n _ _ _ _ _ _ _ _ _ _ _ 47 (za3 rfl rfl rfl (congrArg Value.bool hb78) rfl) (Eq.refl (some 47)) ?_
      refine @o_n _ _ _ _ _ _ _ _ _ _ _ 48 (za3 rfl rfl rfl (congrArg Value.bool hb78) rfl) (Eq.refl (some 48)) ?_
      refine @o_n _ _ _ _ _ _ _ _ _ _ _ 49 (za3 rfl rfl rfl (congrArg Value.bool hb78) rfl) (Eq.refl (some 49)) ?_
      refine @o_n _ _ _ _ _ _ _ _ _ _ _ 50 (za3 rfl rfl rfl (congrArg Value.bool hb78) rfl) (Eq.refl (some 50)) ?_
      refine @o_n _ _ _ _ _ _ _ _ _ _ _ 51 (za3 rfl rfl rfl (congrArg Value.bool hb78) rfl) (Eq.refl (some 51)) ?_
      refine @o_n _ _ _ _ _ _ _ _ _ _ _ 52 (zb7 rfl rfl rfl rfl) (Eq.refl (some 52)) ?_
      refine @o_n _ _ _ _ _ _ _ _ _ _ _ 53 (zb7 rfl rfl rfl rfl) (Eq.refl (some 53)) ?_
      refine @o_n _ _ _ _ _ _ _ _ _ _ _ 54 (zb7 rfl rfl rfl rfl) (Eq.refl (some 54)) ?_
      refine @o_n _ _ _ _ _ _ _ _ _ _ _ 55 (zb7 rfl rfl rfl rfl) (Eq.refl (some 55)) ?_
      refine @o_n _ _ _ _ _ _ _ _ _ _ _ 56 (zb7 rfl rfl rfl rfl) (Eq.refl (some 56)) ?_
      refine @o_n _ _ _ _ _ _ _ _ _ _ _ 57 (zb7 rfl rfl rfl rfl) (Eq.refl (some 57)) ?_
      refine @o_n _ _ _ _ _ _ _ _ _ _ _ 58 (zb7 rfl rfl rfl rfl) (Eq.refl (some 58)) ?_
      refine @o_n _ _ _ _ _ _ _ _ _ _ _ 59 (zb7 rfl rfl rfl rfl) (Eq.refl (some 59)) ?_
      refine @o_n _ _ _ _ _ _ _ _ _ _ _ 60 (zb7 rfl rfl rfl rfl) (Eq.refl (some 60)) ?_
      refine @o_n _ _ _ _ _ _ _ _ _ _ _ 61 (zb7 rfl rfl rfl rfl) (Eq.refl (some 61)) ?_
      refine @o_n _ _ _ _ _ _ _ _ _ _ _ 62 (za3 rfl rfl rfl (congrArg Value.bool hb78) rfl) (Eq.refl (some 62)) ?_
      refine o_q rfl rfl (zaq true (congrArg Value.bool hb78) rfl) ?_
      refine o_q rfl rfl (q_asg rfl) ?_
      refine o_end ?_
      refine zal ?_
      refine za1 ?_
      refine za0 ?_
      refine o_q rfl rfl (q_up rfl rfl (hr60.up hm61)) ?_
      refine o_q rfl rfl (za2 rfl) ?_
      refine o_end ?_
      refine zam ys58.length (ys58, i55 + 1, true) (by rw [← hk66]; exact Nat.lt_succ_self _) ⟨hr60.step, rfl, h⟩ ⟨rfl, rfl, trivial⟩ (fun w h => za6 [1, 2] (by decide) rfl w h) ?_
      repeat (first | exact zac _ _ | refine zaf rfl ?_ | refine zad rfl ?_ | refine zah rfl ?_)
     ·replace h := bb_f hb78 h
      refine o_w (za4 rfl rfl rfl (congrArg Value.bool hb78)) rfl (za2 rfl) ?_
      refine o_w (za4 rfl rfl rfl (congrArg Value.bool hb78)) rfl (za2 rfl) ?_
      refine za7 h (fun b80 hx79 h => ?_) rfl
      refine o_ew (za4 rfl rfl rfl (congrArg Value.bool hb78)) (zab 0 Z Try.func87 N87 rfl rfl rfl (fun w P1 hF hB hS hT => spec_l1Has.calls A1 c1 l1.length l1 i55 hB hF (hS _ R1) hc1 _ hx79)) (fun _ => ?_)
      refine o_w (za4 rfl rfl rfl (congrArg Value.bool hb78)) rfl (q_not rfl) ?_
      refine o_w (za4 rfl rfl rfl (congrArg Value.bool hb78)) rfl (za2 rfl) ?_
      refine byB b80 (fun hb81 => ?_) (fun hb81 => ?_)
      ·replace h := bb_t hb81 h
       refine @o_n _ _ _ _ _ _ _ _ _ _ _ 52 (za3 rfl rfl rfl (congrArg (fun b => Value.bool (!(b))) hb81) rfl) (Eq.refl (some 52)) ?_
       refine @o_n _ _ _ _ _ _ _ _ _ _ _ 53 (za3 rfl rfl rfl (congrArg (fun b => Value.bool (!(b))) hb81) rfl) (Eq.refl (some 53)) ?_
       refine @o_n _ _ _ _ _ _ _ _ _ _ _ 54 (za3 rfl rfl rfl (congrArg (fun b => Value.bool (!(b))) hb81) rfl) (Eq.refl (some 54)) ?_
       refine @o_n _ _ _ _ _ _ _ _ _ _ _ 55 (za3 rfl rfl rfl (congrArg (fun b => Value.bool (!(b))) hb81) rfl) (Eq.refl (some 55)) ?_
       refine @o_n _ _ _ _ _ _ _ _ _ _ _ 56 (za3 rfl rfl rfl (congrArg (fun b => Value.bool (!(b))) hb81) rfl) (Eq.refl (some 56)) ?_
       refine @o_n _ _ _ _ _ _ _ _ _ _ _ 57 (zb7 rfl rfl rfl rfl) (Eq.refl (some 57)) ?_
       refine @o_n _ _ _ _ _ _ _ _ _ _ _ 58 (zb7 rfl rfl rfl rfl) (Eq.refl (some 58)) ?_
       refine @o_n _ _ _ _ _ _ _ _ _ _ _ 59 (zb7 rfl rfl rfl rfl) (Eq.refl (some 59)) ?_
       refine @o_n _ _ _ _ _ _ _ _ _ _ _ 60 (zb7 rfl rfl rfl rfl) (Eq.refl (some 60)) ?_
       refine @o_n _ _ _ _ _ _ _ _ _ _ _ 61 (za3 rfl rfl rfl (congrArg (fun b => Value.bool (!(b))) hb81) rfl) (Eq.refl (some 61)) ?_
       refine o_w (za4 rfl rfl rfl (congrArg Value.bool hb78)) rfl (zaq false (congrArg (fun b => Value.bool (!(b))) hb81) rfl) ?_
       refine o_q rfl rfl (zaq false (congrArg Value.bool hb78) rfl) ?_
       refine o_q rfl rfl (q_asg rfl) ?_
       refine o_end ?_
       refine zal ?_
       refine za1 ?_
       refine za0 ?_
       refine o_q rfl rfl (q_up rfl rfl (hr60.up hm61)) ?_
       refine o_q rfl rfl (za2 rfl) ?_
       refine o_end ?_
       refine zam ys58.length (ys58, i55 + 1, false) (by rw [← hk66]; exact Nat.lt_succ_self _) ⟨hr60.step, rfl, h⟩ ⟨rfl, rfl, trivial⟩ (fun w h => za6 [1, 2] (by decide) rfl w h) ?_
       repeat (first | exact zac _ _ | refine zaf rfl ?_ | refine zad rfl ?_ | refine zah rfl ?_)
      ·replace h := bb_f hb81 h
       refine o_w (za4 rfl rfl rfl (congrArg (fun b => Value.bool (!(b))) hb81)) rfl (q_f F88_0 rfl) ?_
       refine o_w (za4 rfl rfl rfl (congrArg (fun b => Value.bool (!(b))) hb81)) rfl (q_ldb Y3 rfl (fun w h => h.zae (i := 0) rfl) rfl) ?_
       refine o_w (za4 rfl rfl rfl (congrArg (fun b => Value.bool (!(b))) hb81)) rfl (za2 rfl) ?_
       refine o_w (za4 rfl rfl rfl (congrArg (fun b => Value.bool (!(b))) hb81)) rfl (q_eql rfl rfl) ?_
       refine o_w (za4 rfl rfl rfl (congrArg (fun b => Value.bool (!(b))) hb81)) rfl (za2 rfl) ?_
       refine byB (decide (y57.f0 = i7)) (fun hb82 => ?_) (fun hb82 => ?_)
       ·replace h := br_t hb82 h
        refine @o_n _ _ _ _ _ _ _ _ _ _ _ 57 (za3 rfl rfl rfl (congrArg Value.bool hb82) rfl) (Eq.refl (some 57)) ?_
        refine @o_n _ _ _ _ _ _ _ _ _ _ _ 58 (za3 rfl rfl rfl (congrArg Value.bool hb82) rfl) (Eq.refl (some 58)) ?_
        refine @o_n _ _ _ _ _ _ _ _ _ _ _ 59 (za3 rfl rfl rfl (congrArg Value.bool hb82) rfl) (Eq.refl (some 59)) ?_
        refine @o_n _ _ _ _ _ _ _ _ _ _ _ 60 (za3 rfl rfl rfl (congrArg Value.bool hb82) rfl) (Eq.refl (some 60)) ?_
        refine o_w (za4 rfl rfl rfl (congrArg (fun b => Value.bool (!(b))) hb81)) rfl (zaq true (congrArg Value.bool hb82) rfl) ?_
        refine o_w (za4 rfl rfl rfl (congrArg Value.bool hb78)) rfl (zaq true (congrArg (fun b => Value.bool (!(b))) hb81) rfl) ?_
        refine o_q rfl rfl (zaq false (congrArg Value.bool hb78) rfl) ?_
        refine o_q rfl rfl (q_asg rfl) ?_
        refine o_end ?_
        refine zal ?_
        refine za1 ?_
        refine za0 ?_
        refine o_q rfl rfl (q_up rfl rfl (hr60.up hm61)) ?_
        refine o_q rfl rfl (za2 rfl) ?_
        refine o_end ?_
        refine zam ys58.length (ys58, i55 + 1, true) (by rw [← hk66]; exact Nat.lt_succ_self _) ⟨hr60.step, rfl, h⟩ ⟨rfl, rfl, trivial⟩ (fun w h => za6 [1, 2] (by decide) rfl w h) ?_
        repeat (first | exact zac _ _ | refine zaf rfl ?_ | refine zad rfl ?_ | refine zah rfl ?_)
       ·replace h := br_f hb82 h
        refine o_w (za4 rfl rfl rfl (congrArg Value.bool hb82)) rfl (q_f F88_1 rfl) ?_
        refine o_w (za4 rfl rfl rfl (congrArg Value.bool hb82)) rfl (q_ldb Y3 rfl (fun w h => h.zae (i := 0) rfl) rfl) ?_
        refine o_w (za4 rfl rfl rfl (congrArg Value.bool hb82)) rfl (za2 rfl) ?_
        refine o_w (za4 rfl rfl rfl (congrArg Value.bool hb82)) rfl (q_eql rfl rfl) ?_
        refine o_w (za4 rfl rfl rfl (congrArg (fun b => Value.bool (!(b))) hb81)) rfl (zaq false (congrArg Value.bool hb82) rfl) ?_
        refine o_w (za4 rfl rfl rfl (congrArg Value.bool hb78)) rfl (zaq true (congrArg (fun b => Value.bool (!(b))) hb81) rfl) ?_
        refine o_q rfl rfl (zaq false (congrArg Value.bool hb78) rfl) ?_
        refine o_q rfl rfl (q_asg rfl) ?_
        refine o_end ?_
        refine zal ?_
        refine za1 ?_
        refine za0 ?_
        refine o_q rfl rfl (q_up rfl rfl (hr60.up hm61)) ?_
        refine o_q rfl rfl (za2 rfl) ?_
        refine o_end ?_
        refine zam ys58.length (ys58, i55 + 1, decide (y57.f1 = i7)) (by rw [← hk66]; exact Nat.lt_succ_self _) ⟨hr60.step, rfl, h⟩ ⟨rfl, rfl, trivial⟩ (fun w h => za6 [1, 2] (by decide) rfl w h) ?_
        repeat (first | exact zac _ _ | refine zaf rfl ?_ | refine zad rfl ?_ | refine zah rfl ?_)
  ·skip
   replace h := br_f hb18 h
   refine zb4 ?_
   refine za8 ?_
   refine za8 ?_
   have e_ := Option.some.inj h; replace h := hR13; rw [← e_] at h; clear e_
   refine x_hit ?_
   refine za1 ?_
   refine c_seq ?_
   refine za0 ?_
   refine o_q rfl rfl (za2 rfl) ?_
   refine o_q rfl rfl (q_asg rfl) ?_
   refine o_end ?_
   refine za1 ?_
   refine c_ret ?_
   have e0_ := Option.some.inj h; clear h
   subst e0_
   exact x_r1 (A5, c6) Try.results71 (zai rfl) rfl (fun w h => za6 [0] (by decide) rfl w h)

end Go.Proofs.Ytdicngjloiphkaa.L6
