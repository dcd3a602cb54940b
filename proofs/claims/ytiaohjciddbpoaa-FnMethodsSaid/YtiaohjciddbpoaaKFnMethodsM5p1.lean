import Derived.Test.YtiaohjciddbpoaaKFnMethodsHand
import Derived.Test.YtiaohjciddbpoaaKFnMethodsOpr
import Derived.Test.YtiaohjciddbpoaaKFnMethodsOpt
import Derived.Test.YtiaohjciddbpoaaProg
import Derived.Test.YtiaohjciddbpoaaKFnMethodsWMore
import Derived.KernelRfl
namespace Go.Proofs.Ytiaohjciddbpoaa.M5
set_option maxHeartbeats 8000000
set_option maxRecDepth 100000
open Go.RowKit Go.Proofs.Ytiaohjciddbpoaa.Frame Go.Proofs.YtiaohjciddbpoaaW.PrintLast Go.Proofs.Ytiaohjciddbpoaa.Hand
open Go.Proofs.YtiaohjciddbpoaaW.PrintWords hiding mn mx
set_option linter.unusedVariables false
theorem of_ {P : Prop} (h : P := by repeat (first | exact off_refl _ _ | refine off_upd rfl ?_ | refine off_updL rfl ?_ | refine off_mix rfl ?_)) : P := h
theorem kr_ {P : Prop} (h : P := by kernel_rfl) : P := h
theorem vb_ {a b : Bool} (h : a = b) : Value.bool a = Value.bool b := congrArg _ h
theorem si_ {α : Type} {a b : α} (h : some a = some b) : a = b := Option.some.inj h
theorem dc_ {P : Prop} (h : P := by decide) : P := h
section
variable {P : Program} {N : Md} {w0 ws : World} {P0 : Nat → Prop} {ops : Array Oper} {rest : List Oper} {LS L L2 : List (Thing w0.heap.size)} {ds : List Nat} {fuel : Nat} {l : Array Bool} {Q : Post} {e : Nat → Value} {d : Tmp} {p : Op} {ty : TypeId} {pos : String} {af : Array Edge} {dst : Option Tmp} {v : Value}
theorem oq_ (q : Qt P N e (Fr w0 ws P0 L) ⟨some d, p, ty, pos, af, none⟩ v) (k : O P N w0 ws P0 ops rest Q (upd e d v) L) : O P N w0 ws P0 ops (⟨some d, p, ty, pos, af, none⟩ :: rest) Q e L := o_q rfl rfl q k
theorem ap_ (i : Nat) (hi : ops[i]? = some ⟨some d, p, ty, pos, af, none⟩) (hq : Qt P N e (fun _ => True) ⟨some d, p, ty, pos, af, none⟩ v) (k : A P N w0 ws P0 ops LS ds fuel (l.setIfInBounds i true) Q (upd e d v) L) (hc : anyB .any ops l (l.setIfInBounds i true) i = true := by kernel_rfl) (hQ : NoP Q := by exact fun _ _ _ h => h) : A P N w0 ws P0 ops LS ds (fuel + 1) l Q e L := a_pure i hi rfl rfl hc hQ hq k
theorem at_2 (i : Nat) (hi : ops[i]? = some ⟨some d, p, ty, pos, af, none⟩) (hS : ∀ w, Fr w0 ws P0 L w → Fr w0 ws P0 LS w) (hq : Qt P N e (Fr w0 ws P0 LS) ⟨some d, p, ty, pos, af, none⟩ v) (k : A P N w0 ws P0 ops LS ds fuel (l.setIfInBounds i true) Q (upd e d v) L) (hc : takeB .any ops ds l (l.setIfInBounds i true) i = true := by kernel_rfl) (hQ : NoP Q := by exact fun _ _ _ h => h) : A P N w0 ws P0 ops LS ds (fuel + 1) l Q e L := a_take i hi rfl rfl hc hQ hS hq k
theorem a1_ {σ : Type} {e' : σ → Nat → Value} {L' : σ → List (Thing w0.heap.size)} (i : Nat) (hi : ops[i]? = some ⟨dst, p, ty, pos, af, none⟩) (hE : Ev1 P N w0 ws P0 ⟨dst, p, ty, pos, af, none⟩ e L e' L') (hS : ∀ s w, Fr w0 ws P0 (L' s) w → Fr w0 ws P0 LS w) (k : ∀ s, A P N w0 ws P0 ops LS ds fuel (l.setIfInBounds i true) Q (e' s) (L' s)) (hc : readyB .any ops l (l.setIfInBounds i true) i = true := by kernel_rfl) (hd : (ds.contains i) = false := by rfl) : A P N w0 ws P0 ops LS ds (fuel + 1) l Q e L := a_one i hi rfl hc hd hE hS k
theorem sl_ {σ : Type} {L' : σ → List (Thing w0.heap.size)} (is : List (Option Nat)) (hn : (is.filterMap id).Nodup := by decide) (he : ∀ s, (is.map fun | some j => (L' s).getD j gone | none => gone) = LS := by intro _; rfl) : ∀ s w, Fr w0 ws P0 (L' s) w → Fr w0 ws P0 LS w := fun s w h => f_selE is hn w h (he s)
theorem sm_ (is : List (Option Nat)) (hn : (is.filterMap id).Nodup := by decide) (he : (is.map fun | some j => L.getD j gone | none => gone) = LS := by rfl) : ∀ w, Fr w0 ws P0 L w → Fr w0 ws P0 LS w := fun w h => f_selE is hn w h he
theorem pk_ (is : List Nat) (hn : is.Nodup := by decide) (hl : is.all (fun j => Nat.blt j L.length) = true := by rfl) (he : (is.map fun j => L.getD j gone) = L2 := by rfl) : ∀ w, Fr w0 ws P0 L w → Fr w0 ws P0 L2 w := fun w h => he ▸ f_pick is hn hl w h
theorem bx_ {g t : Nat} {cs : Array Value} (i : Nat) (h : L[i]? = some (box g t cs)) : ∀ w, Fr w0 ws P0 L w → w.heap[g]? = some (.cells cs t (0, 0)) := fun _ f => f.zb2 h
theorem rc_ {α : Type} {dk : Kd α} {eb n c : Nat} {A : Option Addr} {xs : List α} (i : Nat) (h : L[i]? = some (row dk eb (.slice A n c) xs)) : ∀ w, Fr w0 ws P0 L w → dk.C w A n xs := fun _ f => f.row_Cn h
end
structure Swindow where
 f0 : Int
 f1 : Int
def kwindow : Kd Swindow := flat (fun x => [.int .i64 x.f0, .int .i64 x.f1]) 2 (fun _ => rfl) (fun x u hu => by
 simp only [List.mem_cons, List.not_mem_nil, or_false] at hu
 rcases hu with rfl | rfl <;> rfl)
structure SStep where
 f0 : Int
 f1 : Int
def kStep : Kd SStep := flat (fun x => [.int .i64 x.f0, .int .i64 x.f1]) 2 (fun _ => rfl) (fun x u hu => by
 simp only [List.mem_cons, List.not_mem_nil, or_false] at hu
 rcases hu with rfl | rfl <;> rfl)
theorem F107_0 : fldOff Try.prog 107 0 = some 0 := by kernel_rfl
theorem F107_1 : fldOff Try.prog 107 1 = some 1 := by kernel_rfl
theorem F25_0 : fldOff Try.prog 25 0 = some 0 := by kernel_rfl
theorem F25_1 : fldOff Try.prog 25 1 = some 1 := by kernel_rfl
theorem F25_2 : fldOff Try.prog 25 2 = some 2 := by kernel_rfl
theorem F76_0 : fldOff Try.prog 76 0 = some 0 := by kernel_rfl
theorem F76_1 : fldOff Try.prog 76 1 = some 1 := by kernel_rfl
theorem F84_0 : fldOff Try.prog 84 0 = some 0 := by kernel_rfl
theorem F84_1 : fldOff Try.prog 84 1 = some 1 := by kernel_rfl
theorem F84_2 : fldOff Try.prog 84 2 = some 2 := by kernel_rfl
theorem F94_0 : fldOff Try.prog 94 0 = some 0 := by kernel_rfl
theorem G107 : aggTy (Try.prog.underlying 107) = true := by kernel_rfl
theorem G25 : aggTy (Try.prog.underlying 25) = true := by kernel_rfl
theorem G76 : aggTy (Try.prog.underlying 76) = true := by kernel_rfl
theorem I107 : (Try.prog.info? 107).map (fun i => (i.zero, i.size, i.bytes)) = some (some (.agg #[.int .i64 0, .int .i64 0]), 2, 16) := by kernel_rfl
theorem I23 : (Try.prog.info? 23).map (fun i => (i.zero, i.size, i.bytes)) = some (some (.slice none 0 0), 1, 24) := by kernel_rfl
theorem I25 : (Try.prog.info? 25).map (fun i => (i.zero, i.size, i.bytes)) = some (some (.agg #[.int .i64 0, .slice none 0 0, .slice none 0 0]), 3, 56) := by kernel_rfl
theorem I3 : (Try.prog.info? 3).map (fun i => (i.zero, i.size, i.bytes)) = some (some (.int .i64 0), 1, 8) := by kernel_rfl
theorem I4 : (Try.prog.info? 4).map (fun i => (i.zero, i.size, i.bytes)) = some (some (.bool false), 1, 1) := by kernel_rfl
theorem I76 : (Try.prog.info? 76).map (fun i => (i.zero, i.size, i.bytes)) = some (some (.agg #[.int .i64 0, .int .i64 0]), 2, 16) := by kernel_rfl
theorem MO : Try.prog.follows .mixedOrders = true := by kernel_rfl
theorem N102 : (Try.f102.name == "runtime.NumGoroutine") = false := by kernel_rfl
theorem N106 : (Try.f106.name == "runtime.NumGoroutine") = false := by kernel_rfl
theorem N107 : (Try.f107.name == "runtime.NumGoroutine") = false := by kernel_rfl
theorem N108 : (Try.f108.name == "runtime.NumGoroutine") = false := by kernel_rfl
theorem N109 : (Try.f109.name == "runtime.NumGoroutine") = false := by kernel_rfl
theorem N11 : (Try.f11.name == "runtime.NumGoroutine") = false := by kernel_rfl
theorem N110 : (Try.f110.name == "runtime.NumGoroutine") = false := by kernel_rfl
theorem N111 : (Try.f111.name == "runtime.NumGoroutine") = false := by kernel_rfl
theorem N112 : (Try.f112.name == "runtime.NumGoroutine") = false := by kernel_rfl
theorem N113 : (Try.f113.name == "runtime.NumGoroutine") = false := by kernel_rfl
theorem N114 : (Try.f114.name == "runtime.NumGoroutine") = false := by kernel_rfl
theorem N115 : (Try.f115.name == "runtime.NumGoroutine") = false := by kernel_rfl
theorem N116 : (Try.f116.name == "runtime.NumGoroutine") = false := by kernel_rfl
theorem N117 : (Try.f117.name == "runtime.NumGoroutine") = false := by kernel_rfl
theorem N118 : (Try.f118.name == "runtime.NumGoroutine") = false := by kernel_rfl
theorem N120 : (Try.f120.name == "runtime.NumGoroutine") = false := by kernel_rfl
theorem N121 : (Try.f121.name == "runtime.NumGoroutine") = false := by kernel_rfl
theorem N122 : (Try.f122.name == "runtime.NumGoroutine") = false := by kernel_rfl
theorem N123 : (Try.f123.name == "runtime.NumGoroutine") = false := by kernel_rfl
theorem N126 : (Try.f126.name == "runtime.NumGoroutine") = false := by kernel_rfl
theorem N127 : (Try.f127.name == "runtime.NumGoroutine") = false := by kernel_rfl
theorem N128 : (Try.f128.name == "runtime.NumGoroutine") = false := by kernel_rfl
theorem N130 : (Try.f130.name == "runtime.NumGoroutine") = false := by kernel_rfl
theorem N136 : (Try.f136.name == "runtime.NumGoroutine") = false := by kernel_rfl
theorem N137 : (Try.f137.name == "runtime.NumGoroutine") = false := by kernel_rfl
theorem N138 : (Try.f138.name == "runtime.NumGoroutine") = false := by kernel_rfl
theorem N139 : (Try.f139.name == "runtime.NumGoroutine") = false := by kernel_rfl
theorem N142 : (Try.f142.name == "runtime.NumGoroutine") = false := by kernel_rfl
theorem N143 : (Try.f143.name == "runtime.NumGoroutine") = false := by kernel_rfl
theorem N146 : (Try.f146.name == "runtime.NumGoroutine") = false := by kernel_rfl
theorem N147 : (Try.f147.name == "runtime.NumGoroutine") = false := by kernel_rfl
theorem N148 : (Try.f148.name == "runtime.NumGoroutine") = false := by kernel_rfl
theorem N149 : (Try.f149.name == "runtime.NumGoroutine") = false := by kernel_rfl
theorem N150 : (Try.f150.name == "runtime.NumGoroutine") = false := by kernel_rfl
theorem N151 : (Try.f151.name == "runtime.NumGoroutine") = false := by kernel_rfl
theorem N152 : (Try.f152.name == "runtime.NumGoroutine") = false := by kernel_rfl
theorem N154 : (Try.f154.name == "runtime.NumGoroutine") = false := by kernel_rfl
theorem N155 : (Try.f155.name == "runtime.NumGoroutine") = false := by kernel_rfl
theorem N156 : (Try.f156.name == "runtime.NumGoroutine") = false := by kernel_rfl
theorem N157 : (Try.f157.name == "runtime.NumGoroutine") = false := by kernel_rfl
theorem N16 : (Try.f16.name == "runtime.NumGoroutine") = false := by kernel_rfl
theorem N160 : (Try.f160.name == "runtime.NumGoroutine") = false := by kernel_rfl
theorem N161 : (Try.f161.name == "runtime.NumGoroutine") = false := by kernel_rfl
theorem N162 : (Try.f162.name == "runtime.NumGoroutine") = false := by kernel_rfl
theorem N163 : (Try.f163.name == "runtime.NumGoroutine") = false := by kernel_rfl
theorem N164 : (Try.f164.name == "runtime.NumGoroutine") = false := by kernel_rfl
theorem N168 : (Try.f168.name == "runtime.NumGoroutine") = false := by kernel_rfl
theorem N17 : (Try.f17.name == "runtime.NumGoroutine") = false := by kernel_rfl
theorem N18 : (Try.f18.name == "runtime.NumGoroutine") = false := by kernel_rfl
theorem N22 : (Try.f22.name == "runtime.NumGoroutine") = false := by kernel_rfl
theorem N25 : (Try.f25.name == "runtime.NumGoroutine") = false := by kernel_rfl
theorem N26 : (Try.f26.name == "runtime.NumGoroutine") = false := by kernel_rfl
theorem N28 : (Try.f28.name == "runtime.NumGoroutine") = false := by kernel_rfl
theorem N29 : (Try.f29.name == "runtime.NumGoroutine") = false := by kernel_rfl
theorem N30 : (Try.f30.name == "runtime.NumGoroutine") = false := by kernel_rfl
theorem N31 : (Try.f31.name == "runtime.NumGoroutine") = false := by kernel_rfl
theorem N32 : (Try.f32.name == "runtime.NumGoroutine") = false := by kernel_rfl
theorem N33 : (Try.f33.name == "runtime.NumGoroutine") = false := by kernel_rfl
theorem N34 : (Try.f34.name == "runtime.NumGoroutine") = false := by kernel_rfl
theorem N35 : (Try.f35.name == "runtime.NumGoroutine") = false := by kernel_rfl
theorem N36 : (Try.f36.name == "runtime.NumGoroutine") = false := by kernel_rfl
theorem N37 : (Try.f37.name == "runtime.NumGoroutine") = false := by kernel_rfl
theorem N45 : (Try.f45.name == "runtime.NumGoroutine") = false := by kernel_rfl
theorem N49 : (Try.f49.name == "runtime.NumGoroutine") = false := by kernel_rfl
theorem N52 : (Try.f52.name == "runtime.NumGoroutine") = false := by kernel_rfl
theorem N53 : (Try.f53.name == "runtime.NumGoroutine") = false := by kernel_rfl
theorem N54 : (Try.f54.name == "runtime.NumGoroutine") = false := by kernel_rfl
theorem N55 : (Try.f55.name == "runtime.NumGoroutine") = false := by kernel_rfl
theorem N56 : (Try.f56.name == "runtime.NumGoroutine") = false := by kernel_rfl
theorem N57 : (Try.f57.name == "runtime.NumGoroutine") = false := by kernel_rfl
theorem N58 : (Try.f58.name == "runtime.NumGoroutine") = false := by kernel_rfl
theorem N59 : (Try.f59.name == "runtime.NumGoroutine") = false := by kernel_rfl
theorem N60 : (Try.f60.name == "runtime.NumGoroutine") = false := by kernel_rfl
theorem N61 : (Try.f61.name == "runtime.NumGoroutine") = false := by kernel_rfl
theorem N62 : (Try.f62.name == "runtime.NumGoroutine") = false := by kernel_rfl
theorem N66 : (Try.f66.name == "runtime.NumGoroutine") = false := by kernel_rfl
theorem N67 : (Try.f67.name == "runtime.NumGoroutine") = false := by kernel_rfl
theorem N68 : (Try.f68.name == "runtime.NumGoroutine") = false := by kernel_rfl
theorem N69 : (Try.f69.name == "runtime.NumGoroutine") = false := by kernel_rfl
theorem N70 : (Try.f70.name == "runtime.NumGoroutine") = false := by kernel_rfl
theorem N73 : (Try.f73.name == "runtime.NumGoroutine") = false := by kernel_rfl
theorem N74 : (Try.f74.name == "runtime.NumGoroutine") = false := by kernel_rfl
theorem N75 : (Try.f75.name == "runtime.NumGoroutine") = false := by kernel_rfl
theorem N76 : (Try.f76.name == "runtime.NumGoroutine") = false := by kernel_rfl
theorem N77 : (Try.f77.name == "runtime.NumGoroutine") = false := by kernel_rfl
theorem N78 : (Try.f78.name == "runtime.NumGoroutine") = false := by kernel_rfl
theorem N79 : (Try.f79.name == "runtime.NumGoroutine") = false := by kernel_rfl
theorem N80 : (Try.f80.name == "runtime.NumGoroutine") = false := by kernel_rfl
theorem N81 : (Try.f81.name == "runtime.NumGoroutine") = false := by kernel_rfl
theorem N82 : (Try.f82.name == "runtime.NumGoroutine") = false := by kernel_rfl
theorem N83 : (Try.f83.name == "runtime.NumGoroutine") = false := by kernel_rfl
theorem N86 : (Try.f86.name == "runtime.NumGoroutine") = false := by kernel_rfl
theorem N88 : (Try.f88.name == "runtime.NumGoroutine") = false := by kernel_rfl
theorem N89 : (Try.f89.name == "runtime.NumGoroutine") = false := by kernel_rfl
theorem N90 : (Try.f90.name == "runtime.NumGoroutine") = false := by kernel_rfl
theorem N95 : (Try.f95.name == "runtime.NumGoroutine") = false := by kernel_rfl
theorem N96 : (Try.f96.name == "runtime.NumGoroutine") = false := by kernel_rfl
theorem N98 : (Try.f98.name == "runtime.NumGoroutine") = false := by kernel_rfl
theorem V107 : (Try.prog.info? 107).bind (·.zero) = some (.agg #[.int .i64 0, .int .i64 0]) := by kernel_rfl
theorem V117 : (Try.prog.info? 117).bind (·.zero) = some (.slice none 0 0) := by kernel_rfl
theorem V23 : (Try.prog.info? 23).bind (·.zero) = some (.slice none 0 0) := by kernel_rfl
theorem V25 : (Try.prog.info? 25).bind (·.zero) = some (.agg #[.int .i64 0, .slice none 0 0, .slice none 0 0]) := by kernel_rfl
theorem V3 : (Try.prog.info? 3).bind (·.zero) = some (.int .i64 0) := by kernel_rfl
theorem V60 : (Try.prog.info? 60).bind (·.zero) = some (.pointer none) := by kernel_rfl
theorem V76 : (Try.prog.info? 76).bind (·.zero) = some (.agg #[.int .i64 0, .int .i64 0]) := by kernel_rfl
theorem Y102 : cellTy (Try.prog.underlying 102) = true := by kernel_rfl
theorem Y117 : cellTy (Try.prog.underlying 117) = true := by kernel_rfl
theorem Y22 : cellTy (Try.prog.underlying 22) = true := by kernel_rfl
theorem Y23 : cellTy (Try.prog.underlying 23) = true := by kernel_rfl
theorem Y3 : cellTy (Try.prog.underlying 3) = true := by kernel_rfl
theorem Y36 : cellTy (Try.prog.underlying 36) = true := by kernel_rfl
theorem Y4 : cellTy (Try.prog.underlying 4) = true := by kernel_rfl
theorem Y5 : cellTy (Try.prog.underlying 5) = true := by kernel_rfl
theorem Y60 : cellTy (Try.prog.underlying 60) = true := by kernel_rfl
theorem Y82 : cellTy (Try.prog.underlying 82) = true := by kernel_rfl
theorem Z107 : (Try.prog.info? 107).map (·.size) = some 2 := by kernel_rfl
theorem Z117 : (Try.prog.info? 117).map (·.size) = some 1 := by kernel_rfl
theorem Z22 : (Try.prog.info? 22).map (·.size) = some 1 := by kernel_rfl
theorem Z23 : (Try.prog.info? 23).map (·.size) = some 1 := by kernel_rfl
theorem Z25 : (Try.prog.info? 25).map (·.size) = some 3 := by kernel_rfl
theorem Z3 : (Try.prog.info? 3).map (·.size) = some 1 := by kernel_rfl
theorem Z4 : (Try.prog.info? 4).map (·.size) = some 1 := by kernel_rfl
theorem Z5 : (Try.prog.info? 5).map (·.size) = some 1 := by kernel_rfl
theorem Z60 : (Try.prog.info? 60).map (·.size) = some 1 := by kernel_rfl
theorem Z76 : (Try.prog.info? 76).map (·.size) = some 2 := by kernel_rfl
theorem Z82 : (Try.prog.info? 82).map (·.size) = some 1 := by kernel_rfl
def impl_in.f (a0 : Int) (a1 : Int) (a2 : Int) : Option Bool := if a1 ≤ a0 then (some (decide (a0 ≤ a2))) else (some false)
theorem impl_in.calls {w0 ws : World} {P0 : Nat → Prop} (a0 : Int) (a1 : Int) (a2 : Int) (Z : Below w0.heap.size w0 ws) (hF : Fr w0 ws P0 [] ws)  (r_1 : Bool) (h : impl_in.f a0 a1 a2 = some r_1) :
  Calls Try.prog 113 #[.int .i64 a0, .int .i64 a1, .int .i64 a2] ws (Post1 w0 ws P0 (fun (_ : Unit) => .bool r_1) (fun (_ : Unit) => [])) := by
 unfold impl_in.f at h
 refine enter Try.func113 rfl Try.ntmps113 rfl hF (c_seq (za0 (oq_ (q_asg rfl) (o_end (za1 (c_seq (za0 (oq_ (za2 rfl) (oq_ (za2 rfl) ?_)))))))))
 refine oq_ (q_geq rfl rfl) (oq_ (za2 rfl) (byB (decide (a1 ≤ a0)) (fun hb1 => ?_) (fun hb1 => ?_)))
 ·replace h := br_t hb1 h
  refine o_w (za4 rfl rfl rfl (vb_ hb1)) rfl (za2 rfl) (o_w (za4 rfl rfl rfl (vb_ hb1)) rfl (za2 rfl) (o_w (za4 rfl rfl rfl (vb_ hb1)) rfl (q_leq rfl rfl) (oq_ (zak true (vb_ hb1) rfl) (oq_ (q_asg rfl) (o_end (za1 (c_ret ?_)))))))
  have e0_ := si_ h; clear h
  subst e0_
  exact x_r1 () Try.results113 (zad rfl) rfl (pk_ [])
 ·replace h := br_f hb1 h
  refine o_n (d := 11) (za3 rfl rfl rfl (vb_ hb1) rfl) (Eq.refl (some 11)) (o_n (d := 12) (za3 rfl rfl rfl (vb_ hb1) rfl) (Eq.refl (some 12)) (o_n (d := 13) (za3 rfl rfl rfl (vb_ hb1) rfl) (Eq.refl (some 13)) (oq_ (zak false (vb_ hb1) rfl) (oq_ (q_asg rfl) (o_end (za1 (c_ret ?_)))))))
  have e0_ := si_ h; clear h
  subst e0_
  exact x_r1 () Try.results113 (zad rfl) rfl (pk_ [])

def impl_Plan_many.f (a0_0 : Int) (l0_1 : List SStep) (l0_2 : List Int) : Option Unit := some ()
theorem impl_Plan_many.calls {w0 ws : World} {P0 : Nat → Prop} (g0 : Nat) (a0_0 : Int) (A0_1 : Option Addr) (c0_1 : Nat) (n0_1 : Nat) (l0_1 : List SStep) (A0_2 : Option Addr) (c0_2 : Nat) (n0_2 : Nat) (l0_2 : List Int) (Z : Below w0.heap.size w0 ws) (hF : Fr w0 ws P0 [] ws) (R0_1 : Stable ws P0 (fun w => Kd.C kStep w A0_1 n0_1 l0_1)) (hc0_1 : n0_1 ≤ c0_1) (R0_2 : Stable ws P0 (fun w => Kd.C (Kd.int .i64) w A0_2 n0_2 l0_2)) (hc0_2 : n0_2 ≤ c0_2) (B0 : Stable ws P0 (fun w => w.heap[g0]? = some (.cells #[.int .i64 a0_0, .slice A0_1 n0_1 c0_1, .slice A0_2 n0_2 c0_2] 25 (0, 0))))  (h : impl_Plan_many.f a0_0 l0_1 l0_2 = some ()) :
  Calls Try.prog 115 #[.pointer (some ⟨g0, 0, none⟩)] ws (Post1 w0 ws P0 (fun (_ : Unit) => .int .i64 (w64 (a0_0 + (l0_1.length : Int)))) (fun (_ : Unit) => [])) := by
 unfold impl_Plan_many.f at h
 obtain rfl := (R0_1 ws (KeptB.refl _ _)).1
 obtain rfl := (R0_2 ws (KeptB.refl _ _)).1
 refine enter Try.func115 rfl Try.ntmps115 rfl hF (c_seq (za0 (oq_ (q_asg rfl) (o_end (za1 (c_seq (a_start (ds := []) MO rfl (ap_ 0 rfl (za2 rfl) (ap_ 1 rfl (q_nil rfl) ?_)))))))))
 refine ap_ 2 rfl (q_f F25_0 rfl) (at_2 3 rfl (fun w h => h) (q_ldb Y3 rfl (fun w h => B0.now Z h) rfl) (ap_ 4 rfl (za2 rfl) (ap_ 5 rfl (q_nil rfl) (ap_ 6 rfl (q_f F25_1 rfl) (at_2 7 rfl (fun w h => h) (q_ldb Y22 rfl (fun w h => B0.now Z h) rfl) (ap_ 8 rfl (q_len Try.underlying22 rfl) (ap_ 9 rfl (zay rfl rfl) (ap_ 10 rfl (q_asg rfl) (zaj kr_ ?_)))))))))
 refine za1 (c_ret ?_)
 exact x_r1 () Try.results115 (zad rfl) rfl (pk_ [])

def impl_Plan_formed_1.f (a0 : Int) (a1_0_0 : Int) (l1_0_1 : List SStep) (l1_0_2 : List Int) : Option Bool := (impl_Plan_many.f a1_0_0 l1_0_1 l1_0_2).bind fun _ => (impl_in.f a0 0 (w64 (w64 (a1_0_0 + (l1_0_1.length : Int)) - 1))).bind fun b3 => some (!b3)
theorem impl_Plan_formed_1.calls {w0 ws : World} {P0 : Nat → Prop} (a0 : Int) (g1 : Nat) (g1_0 : Nat) (a1_0_0 : Int) (A1_0_1 : Option Addr) (c1_0_1 : Nat) (n1_0_1 : Nat) (l1_0_1 : List SStep) (A1_0_2 : Option Addr) (c1_0_2 : Nat) (n1_0_2 : Nat) (l1_0_2 : List Int) (Z : Below w0.heap.size w0 ws) (hF : Fr w0 ws P0 [] ws) (R1_0_1 : Stable ws P0 (fun w => Kd.C kStep w A1_0_1 n1_0_1 l1_0_1)) (hc1_0_1 : n1_0_1 ≤ c1_0_1) (R1_0_2 : Stable ws P0 (fun w => Kd.C (Kd.int .i64) w A1_0_2 n1_0_2 l1_0_2)) (hc1_0_2 : n1_0_2 ≤ c1_0_2) (B1_0 : Stable ws P0 (fun w => w.heap[g1_0]? = some (.cells #[.int .i64 a1_0_0, .slice A1_0_1 n1_0_1 c1_0_1, .slice A1_0_2 n1_0_2 c1_0_2] 25 (0, 0)))) (B1 : Stable ws P0 (fun w => w.heap[g1]? = some (.cells #[.pointer (some ⟨g1_0, 0, none⟩)] 102 (0, 0)))) (r_1 : Bool) (h : impl_Plan_formed_1.f a0 a1_0_0 l1_0_1 l1_0_2 = some r_1) :
  Calls Try.prog 155 #[.int .i64 a0, .pointer (some ⟨g1, 0, none⟩)] ws (Post1 w0 ws P0 (fun (_ : Unit) => .bool r_1) (fun (_ : Unit) => [])) := by
 unfold impl_Plan_formed_1.f at h
 obtain rfl := (R1_0_1 ws (KeptB.refl _ _)).1
 obtain rfl := (R1_0_2 ws (KeptB.refl _ _)).1
 refine enter Try.func155 rfl Try.ntmps155 rfl hF (c_seq (za0 (oq_ (q_asg rfl) (o_end (za1 (c_seq (za0 (oq_ (za2 rfl) (oq_ (q_ldb Y102 rfl (fun w h => B1.now Z h) rfl) ?_)))))))))
 refine za6 h (fun _ hx1 h => ?_) rfl
 refine o_e rfl (za5 0 Z Try.func115 N115 rfl rfl rfl (fun w P1 hF hB hS hT => impl_Plan_many.calls g1_0 a1_0_0 A1_0_1 c1_0_1 l1_0_1.length l1_0_1 A1_0_2 c1_0_2 l1_0_2.length l1_0_2 hB hF (hS _ R1_0_1) hc1_0_1 (hS _ R1_0_2) hc1_0_2 (hS _ B1_0) hx1)) (fun _ => oq_ (zat rfl rfl) (za6 h (fun b3 hx2 h => ?_) rfl))
 refine o_e rfl (za5 0 Z Try.func113 N113 rfl rfl rfl (fun w P1 hF hB hS hT => impl_in.calls a0 0 (w64 (w64 (a1_0_0 + (l1_0_1.length : Int)) - 1)) hB hF _ hx2)) (fun _ => oq_ (q_not rfl) (oq_ (q_asg rfl) (o_end (za1 (c_ret ?_)))))
 have e0_ := si_ h; clear h
 subst e0_
 exact x_r1 () Try.results155 (zad rfl) rfl (pk_ [])

def slices_IndexFunc_int_int.l0 (a1_c0_0_0 : Int) (l1_c0_0_1 : List SStep) (l1_c0_0_2 : List Int) : (List Int) → Int → Option ((Int) ⊕ (Unit))
 | [], i1 => some (.inr ())
 | y2 :: ys3, i1 => (impl_Plan_formed_1.f y2 a1_c0_0_0 l1_c0_0_1 l1_c0_0_2).bind fun b14 => if b14 = true then (some (.inl i1)) else (slices_IndexFunc_int_int.l0 a1_c0_0_0 l1_c0_0_1 l1_c0_0_2 ys3 (i1 + 1))
def slices_IndexFunc_int_int.f (l0 : List Int) (a1_c0_0_0 : Int) (l1_c0_0_1 : List SStep) (l1_c0_0_2 : List Int) : Option Int := (slices_IndexFunc_int_int.l0 a1_c0_0_0 l1_c0_0_1 l1_c0_0_2 l0 0).bind fun o_ => match o_ with | .inl r_ => some r_ | .inr _ => some (-1)
theorem slices_IndexFunc_int_int.calls {w0 ws : World} {P0 : Nat → Prop} (A0 : Option Addr) (c0 : Nat) (n0 : Nat) (l0 : List Int) (g1_c0 : Nat) (g1_c0_0 : Nat) (a1_c0_0_0 : Int) (A1_c0_0_1 : Option Addr) (c1_c0_0_1 : Nat) (n1_c0_0_1 : Nat) (l1_c0_0_1 : List SStep) (A1_c0_0_2 : Option Addr) (c1_c0_0_2 : Nat) (n1_c0_0_2 : Nat) (l1_c0_0_2 : List Int) (Z : Below w0.heap.size w0 ws) (hF : Fr w0 ws P0 [] ws) (R0 : Stable ws P0 (fun w => Kd.C (Kd.int .i64) w A0 n0 l0)) (hc0 : n0 ≤ c0) (R1_c0_0_1 : Stable ws P0 (fun w => Kd.C kStep w A1_c0_0_1 n1_c0_0_1 l1_c0_0_1)) (hc1_c0_0_1 : n1_c0_0_1 ≤ c1_c0_0_1) (R1_c0_0_2 : Stable ws P0 (fun w => Kd.C (Kd.int .i64) w A1_c0_0_2 n1_c0_0_2 l1_c0_0_2)) (hc1_c0_0_2 : n1_c0_0_2 ≤ c1_c0_0_2) (B1_c0_0 : Stable ws P0 (fun w => w.heap[g1_c0_0]? = some (.cells #[.int .i64 a1_c0_0_0, .slice A1_c0_0_1 n1_c0_0_1 c1_c0_0_1, .slice A1_c0_0_2 n1_c0_0_2 c1_c0_0_2] 25 (0, 0)))) (B1_c0 : Stable ws P0 (fun w => w.heap[g1_c0]? = some (.cells #[.pointer (some ⟨g1_c0_0, 0, none⟩)] 102 (0, 0)))) (r_1 : Int) (h : slices_IndexFunc_int_int.f l0 a1_c0_0_0 l1_c0_0_1 l1_c0_0_2 = some r_1) :
  Calls Try.prog 164 #[.slice A0 n0 c0, .func (.func 155) #[] #[.pointer (some ⟨g1_c0, 0, none⟩)]] ws (Post1 w0 ws P0 (fun (_ : Unit) => .int .i64 r_1) (fun (_ : Unit) => [])) := by
 unfold slices_IndexFunc_int_int.f at h
 obtain rfl := (R0 ws (KeptB.refl _ _)).1
 obtain rfl := (R1_c0_0_1 ws (KeptB.refl _ _)).1
 obtain rfl := (R1_c0_0_2 ws (KeptB.refl _ _)).1
 refine enter Try.func164 rfl Try.ntmps164 rfl hF (c_seq (za0 (oq_ (q_asg rfl) (o_end (za1 (c_seq (c_seq (za0 (oq_ (za2 rfl) ?_)))))))))
 refine oq_ (q_len Try.underlying23 rfl) (oq_ (za2 rfl) (o_end (za1 (zae (za6 h (fun o9 hl8 hR7 => ?_) rfl)))))
 clear h
 refine c_fact (p := l0.length ≤ 9223372036854775807) (fun w h => (R0.now Z h).2.1) (fun hm6 => zas (σ := (List Int) × Int) (fun k4 ((ys3, i1) : (List Int) × Int) => Rg l0 i1 ys3 ∧ ys3.length = k4 ∧ slices_IndexFunc_int_int.l0 a1_c0_0_0 l1_c0_0_1 l1_c0_0_2 ys3 i1 = some o9) [4, 5, 8, 9, 10, 11, 12, 13, 14, 15, 16, 17, 18] (fun ((ys3, i1) : (List Int) × Int) => [(8, .int .i64 i1)]) (fun ((ys3, i1) : (List Int) × Int) => []) l0.length (l0, 0) ⟨Rg.start _, rfl, hl8⟩ ⟨rfl, trivial⟩ (fun w h => h) (fun k4 => cur2 (listC (fun i1 U10 hJ_ => ?_) (fun y2 ys3 i1 U10 hJ_ => ?_))))
 ·clear hl8
  have hr5 := hJ_.1; have hk11 := hJ_.2.1; have h := hJ_.2.2; clear hJ_
  replace h : slices_IndexFunc_int_int.l0 a1_c0_0_0 l1_c0_0_1 l1_c0_0_2 [] i1 = some o9 := h
  rw [slices_IndexFunc_int_int.l0] at h
  refine c_seq (za0 (oq_ (q_lss rfl rfl) (o_end (za1 (c_seq (zaz (vb_ hr5.ge) (zax (za7 (za7 ?_)))))))))
  have e_ := si_ h; replace h := hR7; rw [← e_] at h; clear e_
  refine x_hit (za1 (c_seq (za0 (oq_ (q_asg rfl) (o_end (za1 (c_ret ?_)))))))
  have e0_ := si_ h; clear h
  subst e0_
  exact x_r1 () Try.results164 (zad rfl) rfl (pk_ [])
 ·clear hl8
  have hr5 := hJ_.1; have hk11 := hJ_.2.1; have h := hJ_.2.2; clear hJ_
  replace h : slices_IndexFunc_int_int.l0 a1_c0_0_0 l1_c0_0_1 l1_c0_0_2 (y2 :: ys3) i1 = some o9 := h
  rw [slices_IndexFunc_int_int.l0] at h
  refine c_seq (za0 (oq_ (q_lss rfl rfl) (o_end (za1 (c_seq (zar (vb_ hr5.lt) (zai (za1 (c_seq ?_)))))))))
  refine zae (c_seq (za0 (oq_ (za2 rfl) (oq_ (q_asg rfl) (o_end (za1 (c_seq (za0 (oq_ (za2 rfl) ?_)))))))))
  refine oq_ (za2 rfl) (oq_ (za2 rfl) (zaw (p := Sh A0 l0.length l0.length) (fun w h => f_sh (dk := (Kd.int .i64)) h (fun w h => R0.now Z h)) (fun hq12 => oq_ (q_ix Try.underlying23 Z3 rfl rfl hq12 hr5.get) (oq_ (q_lde (off := 0) Y3 rfl rfl (fun w h => R0.now Z h) hr5.get (fun _ _ h => h) rfl) (za6 h (fun b14 hx13 h => ?_) rfl)))))
  refine o_e rfl (za5 0 Z Try.func155 N155 rfl rfl rfl (fun w P1 hF hB hS hT => impl_Plan_formed_1.calls y2 g1_c0 g1_c0_0 a1_c0_0_0 A1_c0_0_1 c1_c0_0_1 l1_c0_0_1.length l1_c0_0_1 A1_c0_0_2 c1_c0_0_2 l1_c0_0_2.length l1_c0_0_2 hB hF (hS _ R1_c0_0_1) hc1_c0_0_1 (hS _ R1_c0_0_2) hc1_c0_0_2 (hS _ B1_c0_0) (hS _ B1_c0) _ hx13)) (fun _ => o_end (za1 (zan _ rfl (fun hb15 => ?_) (fun hb15 => ?_))))
  ·replace h := bb_t hb15 h
   refine c_seq (za0 (oq_ (za2 rfl) (oq_ (q_asg rfl) (o_end (za1 (c_ret (zao (zaa (zaa ?_)))))))))
   have e_ := si_ h; replace h := hR7; rw [← e_] at h; clear e_
   refine zao (zaa ?_)
   have e0_ := si_ h; clear h
   subst e0_
   exact x_r1 () Try.results164 (zad rfl) rfl (pk_ [])
  ·replace h := bb_f hb15 h
   refine zai (zaf (za1 (za0 (oq_ (q_up rfl rfl (hr5.up hm6)) (oq_ (za2 rfl) (o_end (zal ys3.length (ys3, i1 + 1) (by rw [← hk11]; exact Nat.lt_succ_self _) ⟨hr5.step, rfl, h⟩ ⟨rfl, trivial⟩ (pk_ []) ?_)))))))
   exact of_

def slices_ContainsFunc_int_int.f (l0 : List Int) (a1_c0_0_0 : Int) (l1_c0_0_1 : List SStep) (l1_c0_0_2 : List Int) : Option Bool := (slices_IndexFunc_int_int.f l0 a1_c0_0_0 l1_c0_0_1 l1_c0_0_2).bind fun i2 => some (decide (0 ≤ i2))
theorem slices_ContainsFunc_int_int.calls {w0 ws : World} {P0 : Nat → Prop} (A0 : Option Addr) (c0 : Nat) (n0 : Nat) (l0 : List Int) (g1_c0 : Nat) (g1_c0_0 : Nat) (a1_c0_0_0 : Int) (A1_c0_0_1 : Option Addr) (c1_c0_0_1 : Nat) (n1_c0_0_1 : Nat) (l1_c0_0_1 : List SStep) (A1_c0_0_2 : Option Addr) (c1_c0_0_2 : Nat) (n1_c0_0_2 : Nat) (l1_c0_0_2 : List Int) (Z : Below w0.heap.size w0 ws) (hF : Fr w0 ws P0 [] ws) (R0 : Stable ws P0 (fun w => Kd.C (Kd.int .i64) w A0 n0 l0)) (hc0 : n0 ≤ c0) (R1_c0_0_1 : Stable ws P0 (fun w => Kd.C kStep w A1_c0_0_1 n1_c0_0_1 l1_c0_0_1)) (hc1_c0_0_1 : n1_c0_0_1 ≤ c1_c0_0_1) (R1_c0_0_2 : Stable ws P0 (fun w => Kd.C (Kd.int .i64) w A1_c0_0_2 n1_c0_0_2 l1_c0_0_2)) (hc1_c0_0_2 : n1_c0_0_2 ≤ c1_c0_0_2) (B1_c0_0 : Stable ws P0 (fun w => w.heap[g1_c0_0]? = some (.cells #[.int .i64 a1_c0_0_0, .slice A1_c0_0_1 n1_c0_0_1 c1_c0_0_1, .slice A1_c0_0_2 n1_c0_0_2 c1_c0_0_2] 25 (0, 0)))) (B1_c0 : Stable ws P0 (fun w => w.heap[g1_c0]? = some (.cells #[.pointer (some ⟨g1_c0_0, 0, none⟩)] 102 (0, 0)))) (r_1 : Bool) (h : slices_ContainsFunc_int_int.f l0 a1_c0_0_0 l1_c0_0_1 l1_c0_0_2 = some r_1) :
  Calls Try.prog 154 #[.slice A0 n0 c0, .func (.func 155) #[] #[.pointer (some ⟨g1_c0, 0, none⟩)]] ws (Post1 w0 ws P0 (fun (_ : Unit) => .bool r_1) (fun (_ : Unit) => [])) := by
 unfold slices_ContainsFunc_int_int.f at h
 obtain rfl := (R0 ws (KeptB.refl _ _)).1
 obtain rfl := (R1_c0_0_1 ws (KeptB.refl _ _)).1
 obtain rfl := (R1_c0_0_2 ws (KeptB.refl _ _)).1
 refine enter Try.func154 rfl Try.ntmps154 rfl hF (c_seq (za0 (oq_ (q_asg rfl) (o_end (za1 (c_seq (za0 (oq_ (za2 rfl) (oq_ (za2 rfl) ?_)))))))))
 refine za6 h (fun i2 hx1 h => ?_) rfl
 refine o_e rfl (za5 0 Z Try.func164 N164 rfl rfl rfl (fun w P1 hF hB hS hT => slices_IndexFunc_int_int.calls A0 c0 l0.length l0 g1_c0 g1_c0_0 a1_c0_0_0 A1_c0_0_1 c1_c0_0_1 l1_c0_0_1.length l1_c0_0_1 A1_c0_0_2 c1_c0_0_2 l1_c0_0_2.length l1_c0_0_2 hB hF (hS _ R0) hc0 (hS _ R1_c0_0_1) hc1_c0_0_1 (hS _ R1_c0_0_2) hc1_c0_0_2 (hS _ B1_c0_0) (hS _ B1_c0) _ hx1)) (fun _ => oq_ (q_geq rfl rfl) (oq_ (q_asg rfl) (o_end (za1 (c_ret ?_)))))
 have e0_ := si_ h; clear h
 subst e0_
 exact x_r1 () Try.results154 (zad rfl) rfl (pk_ [])

def impl_Plan_formed.l0 (a0_0 : Int) : (List SStep) → Int → Option ((Bool) ⊕ (Unit))
 | [], i8 => some (.inr ())
 | y9 :: ys10, i8 => if y9.f0 < 0 then (some (.inl false)) else (if y9.f1 < y9.f0 then (some (.inl false)) else (if w64 (a0_0 + i8) ≤ y9.f1 then (some (.inl false)) else (impl_Plan_formed.l0 a0_0 ys10 (i8 + 1))))
def impl_Plan_formed.f (a0_0 : Int) (l0_1 : List SStep) (l0_2 : List Int) : Option Bool := (impl_in.f a0_0 1 6).bind fun b4 => if b4 = true then (if 40 < (l0_1.length : Int) then (some false) else (if 6 < (l0_2.length : Int) then (some false) else ((impl_Plan_formed.l0 a0_0 l0_1 0).bind fun o_ => match o_ with | .inl r_ => some r_ | .inr _ => (slices_ContainsFunc_int_int.f l0_2 a0_0 l0_1 l0_2).bind fun b20 => some (!b20)))) else (some false)
theorem impl_Plan_formed.calls {w0 ws : World} {P0 : Nat → Prop} (g0 : Nat) (a0_0 : Int) (A0_1 : Option Addr) (c0_1 : Nat) (n0_1 : Nat) (l0_1 : List SStep) (A0_2 : Option Addr) (c0_2 : Nat) (n0_2 : Nat) (l0_2 : List Int) (Z : Below w0.heap.size w0 ws) (hF : Fr w0 ws P0 [] ws) (R0_1 : Stable ws P0 (fun w => Kd.C kStep w A0_1 n0_1 l0_1)) (hc0_1 : n0_1 ≤ c0_1) (R0_2 : Stable ws P0 (fun w => Kd.C (Kd.int .i64) w A0_2 n0_2 l0_2)) (hc0_2 : n0_2 ≤ c0_2) (B0 : Stable ws P0 (fun w => w.heap[g0]? = some (.cells #[.int .i64 a0_0, .slice A0_1 n0_1 c0_1, .slice A0_2 n0_2 c0_2] 25 (0, 0)))) (r_1 : Bool) (h : impl_Plan_formed.f a0_0 l0_1 l0_2 = some r_1) :
  Calls Try.prog 136 #[.pointer (some ⟨g0, 0, none⟩)] ws (Post1 w0 ws P0 (fun (_ : Unit) => .bool r_1) (fun (_ : Unit) => [])) := by
 unfold impl_Plan_formed.f at h
 obtain rfl := (R0_1 ws (KeptB.refl _ _)).1
 obtain rfl := (R0_2 ws (KeptB.refl _ _)).1
 refine enter Try.func136 rfl Try.ntmps136 rfl hF (c_seq (za0 (o_e rfl (e_box rfl) (fun g1 => oq_ (q_asg rfl) (o_end (za1 (c_seq (c_seq (za0 ?_)))))))))
 refine oq_ (q_ldb Y102 rfl (bx_ 0 rfl) rfl) (oq_ (q_nil rfl) (oq_ (q_f F25_0 rfl) (oq_ (q_ldb Y3 rfl (fun w h => B0.now Z h) rfl) (za6 h (fun b4 hx3 h => ?_) rfl))))
 refine o_e rfl (za5 0 Z Try.func113 N113 rfl rfl rfl (fun w P1 hF hB hS hT => impl_in.calls a0_0 1 6 hB hF _ hx3)) (fun _ => oq_ (q_not rfl) (oq_ (za2 rfl) (byB b4 (fun hb5 => ?_) (fun hb5 => ?_))))
 ·replace h := bb_t hb5 h
  refine o_w (za4 rfl rfl rfl (congrArg (fun b => Value.bool (!(b))) hb5)) rfl (q_ldb Y102 rfl (bx_ 0 rfl) rfl) (o_w (za4 rfl rfl rfl (congrArg (fun b => Value.bool (!(b))) hb5)) rfl (q_nil rfl) (o_w (za4 rfl rfl rfl (congrArg (fun b => Value.bool (!(b))) hb5)) rfl (q_f F25_1 rfl) (o_w (za4 rfl rfl rfl (congrArg (fun b => Value.bool (!(b))) hb5)) rfl (q_ldb Y22 rfl (fun w h => B0.now Z h) rfl) (o_w (za4 rfl rfl rfl (congrArg (fun b => Value.bool (!(b))) hb5)) rfl (q_len Try.underlying22 rfl) (o_w (za4 rfl rfl rfl (congrArg (fun b => Value.bool (!(b))) hb5)) rfl (q_gtr rfl rfl) (oq_ (zak false (congrArg (fun b => Value.bool (!(b))) hb5) rfl) (oq_ (za2 rfl) (byB (decide (40 < (l0_1.length : Int))) (fun hb6 => ?_) (fun hb6 => ?_)))))))))
  ·replace h := br_t hb6 h
   refine o_n (d := 20) (za3 rfl rfl rfl (vb_ hb6) rfl) (Eq.refl (some 20)) (o_n (d := 21) (za3 rfl rfl rfl (vb_ hb6) rfl) (Eq.refl (some 21)) (o_n (d := 22) (za3 rfl rfl rfl (vb_ hb6) rfl) (Eq.refl (some 22)) (o_n (d := 23) (za3 rfl rfl rfl (vb_ hb6) rfl) (Eq.refl (some 23)) (o_n (d := 24) (za3 rfl rfl rfl (vb_ hb6) rfl) (Eq.refl (some 24)) (o_n (d := 25) (za3 rfl rfl rfl (vb_ hb6) rfl) (Eq.refl (some 25)) (oq_ (zak true (vb_ hb6) rfl) (o_end (za1 (zar rfl ?_)))))))))
   refine c_seq (za0 (oq_ (q_asg rfl) (o_end (za1 (c_ret (zaa ?_))))))
   have e0_ := si_ h; clear h
   subst e0_
   exact x_r1 () Try.results136 (zad rfl) rfl (pk_ [])
  ·replace h := br_f hb6 h
   refine o_w (za4 rfl rfl rfl (vb_ hb6)) rfl (q_ldb Y102 rfl (bx_ 0 rfl) rfl) (o_w (za4 rfl rfl rfl (vb_ hb6)) rfl (q_nil rfl) (o_w (za4 rfl rfl rfl (vb_ hb6)) rfl (q_f F25_2 rfl) (o_w (za4 rfl rfl rfl (vb_ hb6)) rfl (q_ldb Y23 rfl (fun w h => B0.now Z h) rfl) (o_w (za4 rfl rfl rfl (vb_ hb6)) rfl (q_len Try.underlying23 rfl) (o_w (za4 rfl rfl rfl (vb_ hb6)) rfl (q_gtr rfl rfl) (oq_ (zak false (vb_ hb6) rfl) (o_end (za1 (zan _ rfl (fun hb7 => ?_) (fun hb7 => ?_))))))))))
   ·replace h := br_t hb7 h
    refine c_seq (za0 (oq_ (q_asg rfl) (o_end (za1 (c_ret (zaa ?_))))))
    have e0_ := si_ h; clear h
    subst e0_
    exact x_r1 () Try.results136 (zad rfl) rfl (pk_ [])
   ·replace h := br_f hb7 h
    refine zai (za1 (c_seq (c_seq (za0 (oq_ (q_ldb Y102 rfl (bx_ 0 rfl) rfl) (oq_ (q_nil rfl) (oq_ (q_f F25_1 rfl) (oq_ (q_ldb Y22 rfl (fun w h => B0.now Z h) rfl) (oq_ (q_len Try.underlying22 rfl) ?_)))))))))
    refine oq_ (za2 rfl) (o_end (za1 (zae (za6 h (fun o16 hl15 hR14 => ?_) rfl))))
    clear h
    refine c_fact (p := l0_1.length ≤ 9223372036854775807) (fun w h => (R0_1.now Z h).2.1) (fun hm13 => zas (σ := (List SStep) × Int) (fun k11 ((ys10, i8) : (List SStep) × Int) => Rg l0_1 i8 ys10 ∧ ys10.length = k11 ∧ impl_Plan_formed.l0 a0_0 ys10 i8 = some o16) [2, 3, 4, 32, 33, 34, 35, 36, 37, 38, 39, 40, 41, 42, 43, 44, 45, 46, 47, 48, 49, 50, 51, 52, 53, 54, 55, 56, 57, 58] (fun ((ys10, i8) : (List SStep) × Int) => [(32, .int .i64 i8)]) (fun ((ys10, i8) : (List SStep) × Int) => [box g1 102 #[.pointer (some ⟨g0, 0, none⟩)]]) l0_1.length (l0_1, 0) ⟨Rg.start _, rfl, hl15⟩ ⟨rfl, trivial⟩ (fun w h => h) (fun k11 => cur2 (listC (fun i8 U17 hJ_ => ?_) (fun y9 ys10 i8 U17 hJ_ => ?_))))
    ·clear hl15
     have hr12 := hJ_.1; have hk18 := hJ_.2.1; have h := hJ_.2.2; clear hJ_
     replace h : impl_Plan_formed.l0 a0_0 [] i8 = some o16 := h
     rw [impl_Plan_formed.l0] at h
     refine c_seq (za0 (oq_ (q_lss rfl rfl) (o_end (za1 (c_seq (zaz (vb_ hr12.ge) (zax (za7 (za7 ?_)))))))))
     have e_ := si_ h; replace h := hR14; rw [← e_] at h; clear e_
     refine x_hit (za1 (c_seq (za0 (oq_ (q_ldb Y102 rfl (bx_ 0 rfl) rfl) (oq_ (q_nil rfl) (oq_ (q_f F25_2 rfl) (oq_ (q_ldb Y23 rfl (fun w h => B0.now Z h) rfl) (oq_ (q_func rfl rfl) (za6 h (fun b20 hx19 h => ?_) rfl)))))))))
     refine o_e rfl (za5 0 Z Try.func154 N154 rfl rfl rfl (fun w P1 hF hB hS hT => slices_ContainsFunc_int_int.calls A0_2 c0_2 l0_2.length l0_2 g1 g0 a0_0 A0_1 c0_1 l0_1.length l0_1 A0_2 c0_2 l0_2.length l0_2 hB hF (hS _ R0_2) hc0_2 (hS _ R0_1) hc0_1 (hS _ R0_2) hc0_2 (hS _ B0) (hT 0 _ rfl).box _ hx19)) (fun _ => oq_ (q_not rfl) (oq_ (q_asg rfl) (o_end (za1 (c_ret ?_)))))
     have e0_ := si_ h; clear h
     subst e0_
     exact x_r1 () Try.results136 (zad rfl) rfl (pk_ [])
    ·clear hl15
     have hr12 := hJ_.1; have hk18 := hJ_.2.1; have h := hJ_.2.2; clear hJ_
     replace h : impl_Plan_formed.l0 a0_0 (y9 :: ys10) i8 = some o16 := h
     rw [impl_Plan_formed.l0] at h
     refine c_seq (za0 (oq_ (q_lss rfl rfl) (o_end (za1 (c_seq (zar (vb_ hr12.lt) (zai (za1 (c_seq ?_)))))))))
     refine zae (c_seq (za0 (oq_ (za2 rfl) (zaw (p := Sh A0_1 l0_1.length l0_1.length) (fun w h => f_sh (dk := kStep) h (fun w h => R0_1.now Z h)) (fun hq21 => oq_ (q_ix Try.underlying22 Z107 rfl rfl hq21 hr12.get) (oq_ (q_ldE G107 Z107 rfl rfl (fun w h => R0_1.now Z h) hr12.get (fun _ _ h => h) rfl) (o_e rfl (zab V107 rfl) (fun g22 => oq_ (q_asg rfl) (o_e rfl (zac (i := 0) rfl rfl rfl Z107 rfl rfl) (fun _ => ?_))))))))))
     refine o_end (za1 (c_seq (a_start (ds := []) MO rfl (ap_ 0 rfl (q_f F107_0 rfl) (at_2 1 rfl (fun w h => h) (q_ldb Y3 rfl (bx_ 0 rfl) rfl) (ap_ 2 rfl (q_lss rfl rfl) (ap_ 3 rfl (za2 rfl) (byB (decide (y9.f0 < 0)) (fun hb24 => ?_) (fun hb24 => ?_)))))))))
     ·replace h := br_t hb24 h
      refine a_no 4 rfl rfl (za3 rfl rfl rfl (vb_ hb24) rfl) kr_ (fun _ _ _ h => h) (a_no 5 rfl rfl (za3 rfl rfl rfl (vb_ hb24) rfl) kr_ (fun _ _ _ h => h) (a_no 6 rfl rfl (za3 rfl rfl rfl (vb_ hb24) rfl) kr_ (fun _ _ _ h => h) (a_no 7 rfl rfl (za3 rfl rfl rfl (vb_ hb24) rfl) kr_ (fun _ _ _ h => h) (a_no 8 rfl rfl (za3 rfl rfl rfl (vb_ hb24) rfl) kr_ (fun _ _ _ h => h) (ap_ 9 rfl (zak true (vb_ hb24) rfl) (ap_ 10 rfl (za2 rfl) (a_no 11 rfl rfl (za3 rfl rfl rfl rfl rfl) kr_ (fun _ _ _ h => h) (a_no 12 rfl rfl (za3 rfl rfl rfl rfl rfl) kr_ (fun _ _ _ h => h) (a_no 13 rfl rfl (za3 rfl rfl rfl rfl rfl) kr_ (fun _ _ _ h => h) ?_)))))))))
      refine a_no 14 rfl rfl (za3 rfl rfl rfl rfl rfl) kr_ (fun _ _ _ h => h) (a_no 15 rfl rfl (za3 rfl rfl rfl rfl rfl) kr_ (fun _ _ _ h => h) (a_no 16 rfl rfl (za3 rfl rfl rfl rfl rfl) kr_ (fun _ _ _ h => h) (a_no 17 rfl rfl (za3 rfl rfl rfl rfl rfl) kr_ (fun _ _ _ h => h) (a_no 18 rfl rfl (za3 rfl rfl rfl rfl rfl) kr_ (fun _ _ _ h => h) (a_no 19 rfl rfl (za3 rfl rfl rfl rfl rfl) kr_ (fun _ _ _ h => h) (ap_ 20 rfl (zak true rfl rfl) (zaj kr_ (za1 (zar rfl ?_)))))))))
      refine c_seq (za0 (oq_ (q_asg rfl) (o_end (za1 (c_ret (zao (zaa (zaa ?_))))))))
      have e_ := si_ h; replace h := hR14; rw [← e_] at h; clear e_
      refine zao (zaa ?_)
      have e0_ := si_ h; clear h
      subst e0_
      exact x_r1 () Try.results136 (zad rfl) rfl (pk_ [])
     ·replace h := br_f hb24 h
      refine a_purew 4 rfl rfl (za4 rfl rfl rfl (vb_ hb24)) kr_ (fun _ _ _ h => h) (q_f F107_0 rfl) (a_takew 5 rfl rfl (za4 rfl rfl rfl (vb_ hb24)) kr_ (fun _ _ _ h => h) (fun w h => h) (q_ldb Y3 rfl (bx_ 0 rfl) rfl) (a_purew 6 rfl rfl (za4 rfl rfl rfl (vb_ hb24)) kr_ (fun _ _ _ h => h) (q_f F107_1 rfl) (a_takew 7 rfl rfl (za4 rfl rfl rfl (vb_ hb24)) kr_ (fun _ _ _ h => h) (fun w h => h) (q_ldb Y3 rfl (bx_ 0 rfl) rfl) (a_purew 8 rfl rfl (za4 rfl rfl rfl (vb_ hb24)) kr_ (fun _ _ _ h => h) (q_gtr rfl rfl) (ap_ 9 rfl (zak false (vb_ hb24) rfl) (ap_ 10 rfl (za2 rfl) (byB (decide (y9.f1 < y9.f0)) (fun hb25 => ?_) (fun hb25 => ?_))))))))
      ·replace h := br_t hb25 h
       refine a_no 11 rfl rfl (za3 rfl rfl rfl (vb_ hb25) rfl) kr_ (fun _ _ _ h => h) (a_no 12 rfl rfl (za3 rfl rfl rfl (vb_ hb25) rfl) kr_ (fun _ _ _ h => h) (a_no 13 rfl rfl (za3 rfl rfl rfl (vb_ hb25) rfl) kr_ (fun _ _ _ h => h) (a_no 14 rfl rfl (za3 rfl rfl rfl (vb_ hb25) rfl) kr_ (fun _ _ _ h => h) (a_no 15 rfl rfl (za3 rfl rfl rfl (vb_ hb25) rfl) kr_ (fun _ _ _ h => h) (a_no 16 rfl rfl (za3 rfl rfl rfl (vb_ hb25) rfl) kr_ (fun _ _ _ h => h) (a_no 17 rfl rfl (za3 rfl rfl rfl (vb_ hb25) rfl) kr_ (fun _ _ _ h => h) (a_no 18 rfl rfl (za3 rfl rfl rfl (vb_ hb25) rfl) kr_ (fun _ _ _ h => h) (a_no 19 rfl rfl (za3 rfl rfl rfl (vb_ hb25) rfl) kr_ (fun _ _ _ h => h) (ap_ 20 rfl (zak true (vb_ hb25) rfl) ?_)))))))))
       refine zaj kr_ (za1 (zar rfl (c_seq (za0 (oq_ (q_asg rfl) (o_end (za1 (c_ret (zao ?_)))))))))
       refine zaa (zaa ?_)
       have e_ := si_ h; replace h := hR14; rw [← e_] at h; clear e_
       refine zao (zaa ?_)
       have e0_ := si_ h; clear h
       subst e0_
       exact x_r1 () Try.results136 (zad rfl) rfl (pk_ [])
      ·replace h := br_f hb25 h
       refine a_purew 11 rfl rfl (za4 rfl rfl rfl (vb_ hb25)) kr_ (fun _ _ _ h => h) (q_f F107_1 rfl) (a_takew 12 rfl rfl (za4 rfl rfl rfl (vb_ hb25)) kr_ (fun _ _ _ h => h) (fun w h => h) (q_ldb Y3 rfl (bx_ 0 rfl) rfl) (a_takew 13 rfl rfl (za4 rfl rfl rfl (vb_ hb25)) kr_ (fun _ _ _ h => h) (fun w h => h) (q_ldb Y102 rfl (bx_ 1 rfl) rfl) (a_purew 14 rfl rfl (za4 rfl rfl rfl (vb_ hb25)) kr_ (fun _ _ _ h => h) (q_nil rfl) (a_purew 15 rfl rfl (za4 rfl rfl rfl (vb_ hb25)) kr_ (fun _ _ _ h => h) (q_f F25_0 rfl) (a_takew 16 rfl rfl (za4 rfl rfl rfl (vb_ hb25)) kr_ (fun _ _ _ h => h) (fun w h => h) (q_ldb Y3 rfl (fun w h => B0.now Z h) rfl) (a_purew 17 rfl rfl (za4 rfl rfl rfl (vb_ hb25)) kr_ (fun _ _ _ h => h) (za2 rfl) (a_purew 18 rfl rfl (za4 rfl rfl rfl (vb_ hb25)) kr_ (fun _ _ _ h => h) (zay rfl rfl) (a_purew 19 rfl rfl (za4 rfl rfl rfl (vb_ hb25)) kr_ (fun _ _ _ h => h) (q_geq rfl rfl) (ap_ 20 rfl (zak false (vb_ hb25) rfl) ?_)))))))))
       refine zaj kr_ (za1 (zan _ rfl (fun hb26 => ?_) (fun hb26 => ?_)))
       ·replace h := br_t hb26 h
        refine c_seq (za0 (oq_ (q_asg rfl) (o_end (za1 (c_ret (zao (zaa (zaa ?_))))))))
        have e_ := si_ h; replace h := hR14; rw [← e_] at h; clear e_
        refine zao (zaa ?_)
        have e0_ := si_ h; clear h
        subst e0_
        exact x_r1 () Try.results136 (zad rfl) rfl (pk_ [])
       ·replace h := br_f hb26 h
        refine zai (zaf (za1 (za0 (oq_ (q_up rfl rfl (hr12.up hm13)) (oq_ (za2 rfl) (o_end (zal ys10.length (ys10, i8 + 1) (by rw [← hk18]; exact Nat.lt_succ_self _) ⟨hr12.step, rfl, h⟩ ⟨rfl, trivial⟩ (pk_ [1]) ?_)))))))
        exact of_
 ·replace h := bb_f hb5 h
  refine o_n (d := 12) (za3 rfl rfl rfl (congrArg (fun b => Value.bool (!(b))) hb5) rfl) (Eq.refl (some 12)) (o_n (d := 13) (za3 rfl rfl rfl (congrArg (fun b => Value.bool (!(b))) hb5) rfl) (Eq.refl (some 13)) (o_n (d := 14) (za3 rfl rfl rfl (congrArg (fun b => Value.bool (!(b))) hb5) rfl) (Eq.refl (some 14)) (o_n (d := 15) (za3 rfl rfl rfl (congrArg (fun b => Value.bool (!(b))) hb5) rfl) (Eq.refl (some 15)) (o_n (d := 16) (za3 rfl rfl rfl (congrArg (fun b => Value.bool (!(b))) hb5) rfl) (Eq.refl (some 16)) (o_n (d := 17) (za3 rfl rfl rfl (congrArg (fun b => Value.bool (!(b))) hb5) rfl) (Eq.refl (some 17)) (oq_ (zak true (congrArg (fun b => Value.bool (!(b))) hb5) rfl) (oq_ (za2 rfl) (o_n (d := 20) (za3 rfl rfl rfl rfl rfl) (Eq.refl (some 20)) (o_n (d := 21) (za3 rfl rfl rfl rfl rfl) (Eq.refl (some 21)) ?_)))))))))
  refine o_n (d := 22) (za3 rfl rfl rfl rfl rfl) (Eq.refl (some 22)) (o_n (d := 23) (za3 rfl rfl rfl rfl rfl) (Eq.refl (some 23)) (o_n (d := 24) (za3 rfl rfl rfl rfl rfl) (Eq.refl (some 24)) (o_n (d := 25) (za3 rfl rfl rfl rfl rfl) (Eq.refl (some 25)) (oq_ (zak true rfl rfl) (o_end (za1 (zar rfl (c_seq (za0 ?_)))))))))
  refine oq_ (q_asg rfl) (o_end (za1 (c_ret (zaa ?_))))
  have e0_ := si_ h; clear h
  subst e0_
  exact x_r1 () Try.results136 (zad rfl) rfl (pk_ [])

def impl_Plan_exponents.l2 (l20 : List (List Int)) (y25 : SStep) : (List Int) → (List Int) → Int → Option (List Int)
 | [], l45, i48 => some l45
 | y49 :: ys50, l45, i48 => (gt l20 y25.f1).bind fun y70 => (gt y70 i48).bind fun y74 => (ap l45 ([mn (w64 (y49 + y74)) 1000001] : List Int)).bind fun l78 => impl_Plan_exponents.l2 l20 y25 ys50 l78 (i48 + 1)
def impl_Plan_exponents.l1 : (List SStep) → (List (List Int)) → Int → Option (List (List Int))
 | [], l20, i24 => some l20
 | y25 :: ys26, l20, i24 => (gt l20 y25.f0).bind fun y43 => (impl_Plan_exponents.l2 l20 y25 y43 ([] : List Int) 0).bind fun l45 => (ap l20 ([l45] : List (List Int))).bind fun l63 => impl_Plan_exponents.l1 ys26 l63 (i24 + 1)
def impl_Plan_exponents.l0 (a0_0 : Int) : Nat → (List (List Int)) → Int → Option (List (List Int))
 | 0, l4, i8 => some l4
 | k11 + 1, l4, i8 => (mk0 a0_0 (0 : Int)).bind fun l82 => (gt l82 i8).bind fun y89 => (st l82 i8 1).bind fun l90 => (ap l4 ([l90] : List (List Int))).bind fun l96 => impl_Plan_exponents.l0 a0_0 k11 l96 (i8 + 1)
def impl_Plan_exponents.f (a0_0 : Int) (l0_1 : List SStep) (l0_2 : List Int) : Option (List (List Int)) := (bd a0_0).bind fun _ => (impl_Plan_exponents.l0 a0_0 ((a0_0).toNat) ([] : List (List Int)) 0).bind fun l4 => (impl_Plan_exponents.l1 l0_1 l4 0).bind fun l20 => some l20
theorem impl_Plan_exponents.calls {w0 ws : World} {P0 : Nat → Prop} (g0 : Nat) (a0_0 : Int) (A0_1 : Option Addr) (c0_1 : Nat) (n0_1 : Nat) (l0_1 : List SStep) (A0_2 : Option Addr) (c0_2 : Nat) (n0_2 : Nat) (l0_2 : List Int) (Z : Below w0.heap.size w0 ws) (hF : Fr w0 ws P0 [] ws) (R0_1 : Stable ws P0 (fun w => Kd.C kStep w A0_1 n0_1 l0_1)) (hc0_1 : n0_1 ≤ c0_1) (R0_2 : Stable ws P0 (fun w => Kd.C (Kd.int .i64) w A0_2 n0_2 l0_2)) (hc0_2 : n0_2 ≤ c0_2) (B0 : Stable ws P0 (fun w => w.heap[g0]? = some (.cells #[.int .i64 a0_0, .slice A0_1 n0_1 c0_1, .slice A0_2 n0_2 c0_2] 25 (0, 0)))) (r_1 : List (List Int)) (h : impl_Plan_exponents.f a0_0 l0_1 l0_2 = some r_1) :
  Calls Try.prog 138 #[.pointer (some ⟨g0, 0, none⟩)] ws (Post1 w0 ws P0 (fun ((q_2, q_3, q_4) : (Option Addr) × Nat × Hd) => .slice q_2 r_1.length q_3) (fun ((q_2, q_3, q_4) : (Option Addr) × Nat × Hd) => [row (gk 3 (Kd.int .i64)) 23 (.slice q_2 r_1.length q_3) (zp q_4 r_1)])) := by
 unfold impl_Plan_exponents.f at h
 obtain rfl := (R0_1 ws (KeptB.refl _ _)).1
 obtain rfl := (R0_2 ws (KeptB.refl _ _)).1
 refine enter Try.func138 rfl Try.ntmps138 rfl hF (c_seq (za0 (oq_ (q_asg rfl) (o_end (za1 (c_seq (za0 (o_e rfl (e_lit0 (gk 3 (Kd.int .i64)) Try.underlying47 I23) (cur2 (fun A1 c2 => oq_ (q_asg rfl) ?_))))))))))
 refine o_end (za1 (c_seq (c_seq (za0 (oq_ (za2 rfl) (oq_ (q_nil rfl) (oq_ (q_f F25_0 rfl) (oq_ (q_ldb Y3 rfl (fun w h => B0.now Z h) rfl) (oq_ (za2 rfl) ?_)))))))))
 refine o_end (za1 (zae (za6 h (fun _ hbd17 h => ?_) rfl)))
 refine za6 h (fun o16 hl15 hR14 => ?_) rfl
 clear h
 have hm13 : a0_0 ≤ 9223372036854775807 := bd_le hbd17
 refine zas (σ := (List (List Int)) × Int × (Option Addr) × Nat × Hd) (fun k11 ((l4, i8, A5, c6, H7) : (List (List Int)) × Int × (Option Addr) × Nat × Hd) => Cn a0_0 i8 k11 ∧ impl_Plan_exponents.l0 a0_0 k11 l4 i8 = some o16) [3, 4, 5, 16, 17, 18, 19, 20, 21, 22, 23, 24, 25, 26, 27, 28, 29, 30, 31] (fun ((l4, i8, A5, c6, H7) : (List (List Int)) × Int × (Option Addr) × Nat × Hd) => [(3, .slice A5 l4.length c6), (16, .int .i64 i8)]) (fun ((l4, i8, A5, c6, H7) : (List (List Int)) × Int × (Option Addr) × Nat × Hd) => [row (gk 3 (Kd.int .i64)) 23 (.slice A5 l4.length c6) (zp H7 l4)]) (a0_0).toNat (([] : List (List Int)), 0, A1, c2, ([] : Hd)) ⟨Cn.start hm13, hl15⟩ ⟨rfl, rfl, trivial⟩ (fun w h => h) (natC (cur5 (fun l4 i8 A5 c6 H7 => fun U18 hJ_ => ?_)) (fun k11 => (cur5 (fun l4 i8 A5 c6 H7 => fun U18 hJ_ => ?_))))
 ·clear hl15
  have hr12 := hJ_.1; have h := hJ_.2; clear hJ_
  replace h : impl_Plan_exponents.l0 a0_0 0 l4 i8 = some o16 := h
  rw [impl_Plan_exponents.l0] at h
  refine c_seq (za0 (oq_ (q_lss rfl rfl) (o_end (za1 (c_seq (zaz (vb_ hr12.ge) (zax (za7 (za7 ?_)))))))))
  have e_ := si_ h; replace h := hR14; rw [← e_] at h; clear e_
  refine x_hit (za1 (c_seq (c_seq (za0 (oq_ (za2 rfl) (oq_ (q_nil rfl) (oq_ (q_f F25_1 rfl) (oq_ (q_ldb Y22 rfl (fun w h => B0.now Z h) rfl) (oq_ (q_len Try.underlying22 rfl) ?_)))))))))
  refine oq_ (za2 rfl) (o_end (za1 (zae (za6 h (fun o32 hl31 hR30 => ?_) rfl))))
  clear h
  refine c_fact (p := l0_1.length ≤ 9223372036854775807) (fun w h => (R0_1.now Z h).2.1) (fun hm29 => zas (σ := (List SStep) × (List (List Int)) × Int × (Option Addr) × Nat × Hd) (fun k27 ((ys26, l20, i24, A21, c22, H23) : (List SStep) × (List (List Int)) × Int × (Option Addr) × Nat × Hd) => Rg l0_1 i24 ys26 ∧ ys26.length = k27 ∧ impl_Plan_exponents.l1 ys26 l20 i24 = some o32) [3, 7, 8, 9, 10, 37, 38, 39, 40, 41, 42, 43, 44, 45, 46, 47, 48, 49, 50, 51, 52, 53, 54, 55, 56, 57, 58, 59, 60, 61, 62, 63, 64, 65, 66, 67, 68, 69, 70, 71, 72] (fun ((ys26, l20, i24, A21, c22, H23) : (List SStep) × (List (List Int)) × Int × (Option Addr) × Nat × Hd) => [(3, .slice A21 l20.length c22), (37, .int .i64 i24)]) (fun ((ys26, l20, i24, A21, c22, H23) : (List SStep) × (List (List Int)) × Int × (Option Addr) × Nat × Hd) => [row (gk 3 (Kd.int .i64)) 23 (.slice A21 l20.length c22) (zp H23 l20)]) l0_1.length (l0_1, l4, 0, A5, c6, H7) ⟨Rg.start _, rfl, hl31⟩ ⟨rfl, rfl, trivial⟩ (fun w h => h) (fun k27 => cur6 (listC (fun l20 i24 A21 c22 H23 U33 hJ_ => ?_) (fun y25 ys26 l20 i24 A21 c22 H23 U33 hJ_ => ?_))))
  ·clear hl31
   have hr28 := hJ_.1; have hk34 := hJ_.2.1; have h := hJ_.2.2; clear hJ_
   replace h : impl_Plan_exponents.l1 [] l20 i24 = some o32 := h
   rw [impl_Plan_exponents.l1] at h
   refine c_seq (za0 (oq_ (q_lss rfl rfl) (o_end (za1 (c_seq (zaz (vb_ hr28.ge) (zax (za7 (za7 ?_)))))))))
   have e_ := si_ h; replace h := hR30; rw [← e_] at h; clear e_
   refine x_hit (za1 (c_seq (za0 (oq_ (za2 rfl) (oq_ (q_asg rfl) (o_end (za1 (c_ret ?_))))))))
   have e0_ := si_ h; clear h
   subst e0_
   exact x_r1 (A21, c22, H23) Try.results138 (zad rfl) rfl (pk_ [0])
  ·clear hl31
   have hr28 := hJ_.1; have hk34 := hJ_.2.1; have h := hJ_.2.2; clear hJ_
   replace h : impl_Plan_exponents.l1 (y25 :: ys26) l20 i24 = some o32 := h
   rw [impl_Plan_exponents.l1] at h
   refine c_seq (za0 (oq_ (q_lss rfl rfl) (o_end (za1 (c_seq (zar (vb_ hr28.lt) (zai (za1 (c_seq ?_)))))))))
   refine zae (c_seq (za0 (zaw (p := Sh A0_1 l0_1.length l0_1.length) (fun w h => f_sh (dk := kStep) h (fun w h => R0_1.now Z h)) (fun hq35 => oq_ (q_ix Try.underlying22 Z107 rfl rfl hq35 hr28.get) (oq_ (q_ldE G107 Z107 rfl rfl (fun w h => R0_1.now Z h) hr28.get (fun _ _ h => h) rfl) (o_e rfl (zab V107 rfl) (fun g36 => o_e rfl (zac (i := 0) rfl rfl rfl Z107 rfl rfl) (fun _ => o_end (za1 ?_)))))))))
   refine c_seq (za0 (o_e rfl (e_lit0 (Kd.int .i64) Try.underlying23 I3) (cur2 (fun A38 c39 => oq_ (q_asg rfl) (o_end (za1 (c_seq (c_seq (za0 (oq_ (za2 rfl) ?_))))))))))
   refine oq_ (q_f F107_0 rfl) (oq_ (q_ldb Y3 rfl (bx_ 1 rfl) rfl) (zaw (p := Sh A21 l20.length (zp H23 l20).length) (fun w h => f_sh (dk := (gk 3 (Kd.int .i64))) h (rc_ 2 rfl)) (fun hq41 => za6 h (fun y43 hg42 h => ?_) rfl)))
   refine oq_ (q_ix Try.underlying47 Z23 rfl rfl hq41 (gt_zp hg42)) (zaw (p := y43.length ≤ hC H23 y25.f0) (fun w h => (K_in (h.row_Cn (i := 2) rfl) hg42).1) (fun hc44 => oq_ (q_lde (off := 0) Y23 rfl rfl (rc_ 2 rfl) (gt_zp hg42) (fun _ _ h => h.1) rfl) (oq_ (q_len Try.underlying23 rfl) (oq_ (za2 rfl) (o_end (za1 (zae (za6 h (fun o56 hl55 hR54 => ?_) rfl))))))))
   clear h
   refine c_fact (p := y43.length ≤ 9223372036854775807) (fun w h => (C_in (h.row_Cn (i := 2) rfl) hg42).2.1) (fun hm53 => zas (σ := (List Int) × (List Int) × Int × (Option Addr) × Nat) (fun k51 ((ys50, l45, i48, A46, c47) : (List Int) × (List Int) × Int × (Option Addr) × Nat) => Rg y43 i48 ys50 ∧ ys50.length = k51 ∧ impl_Plan_exponents.l2 l20 y25 ys50 l45 i48 = some o56) [8, 9, 10, 48, 49, 50, 51, 52, 53, 54, 55, 56, 57, 58, 59, 60, 61, 62, 63, 64, 65, 66, 67] (fun ((ys50, l45, i48, A46, c47) : (List Int) × (List Int) × Int × (Option Addr) × Nat) => [(8, .slice A46 l45.length c47), (48, .int .i64 i48)]) (fun ((ys50, l45, i48, A46, c47) : (List Int) × (List Int) × Int × (Option Addr) × Nat) => [row (Kd.int .i64) 3 (.slice A46 l45.length c47) l45, box g36 107 #[.int .i64 y25.f0, .int .i64 y25.f1], row (gk 3 (Kd.int .i64)) 23 (.slice A21 l20.length c22) (zp H23 l20)]) y43.length (y43, ([] : List Int), 0, A38, c39) ⟨Rg.start _, rfl, hl55⟩ ⟨rfl, rfl, trivial⟩ (fun w h => h) (fun k51 => cur5 (listC (fun l45 i48 A46 c47 U57 hJ_ => ?_) (fun y49 ys50 l45 i48 A46 c47 U57 hJ_ => ?_))))
   ·clear hl55
    have hr52 := hJ_.1; have hk58 := hJ_.2.1; have h := hJ_.2.2; clear hJ_
    replace h : impl_Plan_exponents.l2 l20 y25 [] l45 i48 = some o56 := h
    rw [impl_Plan_exponents.l2] at h
    refine c_seq (za0 (oq_ (q_lss rfl rfl) (o_end (za1 (c_seq (zaz (vb_ hr52.ge) (zax (za7 (za7 ?_)))))))))
    have e_ := si_ h; replace h := hR54; rw [← e_] at h; clear e_
    refine x_hit (za1 (za0 (oq_ (za2 rfl) (oq_ (za2 rfl) (o_e rfl (e_litG (j := 0) (ue := 3) (dk := (Kd.int .i64)) (ys := l45) Try.underlying47 I23 rfl rfl rfl) (cur3 (fun A59 c60 H62 => za6 h (fun l63 ha64 h => ?_) rfl)))))))
    refine o_e rfl (e_appG (i := 3) (j := 0) Try.underlying47 I23 rfl dc_ rfl rfl rfl rfl rfl ha64) (cur3 (fun A65 c66 H67 => oq_ (q_asg rfl) (o_end (zaf (za1 (za0 (oq_ (q_up rfl rfl (hr28.up hm29)) (oq_ (za2 rfl) (o_end (zal ys26.length (ys26, l63, i24 + 1, A65, c66, H67) (by rw [← hk34]; exact Nat.lt_succ_self _) ⟨hr28.step, rfl, h⟩ ⟨rfl, rfl, trivial⟩ (pk_ [3]) ?_))))))))))
    exact of_
   ·clear hl55
    have hr52 := hJ_.1; have hk58 := hJ_.2.1; have h := hJ_.2.2; clear hJ_
    replace h : impl_Plan_exponents.l2 l20 y25 (y49 :: ys50) l45 i48 = some o56 := h
    rw [impl_Plan_exponents.l2] at h
    refine c_seq (za0 (oq_ (q_lss rfl rfl) (o_end (za1 (c_seq (zar (vb_ hr52.lt) (zai (za1 (c_seq ?_)))))))))
    refine zae (c_seq (za0 (oq_ (za2 rfl) (zaw (p := Sh (hA H23 y25.f0) y43.length y43.length) (fun w h => f_sh (dk := (Kd.int .i64)) h (fun w h => C_in (h.row_Cn (i := 2) rfl) hg42)) (fun hq68 => oq_ (q_ix Try.underlying23 Z3 rfl rfl hq68 hr52.get) (oq_ (q_lde (off := 0) Y3 rfl rfl (fun w h => C_in (h.row_Cn (i := 2) rfl) hg42) hr52.get (fun _ _ h => h) rfl) (oq_ (q_asg rfl) (oq_ (q_asg rfl) (o_end ?_)))))))))
    refine za1 (za0 (oq_ (za2 rfl) (oq_ (za2 rfl) (oq_ (za2 rfl) (oq_ (q_f F107_1 rfl) (oq_ (q_ldb Y3 rfl (bx_ 1 rfl) rfl) (za6 h (fun y70 hg69 h => ?_) rfl)))))))
    refine oq_ (q_ix Try.underlying47 Z23 rfl rfl hq41 (gt_zp hg69)) (zaw (p := y70.length ≤ hC H23 y25.f1) (fun w h => (K_in (h.row_Cn (i := 2) rfl) hg69).1) (fun hc71 => oq_ (q_lde (off := 0) Y23 rfl rfl (rc_ 2 rfl) (gt_zp hg69) (fun _ _ h => h.1) rfl) (oq_ (za2 rfl) (zaw (p := Sh (hA H23 y25.f1) y70.length y70.length) (fun w h => f_sh (dk := (Kd.int .i64)) h (fun w h => C_in (h.row_Cn (i := 2) rfl) hg69)) (fun hq72 => za6 h (fun y74 hg73 h => ?_) rfl)))))
    refine oq_ (q_ix Try.underlying23 Z3 rfl rfl hq72 hg73) (oq_ (q_lde (off := 0) Y3 rfl rfl (fun w h => C_in (h.row_Cn (i := 2) rfl) hg69) hg73 (fun _ _ h => h) rfl) (oq_ (zay rfl rfl) (oq_ (q_min rfl rfl) (o_e rfl (e_lit (vs := [(0, .int .i64 (mn (w64 (y49 + y74)) 1000001))]) (cs := [.int .i64 (mn (w64 (y49 + y74)) 1000001)]) (Kd.int .i64) ([mn (w64 (y49 + y74)) 1000001] : List Int) Try.underlying23 I3 dc_ rfl dc_ rfl rfl (fun _ _ => Kd.za8 _)) (cur2 (fun A75 c76 => za6 h (fun l78 ha79 h => ?_) rfl))))))
    refine o_e rfl (e_app (i := 1) (j := 0) Try.underlying23 I3 rfl dc_ dc_ rfl rfl rfl rfl rfl ha79) (cur2 (fun A80 c81 => oq_ (q_asg rfl) (o_end (zaf (za1 (za0 (oq_ (q_up rfl rfl (hr52.up hm53)) (oq_ (za2 rfl) (o_end (zal ys50.length (ys50, l78, i48 + 1, A80, c81) (by rw [← hk58]; exact Nat.lt_succ_self _) ⟨hr52.step, rfl, h⟩ ⟨rfl, rfl, trivial⟩ (pk_ [1, 2, 3]) ?_))))))))))
    exact of_
 ·clear hl15
  have hr12 := hJ_.1; have h := hJ_.2; clear hJ_
  replace h : impl_Plan_exponents.l0 a0_0 (k11 + 1) l4 i8 = some o16 := h
  rw [impl_Plan_exponents.l0] at h
  refine c_seq (za0 (oq_ (q_lss rfl rfl) (o_end (za1 (c_seq (zar (vb_ hr12.lt) (zai (za1 (c_seq ?_)))))))))
  refine zae (c_seq (za0 (oq_ (za2 rfl) (oq_ (q_asg rfl) (o_end (za1 (c_seq (za0 (oq_ (za2 rfl) ?_)))))))))
  refine oq_ (q_nil rfl) (oq_ (q_f F25_0 rfl) (oq_ (q_ldb Y3 rfl (fun w h => B0.now Z h) rfl) (za6 h (fun l82 hm83 h => ?_) rfl)))
  refine o_e rfl (e_make (Kd.int .i64) (0 : Int) Try.underlying23 I3 rfl dc_ dc_ (fun _ _ => rfl) rfl rfl hm83) (cur2 (fun A84 c85 => oq_ (q_asg rfl) (o_end (za1 (c_seq (za0 (oq_ (za2 rfl) (oq_ (za2 rfl) (zaw (p := Sh A84 l82.length l82.length) (fun w h => f_sh (dk := (Kd.int .i64)) h (rc_ 0 rfl)) (fun hq87 => za6 h (fun y89 hg88 h => ?_) rfl))))))))))
  refine oq_ (q_ix Try.underlying23 Z3 rfl rfl hq87 hg88) (za6 h (fun l90 hs91 h => ?_) rfl)
  refine o_e rfl (e_set (i := 0) rfl rfl rfl Z3 hs91) (fun _ => o_end (za1 (za0 (oq_ (za2 rfl) (oq_ (za2 rfl) (o_e rfl (e_litG (j := 0) (ue := 3) (dk := (Kd.int .i64)) (ys := l90) Try.underlying47 I23 rfl rfl rfl) (cur3 (fun A92 c93 H95 => za6 h (fun l96 ha97 h => ?_) rfl))))))))
  refine o_e rfl (e_appG (i := 2) (j := 0) Try.underlying47 I23 rfl dc_ rfl rfl rfl rfl rfl ha97) (cur3 (fun A98 c99 H100 => oq_ (q_asg rfl) (o_end (zaf (za1 (za0 (oq_ (q_up rfl rfl hr12.up) (oq_ (za2 rfl) (o_end (zal k11 (l96, i8 + 1, A98, c99, H100) (Nat.lt_succ_self _) ⟨hr12.step, h⟩ ⟨rfl, rfl, trivial⟩ (pk_ [2]) ?_))))))))))
  exact of_

def slices_Max_int_int.l0 (l0 : List Int) : Nat → Int → Int → Option Int
 | 0, _, _ => none
 | k9 + 1, i5, i6 => if i6 < (l0.length : Int) then ((gt l0 i6).bind fun y19 => slices_Max_int_int.l0 l0 k9 (mx i5 y19) (w64 (i6 + 1))) else (some i5)
def slices_Max_int_int.f (k : Nat) (l0 : List Int) : Option Int := if (l0.length : Int) < 1 then (none) else ((gt l0 0).bind fun y4 => (slices_Max_int_int.l0 l0 k y4 1).bind fun i5 => some i5)
theorem slices_Max_int_int.calls (k : Nat) {w0 ws : World} {P0 : Nat → Prop} (A0 : Option Addr) (c0 : Nat) (n0 : Nat) (l0 : List Int) (Z : Below w0.heap.size w0 ws) (hF : Fr w0 ws P0 [] ws) (R0 : Stable ws P0 (fun w => Kd.C (Kd.int .i64) w A0 n0 l0)) (hc0 : n0 ≤ c0) (r_1 : Int) (h : slices_Max_int_int.f k l0 = some r_1) :
  Calls Try.prog 56 #[.slice A0 n0 c0] ws (Post1 w0 ws P0 (fun (_ : Unit) => .int .i64 r_1) (fun (_ : Unit) => [])) := by
 unfold slices_Max_int_int.f at h
 obtain rfl := (R0 ws (KeptB.refl _ _)).1
 refine enter Try.func56 rfl Try.ntmps56 rfl hF (c_seq (za0 (oq_ (q_asg rfl) (o_end (za1 (c_seq (c_seq (za0 (oq_ (za2 rfl) ?_)))))))))
 refine oq_ (q_len Try.underlying23 rfl) (oq_ (q_lss rfl rfl) (o_end (za1 (zan _ rfl (fun hb1 => ?_) (fun hb1 => ?_)))))
 ·replace h := br_t hb1 h
  refine za0 ?_
  exact noneE h
 ·replace h := br_f hb1 h
  refine zai (za1 (c_seq (za0 (oq_ (za2 rfl) (zaw (p := Sh A0 l0.length l0.length) (fun w h => f_sh (dk := (Kd.int .i64)) h (fun w h => R0.now Z h)) (fun hq2 => za6 h (fun y4 hg3 h => ?_) rfl))))))
  refine oq_ (q_ix Try.underlying23 Z3 rfl rfl hq2 hg3) (oq_ (q_lde (off := 0) Y3 rfl rfl (fun w h => R0.now Z h) hg3 (fun _ _ h => h) rfl) (oq_ (q_asg rfl) (o_end (za1 (c_seq (c_seq (za0 (oq_ (q_asg rfl) (o_end ?_)))))))))
  refine za1 (zae (za6 h (fun o14 hl13 hR12 => ?_) rfl))
  clear h
  refine zas (σ := Int × Int) (fun k9 ((i5, i6) : Int × Int) => slices_Max_int_int.l0 l0 k9 i5 i6 = some o14) [3, 4, 12, 13, 14, 15, 16, 17, 18, 19, 20, 21, 22, 23] (fun ((i5, i6) : Int × Int) => [(3, .int .i64 i5), (4, .int .i64 i6)]) (fun ((i5, i6) : Int × Int) => []) k (y4, 1) hl13 ⟨rfl, rfl, trivial⟩ (fun w h => h) (natC (cur2 (fun i5 i6 => fun U15 hJ_ => ?_)) (fun k9 => (cur2 (fun i5 i6 => fun U15 hJ_ => ?_))))
  ·replace hJ_ : slices_Max_int_int.l0 l0 0 i5 i6 = some o14 := hJ_
   rw [slices_Max_int_int.l0] at hJ_
   exact noneE hJ_
  ·clear hl13
   have h := hJ_; clear hJ_
   replace h : slices_Max_int_int.l0 l0 (k9 + 1) i5 i6 = some o14 := h
   rw [slices_Max_int_int.l0] at h
   refine c_seq (c_seq (za0 (oq_ (za2 rfl) (oq_ (za2 rfl) (oq_ (q_len Try.underlying23 rfl) (oq_ (q_lss rfl rfl) (o_end (za1 (zan _ rfl (fun hb17 => ?_) (fun hb17 => ?_))))))))))
   ·replace h := br_t hb17 h
    refine zai (za1 (c_seq (zae (za0 (oq_ (za2 rfl) (oq_ (za2 rfl) (oq_ (za2 rfl) (za6 h (fun y19 hg18 h => ?_) rfl))))))))
    refine oq_ (q_ix Try.underlying23 Z3 rfl rfl hq2 hg18) (oq_ (q_lde (off := 0) Y3 rfl rfl (fun w h => R0.now Z h) hg18 (fun _ _ h => h) rfl) (oq_ (q_max rfl rfl) (oq_ (q_asg rfl) (o_end (zaf (za1 (za0 (oq_ (za2 rfl) (oq_ (zay rfl rfl) ?_)))))))))
    refine oq_ (q_asg rfl) (o_end (zal k9 (mx i5 y19, w64 (i6 + 1)) (Nat.lt_succ_self _) h ⟨rfl, rfl, trivial⟩ (pk_ []) ?_))
    exact of_
   ·replace h := br_f hb17 h
    refine zax (za7 (za7 ?_))
    have e_ := si_ h; replace h := hR12; rw [← e_] at h; clear e_
    refine x_hit (za1 (c_seq (za0 (oq_ (za2 rfl) (oq_ (q_asg rfl) (o_end (za1 (c_ret ?_))))))))
    have e0_ := si_ h; clear h
    subst e0_
    exact x_r1 () Try.results56 (zad rfl) rfl (pk_ [])

def impl_IsPlan_1.f (k : Nat) (l0 : List Int) : Option Bool := (slices_Max_int_int.f k l0).bind fun i2 => some (decide (1000000 < i2))
theorem impl_IsPlan_1.calls (k : Nat) {w0 ws : World} {P0 : Nat → Prop} (A0 : Option Addr) (c0 : Nat) (n0 : Nat) (l0 : List Int) (Z : Below w0.heap.size w0 ws) (hF : Fr w0 ws P0 [] ws) (R0 : Stable ws P0 (fun w => Kd.C (Kd.int .i64) w A0 n0 l0)) (hc0 : n0 ≤ c0) (r_1 : Bool) (h : impl_IsPlan_1.f k l0 = some r_1) :
  Calls Try.prog 139 #[.slice A0 n0 c0] ws (Post1 w0 ws P0 (fun (_ : Unit) => .bool r_1) (fun (_ : Unit) => [])) := by
 unfold impl_IsPlan_1.f at h
 obtain rfl := (R0 ws (KeptB.refl _ _)).1
 refine enter Try.func139 rfl Try.ntmps139 rfl hF (c_seq (za0 (oq_ (q_asg rfl) (o_end (za1 (c_seq (za0 (oq_ (za2 rfl) (za6 h (fun i2 hx1 h => ?_) rfl)))))))))
 refine o_e rfl (za5 0 Z Try.func56 N56 rfl rfl rfl (fun w P1 hF hB hS hT => slices_Max_int_int.calls k A0 c0 l0.length l0 hB hF (hS _ R0) hc0 _ hx1)) (fun _ => oq_ (q_gtr rfl rfl) (oq_ (q_asg rfl) (o_end (za1 (c_ret ?_)))))
 have e0_ := si_ h; clear h
 subst e0_
 exact x_r1 () Try.results139 (zad rfl) rfl (pk_ [])

def slices_IndexFunc_int_int_2.l0 (k : Nat) : (List (List Int)) → Int → Option ((Int) ⊕ (Unit))
 | [], i1 => some (.inr ())
 | y2 :: ys3, i1 => (impl_IsPlan_1.f k y2).bind fun b15 => if b15 = true then (some (.inl i1)) else (slices_IndexFunc_int_int_2.l0 k ys3 (i1 + 1))
def slices_IndexFunc_int_int_2.f (k : Nat) (l0 : List (List Int)) : Option Int := (slices_IndexFunc_int_int_2.l0 k l0 0).bind fun o_ => match o_ with | .inl r_ => some r_ | .inr _ => some (-1)
theorem slices_IndexFunc_int_int_2.calls (k : Nat) {w0 ws : World} {P0 : Nat → Prop} (A0 : Option Addr) (c0 : Nat) (n0 : Nat) (H0 : Hd) (l0 : List (List Int)) (Z : Below w0.heap.size w0 ws) (hF : Fr w0 ws P0 [] ws) (R0 : Stable ws P0 (fun w => Kd.C (gk 3 (Kd.int .i64)) w A0 n0 (zp H0 l0))) (hc0 : n0 ≤ c0) (r_1 : Int) (h : slices_IndexFunc_int_int_2.f k l0 = some r_1) :
  Calls Try.prog 156 #[.slice A0 n0 c0, .func (.func 139) #[] #[]] ws (Post1 w0 ws P0 (fun (_ : Unit) => .int .i64 r_1) (fun (_ : Unit) => [])) := by
 unfold slices_IndexFunc_int_int_2.f at h
 obtain rfl := (zp_len _ _).symm.trans (R0 ws (KeptB.refl _ _)).1
 refine enter Try.func156 rfl Try.ntmps156 rfl hF (c_seq (za0 (oq_ (q_asg rfl) (o_end (za1 (c_seq (c_seq (za0 (oq_ (za2 rfl) ?_)))))))))
 refine oq_ (q_len Try.underlying47 rfl) (oq_ (za2 rfl) (o_end (za1 (zae (za6 h (fun o9 hl8 hR7 => ?_) rfl)))))
 clear h
 refine c_fact (p := l0.length ≤ 9223372036854775807) (fun w h => (R0.now Z h).2.1) (fun hm6 => zas (σ := (List (List Int)) × Int) (fun k4 ((ys3, i1) : (List (List Int)) × Int) => Rg l0 i1 ys3 ∧ ys3.length = k4 ∧ slices_IndexFunc_int_int_2.l0 k ys3 i1 = some o9) [4, 5, 8, 9, 10, 11, 12, 13, 14, 15, 16, 17, 18] (fun ((ys3, i1) : (List (List Int)) × Int) => [(8, .int .i64 i1)]) (fun ((ys3, i1) : (List (List Int)) × Int) => []) l0.length (l0, 0) ⟨Rg.start _, rfl, hl8⟩ ⟨rfl, trivial⟩ (fun w h => h) (fun k4 => cur2 (listC (fun i1 U10 hJ_ => ?_) (fun y2 ys3 i1 U10 hJ_ => ?_))))
 ·clear hl8
  have hr5 := hJ_.1; have hk11 := hJ_.2.1; have h := hJ_.2.2; clear hJ_
  replace h : slices_IndexFunc_int_int_2.l0 k [] i1 = some o9 := h
  rw [slices_IndexFunc_int_int_2.l0] at h
  refine c_seq (za0 (oq_ (q_lss rfl rfl) (o_end (za1 (c_seq (zaz (vb_ hr5.ge) (zax (za7 (za7 ?_)))))))))
  have e_ := si_ h; replace h := hR7; rw [← e_] at h; clear e_
  refine x_hit (za1 (c_seq (za0 (oq_ (q_asg rfl) (o_end (za1 (c_ret ?_)))))))
  have e0_ := si_ h; clear h
  subst e0_
  exact x_r1 () Try.results156 (zad rfl) rfl (pk_ [])
 ·clear hl8
  have hr5 := hJ_.1; have hk11 := hJ_.2.1; have h := hJ_.2.2; clear hJ_
  replace h : slices_IndexFunc_int_int_2.l0 k (y2 :: ys3) i1 = some o9 := h
  rw [slices_IndexFunc_int_int_2.l0] at h
  refine c_seq (za0 (oq_ (q_lss rfl rfl) (o_end (za1 (c_seq (zar (vb_ hr5.lt) (zai (za1 (c_seq ?_)))))))))
  refine zae (c_seq (za0 (oq_ (za2 rfl) (oq_ (q_asg rfl) (o_end (za1 (c_seq (za0 (oq_ (za2 rfl) ?_)))))))))
  refine oq_ (za2 rfl) (oq_ (za2 rfl) (zaw (p := Sh A0 l0.length (zp H0 l0).length) (fun w h => f_sh (dk := (gk 3 (Kd.int .i64))) h (fun w h => R0.now Z h)) (fun hq12 => oq_ (q_ix Try.underlying47 Z23 rfl rfl hq12 (gt_zp hr5.get)) (zaw (p := y2.length ≤ hC H0 i1) (fun w h => (K_in (R0.now Z h) hr5.get).1) (fun hc13 => oq_ (q_lde (off := 0) Y23 rfl rfl (fun w h => R0.now Z h) (gt_zp hr5.get) (fun _ _ h => h.1) rfl) (za6 h (fun b15 hx14 h => ?_) rfl))))))
  refine o_e rfl (za5 0 Z Try.func139 N139 rfl rfl rfl (fun w P1 hF hB hS hT => impl_IsPlan_1.calls k (hA H0 i1) (hC H0 i1) y2.length y2 hB hF (stab_in (hS _ R0) hr5.get) hc13 _ hx14)) (fun _ => o_end (za1 (zan _ rfl (fun hb16 => ?_) (fun hb16 => ?_))))
  ·replace h := bb_t hb16 h
   refine c_seq (za0 (oq_ (za2 rfl) (oq_ (q_asg rfl) (o_end (za1 (c_ret (zao (zaa (zaa ?_)))))))))
   have e_ := si_ h; replace h := hR7; rw [← e_] at h; clear e_
   refine zao (zaa ?_)
   have e0_ := si_ h; clear h
   subst e0_
   exact x_r1 () Try.results156 (zad rfl) rfl (pk_ [])
  ·replace h := bb_f hb16 h
   refine zai (zaf (za1 (za0 (oq_ (q_up rfl rfl (hr5.up hm6)) (oq_ (za2 rfl) (o_end (zal ys3.length (ys3, i1 + 1) (by rw [← hk11]; exact Nat.lt_succ_self _) ⟨hr5.step, rfl, h⟩ ⟨rfl, trivial⟩ (pk_ []) ?_)))))))
   exact of_

def slices_ContainsFunc_int_int_2.f (k : Nat) (l0 : List (List Int)) : Option Bool := (slices_IndexFunc_int_int_2.f k l0).bind fun i2 => some (decide (0 ≤ i2))
theorem slices_ContainsFunc_int_int_2.calls (k : Nat) {w0 ws : World} {P0 : Nat → Prop} (A0 : Option Addr) (c0 : Nat) (n0 : Nat) (H0 : Hd) (l0 : List (List Int)) (Z : Below w0.heap.size w0 ws) (hF : Fr w0 ws P0 [] ws) (R0 : Stable ws P0 (fun w => Kd.C (gk 3 (Kd.int .i64)) w A0 n0 (zp H0 l0))) (hc0 : n0 ≤ c0) (r_1 : Bool) (h : slices_ContainsFunc_int_int_2.f k l0 = some r_1) :
  Calls Try.prog 137 #[.slice A0 n0 c0, .func (.func 139) #[] #[]] ws (Post1 w0 ws P0 (fun (_ : Unit) => .bool r_1) (fun (_ : Unit) => [])) := by
 unfold slices_ContainsFunc_int_int_2.f at h
 obtain rfl := (zp_len _ _).symm.trans (R0 ws (KeptB.refl _ _)).1
 refine enter Try.func137 rfl Try.ntmps137 rfl hF (c_seq (za0 (oq_ (q_asg rfl) (o_end (za1 (c_seq (za0 (oq_ (za2 rfl) (oq_ (za2 rfl) ?_)))))))))
 refine za6 h (fun i2 hx1 h => ?_) rfl
 refine o_e rfl (za5 0 Z Try.func156 N156 rfl rfl rfl (fun w P1 hF hB hS hT => slices_IndexFunc_int_int_2.calls k A0 c0 l0.length H0 l0 hB hF (hS _ R0) hc0 _ hx1)) (fun _ => oq_ (q_geq rfl rfl) (oq_ (q_asg rfl) (o_end (za1 (c_ret ?_)))))
 have e0_ := si_ h; clear h
 subst e0_
 exact x_r1 () Try.results137 (zad rfl) rfl (pk_ [])

def impl_IsPlan.f (k : Nat) (a0_0 : Int) (l0_1 : List SStep) (l0_2 : List Int) : Option Bool := (impl_Plan_formed.f a0_0 l0_1 l0_2).bind fun b4 => if b4 = true then ((impl_Plan_exponents.f a0_0 l0_1 l0_2).bind fun l7 => (slices_ContainsFunc_int_int_2.f k l7).bind fun b12 => some (!b12)) else (some false)
theorem impl_IsPlan.calls (k : Nat) {w0 ws : World} {P0 : Nat → Prop} (a0_0 : Int) (A0_1 : Option Addr) (c0_1 : Nat) (n0_1 : Nat) (l0_1 : List SStep) (A0_2 : Option Addr) (c0_2 : Nat) (n0_2 : Nat) (l0_2 : List Int) (Z : Below w0.heap.size w0 ws) (hF : Fr w0 ws P0 [] ws) (R0_1 : Stable ws P0 (fun w => Kd.C kStep w A0_1 n0_1 l0_1)) (hc0_1 : n0_1 ≤ c0_1) (R0_2 : Stable ws P0 (fun w => Kd.C (Kd.int .i64) w A0_2 n0_2 l0_2)) (hc0_2 : n0_2 ≤ c0_2) (r_1 : Bool) (h : impl_IsPlan.f k a0_0 l0_1 l0_2 = some r_1) :
  Calls Try.prog 90 #[.agg #[.int .i64 a0_0, .slice A0_1 n0_1 c0_1, .slice A0_2 n0_2 c0_2]] ws (Post1 w0 ws P0 (fun (_ : Unit) => .bool r_1) (fun (_ : Unit) => [])) := by
 unfold impl_IsPlan.f at h
 obtain rfl := (R0_1 ws (KeptB.refl _ _)).1
 obtain rfl := (R0_2 ws (KeptB.refl _ _)).1
 refine enter Try.func90 rfl Try.ntmps90 rfl hF (c_seq (za0 (o_e rfl (e_box rfl) (fun g1 => oq_ (q_asg rfl) (o_end (za1 (c_seq (za0 (za6 h (fun b4 hx3 h => ?_) rfl)))))))))
 refine o_e rfl (za5 0 Z Try.func136 N136 rfl rfl rfl (fun w P1 hF hB hS hT => impl_Plan_formed.calls g1 a0_0 A0_1 c0_1 l0_1.length l0_1 A0_2 c0_2 l0_2.length l0_2 hB hF (hS _ R0_1) hc0_1 (hS _ R0_2) hc0_2 (hT 0 _ rfl).box _ hx3)) (fun _ => oq_ (za2 rfl) (byB b4 (fun hb5 => ?_) (fun hb5 => ?_)))
 ·replace h := bb_t hb5 h
  refine za6 h (fun l7 hx6 h => ?_) rfl
  refine o_ew (za4 rfl rfl rfl (vb_ hb5)) (za5 0 Z Try.func138 N138 rfl rfl rfl (fun w P1 hF hB hS hT => impl_Plan_exponents.calls g1 a0_0 A0_1 c0_1 l0_1.length l0_1 A0_2 c0_2 l0_2.length l0_2 hB hF (hS _ R0_1) hc0_1 (hS _ R0_2) hc0_2 (hT 0 _ rfl).box _ hx6)) (cur3 (fun A8 c9 H10 => za6 h (fun b12 hx11 h => ?_) rfl))
  refine o_ew (za4 rfl rfl rfl (vb_ hb5)) (za5 0 Z Try.func137 N137 rfl rfl rfl (fun w P1 hF hB hS hT => slices_ContainsFunc_int_int_2.calls k A8 c9 l7.length H10 l7 hB hF (hT 0 _ rfl).row (hT 0 _ rfl).cap _ hx11)) (fun _ => o_w (za4 rfl rfl rfl (vb_ hb5)) rfl (q_not rfl) (oq_ (zak true (vb_ hb5) rfl) (oq_ (q_asg rfl) (o_end (za1 (c_ret ?_))))))
  have e0_ := si_ h; clear h
  subst e0_
  exact x_r1 () Try.results90 (zad rfl) rfl (pk_ [])
 ·replace h := bb_f hb5 h
  refine o_n (d := 5) (za3 rfl rfl rfl (vb_ hb5) rfl) (Eq.refl (some 5)) (o_n (d := 6) (za3 rfl rfl rfl (vb_ hb5) rfl) (Eq.refl (some 6)) (o_n (d := 7) (za3 rfl rfl rfl (vb_ hb5) rfl) (Eq.refl (some 7)) (oq_ (zak false (vb_ hb5) rfl) (oq_ (q_asg rfl) (o_end (za1 (c_ret ?_)))))))
  have e0_ := si_ h; clear h
  subst e0_
  exact x_r1 () Try.results90 (zad rfl) rfl (pk_ [])

def spec_l1In.f (a0 : Int) (a1 : Int) (a2 : Int) : Option Bool := if a1 ≤ a0 then (some (decide (a0 ≤ a2))) else (some false)
theorem spec_l1In.calls {w0 ws : World} {P0 : Nat → Prop} (a0 : Int) (a1 : Int) (a2 : Int) (Z : Below w0.heap.size w0 ws) (hF : Fr w0 ws P0 [] ws)  (r_1 : Bool) (h : spec_l1In.f a0 a1 a2 = some r_1) :
  Calls Try.prog 107 #[.int .i64 a0, .int .i64 a1, .int .i64 a2] ws (Post1 w0 ws P0 (fun (_ : Unit) => .bool r_1) (fun (_ : Unit) => [])) := by
 unfold spec_l1In.f at h
 refine enter Try.func107 rfl Try.ntmps107 rfl hF (c_seq (za0 (oq_ (q_asg rfl) (o_end (za1 (c_seq (za0 (oq_ (za2 rfl) (oq_ (za2 rfl) ?_)))))))))
 refine oq_ (q_geq rfl rfl) (oq_ (za2 rfl) (byB (decide (a1 ≤ a0)) (fun hb1 => ?_) (fun hb1 => ?_)))
 ·replace h := br_t hb1 h
  refine o_w (za4 rfl rfl rfl (vb_ hb1)) rfl (za2 rfl) (o_w (za4 rfl rfl rfl (vb_ hb1)) rfl (za2 rfl) (o_w (za4 rfl rfl rfl (vb_ hb1)) rfl (q_leq rfl rfl) (oq_ (zak true (vb_ hb1) rfl) (oq_ (q_asg rfl) (o_end (za1 (c_ret ?_)))))))
  have e0_ := si_ h; clear h
  subst e0_
  exact x_r1 () Try.results107 (zad rfl) rfl (pk_ [])
 ·replace h := br_f hb1 h
  refine o_n (d := 11) (za3 rfl rfl rfl (vb_ hb1) rfl) (Eq.refl (some 11)) (o_n (d := 12) (za3 rfl rfl rfl (vb_ hb1) rfl) (Eq.refl (some 12)) (o_n (d := 13) (za3 rfl rfl rfl (vb_ hb1) rfl) (Eq.refl (some 13)) (oq_ (zak false (vb_ hb1) rfl) (oq_ (q_asg rfl) (o_end (za1 (c_ret ?_)))))))
  have e0_ := si_ h; clear h
  subst e0_
  exact x_r1 () Try.results107 (zad rfl) rfl (pk_ [])

def spec_l1Least.f (a0 : Int) (a1 : Int) : Option Int := if a0 < a1 then (some a0) else (some a1)
theorem spec_l1Least.calls {w0 ws : World} {P0 : Nat → Prop} (a0 : Int) (a1 : Int) (Z : Below w0.heap.size w0 ws) (hF : Fr w0 ws P0 [] ws)  (r_1 : Int) (h : spec_l1Least.f a0 a1 = some r_1) :
  Calls Try.prog 89 #[.int .i64 a0, .int .i64 a1] ws (Post1 w0 ws P0 (fun (_ : Unit) => .int .i64 r_1) (fun (_ : Unit) => [])) := by
 unfold spec_l1Least.f at h
 refine enter Try.func89 rfl Try.ntmps89 rfl hF (c_seq (za0 (oq_ (q_asg rfl) (o_end (za1 (c_seq (c_seq (za0 (oq_ (za2 rfl) ?_)))))))))
 refine oq_ (za2 rfl) (oq_ (q_lss rfl rfl) (o_end (za1 (zan _ rfl (fun hb1 => ?_) (fun hb1 => ?_)))))
 ·replace h := br_t hb1 h
  refine c_seq (za0 (oq_ (za2 rfl) (oq_ (q_asg rfl) (o_end (za1 (c_ret (zaa ?_)))))))
  have e0_ := si_ h; clear h
  subst e0_
  exact x_r1 () Try.results89 (zad rfl) rfl (pk_ [])
 ·replace h := br_f hb1 h
  refine zai (za1 (c_seq (za0 (oq_ (za2 rfl) (oq_ (q_asg rfl) (o_end (za1 (c_ret ?_))))))))
  have e0_ := si_ h; clear h
  subst e0_
  exact x_r1 () Try.results89 (zad rfl) rfl (pk_ [])

def spec_plSum.l0 (l1 : List Int) : (List Int) → (List Int) → Int → Option (List Int)
 | [], l3, i6 => some l3
 | y7 :: ys8, l3, i6 => (gt l1 i6).bind fun y20 => (spec_l1Least.f (w64 (y7 + y20)) 1000001).bind fun i22 => (ap l3 ([i22] : List Int)).bind fun l26 => spec_plSum.l0 l1 ys8 l26 (i6 + 1)
def spec_plSum.f (l0 : List Int) (l1 : List Int) : Option (List Int) := (spec_plSum.l0 l1 l0 ([] : List Int) 0).bind fun l3 => some l3
theorem spec_plSum.calls {w0 ws : World} {P0 : Nat → Prop} (A0 : Option Addr) (c0 : Nat) (n0 : Nat) (l0 : List Int) (A1 : Option Addr) (c1 : Nat) (n1 : Nat) (l1 : List Int) (Z : Below w0.heap.size w0 ws) (hF : Fr w0 ws P0 [] ws) (R0 : Stable ws P0 (fun w => Kd.C (Kd.int .i64) w A0 n0 l0)) (hc0 : n0 ≤ c0) (R1 : Stable ws P0 (fun w => Kd.C (Kd.int .i64) w A1 n1 l1)) (hc1 : n1 ≤ c1) (r_1 : List Int) (h : spec_plSum.f l0 l1 = some r_1) :
  Calls Try.prog 157 #[.slice A0 n0 c0, .slice A1 n1 c1] ws (Post1 w0 ws P0 (fun ((q_2, q_3) : (Option Addr) × Nat) => .slice q_2 r_1.length q_3) (fun ((q_2, q_3) : (Option Addr) × Nat) => [row (Kd.int .i64) 3 (.slice q_2 r_1.length q_3) r_1])) := by
 unfold spec_plSum.f at h
 obtain rfl := (R0 ws (KeptB.refl _ _)).1
 obtain rfl := (R1 ws (KeptB.refl _ _)).1
 refine enter Try.func157 rfl Try.ntmps157 rfl hF (c_seq (za0 (oq_ (q_asg rfl) (o_end (za1 (c_seq (za0 (oq_ (q_asg rfl) (o_end ?_)))))))))
 refine za1 (c_seq (c_seq (za0 (oq_ (za2 rfl) (oq_ (q_len Try.underlying23 rfl) (oq_ (za2 rfl) (o_end (za1 (zae ?_)))))))))
 refine c_nil (Kd.int .i64) 3 (za6 h (fun o14 hl13 hR12 => ?_) rfl)
 clear h
 refine c_fact (p := l0.length ≤ 9223372036854775807) (fun w h => (R0.now Z h).2.1) (fun hm11 => zas (σ := (List Int) × (List Int) × Int × (Option Addr) × Nat) (fun k9 ((ys8, l3, i6, A4, c5) : (List Int) × (List Int) × Int × (Option Addr) × Nat) => Rg l0 i6 ys8 ∧ ys8.length = k9 ∧ spec_plSum.l0 l1 ys8 l3 i6 = some o14) [5, 6, 9, 10, 11, 12, 13, 14, 15, 16, 17, 18, 19, 20, 21, 22, 23, 24, 25] (fun ((ys8, l3, i6, A4, c5) : (List Int) × (List Int) × Int × (Option Addr) × Nat) => [(5, .slice A4 l3.length c5), (9, .int .i64 i6)]) (fun ((ys8, l3, i6, A4, c5) : (List Int) × (List Int) × Int × (Option Addr) × Nat) => [row (Kd.int .i64) 3 (.slice A4 l3.length c5) l3]) l0.length (l0, ([] : List Int), 0, none, 0) ⟨Rg.start _, rfl, hl13⟩ ⟨rfl, rfl, trivial⟩ (fun w h => h) (fun k9 => cur5 (listC (fun l3 i6 A4 c5 U15 hJ_ => ?_) (fun y7 ys8 l3 i6 A4 c5 U15 hJ_ => ?_))))
 ·clear hl13
  have hr10 := hJ_.1; have hk16 := hJ_.2.1; have h := hJ_.2.2; clear hJ_
  replace h : spec_plSum.l0 l1 [] l3 i6 = some o14 := h
  rw [spec_plSum.l0] at h
  refine c_seq (za0 (oq_ (q_lss rfl rfl) (o_end (za1 (c_seq (zaz (vb_ hr10.ge) (zax (za7 (za7 ?_)))))))))
  have e_ := si_ h; replace h := hR12; rw [← e_] at h; clear e_
  refine x_hit (za1 (c_seq (za0 (oq_ (za2 rfl) (oq_ (q_asg rfl) (o_end (za1 (c_ret ?_))))))))
  have e0_ := si_ h; clear h
  subst e0_
  exact x_r1 (A4, c5) Try.results157 (zad rfl) rfl (pk_ [0])
 ·clear hl13
  have hr10 := hJ_.1; have hk16 := hJ_.2.1; have h := hJ_.2.2; clear hJ_
  replace h : spec_plSum.l0 l1 (y7 :: ys8) l3 i6 = some o14 := h
  rw [spec_plSum.l0] at h
  refine c_seq (za0 (oq_ (q_lss rfl rfl) (o_end (za1 (c_seq (zar (vb_ hr10.lt) (zai (za1 (c_seq ?_)))))))))
  refine zae (c_seq (za0 (oq_ (za2 rfl) (oq_ (q_asg rfl) (o_end (za1 (a_startS (ds := []) [none] MO rfl (ap_ 0 rfl (za2 rfl) (ap_ 1 rfl (za2 rfl) ?_)))))))))
  refine ap_ 2 rfl (za2 rfl) (a_fact (p := Sh A0 l0.length l0.length) (fun w h => f_sh (dk := (Kd.int .i64)) h (fun w h => R0.now Z h)) (fun hq17 => ap_ 3 rfl (q_ix Try.underlying23 Z3 rfl rfl hq17 hr10.get) (at_2 4 rfl (sm_ [none]) (q_lde (off := 0) Y3 rfl rfl (fun w h => R0.now Z h) hr10.get (fun _ _ h => h) rfl) (ap_ 5 rfl (za2 rfl) (ap_ 6 rfl (za2 rfl) (a_fact (p := Sh A1 l1.length l1.length) (fun w h => f_sh (dk := (Kd.int .i64)) h (fun w h => R1.now Z h)) (fun hq18 => za6 h (fun y20 hg19 h => ?_) rfl)))))))
  refine ap_ 7 rfl (q_ix Try.underlying23 Z3 rfl rfl hq18 hg19) (at_2 8 rfl (sm_ [none]) (q_lde (off := 0) Y3 rfl rfl (fun w h => R1.now Z h) hg19 (fun _ _ h => h) rfl) (ap_ 9 rfl (zay rfl rfl) (za6 h (fun i22 hx21 h => ?_) rfl)))
  refine a1_ 10 rfl (za5 0 Z Try.func89 N89 rfl rfl rfl (fun w P1 hF hB hS hT => spec_l1Least.calls (w64 (y7 + y20)) 1000001 hB hF _ hx21)) (sl_ [none]) (fun _ => a1_ 11 rfl (e_lit (vs := [(0, .int .i64 i22)]) (cs := [.int .i64 i22]) (Kd.int .i64) ([i22] : List Int) Try.underlying23 I3 dc_ rfl dc_ rfl rfl (fun _ _ => Kd.za8 _)) (sl_ [none]) (cur2 (fun A23 c24 => za6 h (fun l26 ha27 h => ?_) rfl)))
  refine a1_ 12 rfl (e_app (i := 1) (j := 0) Try.underlying23 I3 rfl dc_ dc_ rfl rfl rfl rfl rfl ha27) (sl_ [none]) (cur2 (fun A28 c29 => ap_ 13 rfl (q_asg rfl) (zaj kr_ (zaf (za1 (za0 (oq_ (q_up rfl rfl (hr10.up hm11)) (oq_ (za2 rfl) (o_end (zal ys8.length (ys8, l26, i6 + 1, A28, c29) (by rw [← hk16]; exact Nat.lt_succ_self _) ⟨hr10.step, rfl, h⟩ ⟨rfl, rfl, trivial⟩ (pk_ [1]) ?_))))))))))
  exact of_

def spec_plExponents.l1 : (List SStep) → (List (List Int)) → Int → Option (List (List Int))
 | [], l39, i43 => some l39
 | y44 :: ys45, l39, i43 => (gt l39 y44.f0).bind fun y300 => (gt l39 y44.f1).bind fun y599 => (spec_plSum.f y300 y599).bind fun l719 => (ap l39 ([l719] : List (List Int))).bind fun l838 => spec_plExponents.l1 ys45 l838 (i43 + 1)
def spec_plExponents.l0 (a0_0 : Int) : Nat → (List (List Int)) → Int → Option (List (List Int))
 | 0, _, _ => none
 | k11 + 1, l4, i8 => if i8 < a0_0 then ((mk0 a0_0 (0 : Int)).bind fun l20 => (gt l20 i8).bind fun y27 => (st l20 i8 1).bind fun l28 => (ap l4 ([l28] : List (List Int))).bind fun l34 => spec_plExponents.l0 a0_0 k11 l34 (w64 (i8 + 1))) else (some l4)
def spec_plExponents.f (k : Nat) (a0_0 : Int) (l0_1 : List SStep) (l0_2 : List Int) : Option (List (List Int)) := (spec_plExponents.l0 a0_0 k ([] : List (List Int)) 0).bind fun l4 => (spec_plExponents.l1 l0_1 l4 0).bind fun l39 => some l39
theorem spec_plExponents.calls (k : Nat) {w0 ws : World} {P0 : Nat → Prop} (a0_0 : Int) (A0_1 : Option Addr) (c0_1 : Nat) (n0_1 : Nat) (l0_1 : List SStep) (A0_2 : Option Addr) (c0_2 : Nat) (n0_2 : Nat) (l0_2 : List Int) (Z : Below w0.heap.size w0 ws) (hF : Fr w0 ws P0 [] ws) (R0_1 : Stable ws P0 (fun w => Kd.C kStep w A0_1 n0_1 l0_1)) (hc0_1 : n0_1 ≤ c0_1) (R0_2 : Stable ws P0 (fun w => Kd.C (Kd.int .i64) w A0_2 n0_2 l0_2)) (hc0_2 : n0_2 ≤ c0_2) (r_1 : List (List Int)) (h : spec_plExponents.f k a0_0 l0_1 l0_2 = some r_1) :
  Calls Try.prog 142 #[.agg #[.int .i64 a0_0, .slice A0_1 n0_1 c0_1, .slice A0_2 n0_2 c0_2]] ws (Post1 w0 ws P0 (fun ((q_2, q_3, q_4) : (Option Addr) × Nat × Hd) => .slice q_2 r_1.length q_3) (fun ((q_2, q_3, q_4) : (Option Addr) × Nat × Hd) => [row (gk 3 (Kd.int .i64)) 23 (.slice q_2 r_1.length q_3) (zp q_4 r_1)])) := by
 unfold spec_plExponents.f at h
 obtain rfl := (R0_1 ws (KeptB.refl _ _)).1
 obtain rfl := (R0_2 ws (KeptB.refl _ _)).1
 refine enter Try.func142 rfl Try.ntmps142 rfl hF (c_seq (za0 (o_e rfl (e_box rfl) (fun g1 => oq_ (q_asg rfl) (o_end (za1 (c_seq (za0 (oq_ (q_asg rfl) ?_)))))))))
 refine o_end (za1 (c_seq (c_seq (za0 (oq_ (q_asg rfl) (o_end (za1 (zae (c_nil (gk 3 (Kd.int .i64)) 23 ?_)))))))))
 refine za6 h (fun o16 hl15 hR14 => ?_) rfl
 clear h
 refine zas (σ := (List (List Int)) × Int × (Option Addr) × Nat × Hd) (fun k11 ((l4, i8, A5, c6, H7) : (List (List Int)) × Int × (Option Addr) × Nat × Hd) => spec_plExponents.l0 a0_0 k11 l4 i8 = some o16) [3, 4, 5, 8, 9, 10, 11, 12, 13, 14, 15, 16, 17, 18, 19, 20, 21, 22, 23] (fun ((l4, i8, A5, c6, H7) : (List (List Int)) × Int × (Option Addr) × Nat × Hd) => [(3, .slice A5 l4.length c6), (4, .int .i64 i8)]) (fun ((l4, i8, A5, c6, H7) : (List (List Int)) × Int × (Option Addr) × Nat × Hd) => [row (gk 3 (Kd.int .i64)) 23 (.slice A5 l4.length c6) (zp H7 l4), box g1 25 #[.int .i64 a0_0, .slice A0_1 l0_1.length c0_1, .slice A0_2 l0_2.length c0_2]]) k (([] : List (List Int)), 0, none, 0, ([] : Hd)) hl15 ⟨rfl, rfl, trivial⟩ (fun w h => h) (natC (cur5 (fun l4 i8 A5 c6 H7 => fun U17 hJ_ => ?_)) (fun k11 => (cur5 (fun l4 i8 A5 c6 H7 => fun U17 hJ_ => ?_))))
 ·replace hJ_ : spec_plExponents.l0 a0_0 0 l4 i8 = some o16 := hJ_
  rw [spec_plExponents.l0] at hJ_
  exact noneE hJ_
 ·clear hl15
  have h := hJ_; clear hJ_
  replace h : spec_plExponents.l0 a0_0 (k11 + 1) l4 i8 = some o16 := h
  rw [spec_plExponents.l0] at h
  refine c_seq (c_seq (za0 (oq_ (za2 rfl) (oq_ (q_f F25_0 rfl) (oq_ (q_ldb Y3 rfl (bx_ 1 rfl) rfl) (oq_ (q_lss rfl rfl) (o_end (za1 (zan _ rfl (fun hb19 => ?_) (fun hb19 => ?_))))))))))
  ·replace h := br_t hb19 h
   refine zai (za1 (c_seq (zae (c_seq (za0 (oq_ (q_f F25_0 rfl) (oq_ (q_ldb Y3 rfl (bx_ 1 rfl) rfl) (za6 h (fun l20 hm21 h => ?_) rfl))))))))
   refine o_e rfl (e_make (Kd.int .i64) (0 : Int) Try.underlying23 I3 rfl dc_ dc_ (fun _ _ => rfl) rfl rfl hm21) (cur2 (fun A22 c23 => oq_ (q_asg rfl) (o_end (za1 (c_seq (za0 (oq_ (za2 rfl) (oq_ (za2 rfl) (zaw (p := Sh A22 l20.length l20.length) (fun w h => f_sh (dk := (Kd.int .i64)) h (rc_ 0 rfl)) (fun hq25 => za6 h (fun y27 hg26 h => ?_) rfl))))))))))
   refine oq_ (q_ix Try.underlying23 Z3 rfl rfl hq25 hg26) (za6 h (fun l28 hs29 h => ?_) rfl)
   refine o_e rfl (e_set (i := 0) rfl rfl rfl Z3 hs29) (fun _ => o_end (za1 (za0 (oq_ (za2 rfl) (oq_ (za2 rfl) (o_e rfl (e_litG (j := 0) (ue := 3) (dk := (Kd.int .i64)) (ys := l28) Try.underlying47 I23 rfl rfl rfl) (cur3 (fun A30 c31 H33 => za6 h (fun l34 ha35 h => ?_) rfl))))))))
   refine o_e rfl (e_appG (i := 2) (j := 0) Try.underlying47 I23 rfl dc_ rfl rfl rfl rfl rfl ha35) (cur3 (fun A36 c37 H38 => oq_ (q_asg rfl) (o_end (zaf (za1 (za0 (oq_ (za2 rfl) (oq_ (zay rfl rfl) (oq_ (q_asg rfl) (o_end ?_))))))))))
   refine zal k11 (l34, w64 (i8 + 1), A36, c37, H38) (Nat.lt_succ_self _) h ⟨rfl, rfl, trivial⟩ (pk_ [2, 3]) ?_
   exact of_
  ·replace h := br_f hb19 h
   refine zax (za7 (za7 ?_))
   have e_ := si_ h; replace h := hR14; rw [← e_] at h; clear e_
   refine x_hit (za1 (c_seq (c_seq (za0 (oq_ (q_f F25_1 rfl) (oq_ (q_ldb Y22 rfl (bx_ 1 rfl) rfl) (oq_ (q_len Try.underlying22 rfl) (oq_ (za2 rfl) (o_end ?_)))))))))
   refine za1 (zae (za6 h (fun o51 hl50 hR49 => ?_) rfl))
   clear h
   refine c_fact (p := l0_1.length ≤ 9223372036854775807) (fun w h => (R0_1.now Z h).2.1) (fun hm48 => zas (σ := (List SStep) × (List (List Int)) × Int × (Option Addr) × Nat × Hd) (fun k46 ((ys45, l39, i43, A40, c41, H42) : (List SStep) × (List (List Int)) × Int × (Option Addr) × Nat × Hd) => Rg l0_1 i43 ys45 ∧ ys45.length = k46 ∧ spec_plExponents.l1 ys45 l39 i43 = some o51) [3, 7, 27, 28, 29, 30, 31, 32, 33, 34, 35, 36, 37, 38, 39, 40, 41, 42, 43, 44, 45] (fun ((ys45, l39, i43, A40, c41, H42) : (List SStep) × (List (List Int)) × Int × (Option Addr) × Nat × Hd) => [(3, .slice A40 l39.length c41), (27, .int .i64 i43)]) (fun ((ys45, l39, i43, A40, c41, H42) : (List SStep) × (List (List Int)) × Int × (Option Addr) × Nat × Hd) => [row (gk 3 (Kd.int .i64)) 23 (.slice A40 l39.length c41) (zp H42 l39), box g1 25 #[.int .i64 a0_0, .slice A0_1 l0_1.length c0_1, .slice A0_2 l0_2.length c0_2]]) l0_1.length (l0_1, l4, 0, A5, c6, H7) ⟨Rg.start _, rfl, hl50⟩ ⟨rfl, rfl, trivial⟩ (fun w h => h) (fun k46 => cur6 (listC (fun l39 i43 A40 c41 H42 U52 hJ_ => ?_) (fun y44 ys45 l39 i43 A40 c41 H42 U52 hJ_ => ?_))))
   ·clear hl50
    have hr47 := hJ_.1; have hk53 := hJ_.2.1; have h := hJ_.2.2; clear hJ_
    replace h : spec_plExponents.l1 [] l39 i43 = some o51 := h
    rw [spec_plExponents.l1] at h
    refine c_seq (za0 (oq_ (q_lss rfl rfl) (o_end (za1 (c_seq (zaz (vb_ hr47.ge) (zax (za7 (za7 ?_)))))))))
    have e_ := si_ h; replace h := hR49; rw [← e_] at h; clear e_
    refine x_hit (za1 (c_seq (za0 (oq_ (za2 rfl) (oq_ (q_asg rfl) (o_end (za1 (c_ret ?_))))))))
    have e0_ := si_ h; clear h
    subst e0_
    exact x_r1 (A40, c41, H42) Try.results142 (zad rfl) rfl (pk_ [0])
   ·clear hl50
    have hr47 := hJ_.1; have hk53 := hJ_.2.1; have h := hJ_.2.2; clear hJ_
    replace h : spec_plExponents.l1 (y44 :: ys45) l39 i43 = some o51 := h
    rw [spec_plExponents.l1] at h
    refine c_seq (za0 (oq_ (q_lss rfl rfl) (o_end (za1 (c_seq (zar (vb_ hr47.lt) (zai (za1 (c_seq ?_)))))))))
    refine zae (c_seq (za0 (zaw (p := Sh A0_1 l0_1.length l0_1.length) (fun w h => f_sh (dk := kStep) h (fun w h => R0_1.now Z h)) (fun hq54 => oq_ (q_ix Try.underlying22 Z107 rfl rfl hq54 hr47.get) (oq_ (q_ldE G107 Z107 rfl rfl (fun w h => R0_1.now Z h) hr47.get (fun _ _ h => h) rfl) (o_e rfl (zab V107 rfl) (fun g55 => o_e rfl (zac (i := 0) rfl rfl rfl Z107 rfl rfl) (fun _ => o_end (za1 ?_)))))))))
    refine za6 h (fun y300 hg299 h => ?_) rfl
    refine za6 h (fun y599 hg598 h => ?_) rfl
    refine za6 h (fun l719 hx718 h => ?_) rfl
    refine za6 h (fun l838 ha839 h => ?_) rfl
    refine a_startS (ds := []) [some 0, none, some 2] MO rfl (ap_ 0 rfl (za2 rfl) (ap_ 1 rfl (za2 rfl) (ap_ 2 rfl (q_f F107_0 rfl) (at_2 3 rfl (sm_ [some 0, none, some 2]) (q_ldb Y3 rfl (bx_ 0 rfl) rfl) (a_fact (p := Sh A40 l39.length (zp H42 l39).length) (fun w h => f_sh (dk := (gk 3 (Kd.int .i64))) h (rc_ 1 rfl)) (fun hq298 => ap_ 4 rfl (q_ix Try.underlying47 Z23 rfl rfl hq298 (gt_zp hg299)) (ap_ 6 rfl (za2 rfl) (ap_ 7 rfl (q_f F107_1 rfl) (at_2 8 rfl (sm_ [some 0, none, some 2]) (q_ldb Y3 rfl (bx_ 0 rfl) rfl) ?_)))))))))
    refine ap_ 9 rfl (q_ix Try.underlying47 Z23 rfl rfl hq298 (gt_zp hg598)) (a_fact (p := y300.length ≤ hC H42 y44.f0) (fun w h => (K_in (h.row_Cn (i := 1) rfl) hg299).1) (fun hc358 => a_fact (p := y599.length ≤ hC H42 y44.f1) (fun w h => (K_in (h.row_Cn (i := 1) rfl) hg598).1) (fun hc658 => a_two 5 10 rfl rfl rfl rfl kr_ rfl rfl (ev_q rfl (q_lde (off := 0) Y23 rfl rfl (rc_ 1 rfl) (gt_zp hg299) (fun _ _ h => h.1) rfl)) (sl_ [some 0, none, some 2]) (ev_q rfl (q_lde (off := 0) Y23 rfl rfl (rc_ 1 rfl) (gt_zp hg598) (fun _ _ h => h.1) rfl)) (sl_ [some 0, none, some 2]) (fun _ => ?_) (fun _ => ?_))))
    ·refine a_fact (p := y599.length ≤ hC H42 y44.f1) (fun w h => (K_in (h.row_Cn (i := 1) rfl) hg598).1) (fun hc658 => a1_ 10 rfl (ev_q rfl (q_lde (off := 0) Y23 rfl rfl (rc_ 1 rfl) (gt_zp hg598) (fun _ _ h => h.1) rfl)) (sl_ [some 0, none, some 2]) (fun _ => a1_ 11 rfl (za5 0 Z Try.func157 N157 rfl rfl rfl (fun w P1 hF hB hS hT => spec_plSum.calls (hA H42 y44.f0) (hC H42 y44.f0) y300.length y300 (hA H42 y44.f1) (hC H42 y44.f1) y599.length y599 hB hF (stab_in (hT 1 _ rfl).row hg299) hc358 (stab_in (hT 1 _ rfl).row hg598) hc658 _ hx718)) (sl_ [some 1, none, some 3]) (cur2 (fun A720 c721 => a1_ 12 rfl (e_litG (j := 0) (ue := 3) (dk := (Kd.int .i64)) (ys := l719) Try.underlying47 I23 rfl rfl rfl) (sl_ [some 2, none, some 4]) (cur3 (fun A778 c779 H781 => a1_ 13 rfl (e_appG (i := 3) (j := 0) Try.underlying47 I23 rfl dc_ rfl rfl rfl rfl rfl ha839) (sl_ [some 2, none, some 4]) (cur3 (fun A840 c841 H842 => ap_ 14 rfl (q_asg rfl) (zaj kr_ (zaf (za1 (za0 ?_))))))))))))
     refine oq_ (q_up rfl rfl (hr47.up hm48)) (oq_ (za2 rfl) (o_end (zal ys45.length (ys45, l838, i43 + 1, A840, c841, H842) (by rw [← hk53]; exact Nat.lt_succ_self _) ⟨hr47.step, rfl, h⟩ ⟨rfl, rfl, trivial⟩ (pk_ [3, 4]) ?_)))
     exact of_
    ·refine a_fact (p := y300.length ≤ hC H42 y44.f0) (fun w h => (K_in (h.row_Cn (i := 1) rfl) hg299).1) (fun hc358 => a1_ 5 rfl (ev_q rfl (q_lde (off := 0) Y23 rfl rfl (rc_ 1 rfl) (gt_zp hg299) (fun _ _ h => h.1) rfl)) (sl_ [some 0, none, some 2]) (fun _ => a1_ 11 rfl (za5 0 Z Try.func157 N157 rfl rfl rfl (fun w P1 hF hB hS hT => spec_plSum.calls (hA H42 y44.f0) (hC H42 y44.f0) y300.length y300 (hA H42 y44.f1) (hC H42 y44.f1) y599.length y599 hB hF (stab_in (hT 1 _ rfl).row hg299) hc358 (stab_in (hT 1 _ rfl).row hg598) hc658 _ hx718)) (sl_ [some 1, none, some 3]) (cur2 (fun A720 c721 => a1_ 12 rfl (e_litG (j := 0) (ue := 3) (dk := (Kd.int .i64)) (ys := l719) Try.underlying47 I23 rfl rfl rfl) (sl_ [some 2, none, some 4]) (cur3 (fun A778 c779 H781 => a1_ 13 rfl (e_appG (i := 3) (j := 0) Try.underlying47 I23 rfl dc_ rfl rfl rfl rfl rfl ha839) (sl_ [some 2, none, some 4]) (cur3 (fun A840 c841 H842 => ap_ 14 rfl (q_asg rfl) (zaj kr_ (zaf (za1 (za0 ?_))))))))))))
     refine oq_ (q_up rfl rfl (hr47.up hm48)) (oq_ (za2 rfl) (o_end (zal ys45.length (ys45, l838, i43 + 1, A840, c841, H842) (by rw [← hk53]; exact Nat.lt_succ_self _) ⟨hr47.step, rfl, h⟩ ⟨rfl, rfl, trivial⟩ (pk_ [3, 4]) ?_)))
     exact of_

def spec_l1All.l0 (a1 : Int) (a2 : Int) : (List Int) → Int → Option ((Bool) ⊕ (Unit))
 | [], i1 => some (.inr ())
 | y2 :: ys3, i1 => (spec_l1In.f y2 a1 a2).bind fun b14 => if b14 = true then (spec_l1All.l0 a1 a2 ys3 (i1 + 1)) else (some (.inl false))
def spec_l1All.f (l0 : List Int) (a1 : Int) (a2 : Int) : Option Bool := (spec_l1All.l0 a1 a2 l0 0).bind fun o_ => match o_ with | .inl r_ => some r_ | .inr _ => some true
theorem spec_l1All.calls {w0 ws : World} {P0 : Nat → Prop} (A0 : Option Addr) (c0 : Nat) (n0 : Nat) (l0 : List Int) (a1 : Int) (a2 : Int) (Z : Below w0.heap.size w0 ws) (hF : Fr w0 ws P0 [] ws) (R0 : Stable ws P0 (fun w => Kd.C (Kd.int .i64) w A0 n0 l0)) (hc0 : n0 ≤ c0) (r_1 : Bool) (h : spec_l1All.f l0 a1 a2 = some r_1) :
  Calls Try.prog 143 #[.slice A0 n0 c0, .int .i64 a1, .int .i64 a2] ws (Post1 w0 ws P0 (fun (_ : Unit) => .bool r_1) (fun (_ : Unit) => [])) := by
 unfold spec_l1All.f at h
 obtain rfl := (R0 ws (KeptB.refl _ _)).1
 refine enter Try.func143 rfl Try.ntmps143 rfl hF (c_seq (za0 (oq_ (q_asg rfl) (o_end (za1 (c_seq (c_seq (za0 (oq_ (za2 rfl) ?_)))))))))
 refine oq_ (q_len Try.underlying23 rfl) (oq_ (za2 rfl) (o_end (za1 (zae (za6 h (fun o9 hl8 hR7 => ?_) rfl)))))
 clear h
 refine c_fact (p := l0.length ≤ 9223372036854775807) (fun w h => (R0.now Z h).2.1) (fun hm6 => zas (σ := (List Int) × Int) (fun k4 ((ys3, i1) : (List Int) × Int) => Rg l0 i1 ys3 ∧ ys3.length = k4 ∧ spec_l1All.l0 a1 a2 ys3 i1 = some o9) [6, 8, 11, 12, 13, 14, 15, 16, 17, 18, 19, 20] (fun ((ys3, i1) : (List Int) × Int) => [(11, .int .i64 i1)]) (fun ((ys3, i1) : (List Int) × Int) => []) l0.length (l0, 0) ⟨Rg.start _, rfl, hl8⟩ ⟨rfl, trivial⟩ (fun w h => h) (fun k4 => cur2 (listC (fun i1 U10 hJ_ => ?_) (fun y2 ys3 i1 U10 hJ_ => ?_))))
 ·clear hl8
  have hr5 := hJ_.1; have hk11 := hJ_.2.1; have h := hJ_.2.2; clear hJ_
  replace h : spec_l1All.l0 a1 a2 [] i1 = some o9 := h
  rw [spec_l1All.l0] at h
  refine c_seq (za0 (oq_ (q_lss rfl rfl) (o_end (za1 (c_seq (zaz (vb_ hr5.ge) (zax (za7 (za7 ?_)))))))))
  have e_ := si_ h; replace h := hR7; rw [← e_] at h; clear e_
  refine x_hit (za1 (c_seq (za0 (oq_ (q_asg rfl) (o_end (za1 (c_ret ?_)))))))
  have e0_ := si_ h; clear h
  subst e0_
  exact x_r1 () Try.results143 (zad rfl) rfl (pk_ [])
 ·clear hl8
  have hr5 := hJ_.1; have hk11 := hJ_.2.1; have h := hJ_.2.2; clear hJ_
  replace h : spec_l1All.l0 a1 a2 (y2 :: ys3) i1 = some o9 := h
  rw [spec_l1All.l0] at h
  refine c_seq (za0 (oq_ (q_lss rfl rfl) (o_end (za1 (c_seq (zar (vb_ hr5.lt) (zai (za1 (c_seq ?_)))))))))
  refine zae (c_seq (za0 (zaw (p := Sh A0 l0.length l0.length) (fun w h => f_sh (dk := (Kd.int .i64)) h (fun w h => R0.now Z h)) (fun hq12 => oq_ (q_ix Try.underlying23 Z3 rfl rfl hq12 hr5.get) (oq_ (q_lde (off := 0) Y3 rfl rfl (fun w h => R0.now Z h) hr5.get (fun _ _ h => h) rfl) (oq_ (q_asg rfl) (o_end (za1 (c_seq ?_)))))))))
  refine za0 (oq_ (za2 rfl) (oq_ (za2 rfl) (oq_ (za2 rfl) (za6 h (fun b14 hx13 h => ?_) rfl))))
  refine o_e rfl (za5 0 Z Try.func107 N107 rfl rfl rfl (fun w P1 hF hB hS hT => spec_l1In.calls y2 a1 a2 hB hF _ hx13)) (fun _ => oq_ (q_not rfl) (o_end (za1 (zan _ rfl (fun hb15 => ?_) (fun hb15 => ?_)))))
  ·replace hb15 := nt_t hb15
   replace h := bb_f hb15 h
   refine c_seq (za0 (oq_ (q_asg rfl) (o_end (za1 (c_ret (zao (zaa (zaa ?_))))))))
   have e_ := si_ h; replace h := hR7; rw [← e_] at h; clear e_
   refine zao (zaa ?_)
   have e0_ := si_ h; clear h
   subst e0_
   exact x_r1 () Try.results143 (zad rfl) rfl (pk_ [])
  ·replace hb15 := nt_f hb15
   replace h := bb_t hb15 h
   refine zai (zaf (za1 (za0 (oq_ (q_up rfl rfl (hr5.up hm6)) (oq_ (za2 rfl) (o_end (zal ys3.length (ys3, i1 + 1) (by rw [← hk11]; exact Nat.lt_succ_self _) ⟨hr5.step, rfl, h⟩ ⟨rfl, trivial⟩ (pk_ []) ?_)))))))
   exact of_

def spec_plGood.l1 : (List (List Int)) → Int → Option ((Bool) ⊕ (Unit))
 | [], i24 => some (.inr ())
 | y25 :: ys26, i24 => (spec_l1All.f y25 0 1000000).bind fun b40 => if b40 = true then (spec_plGood.l1 ys26 (i24 + 1)) else (some (.inl false))
def spec_plGood.l0 (a0_0 : Int) : (List SStep) → Int → Option ((Bool) ⊕ (Unit))
 | [], i8 => some (.inr ())
 | y9 :: ys10, i8 => (spec_l1In.f y9.f0 0 y9.f1).bind fun b46 => if b46 = true then (if w64 (a0_0 + i8) ≤ y9.f1 then (some (.inl false)) else (spec_plGood.l0 a0_0 ys10 (i8 + 1))) else (some (.inl false))
def spec_plGood.f (k : Nat) (a0_0 : Int) (l0_1 : List SStep) (l0_2 : List Int) : Option Bool := (spec_l1In.f a0_0 1 6).bind fun b4 => if b4 = true then (if 40 < (l0_1.length : Int) then (some false) else (if 6 < (l0_2.length : Int) then (some false) else ((spec_plGood.l0 a0_0 l0_1 0).bind fun o_ => match o_ with | .inl r_ => some r_ | .inr _ => (spec_plExponents.f k a0_0 l0_1 l0_2).bind fun l20 => (spec_plGood.l1 l20 0).bind fun o_ => match o_ with | .inl r_ => some r_ | .inr _ => (spec_l1All.f l0_2 0 (w64 (w64 (a0_0 + (l0_1.length : Int)) - 1))).bind fun b36 => some b36))) else (some false)
theorem spec_plGood.calls (k : Nat) {w0 ws : World} {P0 : Nat → Prop} (a0_0 : Int) (A0_1 : Option Addr) (c0_1 : Nat) (n0_1 : Nat) (l0_1 : List SStep) (A0_2 : Option Addr) (c0_2 : Nat) (n0_2 : Nat) (l0_2 : List Int) (Z : Below w0.heap.size w0 ws) (hF : Fr w0 ws P0 [] ws) (R0_1 : Stable ws P0 (fun w => Kd.C kStep w A0_1 n0_1 l0_1)) (hc0_1 : n0_1 ≤ c0_1) (R0_2 : Stable ws P0 (fun w => Kd.C (Kd.int .i64) w A0_2 n0_2 l0_2)) (hc0_2 : n0_2 ≤ c0_2) (r_1 : Bool) (h : spec_plGood.f k a0_0 l0_1 l0_2 = some r_1) :
  Calls Try.prog 96 #[.agg #[.int .i64 a0_0, .slice A0_1 n0_1 c0_1, .slice A0_2 n0_2 c0_2]] ws (Post1 w0 ws P0 (fun (_ : Unit) => .bool r_1) (fun (_ : Unit) => [])) := by
 unfold spec_plGood.f at h
 obtain rfl := (R0_1 ws (KeptB.refl _ _)).1
 obtain rfl := (R0_2 ws (KeptB.refl _ _)).1
 refine enter Try.func96 rfl Try.ntmps96 rfl hF (c_seq (za0 (o_e rfl (e_box rfl) (fun g1 => oq_ (q_asg rfl) (o_end (za1 (c_seq (c_seq (za0 ?_)))))))))
 refine oq_ (q_f F25_0 rfl) (oq_ (q_ldb Y3 rfl (bx_ 0 rfl) rfl) (za6 h (fun b4 hx3 h => ?_) rfl))
 refine o_e rfl (za5 0 Z Try.func107 N107 rfl rfl rfl (fun w P1 hF hB hS hT => spec_l1In.calls a0_0 1 6 hB hF _ hx3)) (fun _ => oq_ (q_not rfl) (oq_ (za2 rfl) (byB b4 (fun hb5 => ?_) (fun hb5 => ?_))))
 ·replace h := bb_t hb5 h
  refine o_w (za4 rfl rfl rfl (congrArg (fun b => Value.bool (!(b))) hb5)) rfl (q_f F25_1 rfl) (o_w (za4 rfl rfl rfl (congrArg (fun b => Value.bool (!(b))) hb5)) rfl (q_ldb Y22 rfl (bx_ 0 rfl) rfl) (o_w (za4 rfl rfl rfl (congrArg (fun b => Value.bool (!(b))) hb5)) rfl (q_len Try.underlying22 rfl) (o_w (za4 rfl rfl rfl (congrArg (fun b => Value.bool (!(b))) hb5)) rfl (q_gtr rfl rfl) (oq_ (zak false (congrArg (fun b => Value.bool (!(b))) hb5) rfl) (oq_ (za2 rfl) (byB (decide (40 < (l0_1.length : Int))) (fun hb6 => ?_) (fun hb6 => ?_)))))))
  ·replace h := br_t hb6 h
   refine o_n (d := 18) (za3 rfl rfl rfl (vb_ hb6) rfl) (Eq.refl (some 18)) (o_n (d := 19) (za3 rfl rfl rfl (vb_ hb6) rfl) (Eq.refl (some 19)) (o_n (d := 20) (za3 rfl rfl rfl (vb_ hb6) rfl) (Eq.refl (some 20)) (o_n (d := 21) (za3 rfl rfl rfl (vb_ hb6) rfl) (Eq.refl (some 21)) (oq_ (zak true (vb_ hb6) rfl) (o_end (za1 (zar rfl (c_seq (za0 ?_)))))))))
   refine oq_ (q_asg rfl) (o_end (za1 (c_ret (zaa ?_))))
   have e0_ := si_ h; clear h
   subst e0_
   exact x_r1 () Try.results96 (zad rfl) rfl (pk_ [])
  ·replace h := br_f hb6 h
   refine o_w (za4 rfl rfl rfl (vb_ hb6)) rfl (q_f F25_2 rfl) (o_w (za4 rfl rfl rfl (vb_ hb6)) rfl (q_ldb Y23 rfl (bx_ 0 rfl) rfl) (o_w (za4 rfl rfl rfl (vb_ hb6)) rfl (q_len Try.underlying23 rfl) (o_w (za4 rfl rfl rfl (vb_ hb6)) rfl (q_gtr rfl rfl) (oq_ (zak false (vb_ hb6) rfl) (o_end (za1 (zan _ rfl (fun hb7 => ?_) (fun hb7 => ?_))))))))
   ·replace h := br_t hb7 h
    refine c_seq (za0 (oq_ (q_asg rfl) (o_end (za1 (c_ret (zaa ?_))))))
    have e0_ := si_ h; clear h
    subst e0_
    exact x_r1 () Try.results96 (zad rfl) rfl (pk_ [])
   ·replace h := br_f hb7 h
    refine zai (za1 (c_seq (c_seq (za0 (oq_ (q_f F25_1 rfl) (oq_ (q_ldb Y22 rfl (bx_ 0 rfl) rfl) (oq_ (q_len Try.underlying22 rfl) (oq_ (za2 rfl) (o_end ?_)))))))))
    refine za1 (zae (za6 h (fun o16 hl15 hR14 => ?_) rfl))
    clear h
    refine c_fact (p := l0_1.length ≤ 9223372036854775807) (fun w h => (R0_1.now Z h).2.1) (fun hm13 => zas (σ := (List SStep) × Int) (fun k11 ((ys10, i8) : (List SStep) × Int) => Rg l0_1 i8 ys10 ∧ ys10.length = k11 ∧ spec_plGood.l0 a0_0 ys10 i8 = some o16) [2, 3, 4, 26, 27, 28, 29, 30, 31, 32, 33, 34, 35, 36, 37, 38, 39, 40, 41, 42, 43, 44, 45, 46] (fun ((ys10, i8) : (List SStep) × Int) => [(26, .int .i64 i8)]) (fun ((ys10, i8) : (List SStep) × Int) => [box g1 25 #[.int .i64 a0_0, .slice A0_1 l0_1.length c0_1, .slice A0_2 l0_2.length c0_2]]) l0_1.length (l0_1, 0) ⟨Rg.start _, rfl, hl15⟩ ⟨rfl, trivial⟩ (fun w h => h) (fun k11 => cur2 (listC (fun i8 U17 hJ_ => ?_) (fun y9 ys10 i8 U17 hJ_ => ?_))))
    ·clear hl15
     have hr12 := hJ_.1; have hk18 := hJ_.2.1; have h := hJ_.2.2; clear hJ_
     replace h : spec_plGood.l0 a0_0 [] i8 = some o16 := h
     rw [spec_plGood.l0] at h
     refine c_seq (za0 (oq_ (q_lss rfl rfl) (o_end (za1 (c_seq (zaz (vb_ hr12.ge) (zax (za7 (za7 ?_)))))))))
     have e_ := si_ h; replace h := hR14; rw [← e_] at h; clear e_
     refine x_hit (za1 (c_seq (c_seq (za0 (oq_ (q_ldB G25 Z25 rfl (bx_ 0 rfl) rfl) (za6 h (fun l20 hx19 h => ?_) rfl))))))
     refine o_e rfl (za5 0 Z Try.func142 N142 rfl rfl rfl (fun w P1 hF hB hS hT => spec_plExponents.calls k a0_0 A0_1 c0_1 l0_1.length l0_1 A0_2 c0_2 l0_2.length l0_2 hB hF (hS _ R0_1) hc0_1 (hS _ R0_2) hc0_2 _ hx19)) (cur3 (fun A21 c22 H23 => oq_ (q_len Try.underlying47 rfl) (oq_ (za2 rfl) (o_end (za1 (zae (za6 h (fun o32 hl31 hR30 => ?_) rfl)))))))
     clear h
     refine c_fact (p := l20.length ≤ 9223372036854775807) (fun w h => (h.row_Cn (i := 0) rfl).2.1) (fun hm29 => zas (σ := (List (List Int)) × Int) (fun k27 ((ys26, i24) : (List (List Int)) × Int) => Rg l20 i24 ys26 ∧ ys26.length = k27 ∧ spec_plGood.l1 ys26 i24 = some o32) [2, 6, 50, 51, 52, 53, 54, 55, 56, 57] (fun ((ys26, i24) : (List (List Int)) × Int) => [(50, .int .i64 i24)]) (fun ((ys26, i24) : (List (List Int)) × Int) => [row (gk 3 (Kd.int .i64)) 23 (.slice A21 l20.length c22) (zp H23 l20), box g1 25 #[.int .i64 a0_0, .slice A0_1 l0_1.length c0_1, .slice A0_2 l0_2.length c0_2]]) l20.length (l20, 0) ⟨Rg.start _, rfl, hl31⟩ ⟨rfl, trivial⟩ (fun w h => h) (fun k27 => cur2 (listC (fun i24 U33 hJ_ => ?_) (fun y25 ys26 i24 U33 hJ_ => ?_))))
     ·clear hl31
      have hr28 := hJ_.1; have hk34 := hJ_.2.1; have h := hJ_.2.2; clear hJ_
      replace h : spec_plGood.l1 [] i24 = some o32 := h
      rw [spec_plGood.l1] at h
      refine c_seq (za0 (oq_ (q_lss rfl rfl) (o_end (za1 (c_seq (zaz (vb_ hr28.ge) (zax (za7 (za7 ?_)))))))))
      have e_ := si_ h; replace h := hR30; rw [← e_] at h; clear e_
      refine x_hit (za1 (c_seq (za0 (oq_ (q_f F25_2 rfl) (oq_ (q_ldb Y23 rfl (bx_ 1 rfl) rfl) (oq_ (q_f F25_0 rfl) (oq_ (q_ldb Y3 rfl (bx_ 1 rfl) rfl) (oq_ (q_f F25_1 rfl) (oq_ (q_ldb Y22 rfl (bx_ 1 rfl) rfl) ?_)))))))))
      refine oq_ (q_len Try.underlying22 rfl) (oq_ (zay rfl rfl) (oq_ (zat rfl rfl) (za6 h (fun b36 hx35 h => ?_) rfl)))
      refine o_e rfl (za5 0 Z Try.func143 N143 rfl rfl rfl (fun w P1 hF hB hS hT => spec_l1All.calls A0_2 c0_2 l0_2.length l0_2 0 (w64 (w64 (a0_0 + (l0_1.length : Int)) - 1)) hB hF (hS _ R0_2) hc0_2 _ hx35)) (fun _ => oq_ (q_asg rfl) (o_end (za1 (c_ret ?_))))
      have e0_ := si_ h; clear h
      subst e0_
      exact x_r1 () Try.results96 (zad rfl) rfl (pk_ [])
     ·clear hl31
      have hr28 := hJ_.1; have hk34 := hJ_.2.1; have h := hJ_.2.2; clear hJ_
      replace h : spec_plGood.l1 (y25 :: ys26) i24 = some o32 := h
      rw [spec_plGood.l1] at h
      refine c_seq (za0 (oq_ (q_lss rfl rfl) (o_end (za1 (c_seq (zar (vb_ hr28.lt) (zai (za1 (c_seq ?_)))))))))
      refine zae (c_seq (za0 (zaw (p := Sh A21 l20.length (zp H23 l20).length) (fun w h => f_sh (dk := (gk 3 (Kd.int .i64))) h (rc_ 0 rfl)) (fun hq37 => oq_ (q_ix Try.underlying47 Z23 rfl rfl hq37 (gt_zp hr28.get)) (zaw (p := y25.length ≤ hC H23 i24) (fun w h => (K_in (h.row_Cn (i := 0) rfl) hr28.get).1) (fun hc38 => oq_ (q_lde (off := 0) Y23 rfl rfl (rc_ 0 rfl) (gt_zp hr28.get) (fun _ _ h => h.1) rfl) (oq_ (q_asg rfl) (o_end (za1 ?_)))))))))
      refine c_seq (za0 (oq_ (za2 rfl) (za6 h (fun b40 hx39 h => ?_) rfl)))
      refine o_e rfl (za5 0 Z Try.func143 N143 rfl rfl rfl (fun w P1 hF hB hS hT => spec_l1All.calls (hA H23 i24) (hC H23 i24) y25.length y25 0 1000000 hB hF (stab_in (hT 0 _ rfl).row hr28.get) hc38 _ hx39)) (fun _ => oq_ (q_not rfl) (o_end (za1 (zan _ rfl (fun hb41 => ?_) (fun hb41 => ?_)))))
      ·replace hb41 := nt_t hb41
       replace h := bb_f hb41 h
       refine c_seq (za0 (oq_ (q_asg rfl) (o_end (za1 (c_ret (zao (zaa (zaa ?_))))))))
       have e_ := si_ h; replace h := hR30; rw [← e_] at h; clear e_
       refine zao (zaa ?_)
       have e0_ := si_ h; clear h
       subst e0_
       exact x_r1 () Try.results96 (zad rfl) rfl (pk_ [])
      ·replace hb41 := nt_f hb41
       replace h := bb_t hb41 h
       refine zai (zaf (za1 (za0 (oq_ (q_up rfl rfl (hr28.up hm29)) (oq_ (za2 rfl) (o_end (zal ys26.length (ys26, i24 + 1) (by rw [← hk34]; exact Nat.lt_succ_self _) ⟨hr28.step, rfl, h⟩ ⟨rfl, trivial⟩ (pk_ [0, 1]) ?_)))))))
       exact of_
    ·clear hl15
     have hr12 := hJ_.1; have hk18 := hJ_.2.1; have h := hJ_.2.2; clear hJ_
     replace h : spec_plGood.l0 a0_0 (y9 :: ys10) i8 = some o16 := h
     rw [spec_plGood.l0] at h
     refine c_seq (za0 (oq_ (q_lss rfl rfl) (o_end (za1 (c_seq (zar (vb_ hr12.lt) (zai (za1 (c_seq ?_)))))))))
     refine zae (c_seq (za0 (oq_ (za2 rfl) (zaw (p := Sh A0_1 l0_1.length l0_1.length) (fun w h => f_sh (dk := kStep) h (fun w h => R0_1.now Z h)) (fun hq42 => oq_ (q_ix Try.underlying22 Z107 rfl rfl hq42 hr12.get) (oq_ (q_ldE G107 Z107 rfl rfl (fun w h => R0_1.now Z h) hr12.get (fun _ _ h => h) rfl) (o_e rfl (zab V107 rfl) (fun g43 => oq_ (q_asg rfl) (o_e rfl (zac (i := 0) rfl rfl rfl Z107 rfl rfl) (fun _ => ?_))))))))))
     refine o_end (za1 (c_seq (za0 (oq_ (q_f F107_0 rfl) (oq_ (q_ldb Y3 rfl (bx_ 0 rfl) rfl) (oq_ (q_f F107_1 rfl) (oq_ (q_ldb Y3 rfl (bx_ 0 rfl) rfl) (za6 h (fun b46 hx45 h => ?_) rfl))))))))
     refine o_e rfl (za5 0 Z Try.func107 N107 rfl rfl rfl (fun w P1 hF hB hS hT => spec_l1In.calls y9.f0 0 y9.f1 hB hF _ hx45)) (fun _ => oq_ (q_not rfl) (oq_ (za2 rfl) (byB b46 (fun hb47 => ?_) (fun hb47 => ?_))))
     ·replace h := bb_t hb47 h
      refine o_w (za4 rfl rfl rfl (congrArg (fun b => Value.bool (!(b))) hb47)) rfl (q_f F107_1 rfl) (o_w (za4 rfl rfl rfl (congrArg (fun b => Value.bool (!(b))) hb47)) rfl (q_ldb Y3 rfl (bx_ 0 rfl) rfl) (o_w (za4 rfl rfl rfl (congrArg (fun b => Value.bool (!(b))) hb47)) rfl (q_f F25_0 rfl) (o_w (za4 rfl rfl rfl (congrArg (fun b => Value.bool (!(b))) hb47)) rfl (q_ldb Y3 rfl (bx_ 1 rfl) rfl) (o_w (za4 rfl rfl rfl (congrArg (fun b => Value.bool (!(b))) hb47)) rfl (za2 rfl) (o_w (za4 rfl rfl rfl (congrArg (fun b => Value.bool (!(b))) hb47)) rfl (zay rfl rfl) (o_w (za4 rfl rfl rfl (congrArg (fun b => Value.bool (!(b))) hb47)) rfl (q_geq rfl rfl) (oq_ (zak false (congrArg (fun b => Value.bool (!(b))) hb47) rfl) (o_end (za1 ?_)))))))))
      refine zan _ rfl (fun hb48 => ?_) (fun hb48 => ?_)
      ·replace h := br_t hb48 h
       refine c_seq (za0 (oq_ (q_asg rfl) (o_end (za1 (c_ret (zao (zaa (zaa ?_))))))))
       have e_ := si_ h; replace h := hR14; rw [← e_] at h; clear e_
       refine zao (zaa ?_)
       have e0_ := si_ h; clear h
       subst e0_
       exact x_r1 () Try.results96 (zad rfl) rfl (pk_ [])
      ·replace h := br_f hb48 h
       refine zai (zaf (za1 (za0 (oq_ (q_up rfl rfl (hr12.up hm13)) (oq_ (za2 rfl) (o_end (zal ys10.length (ys10, i8 + 1) (by rw [← hk18]; exact Nat.lt_succ_self _) ⟨hr12.step, rfl, h⟩ ⟨rfl, trivial⟩ (pk_ [1]) ?_)))))))
       exact of_
     ·replace h := bb_f hb47 h
      refine o_n (d := 38) (za3 rfl rfl rfl (congrArg (fun b => Value.bool (!(b))) hb47) rfl) (Eq.refl (some 38)) (o_n (d := 39) (za3 rfl rfl rfl (congrArg (fun b => Value.bool (!(b))) hb47) rfl) (Eq.refl (some 39)) (o_n (d := 40) (za3 rfl rfl rfl (congrArg (fun b => Value.bool (!(b))) hb47) rfl) (Eq.refl (some 40)) (o_n (d := 41) (za3 rfl rfl rfl (congrArg (fun b => Value.bool (!(b))) hb47) rfl) (Eq.refl (some 41)) (o_n (d := 42) (za3 rfl rfl rfl (congrArg (fun b => Value.bool (!(b))) hb47) rfl) (Eq.refl (some 42)) (o_n (d := 43) (za3 rfl rfl rfl (congrArg (fun b => Value.bool (!(b))) hb47) rfl) (Eq.refl (some 43)) (o_n (d := 44) (za3 rfl rfl rfl (congrArg (fun b => Value.bool (!(b))) hb47) rfl) (Eq.refl (some 44)) (oq_ (zak true (congrArg (fun b => Value.bool (!(b))) hb47) rfl) (o_end (za1 ?_)))))))))
      refine zar rfl (c_seq (za0 (oq_ (q_asg rfl) (o_end (za1 (c_ret (zao (zaa (zaa ?_)))))))))
      have e_ := si_ h; replace h := hR14; rw [← e_] at h; clear e_
      refine zao (zaa ?_)
      have e0_ := si_ h; clear h
      subst e0_
      exact x_r1 () Try.results96 (zad rfl) rfl (pk_ [])
 ·replace h := bb_f hb5 h
  refine o_n (d := 12) (za3 rfl rfl rfl (congrArg (fun b => Value.bool (!(b))) hb5) rfl) (Eq.refl (some 12)) (o_n (d := 13) (za3 rfl rfl rfl (congrArg (fun b => Value.bool (!(b))) hb5) rfl) (Eq.refl (some 13)) (o_n (d := 14) (za3 rfl rfl rfl (congrArg (fun b => Value.bool (!(b))) hb5) rfl) (Eq.refl (some 14)) (o_n (d := 15) (za3 rfl rfl rfl (congrArg (fun b => Value.bool (!(b))) hb5) rfl) (Eq.refl (some 15)) (oq_ (zak true (congrArg (fun b => Value.bool (!(b))) hb5) rfl) (oq_ (za2 rfl) (o_n (d := 18) (za3 rfl rfl rfl rfl rfl) (Eq.refl (some 18)) (o_n (d := 19) (za3 rfl rfl rfl rfl rfl) (Eq.refl (some 19)) (o_n (d := 20) (za3 rfl rfl rfl rfl rfl) (Eq.refl (some 20)) (o_n (d := 21) (za3 rfl rfl rfl rfl rfl) (Eq.refl (some 21)) ?_)))))))))
  refine oq_ (zak true rfl rfl) (o_end (za1 (zar rfl (c_seq (za0 (oq_ (q_asg rfl) (o_end (za1 (c_ret ?_)))))))))
  refine zaa ?_
  have e0_ := si_ h; clear h
  subst e0_
  exact x_r1 () Try.results96 (zad rfl) rfl (pk_ [])

def spec_plIf.f (k : Nat) (a0_0 : Int) (l0_1 : List SStep) (l0_2 : List Int) : Option (Int × (List SStep) × (List Int) × Bool) := (spec_plGood.f k a0_0 l0_1 l0_2).bind fun b6 => if b6 = true then (some (a0_0, l0_1, l0_2, true)) else (some (0, ([] : List SStep), ([] : List Int), false))
theorem spec_plIf.calls (k : Nat) {w0 ws : World} {P0 : Nat → Prop} (a0_0 : Int) (A0_1 : Option Addr) (c0_1 : Nat) (n0_1 : Nat) (l0_1 : List SStep) (A0_2 : Option Addr) (c0_2 : Nat) (n0_2 : Nat) (l0_2 : List Int) (Z : Below w0.heap.size w0 ws) (hF : Fr w0 ws P0 [row kStep 107 (.slice A0_1 n0_1 c0_1) l0_1, row (Kd.int .i64) 3 (.slice A0_2 n0_2 c0_2) l0_2] ws)  (r_1 : Int) (r_2 : List SStep) (r_5 : List Int) (r_8 : Bool) (h : spec_plIf.f k a0_0 l0_1 l0_2 = some (r_1, r_2, r_5, r_8)) :
  Calls Try.prog 51 #[.agg #[.int .i64 a0_0, .slice A0_1 n0_1 c0_1, .slice A0_2 n0_2 c0_2]] ws (Post1 w0 ws P0 (fun ((q_3, q_4, q_6, q_7) : (Option Addr) × Nat × (Option Addr) × Nat) => .tuple #[.agg #[.int .i64 r_1, .slice q_3 r_2.length q_4, .slice q_6 r_5.length q_7], .bool r_8]) (fun ((q_3, q_4, q_6, q_7) : (Option Addr) × Nat × (Option Addr) × Nat) => [row kStep 107 (.slice q_3 r_2.length q_4) r_2, row (Kd.int .i64) 3 (.slice q_6 r_5.length q_7) r_5])) := by
 unfold spec_plIf.f at h
 obtain rfl := (hF.row_C (i := 0) rfl).2.1
 obtain rfl := (hF.row_C (i := 1) rfl).2.1
 refine enter Try.func51 rfl Try.ntmps51 rfl hF (c_seq (za0 (o_e rfl (e_box rfl) (fun g1 => o_e rfl (zab V25 rfl) (fun g3 => oq_ (q_asg rfl) (o_end (za1 (c_seq (c_seq ?_)))))))))
 refine za0 (oq_ (q_ldB G25 Z25 rfl (bx_ 1 rfl) rfl) (za6 h (fun b6 hx5 h => ?_) rfl))
 refine o_e rfl (za5 0 Z Try.func96 N96 rfl rfl rfl (fun w P1 hF hB hS hT => spec_plGood.calls k a0_0 A0_1 c0_1 l0_1.length l0_1 A0_2 c0_2 l0_2.length l0_2 hB hF (hT 2 _ rfl).row (hT 2 _ rfl).cap (hT 3 _ rfl).row (hT 3 _ rfl).cap _ hx5)) (fun _ => oq_ (q_not rfl) (o_end (za1 (zan _ rfl (fun hb7 => ?_) (fun hb7 => ?_)))))
 ·replace hb7 := nt_t hb7
  replace h := bb_f hb7 h
  refine c_seq (za0 (oq_ (q_build (vs := []) (cs := [.int .i64 0, .slice none 0 0, .slice none 0 0]) rfl rfl) (o_e rfl (zac (i := 0) rfl rfl rfl Z25 rfl rfl) (fun _ => oq_ (q_asg rfl) (o_end (za1 (c_ret (zaa (x_nil kStep 107 ?_)))))))))
  refine x_nil (Kd.int .i64) 3 ?_
  have e0_ := si_ h; clear h
  obtain ⟨rfl, e1_⟩ := Prod.mk.inj e0_
  obtain ⟨rfl, e2_⟩ := Prod.mk.inj e1_
  obtain ⟨rfl, e3_⟩ := Prod.mk.inj e2_
  subst e3_
  exact x_r2 (none, 0, none, 0) Try.results51 (zb0 rfl G25 Z25 (bx_ 2 rfl) rfl) (zad rfl) rfl (pk_ [1, 0])
 ·replace hb7 := nt_f hb7
  replace h := bb_t hb7 h
  refine zai (za1 (c_seq (za0 (oq_ (q_ldB G25 Z25 rfl (bx_ 1 rfl) rfl) (o_e rfl (zac (i := 0) rfl rfl rfl Z25 rfl rfl) (fun _ => oq_ (q_asg rfl) (o_end (za1 (c_ret ?_)))))))))
  have e0_ := si_ h; clear h
  obtain ⟨rfl, e1_⟩ := Prod.mk.inj e0_
  obtain ⟨rfl, e2_⟩ := Prod.mk.inj e1_
  obtain ⟨rfl, e3_⟩ := Prod.mk.inj e2_
  subst e3_
  exact x_r2 (A0_1, c0_1, A0_2, c0_2) Try.results51 (zb0 rfl G25 Z25 (bx_ 0 rfl) rfl) (zad rfl) rfl (pk_ [2, 3])

def laws_big.f (l0 : List Int) (l1 : List Int) : Option Bool := if 1048576 < (l0.length : Int) then (some true) else (some (decide (w64 (1048576 - (l0.length : Int)) < (l1.length : Int))))
theorem laws_big.calls {w0 ws : World} {P0 : Nat → Prop} (A0 : Option Addr) (c0 : Nat) (n0 : Nat) (l0 : List Int) (A1 : Option Addr) (c1 : Nat) (n1 : Nat) (l1 : List Int) (Z : Below w0.heap.size w0 ws) (hF : Fr w0 ws P0 [] ws) (R0 : Stable ws P0 (fun w => Kd.C (Kd.int .u8) w A0 n0 l0)) (hc0 : n0 ≤ c0) (R1 : Stable ws P0 (fun w => Kd.C (Kd.int .u8) w A1 n1 l1)) (hc1 : n1 ≤ c1) (r_1 : Bool) (h : laws_big.f l0 l1 = some r_1) :
  Calls Try.prog 22 #[.slice A0 n0 c0, .slice A1 n1 c1] ws (Post1 w0 ws P0 (fun (_ : Unit) => .bool r_1) (fun (_ : Unit) => [])) := by
 unfold laws_big.f at h
 obtain rfl := (R0 ws (KeptB.refl _ _)).1
 obtain rfl := (R1 ws (KeptB.refl _ _)).1
 refine enter Try.func22 rfl Try.ntmps22 rfl hF (c_seq (za0 (oq_ (q_asg rfl) (o_end (za1 (c_seq (za0 (oq_ (za2 rfl) (oq_ (q_len Try.underlying36 rfl) ?_)))))))))
 refine oq_ (q_gtr rfl rfl) (oq_ (za2 rfl) (byB (decide (1048576 < (l0.length : Int))) (fun hb1 => ?_) (fun hb1 => ?_)))
 ·replace h := br_t hb1 h
  refine o_n (d := 9) (za3 rfl rfl rfl (vb_ hb1) rfl) (Eq.refl (some 9)) (o_n (d := 10) (za3 rfl rfl rfl (vb_ hb1) rfl) (Eq.refl (some 10)) (o_n (d := 11) (za3 rfl rfl rfl (vb_ hb1) rfl) (Eq.refl (some 11)) (o_n (d := 12) (za3 rfl rfl rfl (vb_ hb1) rfl) (Eq.refl (some 12)) (o_n (d := 13) (za3 rfl rfl rfl (vb_ hb1) rfl) (Eq.refl (some 13)) (o_n (d := 14) (za3 rfl rfl rfl (vb_ hb1) rfl) (Eq.refl (some 14)) (oq_ (zak true (vb_ hb1) rfl) (oq_ (q_asg rfl) (o_end (za1 ?_)))))))))
  refine c_ret ?_
  have e0_ := si_ h; clear h
  subst e0_
  exact x_r1 () Try.results22 (zad rfl) rfl (pk_ [])
 ·replace h := br_f hb1 h
  refine o_w (za4 rfl rfl rfl (vb_ hb1)) rfl (za2 rfl) (o_w (za4 rfl rfl rfl (vb_ hb1)) rfl (q_len Try.underlying36 rfl) (o_w (za4 rfl rfl rfl (vb_ hb1)) rfl (za2 rfl) (o_w (za4 rfl rfl rfl (vb_ hb1)) rfl (q_len Try.underlying36 rfl) (o_w (za4 rfl rfl rfl (vb_ hb1)) rfl (zat rfl rfl) (o_w (za4 rfl rfl rfl (vb_ hb1)) rfl (q_gtr rfl rfl) (oq_ (zak false (vb_ hb1) rfl) (oq_ (q_asg rfl) (o_end (za1 ?_)))))))))
  refine c_ret ?_
  have e0_ := si_ h; clear h
  subst e0_
  exact x_r1 () Try.results22 (zad rfl) rfl (pk_ [])

end Go.Proofs.Ytiaohjciddbpoaa.M5
