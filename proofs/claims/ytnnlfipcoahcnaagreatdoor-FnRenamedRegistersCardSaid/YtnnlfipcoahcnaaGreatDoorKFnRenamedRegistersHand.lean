/- Contracts by hand of library functions, in the engine's form. -/
import Derived.Test.YtnnlfipcoahcnaaGreatDoorProg
import Derived.Test.YtnnlfipcoahcnaaGreatDoorKFnRenamedRegistersOpg
import Derived.Test.YtnnlfipcoahcnaaGreatDoorKFnRenamedRegistersWApart
import Derived.Test.YtnnlfipcoahcnaaGreatDoorKFnRenamedRegistersWArr
import Derived.Test.YtnnlfipcoahcnaaGreatDoorKFnRenamedRegistersWAt
import Derived.Test.YtnnlfipcoahcnaaGreatDoorKFnRenamedRegistersWFoot
import Derived.Test.YtnnlfipcoahcnaaGreatDoorKFnRenamedRegistersWFootNe
import Derived.Test.YtnnlfipcoahcnaaGreatDoorKFnRenamedRegistersWFour
import Derived.Test.YtnnlfipcoahcnaaGreatDoorKFnRenamedRegistersWKept
import Derived.Test.YtnnlfipcoahcnaaGreatDoorKFnRenamedRegistersWLast
import Derived.Test.YtnnlfipcoahcnaaGreatDoorKFnRenamedRegistersWMore
import Derived.Test.YtnnlfipcoahcnaaGreatDoorKFnRenamedRegistersWN
import Derived.Test.YtnnlfipcoahcnaaGreatDoorKFnRenamedRegistersWQPut
import Derived.Test.YtnnlfipcoahcnaaGreatDoorKFnRenamedRegistersWShare
import Derived.Test.YtnnlfipcoahcnaaGreatDoorKFnRenamedRegistersWTab
import Derived.Test.YtnnlfipcoahcnaaGreatDoorKFnRenamedRegistersWWords
import Derived.Test.YtnnlfipcoahcnaaGreatDoorKFnRenamedRegistersWZeros
import Derived.Below
import Derived.Deep.Draws
import Derived.OwnWalk
import Derived.Laws.BytesArg
import Derived.Laws.MakeOwn
import Derived.Laws.OwnMore
import Derived.Tactics
import Derived.Laws.Slices
import Derived.WalkKit
import Derived.KernelRfl
import Derived.RowKit3
import Derived.Deep.LoopGhost
import Derived.Deep.QuietTactic
import Derived.BigQuiet
import Derived.WideLaws
import Derived.Deep.DeepCutAuto
import Derived.Deep.CutBlock
import Derived.Deep.RegionHeld3
import Derived.Laws.Rows
import Derived.Laws.IdiomCopy
import Derived.OrdersHeld
import Derived.Laws.BitsLemmas
import Derived.RowKit
import Derived.OwnWalkIn
import Derived.TacticsInMore
import Derived.LoopNIn
import Derived.LoopIn
import Derived.Lib.BitFns
import Derived.Laws.CopyOwn
namespace Go.Proofs.YtnnlfipcoahcnaaGreatDoor.Hand
open Go.RowKit Go.Proofs.YtnnlfipcoahcnaaGreatDoor.Frame Go.Proofs.YtnnlfipcoahcnaaGreatDoorW.PrintWords Go.Proofs.YtnnlfipcoahcnaaGreatDoorW.PrintLast Go.Proofs.YtnnlfipcoahcnaaGreatDoorW.PrintMore
attribute [local go_sem] max2_int min2_int max_two min_two max_three min_three max_four min_four
set_option linter.unusedVariables false
set_option linter.unusedSimpArgs false
/-- how many binary digits, of a number below 2^24 -/
def math_bits_Len64.f (a0 : Int) : Option Int := if 0 ≤ a0 ∧ a0 ≤ 16777215 then some (Lib.bitLen a0.toNat) else none
theorem len8tab_size : (Lib.len8tab.size : Int) = 256 := by
  have : Lib.len8tab.size = 256 := by decide +kernel
  omega
theorem len_add (k a b : Nat) (hk : k ≤ 56) (ha : a ≤ 8) (hb : b = k + a) : wrap64 ((k : Int) + wrap64 (a : Int)) = (b : Int) := by
  unfold wrap64
  omega
theorem len_one (a : Nat) (ha : a ≤ 8) : wrap64 (a : Int) = (a : Int) := by
  unfold wrap64
  omega
theorem len_two (a : Nat) (ha : a ≤ 8) : wrap64 (wrap64 (a : Int)) = (a : Int) := by
  unfold wrap64
  omega
theorem len8_get (y : Int) (h : y.toNat < Lib.len8tab.size) : ((Lib.len8tab[y.toNat]'h).toNat : Int) = Lib.len8 y := by
  unfold Lib.len8
  rw [getElem?_pos Lib.len8tab y.toNat h]
  rfl
set_option maxHeartbeats 4000000 in
set_option maxRecDepth 100000 in
theorem math_bits_Len64.old (a0 : Int) (r : Int) (w : World) (h : math_bits_Len64.f a0 = some r) :
    Calls Tryz.prog 179 #[.int .u64 a0] w fun e w' => e = .returned (.int .i64 r) ∧ Drawn0 w w' := by
  unfold math_bits_Len64.f at h
  by_cases hc : 0 ≤ a0 ∧ a0 ≤ 16777215
  · rw [if_pos hc] at h
    obtain rfl := Option.some.inj h
    clear h
    obtain ⟨h0, h1⟩ := hc
    have c1 : decide (4294967296 ≤ a0) = false := decide_eq_false (by omega)
    go_enter Tryz.func179, Tryz.ntmps179
    go_wp2
    all_goals first
      | (go_ret; refine ⟨congrArg Ending.returned (congrArg (Value.int IntKind.i64) ?_), ⟨0, rfl⟩⟩)
      | (exfalso
         have hs := len8tab_size
         omega)
    all_goals first
      | (simp only [len8_get (a0 / 65536) _]
         rw [Lib.len8_of (a0 / 65536) (by omega) (by omega)]
         have e : (a0 / 65536).toNat = a0.toNat / 65536 := by omega
         have l := Lib.bitLen_le8' (a0 / 65536) (by omega) (by omega)
         have s := Lib.bitLen_shift16 a0.toNat (by omega) (by omega)
         rw [e] at l ⊢
         exact len_add 16 _ _ (by decide) l s)
      | (simp only [len8_get (a0 / 256) _]
         rw [Lib.len8_of (a0 / 256) (by omega) (by omega)]
         have e : (a0 / 256).toNat = a0.toNat / 256 := by omega
         have l := Lib.bitLen_le8' (a0 / 256) (by omega) (by omega)
         have s := Lib.bitLen_shift8 a0.toNat (by omega) (by omega)
         rw [e] at l ⊢
         exact len_add 8 _ _ (by decide) l s)
      | (simp only [len8_get (a0) _]
         rw [Lib.len8_of (a0) (by omega) (by omega)]
         have l := Lib.bitLen_le8' (a0) (by omega) (by omega)
         first | exact len_two _ l | exact len_add 0 _ _ (by decide) l (by omega) | exact len_one _ l)
  · rw [if_neg hc] at h
    cases h

theorem math_bits_Len64.calls {w0 ws : World} {P0 : Nat → Prop} (a0 : Int) (Z : Below w0.heap.size w0 ws) (hF : Fr w0 ws P0 [] ws) (r_1 : Int) (h : math_bits_Len64.f a0 = some r_1) :
    Calls Tryz.prog 179 #[.int .u64 a0] ws (Post1 w0 ws P0 (fun (_ : Unit) => .int .i64 r_1) (fun (_ : Unit) => [])) :=
  (math_bits_Len64.old a0 r_1 ws h).mono (fun e w' ⟨he, hd⟩ => ⟨(), he, hF.drawn hd⟩)
/-- not reached: a uint has 64 bits -/
def math_bits_Len32.f (_a0 : Int) : Option Int := none
theorem math_bits_Len32.old (a0 : Int) (r : Int) (w : World) (h : math_bits_Len32.f a0 = some r) :
    Calls Tryz.prog 178 #[.int .u32 a0] w fun e w' => e = .returned (.int .i64 r) ∧ Drawn0 w w' := by
  cases h

theorem math_bits_Len32.calls {w0 ws : World} {P0 : Nat → Prop} (a0 : Int) (Z : Below w0.heap.size w0 ws) (hF : Fr w0 ws P0 [] ws) (r_1 : Int) (h : math_bits_Len32.f a0 = some r_1) :
    Calls Tryz.prog 178 #[.int .u32 a0] ws (Post1 w0 ws P0 (fun (_ : Unit) => .int .i64 r_1) (fun (_ : Unit) => [])) :=
  (math_bits_Len32.old a0 r_1 ws h).mono (fun e w' ⟨he, hd⟩ => ⟨(), he, hF.drawn hd⟩)
theorem info3 : (Tryz.prog.info? 3).map (fun i => (i.zero, i.size, i.bytes)) = some (some (.int .i64 0), 1, 8) := by kernel_rfl
def bits_Mul64.f (a0 : Int) (a1 : Int) : Option (Int × Int) := some (IntKind.u64.wrap ((IntKind.u64.wrap ((IntKind.u64.wrap ((a0 / 4294967296) * (a1 / 4294967296))) + ((IntKind.u64.wrap ((IntKind.u64.wrap ((a0 / 4294967296) * (Go.bits .and .u64 a1 4294967295))) + ((IntKind.u64.wrap ((Go.bits .and .u64 a0 4294967295) * (Go.bits .and .u64 a1 4294967295))) / 4294967296))) / 4294967296))) + ((IntKind.u64.wrap ((Go.bits .and .u64 (IntKind.u64.wrap ((IntKind.u64.wrap ((a0 / 4294967296) * (Go.bits .and .u64 a1 4294967295))) + ((IntKind.u64.wrap ((Go.bits .and .u64 a0 4294967295) * (Go.bits .and .u64 a1 4294967295))) / 4294967296))) 4294967295) + (IntKind.u64.wrap ((Go.bits .and .u64 a0 4294967295) * (a1 / 4294967296))))) / 4294967296)), IntKind.u64.wrap (a0 * a1))
set_option maxHeartbeats 8000000 in
set_option maxRecDepth 100000 in
theorem bits_Mul64.calls (a0 : Int) (a1 : Int) (r1 : Int) (r2 : Int) (w : World) (h : bits_Mul64.f a0 a1 = some (r1, r2)) :
    Calls Tryz.prog 136 #[.int .u64 a0, .int .u64 a1] w fun e w' => e = .returned (.tuple #[.int .u64 r1, .int .u64 r2]) ∧ Drawn0 w w' := by
  have H : (some (IntKind.u64.wrap ((IntKind.u64.wrap ((IntKind.u64.wrap ((a0 / 4294967296) * (a1 / 4294967296))) + ((IntKind.u64.wrap ((IntKind.u64.wrap ((a0 / 4294967296) * (Go.bits .and .u64 a1 4294967295))) + ((IntKind.u64.wrap ((Go.bits .and .u64 a0 4294967295) * (Go.bits .and .u64 a1 4294967295))) / 4294967296))) / 4294967296))) + ((IntKind.u64.wrap ((Go.bits .and .u64 (IntKind.u64.wrap ((IntKind.u64.wrap ((a0 / 4294967296) * (Go.bits .and .u64 a1 4294967295))) + ((IntKind.u64.wrap ((Go.bits .and .u64 a0 4294967295) * (Go.bits .and .u64 a1 4294967295))) / 4294967296))) 4294967295) + (IntKind.u64.wrap ((Go.bits .and .u64 a0 4294967295) * (a1 / 4294967296))))) / 4294967296)), IntKind.u64.wrap (a0 * a1))) = some (r1, r2) := h
  clear h
  simp only [Option.some.injEq, Prod.mk.injEq] at H
  obtain ⟨rfl, rfl⟩ := H
  go_enter Tryz.func136, Tryz.ntmps136
  go_wp2
  go_ret2
  exact ⟨by first | rfl | (simp; done) | (simp [*]; done), by repeat (first | exact Drawn0.refl _ | apply Drawn0.step)⟩


def bits_Mul.f (a0 : Int) (a1 : Int) : Option (Int × Int) := (bits_Mul64.f a0 a1).bind fun bt268 => (some (bt268.1, bt268.2))
set_option maxHeartbeats 8000000 in
set_option maxRecDepth 100000 in
theorem bits_Mul.calls (a0 : Int) (a1 : Int) (r1 : Int) (r2 : Int) (w : World) (h : bits_Mul.f a0 a1 = some (r1, r2)) :
    Calls Tryz.prog 110 #[.int .u64 a0, .int .u64 a1] w fun e w' => e = .returned (.tuple #[.int .u64 r1, .int .u64 r2]) ∧ Drawn0 w w' := by
  have H : ((bits_Mul64.f a0 a1).bind fun bt268 => (some (bt268.1, bt268.2))) = some (r1, r2) := h
  clear h
  replace H := Option.bind_eq_some_iff.mp H
  obtain ⟨⟨t268, t269⟩, A30, H⟩ := H
  replace H : (some (t268, t269)) = some (r1, r2) := H
  have A3 := Aside0.mk A30
  clear A30
  simp only [Option.some.injEq, Prod.mk.injEq] at H
  obtain ⟨rfl, rfl⟩ := H
  go_enter Tryz.func110, Tryz.ntmps110
  go_wp2_with (first | (go_at_call 136; refine (bits_Mul64.calls a0 a1 t268 t269 _ A3.out).mono ?_; rintro e w' ⟨rfl, ⟨nd, rfl⟩⟩))
  go_ret2
  exact ⟨by first | rfl | (simp; done) | (simp [*]; done), by repeat (first | exact Drawn0.refl _ | apply Drawn0.step)⟩


theorem mul_one_small : ∀ c : Fin 65, bits_Mul.f 1 (c.val : Int) = some (0, (c.val : Int)) := by decide +kernel
theorem rep_src {w : World} {g j m t : Nat} {cu : List Value} {x : Value} (h : w.heap[g]? = some (.cells cu.toArray t (0, 0))) (ht : cu.take j = List.replicate j x) (hm : m ≤ j) : ∀ q u, (List.replicate m x)[q]? = some u → w.cell? ((⟨g, 0, none⟩ : Addr).add q) = some u := by
  intro q u hq
  have hqm : q < m := by
    rcases Nat.lt_or_ge q m with h9 | h9
    · exact h9
    · rw [List.getElem?_eq_none (by simpa using h9)] at hq
      cases hq
  have e1 := blk_cell h q
  have e2 : (List.take j cu)[q]? = cu[q]? := List.getElem?_take_of_lt (by omega)
  rw [ht] at e2
  rw [show (Addr.add ⟨g, 0, none⟩ q) = ⟨g, q, none⟩ from by simp [Addr.add]; try omega, e1, List.getElem?_toArray, ← e2, ← hq]
  simp [hqm, Nat.lt_of_lt_of_le hqm hm]
/-- one number, so many times (as the program uses it: one element, at most 64 times) -/
def slices_Repeat_int_int.f (l0 : List Int) (a1 : Int) : Option (List Int) := if l0.length = 1 ∧ 0 ≤ a1 ∧ a1 ≤ 64 then some (List.replicate a1.toNat (rd l0 0)) else none
set_option maxHeartbeats 2000000 in
set_option maxRecDepth 100000 in
theorem slices_Repeat_int_int.old (A0 : Option Addr) (c0 : Nat) (l0 : List Int) (a1 : Int) (r : List Int) (w : World) (hr0 : Kd.C (Kd.int .i64) w A0 l0.length l0) (hc0 : l0.length ≤ c0) (h : slices_Repeat_int_int.f l0 a1 = some r) :
    Calls Tryz.prog 74 #[.slice A0 l0.length c0, .int .i64 a1] w fun e w' => ∃ v0_ : Value, e = .returned (v0_) ∧ Kd.R (Kd.int .i64) 3 w' w.heap.size (fun _ => True) v0_ r ∧ Below w.heap.size w w' := by
  unfold slices_Repeat_int_int.f at h
  by_cases hc : l0.length = 1 ∧ 0 ≤ a1 ∧ a1 ≤ 64
  rotate_left
  · rw [if_neg hc] at h
    cases h
  rw [if_pos hc] at h
  obtain rfl := Option.some.inj h
  obtain ⟨hl, h0, h64⟩ := hc
  obtain ⟨n, rfl⟩ := Int.eq_ofNat_of_zero_le h0
  rw [Int.toNat_natCast]
  have hn : n ≤ 64 := by omega
  have HM := Aside0.mk (fun W => bits_Mul.calls 1 (n : Int) 0 (n : Int) W (mul_one_small ⟨n, by omega⟩))
  obtain ⟨ad, e1, hx⟩ := Kd.at_int hr0 0 (by omega) (by omega)
  cases e1
  rw [show ((0 : Int)).toNat = 0 from rfl, Addr.add_zero'] at hx
  have HX := Aside0.mk hx
  have HR0 := Aside0.mk hr0
  have HN := Aside0.mk hn
  rw [hl]
  have c1 : decide ((n : Int) < 0) = false := decide_eq_false (by omega)
  have c2 : decide (9223372036854775807 < (n : Int)) = false := decide_eq_false (by omega)
  have q1 : IntKind.u64.wrap (n : Int) = (n : Int) := by unfold IntKind.wrap; simp [IntKind.signed, IntKind.bits]; omega
  have q2 : IntKind.i64.wrap (n : Int) = (n : Int) := by unfold IntKind.wrap; simp [IntKind.signed, IntKind.bits]; omega
  have HL1 := Aside0.mk hl
  clear h hr0 hc0 hl h0 h64 hx
  go_enter Tryz.func74, Tryz.ntmps74
  go_wp2_with (first | (go_at_call 110; refine (HM.out _).mono ?_; rintro e w' ⟨rfl, ⟨n1, rfl⟩⟩) | ((with_reducible refine gate_dst (N := 30) rfl ?_); refine Kd.R_make (Kd.int .i64) (w0 := w) w.heap.size 3 rfl (N := 30) rfl 25 _ _ rfl (n : Int) rfl rfl Tryz.underlying25 (.int .i64 0) 8 info3 rfl (by decide) (by omega) 0 (ok := fun _ => True) (okp := fun _ => True) rfl (fun _ hk => hk) trivial (by omega) (by have := HN.out; omega) ?hBB ?hSS ?_; (case hBB => repeat (first | exact Below.refl _ _ | apply below_alloc | apply pw_below_drewN | apply below_drew1)); (case hSS => simp); intro v2 w2 ho hb hg hnew; obtain ⟨b2, hb2, _⟩ := hnew; obtain ⟨A2, c2_, rfl⟩ := Kd.R_slice ho; rw [List.length_replicate, Int.toNat_natCast] at ho hb2 ⊢; have HO := Aside0.mk ho; have HB := Aside0.mk hb; have HB2 := Aside0.mk hb2; clear ho hb hg hb2) | ((with_reducible refine gate_builtin (b := .copy) (xs := #[.tmp 31, .tmp 32]) rfl ?_); refine Kd.R_copy (enc := Value.int .i64) (h1 := fun _ => rfl) (0 : Int) (w0 := w) w.heap.size rfl (.tmp 31) (.tmp 32) 25 25 3 rfl Tryz.underlying25 (by kernel_rfl) (.slice A2 n c2_) (List.replicate n 0) l0 (some ad) 1 c0 (fun _ => True) rfl rfl HO.out ?hCC HB.out HB.out.size ?_; (case hCC => have h9 := Kd.C_below HR0.out HB.out; rw [HL1.out] at h9; exact h9); intro w3 ho hb hg; rw [List.length_replicate] at ho ⊢; have HO3 := Aside0.mk ho; have HB3 := Aside0.mk hb; clear ho hb hg HO HB))
  have hown := (Kd.own_of_R HO3.out).2
  have hlen : (List.take (min 1 n) l0 ++ List.drop (min 1 n) (List.replicate n (0 : Int))).length = n := by have := HL1.out; simp; omega
  rcases hown with ⟨hnil, _⟩ | ⟨g, cap, cur, hv, hge, hblk, hnc, hcm, hcs, htake⟩
  · have h9 := HB2.out
    rw [hnil] at h9
    cases h9
  injection hv with hv1 hv2 hv3
  subst hv1 hv3
  rw [hlen] at hnc htake
  obtain ⟨x, hxx⟩ : ∃ x, rd l0 0 = x := ⟨_, rfl⟩
  have HXX := Aside0.mk hxx
  have htk : cur.toList.take (min 1 n) = List.replicate (min 1 n) (.int .i64 x) := by
    have e1 : l0 = [x] := by
      obtain ⟨y, rfl⟩ := List.length_eq_one_iff.1 HL1.out
      rw [← hxx]; rfl
    have e2 : cur.toList.take (min 1 n) = (cur.toList.take (n * 1)).take (min 1 n) := by rw [List.take_take]; congr 1; omega
    rw [e2, htake, e1]
    rcases Nat.eq_zero_or_pos n with hz | hz
    · subst hz; rfl
    · have : min 1 n = 1 := by omega
      rw [this]; rfl
  obtain ⟨curl, rfl⟩ : ∃ l : List Value, cur = l.toArray := ⟨cur.toList, by simp⟩
  have HCU := Aside0.mk (show curl.length = c2_ ∧ curl.take (min 1 n) = List.replicate (min 1 n) (.int .i64 x) from ⟨by simpa using hcs, by simpa using htk⟩)
  have HBK := Aside0.mk hblk
  have HG := Aside0.mk (show w.heap.size ≤ g ∧ n ≤ c2_ ∧ c2_ ≤ maxLen from ⟨hge, hnc, hcm⟩)
  obtain ⟨j0, hj0⟩ : ∃ j0, min 1 n = j0 := ⟨_, rfl⟩
  rw [hj0] at HCU ⊢
  have HJ0 := Aside0.mk (show j0 ≤ n ∧ n ≤ j0 + n ∧ (n = 0 ∨ 1 ≤ j0) by omega)
  clear hv2 hlen hge hblk hnc hcm hcs htake hxx htk hj0 HO3 HB2
  go_loopg [8] n (fun d v8 w' => ∃ (j : Nat) (cu : List Value), v8 = .int .i64 (j : Int) ∧ Aside0 (j ≤ n ∧ n ≤ j + d ∧ (n = 0 ∨ 1 ≤ j)) ∧ Aside0 (w'.heap[g]? = some (.cells cu.toArray 3 (0, 0))) ∧ Aside0 (cu.length = c2_ ∧ cu.take j = List.replicate j (.int .i64 x)) ∧ Aside0 (Below w.heap.size w w'))
  case atStart => exact ⟨j0, curl, rfl, HJ0, HBK, HCU, HB3⟩
  case round =>
    obtain ⟨j, cu, rfl, HJ, HB4, HC4, HBW⟩ := hrel
    clear HBK HCU HB3 HJ0
    have hnn := HN.out
    by_cases hlt : j < n
    · cases gk with
      | zero => have := HJ.out; omega
      | succ d =>
        have c3 : decide (j < n) = true := decide_eq_true hlt
        have hg1 : n ≤ c2_ := HG.out.2.1
        have hg2 : c2_ ≤ 9223372036854775807 := HG.out.2.2
        have c4 : (j == c2_) = false := by simp; omega
        have c5 : ((j : Int) == (c2_ : Int)) = false := by simp; omega
        have c6 : j ≤ n := by omega
        obtain ⟨m, hm⟩ : ∃ m, min j (n - j) = m := ⟨_, rfl⟩
        have HM2 := Aside0.mk (show min j (n - j) = m ∧ 1 ≤ m ∧ j + m ≤ n by have := HJ.out; omega)
        have hjm1 : j + m ≤ n := HM2.out.2.2
        have c7 : (0 : Int) ≤ (j : Int) := by omega
        have c8 : (j : Int) ≤ (n : Int) := by omega
        have c9 : (n : Int) ≤ (c2_ : Int) := by omega
        have c10 : (j : Int) ≤ (c2_ : Int) := by omega
        clear hm
        go_wp2
        refine start_ (n := 10) (S := fun w' => True) (ds := []) #[false, false, false, false, false, false, false, false, false, false] (by kernel_rfl) rfl rfl trivial (fun hHeld => ?_)
        refine pure_ (i := 0) (N := some 38) (v := ?_) (a' := ?_) #[true, false, false, false, false, false, false, false, false, false] rfl rfl (by kernel_rfl) (fun _ _ _ h => h) (Or.inl ⟨by rfl, ?_⟩) ?_ ?_
        rotate_left
        · intro w'
          go_simp
          with_reducible rfl
        rotate_left
        · simp only [Act.put, List.setIfInBounds_toArray, List.set_cons_zero, List.set_cons_succ, i64_w, i32_w]
          rfl
        refine pure_ (i := 1) (N := some 39) (v := ?_) (a' := ?_) #[true, true, false, false, false, false, false, false, false, false] rfl rfl (by kernel_rfl) (fun _ _ _ h => h) (Or.inl ⟨by rfl, ?_⟩) ?_ ?_
        rotate_left
        · intro w'
          go_simp
          with_reducible rfl
        rotate_left
        · simp only [Act.put, List.setIfInBounds_toArray, List.set_cons_zero, List.set_cons_succ, i64_w, i32_w]
          rfl
        refine pure_ (i := 2) (N := some 40) (v := ?_) (a' := ?_) #[true, true, true, false, false, false, false, false, false, false] rfl rfl (by kernel_rfl) (fun _ _ _ h => h) (Or.inl ⟨by rfl, ?_⟩) ?_ ?_
        rotate_left
        · intro w'
          go_simp
          with_reducible rfl
        rotate_left
        · simp only [Act.put, List.setIfInBounds_toArray, List.set_cons_zero, List.set_cons_succ, i64_w, i32_w]
          rfl
        refine pure_ (i := 3) (N := some 41) (v := ?_) (a' := ?_) #[true, true, true, true, false, false, false, false, false, false] rfl rfl (by kernel_rfl) (fun _ _ _ h => h) (Or.inl ⟨by rfl, ?_⟩) ?_ ?_
        rotate_left
        · intro w'
          go_simp
          with_reducible rfl
        rotate_left
        · simp only [Act.put, List.setIfInBounds_toArray, List.set_cons_zero, List.set_cons_succ, i64_w, i32_w]
          rfl
        refine pure_ (i := 4) (N := some 42) (v := ?_) (a' := ?_) #[true, true, true, true, true, false, false, false, false, false] rfl rfl (by kernel_rfl) (fun _ _ _ h => h) (Or.inl ⟨by rfl, ?_⟩) ?_ ?_
        rotate_left
        · intro w'
          go_simp
          with_reducible rfl
        rotate_left
        · simp only [Act.put, List.setIfInBounds_toArray, List.set_cons_zero, List.set_cons_succ, i64_w, i32_w]
          rfl
        refine pure_ (i := 5) (N := some 43) (v := ?_) (a' := ?_) #[true, true, true, true, true, true, false, false, false, false] rfl rfl (by kernel_rfl) (fun _ _ _ h => h) (Or.inl ⟨by rfl, ?_⟩) ?_ ?_
        rotate_left
        · intro w'
          go_simp
          with_reducible rfl
        rotate_left
        · simp only [Act.put, List.setIfInBounds_toArray, List.set_cons_zero, List.set_cons_succ, i64_w, i32_w]
          rfl
        refine pure_ (i := 6) (N := some 44) (v := ?_) (a' := ?_) #[true, true, true, true, true, true, true, false, false, false] rfl rfl (by kernel_rfl) (fun _ _ _ h => h) (Or.inl ⟨by rfl, ?_⟩) ?_ ?_
        rotate_left
        · intro w'
          go_simp
          with_reducible rfl
        rotate_left
        · simp only [Act.put, List.setIfInBounds_toArray, List.set_cons_zero, List.set_cons_succ, i64_w, i32_w]
          rfl
        refine one_ (i := 7) (N := some 45) #[true, true, true, true, true, true, true, true, false, false] rfl rfl (by kernel_rfl) (by decide) (fun K hK => ?_)
        refine step_copy_splice rfl (.tmp 41) (.tmp 44) 25 25 rfl 3 Tryz.underlying25 (by kernel_rfl) (some ⟨g, j, none⟩) (some ⟨g, 0, none⟩) (n - j) (c2_ - j) j c2_ ?hd ?hs g j cu 3 (blk_drew HB4.out) (List.replicate m (.int .i64 x)) ?hn ?hpos ?hfit ?h1 w.heap.size w ?hb HG.out.1 ?_
        case hd => show Value.slice (if c2_ = j then _ else _) _ _ = _; rw [if_neg (by omega)]
        case hs => rfl
        case hn => rw [List.length_replicate]; exact HM2.out.1.symm
        case hpos => exact fun _ => ⟨rfl, _, rfl, rep_src (blk_drew HB4.out) HC4.out.2 (by have := HM2.out.1; omega)⟩
        case hfit => rw [List.length_replicate, HC4.out.1]; omega
        case h1 => intro u hu; rw [List.eq_of_mem_replicate hu]; rfl
        case hb => exact HBW.out.drew
        intro w5 hg5 hb5
        have HB5 := Aside0.mk (show w5.heap[g]? = some (.cells (splice cu j (List.replicate m (.int .i64 x))).toArray 3 (0, 0)) from hg5)
        have HW5 := Aside0.mk hb5
        clear hg5 hb5
        rw [List.length_replicate]
        refine hK.out _ _ trivial (fun hHeld => ?_)
        clear hK K
        refine norm_ (a' := ?_) ?_ ?_
        rotate_left
        · show Act.put _ (some 45) _ = _
          simp only [Act.put, List.setIfInBounds_toArray, List.set_cons_zero, List.set_cons_succ, i64_w, i32_w]
          rfl
        refine pure_ (i := 8) (N := some 46) (v := ?_) (a' := ?_) #[true, true, true, true, true, true, true, true, true, false] rfl rfl (by kernel_rfl) (fun _ _ _ h => h) (Or.inl ⟨by rfl, ?_⟩) ?_ ?_
        rotate_left
        · intro w'
          go_simp
          with_reducible rfl
        rotate_left
        · simp only [Act.put, List.setIfInBounds_toArray, List.set_cons_zero, List.set_cons_succ, i64_w, i32_w]
          rfl
        refine pure_ (i := 9) (N := some 8) (v := ?_) (a' := ?_) #[true, true, true, true, true, true, true, true, true, true] rfl rfl (by kernel_rfl) (fun _ _ _ h => h) (Or.inl ⟨by rfl, ?_⟩) ?_ ?_
        rotate_left
        · intro w'
          go_simp
          with_reducible rfl
        rotate_left
        · simp only [Act.put, List.setIfInBounds_toArray, List.set_cons_zero, List.set_cons_succ, i64_w, i32_w]
          rfl
        refine done_ (by kernel_rfl) ?_
        have hw : wrap64 ((j : Int) + (m : Int)) = ((j + m : Nat) : Int) := by unfold wrap64; omega
        rw [hw]
        clear hw
        go_wp2
        go_roundg d
        case measure => omega
        case rel => exact ⟨j + m, splice cu j (List.replicate m (.int .i64 x)), rfl, ⟨by have := HJ.out; have := HM2.out; omega⟩, HB5, ⟨by rw [length_splice _ _ _ (by rw [List.length_replicate, HC4.out.1]; omega)]; exact HC4.out.1, by
          have e1 := HC4.out.2
          unfold splice
          rw [e1, List.take_append, List.length_replicate, List.take_of_length_le (by simp), show j + m - j = m from by omega, List.take_append, List.length_replicate, Nat.sub_self, List.take_of_length_le (by simp), List.take_zero, List.append_nil, List.replicate_append_replicate]⟩, HW5⟩
    · have hj := HJ.out
      have c3 : decide (j < n) = false := decide_eq_false hlt
      go_wp2
      go_ret
      have hjn : j = n := by omega
      subst hjn
      refine ⟨_, rfl, Kd.R_of_own ⟨by simp [encs], .inr ⟨g, c2_, cu.toArray, ?_, HG.out.1, HB4.out, ?_, HG.out.2.2, ?_, ?_⟩⟩ (fun _ _ => trivial), HBW.out⟩
      · rw [List.length_replicate]; rfl
      · rw [List.length_replicate]; exact HG.out.2.1
      · simpa using HC4.out.1
      · have := HC4.out.2
        simp only [List.length_replicate, Nat.mul_one, encs, List.map_replicate, HXX.out]
        exact this

theorem slices_Repeat_int_int.calls {w0 ws : World} {P0 : Nat → Prop} (A0 : Option Addr) (c0 : Nat) (n0 : Nat) (l0 : List Int) (a1 : Int) (Z : Below w0.heap.size w0 ws) (hF : Fr w0 ws P0 [] ws) (R0 : Stable ws P0 (fun w => Kd.C (Kd.int .i64) w A0 n0 l0)) (hc0 : n0 ≤ c0) (r_1 : List Int) (h : slices_Repeat_int_int.f l0 a1 = some r_1) :
    Calls Tryz.prog 74 #[.slice A0 n0 c0, .int .i64 a1] ws (Post1 w0 ws P0 (fun ((A_1, c_1) : Option Addr × Nat) => .slice A_1 r_1.length c_1) (fun ((A_1, c_1) : Option Addr × Nat) => [row (Kd.int .i64) 3 (.slice A_1 r_1.length c_1) r_1])) := by
  have hC := R0 ws (KeptB.refl _ _)
  obtain rfl := hC.1
  refine (slices_Repeat_int_int.old A0 c0 l0 a1 r_1 ws hC hc0 h).mono ?_
  rintro e w' ⟨v0, rfl, hR, hB⟩
  obtain ⟨A1, c1, rfl⟩ := Kd.R_slice hR
  exact ⟨(A1, c1), rfl, hF.row_new hR hB⟩
end Go.Proofs.YtnnlfipcoahcnaaGreatDoor.Hand
