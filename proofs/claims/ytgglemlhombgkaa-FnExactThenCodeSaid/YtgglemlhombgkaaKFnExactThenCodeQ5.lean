-- Written by a program of this session (wip/tools/stubprint.py): contracts by hand where the kit's print has none.
import Derived.Test.YtgglemlhombgkaaKFnExactThenCodeQ0
import Derived.Test.YtgglemlhombgkaaKFnExactThenCodeQ2
import Derived.Test.YtgglemlhombgkaaKFnExactThenCodeQ4
namespace Go.Proofs.Ytgglemlhombgkaa.T
open Go.RowKit Go.Proofs.YtgglemlhombgkaaW.PrintWords Go.Proofs.YtgglemlhombgkaaW.PrintLast Go.Proofs.YtgglemlhombgkaaW.PrintMore
attribute [local go_sem] max2_int min2_int max_two min_two max_three min_three max_four min_four   -- for this text's walks alone
set_option linter.unusedVariables false
set_option linter.unusedSimpArgs false

/-! ### laws_toOpS: function 66 -/
def laws_toOpS.l0 : Nat → List (S93) → List (S69) → Int → Option ((List (S69)))
 | 0, _, _, _ => none
 | k + 1, x0, x3, x4 => if x4 < (x0.length : Int) then (if 0 ≤ x4 then ((laws_toOp.f ((rd_T93 x0 x4).f0) ((rd_T93 x0 x4).f1) ((rd_T93 x0 x4).f2)).bind fun bt427 => (if x4 < (x3.length : Int) then (laws_toOpS.l0 k x0 (x3.set (x4 : Int).toNat (⟨bt427.1, bt427.2.1, bt427.2.2⟩ : S69)) (wrap64 (x4 + 1))) else (none))) else (none)) else (some x3)
def laws_toOpS.f (k : Nat) (l0 : List (S93)) : Option ((List (S69))) := if 0 ≤ (l0.length : Int) then (if ((l0.length : Int) : Int).toNat ≤ 11728124029610 then (laws_toOpS.l0 k l0 (List.replicate ((l0.length : Int) : Int).toNat z69) 0) else (none)) else (none)
theorem laws_toOpS.mono_l : ∀ k, (∀ y0 y1 y2, LeO (laws_toOpS.l0 k y0 y1 y2) (laws_toOpS.l0 (k + 1) y0 y1 y2))
 | 0 => fun _ _ _ r h => by simp [laws_toOpS.l0] at h
 | k + 1 => by
  have ih0 := laws_toOpS.mono_l k
  ·intro y0 y1 y2
   unfold laws_toOpS.l0
   repeat' first
   | (with_reducible exact ih0 _ _ _)
   | (with_reducible exact LeO.refl _)
   | (with_reducible exact LeO.none _)
   | (with_reducible refine LeO.ite ?_ ?_)
   | (with_reducible refine LeO.bind ?_ (fun _ => ?_))
   | exact ih0 _ _ _
   | exact LeO.none _
   | refine LeO.ite ?_ ?_
   | refine LeO.bind ?_ (fun _ => ?_)
theorem laws_toOpS.mono : ∀ a0 k, LeO (laws_toOpS.f k a0) (laws_toOpS.f (k + 1) a0) := by
 intro a0 k
 have ih0 := laws_toOpS.mono_l k
 unfold laws_toOpS.f
 repeat' first
   | (with_reducible exact ih0 _ _ _)
   | (with_reducible exact LeO.refl _)
   | (with_reducible exact LeO.none _)
   | (with_reducible refine LeO.ite ?_ ?_)
   | (with_reducible refine LeO.bind ?_ (fun _ => ?_))
   | exact ih0 _ _ _
   | exact LeO.none _
   | refine LeO.ite ?_ ?_
   | refine LeO.bind ?_ (fun _ => ?_)
set_option maxHeartbeats 8000000 in
set_option maxRecDepth 100000 in
theorem laws_toOpS.calls (k : Nat) (A0 : Option Addr) (c0 : Nat) (l0 : List (S93)) (r : List (S69)) (w : World) (hr0 : Kd.C k93 w A0 l0.length l0) (hc0 : l0.length ≤ c0) (h : laws_toOpS.f k l0 = some r) :
  Calls Try.prog 66 #[.slice A0 l0.length c0] w fun e w' => ∃ v0_ : Value, e = .returned (v0_) ∧ Kd.R k69 69 w' w.heap.size (fun _ => True) v0_ r ∧ Below w.heap.size w w' := by
 have hu93 := Try.underlying93
 have hu69 := Try.underlying69
 have HR0 := Aside0.mk hr0
 have HC0 := Aside0.mk hc0
 clear hr0 hc0
 have HB := Aside0.mk (Below.refl w.heap.size w)
 have H : (if 0 ≤ (l0.length : Int) then (if ((l0.length : Int) : Int).toNat ≤ 11728124029610 then (laws_toOpS.l0 k l0 (List.replicate ((l0.length : Int) : Int).toNat z69) 0) else (none)) else (none)) = some r := h
 clear h
 by_cases c2 : 0 ≤ (l0.length : Int)
 ·rw [if_pos c2] at H
  have c2b0 := eq_true c2
  have c2b1 : decide (0 ≤ (l0.length : Int)) = true := decide_eq_true c2
  clear c2
  by_cases c3 : ((l0.length : Int) : Int).toNat ≤ 11728124029610
  ·rw [if_pos c3] at H
   have c3b0 := eq_true c3
   have c3b1 : decide (((l0.length : Int) : Int).toNat ≤ 11728124029610) = true := decide_eq_true c3
   clear c3
   obtain ⟨y423, hy423⟩ : ∃ y_ : List (S69), y_ = (List.replicate ((l0.length : Int) : Int).toNat z69) := ⟨_, rfl⟩
   replace H : (laws_toOpS.l0 k l0 y423 0) = some r := by first | (rw [hy423]; with_reducible exact H) | (have H2_ := (Option.bind_some _ _).symm.trans H; rw [hy423]; with_reducible exact H2_) | (have H2_ := (Option.bind_some _ _).symm.trans H; with_reducible exact H2_) | with_reducible exact H | (rw [hy423]; exact H) | exact H
   have Ny423 := Aside0.mk hy423
   clear hy423
   have H' := Aside0.mk H
   clear H
   go_enter Try.func66, Try.ntmps66
   go_wp2_with (first | ((with_reducible refine zai (N := 7) rfl ?_); refine Kd.R_make k69 _ 69 rfl (N := 7) rfl 37 _ _ rfl (l0.length : Int) rfl rfl Try.underlying37 (.agg #[(.int .i64 0), (.int .i64 0), (.int .i64 0)]) 24 info69 rfl (by decide) (by omega) z69 (ok := fun _ => True) (okp := fun _ => True) (k69_mkM _ _ _ z69 ) (fun _ hk => hk) trivial (of_decide_eq_true (by first | (with_reducible assumption) | assumption)) (Nat.le_trans (Nat.mul_le_mul_right _ (of_decide_eq_true (by first | (with_reducible assumption) | assumption) : (l0.length : Int).toNat ≤ 11728124029610)) (by omega)) (Below.refl _ _) (Nat.le_refl _) ?_; intro v424 w4 ho5 hb hg_ hnew_; clear hg_ hnew_; (first | rw [← Ny423.out] at ho5 | (simp only [Int.reduceToNat] at ho5; rw [← Ny423.out] at ho5)); have n0_ := Aside0.mk (Kd.R_lower ho5 (zaa (by repeat (first | (with_reducible first | exact HB.out | apply za2 | apply za0 | apply za1) | exact HB.out)))); have n1_ := Aside0.mk (zac (by repeat (first | (with_reducible first | exact HB.out | apply za2 | apply za0 | apply za1) | exact HB.out)) hb); clear HB; have HO425 := n0_; have HB := n1_; clear n0_ n1_; clear hb ho5))
   go_loopg [4] k (fun kq v4 w' => ∃ (x3_1 : List (S69)) (x4_1 : Int), v4 = .int .i64 x4_1 ∧ Aside0 (laws_toOpS.l0 kq l0 x3_1 x4_1 = some r) ∧ Aside0 (kq ≤ k) ∧ Aside0 (Kd.R k69 69 w' w.heap.size (fun _ => True) v424 x3_1) ∧ Aside0 (Below w.heap.size w w'))
   case atStart => exact ⟨(y423), (0), (by first | rfl | (simp; done) | (simp [*]; done)), H', ⟨Nat.le_refl _⟩, ⟨by (with_reducible repeat (first | apply Kd.zak | apply Kd.zaj | apply Kd.zam)); exact HO425.out⟩, ⟨by repeat (first | (with_reducible first | exact HB.out | apply za2 | apply za0 | apply za1) | exact HB.out)⟩⟩
   case round =>
    clear H'
    try clear c2
    try clear c2b0
    try clear c2b1
    try clear p2
    try clear c3
    try clear c3b0
    try clear c3b1
    obtain ⟨x3_1, x4_1, rfl, HA, HK1, HO_3, HB⟩ := hrel
    cases gk with
    | zero => exact absurd HA.out (by simp [laws_toOpS.l0])
    | succ k1 =>
     have H := HA.out
     clear HA
     simp only [laws_toOpS.l0] at H
     by_cases c6 : x4_1 < (l0.length : Int)
     ·rw [if_pos c6] at H
      have c6b0 : decide (x4_1 < (l0.length : Int)) = true := decide_eq_true c6
      clear c6
      by_cases c7 : 0 ≤ x4_1
      ·rw [if_pos c7] at H
       have c7b0 : decide (0 ≤ x4_1) = true := decide_eq_true c7
       clear c7
       replace H := Option.bind_eq_some_iff.mp H
       obtain ⟨⟨t427, t428, t429⟩, A80, H⟩ := H
       replace H : (if x4_1 < (x3_1.length : Int) then (laws_toOpS.l0 k1 l0 (x3_1.set (x4_1 : Int).toNat (⟨t427, t428, t429⟩ : S69)) (wrap64 (x4_1 + 1))) else (none)) = some r := H
       have A8 := Aside0.mk A80
       clear A80
       by_cases c9 : x4_1 < (x3_1.length : Int)
       ·rw [if_pos c9] at H
        have c9b0 : decide (x4_1 < (x3_1.length : Int)) = true := decide_eq_true c9
        clear c9
        obtain ⟨y430, hy430⟩ : ∃ y_ : List (S69), y_ = (x3_1.set (x4_1 : Int).toNat (⟨t427, t428, t429⟩ : S69)) := ⟨_, rfl⟩
        replace H : (laws_toOpS.l0 k1 l0 y430 (wrap64 (x4_1 + 1))) = some r := by first | (rw [hy430]; with_reducible exact H) | (have H2_ := (Option.bind_some _ _).symm.trans H; rw [hy430]; with_reducible exact H2_) | (have H2_ := (Option.bind_some _ _).symm.trans H; with_reducible exact H2_) | with_reducible exact H | (rw [hy430]; exact H) | exact H
        have Ny430 := Aside0.mk hy430
        clear hy430
        have H' := Aside0.mk H
        clear H
        have p426 : 0 ≤ (x4_1 : Int) := of_decide_eq_true (by first | (with_reducible assumption) | assumption)
        have q426 : x4_1 < (l0.length : Int) := of_decide_eq_true (by first | (with_reducible assumption) | assumption)
        obtain ⟨ad426, e426, hx426_0, hx426_1, hx426_2⟩ := at_T93 HR0.out x4_1 p426 q426
        cases e426
        replace hx426_0 := (HB.out.cell (World.block_lt_of_cell? w _ hx426_0)).trans hx426_0
        replace hx426_1 := (HB.out.cell (World.block_lt_of_cell? w _ hx426_1)).trans hx426_1
        replace hx426_2 := (HB.out.cell (World.block_lt_of_cell? w _ hx426_2)).trans hx426_2
        replace p426 := eq_true p426
        replace q426 := eq_true q426
        go_wp2_with (first | ((with_reducible refine zal (f := 97) rfl ?_); refine goesL_ (some 20) rfl rfl Try.func97 (by kernel_rfl) rfl #[.agg #[.int .i64 ((rd_T93 l0 x4_1).f0), .int .i64 ((rd_T93 l0 x4_1).f1), .int .i64 ((rd_T93 l0 x4_1).f2)]] rfl (by (try simp only [List.map_toArray, List.map_cons, List.map_nil]); first | done | rfl | (simp only [List.length_drop, List.length_take]; rfl)) ?_; (with_reducible refine (laws_toOp.calls ((rd_T93 l0 x4_1).f0) ((rd_T93 l0 x4_1).f1) ((rd_T93 l0 x4_1).f2) t427 t428 t429 _ A8.out).mono ?_); rintro e w11 ⟨rfl, hb⟩; refine ⟨_, rfl, ?_⟩; have n0_ := Aside0.mk (Kd.zb2 (by (with_reducible repeat (first | apply Kd.zak | apply Kd.zaj | apply Kd.zam)); exact HO_3.out) hb); have n1_ := Aside0.mk (zac (by repeat (first | (with_reducible first | exact HB.out | apply za2 | apply za0 | apply za1) | exact HB.out)) hb); clear HO_3; clear HB; have HO_3 := n0_; have HB := n1_; clear n0_ n1_; (try clear hb); (try clear hb2); (try clear hk); (try clear hi); have p10 : 0 ≤ (x4_1 : Int) := of_decide_eq_true (by first | (with_reducible assumption) | assumption); have q10 : (x4_1 : Int) < ((x3_1.length : Int) : Int) := of_decide_eq_true (by first | (with_reducible assumption) | assumption); obtain ⟨go10, co10, eo10, gb10, gl10, cl10, HG10⟩ := Kd.R_form HO_3.out (by omega); (first | cases eo10 | (injection eo10 with ea_ en_ ec_; (first | subst ea_ | (injection ea_ with ea_; subst ea_)); subst ec_; clear en_)); have GB10 := Aside0.mk gb10; have GG10 := Aside0.mk HG10; clear gb10 gl10 HG10; obtain ⟨ce10, hcl10, hM10, hcc10, hfr10⟩ := Kd.R_elem HO_3.out z69 (x4_1 : Int) p10 q10; obtain rfl := k69_openM hM10; have hx10_0 : w11.cell? ⟨go10, (x4_1 : Int).toNat * 3, none⟩ = some (.int .i64 ((za9 x3_1 x4_1).f0)) := hcc10 0 _ rfl; have hx10_1 : w11.cell? ⟨go10, (x4_1 : Int).toNat * 3 + 1, none⟩ = some (.int .i64 ((za9 x3_1 x4_1).f1)) := hcc10 1 _ rfl; have hx10_2 : w11.cell? ⟨go10, (x4_1 : Int).toNat * 3 + 2, none⟩ = some (.int .i64 ((za9 x3_1 x4_1).f2)) := hcc10 2 _ rfl; have hf10_0 : w11.frozen? ⟨go10, (x4_1 : Int).toNat * 3, none⟩ = false := hfr10 0; have hf10_1 : w11.frozen? ⟨go10, (x4_1 : Int).toNat * 3 + 1, none⟩ = false := hfr10 1; have hf10_2 : w11.frozen? ⟨go10, (x4_1 : Int).toNat * 3 + 2, none⟩ = false := hfr10 2; clear hcl10 hcc10 hfr10 hM10; replace p10 := eq_true p10; replace q10 := eq_true q10; have HX12 := Aside0.mk (show Kd.R k69 69 w11 w.heap.size (fun _ => True) (.slice (some ⟨go10, 0, none⟩) x3_1.length co10) x3_1 from (by (with_reducible repeat (first | apply Kd.zak | apply Kd.zaj | apply Kd.zam)); exact HO_3.out)); obtain ⟨ce12, hcl12, hM12, hcc12, hfr12⟩ := Kd.R_elem HX12.out z69 (x4_1 : Int) (of_decide_eq_true (by first | (with_reducible assumption) | assumption)) (by have h_ : (x4_1 : Int) < ((x3_1.length : Int) : Int) := of_decide_eq_true (by first | (with_reducible assumption) | assumption); first | exact h_ | (have e_ := (Kd.R_reads' HO_3.out).1; omega) | simpa using h_); obtain rfl := k69_openM hM12; have HP12 := Kd.R_seg HX12.out (x4_1 : Int) (of_decide_eq_true (by first | (with_reducible assumption) | assumption)) (by have h_ : (x4_1 : Int) < ((x3_1.length : Int) : Int) := of_decide_eq_true (by first | (with_reducible assumption) | assumption); first | exact h_ | (have e_ := (Kd.R_reads' HO_3.out).1; omega) | simpa using h_) (seg := [.int .i64 t427, .int .i64 t428, .int .i64 t429]) (j := 0) hcl12 hcc12 (show 3 ≤ 3 from by decide) (x' := (⟨t427, t428, t429⟩ : S69)) (k69_mkM _ _ _ (⟨t427, t428, t429⟩ : S69) ) (fun _ hk => hk); have hx12_0 := hcc12 0 _ rfl; (try simp only [show (k69).sz = 3 from rfl, Nat.mul_one, Nat.add_zero] at hx12_0); have hf12_0 := hfr12 0; (try simp only [show (k69).sz = 3 from rfl, Nat.mul_one, Nat.add_zero] at hf12_0); have hx12_1 := hcc12 1 _ rfl; (try simp only [show (k69).sz = 3 from rfl, Nat.mul_one, Nat.add_zero] at hx12_1); have hf12_1 := hfr12 1; (try simp only [show (k69).sz = 3 from rfl, Nat.mul_one, Nat.add_zero] at hf12_1); have hx12_2 := hcc12 2 _ rfl; (try simp only [show (k69).sz = 3 from rfl, Nat.mul_one, Nat.add_zero] at hx12_2); have hf12_2 := hfr12 2; (try simp only [show (k69).sz = 3 from rfl, Nat.mul_one, Nat.add_zero] at hf12_2); clear hcl12 hcc12 hfr12 hM12) | ((with_reducible refine gate_store (t := 69) (p := 21) rfl ?_); refine store_event (t := 69) (p := 21) (v := ?vo_w13) (w1 := (((w11.setCell ⟨go10, (x4_1 : Int).toNat * 3, none⟩ (.int .i64 t427)).setCell ⟨go10, (x4_1 : Int).toNat * 3 + 1, none⟩ (.int .i64 t428)).setCell ⟨go10, (x4_1 : Int).toNat * 3 + 2, none⟩ (.int .i64 t429))) ?hg ?ho ?hn ?hr ?_; (case ho => rfl); (case hg => rfl); (case hn => rfl); (case hr => first | (go_simp; done) | (go_simp; rfl)); intro w13 hw; have hg : w11.grownBy w13 (some go10) := (by rw [hw]; exact HP12.2); have hp_ : Kd.R k69 69 w13 w.heap.size (fun _ => True) (.slice (some ⟨go10, 0, none⟩) x3_1.length co10) y430 := (by rw [hw, Ny430.out]; exact HP12.1); clear HP12; have n0_ := Aside0.mk (hp_); have n1_ := Aside0.mk ((by rw [hw]; exact za3 (za3 (za3 (HB.out) GB10.out) GB10.out) GB10.out : Below w.heap.size w w13)); clear HO_3; clear HB; have HO_3 := n0_; have HB := n1_; clear n0_ n1_; clear hg hw hp_))
        go_roundg k1
        case measure => have := HK1.out; omega
        case rel => exact ⟨(y430), (wrap64 (x4_1 + 1)), (by first | rfl | (simp; done) | (simp [*]; done)), H', ⟨by have := HK1.out; omega⟩, ⟨by (with_reducible repeat (first | apply Kd.zak | apply Kd.zaj | apply Kd.zam)); exact HO_3.out⟩, ⟨by repeat (first | (with_reducible first | exact HB.out | apply za2 | apply za0 | apply za1) | exact HB.out)⟩⟩
       ·rw [if_neg c9] at H
        exact absurd H (by simp)
      ·rw [if_neg c7] at H
       exact absurd H (by simp)
     ·rw [if_neg c6] at H
      have c6b0 : decide (x4_1 < (l0.length : Int)) = false := decide_eq_false c6
      clear c6
      obtain rfl := Option.some.inj H
      go_wp2
      go_ret
      exact ⟨_, by first | rfl | (simp [zaf, zae] <;> rfl) | (simp [*, zaf, zae] <;> rfl), by (with_reducible repeat (first | apply Kd.zak | apply Kd.zaj | apply Kd.zam)); exact HO_3.out, by repeat (first | (with_reducible first | exact HB.out | apply za2 | apply za0 | apply za1) | exact HB.out)⟩
  ·rw [if_neg c3] at H
   exact absurd H (by simp)
 ·rw [if_neg c2] at H
  exact absurd H (by simp)

/-! ### laws_toCode: function 26 -/
def laws_toCode.f (k : Nat) (l0_0 : List (S93)) (a0_1 : Int) : Option ((List (S69)) × Int) := (laws_toOpS.f k l0_0).bind fun t434 => (some (t434, a0_1))
theorem laws_toCode.mono : ∀ a0 a1 k, LeO (laws_toCode.f k a0 a1) (laws_toCode.f (k + 1) a0 a1) := by
 intro a0 a1 k
 unfold laws_toCode.f
 repeat' first
   | (with_reducible exact laws_toOpS.mono _ _)
   | (with_reducible exact LeO.refl _)
   | (with_reducible exact LeO.none _)
   | (with_reducible refine LeO.ite ?_ ?_)
   | (with_reducible refine LeO.bind ?_ (fun _ => ?_))
   | exact laws_toOpS.mono _ _
   | exact LeO.none _
   | refine LeO.ite ?_ ?_
   | refine LeO.bind ?_ (fun _ => ?_)
set_option maxHeartbeats 8000000 in
set_option maxRecDepth 100000 in
theorem laws_toCode.calls (k : Nat) (A0_0 : Option Addr) (c0_0 : Nat) (l0_0 : List (S93)) (a0_1 : Int) (r1 : List (S69)) (r2 : Int) (w : World) (hr0_0 : Kd.C k93 w A0_0 l0_0.length l0_0) (hc0_0 : l0_0.length ≤ c0_0) (h : laws_toCode.f k l0_0 a0_1 = some (r1, r2)) :
  Calls Try.prog 26 #[.agg #[.slice A0_0 l0_0.length c0_0, .int .i64 a0_1]] w fun e w' => ∃ v0_ : Value, e = .returned (.agg #[v0_, .int .i64 r2]) ∧ Kd.R k69 69 w' w.heap.size (fun _ => True) v0_ r1 ∧ Below w.heap.size w w' := by
 have hu34 := Try.underlying34
 have hu39 := Try.underlying39
 have HR0_0 := Aside0.mk hr0_0
 have HC0_0 := Aside0.mk hc0_0
 clear hr0_0 hc0_0
 have HB := Aside0.mk (Below.refl w.heap.size w)
 have H : ((laws_toOpS.f k l0_0).bind fun t434 => (some (t434, a0_1))) = some (r1, r2) := h
 clear h
 replace H := Option.bind_eq_some_iff.mp H
 obtain ⟨t434, A20, H⟩ := H
 replace H : (some (t434, a0_1)) = some (r1, r2) := H
 have A2 := Aside0.mk A20
 clear A20
 simp only [Option.some.injEq, Prod.mk.injEq] at H
 obtain ⟨rfl, rfl⟩ := H
 go_enter Try.func26, Try.ntmps26
 go_wp2_with (first | ((with_reducible refine zai (N := 1) rfl ?_); refine zah ?hg (N := 1) ?hd (cs := #[.slice A0_0 l0_0.length c0_0, .int .i64 a0_1]) (t := 34) ?hr ?_; (case hd => rfl); (case hg => rfl); (case hr => first | (go_simp; done) | (go_simp; rfl)); intro gb431 hg w3 hbox hb; have n0_ := Aside0.mk (zac (by repeat (first | (with_reducible first | exact HB.out | apply za2 | apply za0 | apply za1) | exact HB.out)) hb); have n1_ := Aside0.mk (hbox); have n2_ := Aside0.mk ((by rw [hg]; exact (zaa (by repeat (first | (with_reducible first | exact HB.out | apply za2 | apply za0 | apply za1) | exact HB.out))) : w.heap.size ≤ gb431)); have n3_ := Aside0.mk ((by rw [hg]; exact (zaa (by repeat (first | (with_reducible first | exact HB.out | apply za2 | apply za0 | apply za1) | exact HB.out))) : w.heap.size ≤ gb431)); clear HB; have HB := n0_; have BK431 := n1_; have GW431 := n2_; have GE431 := n3_; clear n0_ n1_ n2_ n3_; clear hb hbox hg) | ((with_reducible refine zai (N := 2) rfl ?_); refine zah ?hg (N := 2) ?hd (cs := #[.slice none 0 0, .int .i64 0]) (t := 39) ?hr ?_; (case hd => rfl); (case hg => rfl); (case hr => first | (go_simp; done) | (go_simp; rfl)); intro gb432 hg w4 hbox hb; have n0_ := Aside0.mk (zad (g := gb431) (o := .cells #[.slice A0_0 l0_0.length c0_0, .int .i64 a0_1] 34 (0, 0)) (by (with_reducible repeat (first | refine za5 ?_ _ | refine za6 ?_ | refine za4 ?_ _)); exact BK431.out) hb); have n1_ := Aside0.mk (zac (by repeat (first | (with_reducible first | exact HB.out | apply za2 | apply za0 | apply za1 | refine za3 ?_ GE431.out) | exact HB.out)) hb); have n2_ := Aside0.mk (hbox); have n3_ := Aside0.mk ((by rw [hg]; exact (zaa (by repeat (first | (with_reducible first | exact HB.out | apply za2 | apply za0 | apply za1 | refine za3 ?_ GE431.out) | exact HB.out))) : w.heap.size ≤ gb432)); have n4_ := Aside0.mk ((by rw [hg]; exact (zaa (by repeat (first | (with_reducible first | exact HB.out | apply za2 | apply za0 | apply za1 | refine za3 ?_ GE431.out) | exact HB.out))) : w.heap.size ≤ gb432)); have n5_ := Aside0.mk ((by rw [hg]; exact Nat.ne_of_lt (zao (g := gb431) (o := .cells #[.slice A0_0 l0_0.length c0_0, .int .i64 a0_1] 34 (0, 0)) (by (with_reducible repeat (first | refine za5 ?_ _ | refine za6 ?_ | refine za4 ?_ _)); exact BK431.out)) : gb431 ≠ gb432)); have n6_ := Aside0.mk ((by rw [hg]; exact Nat.ne_of_gt (zao (g := gb431) (o := .cells #[.slice A0_0 l0_0.length c0_0, .int .i64 a0_1] 34 (0, 0)) (by (with_reducible repeat (first | refine za5 ?_ _ | refine za6 ?_ | refine za4 ?_ _)); exact BK431.out)) : gb432 ≠ gb431)); clear BK431; clear HB; have BK431 := n0_; have HB := n1_; have BK432 := n2_; have GW432 := n3_; have GE432 := n4_; have NB431_432 := n5_; have NB432_431 := n6_; clear n0_ n1_ n2_ n3_ n4_ n5_ n6_; clear hb hbox hg) | ((with_reducible refine zai (N := 3) rfl ?_); refine zah ?hg (N := 3) ?hd (cs := #[.slice none 0 0, .int .i64 0]) (t := 39) ?hr ?_; (case hd => rfl); (case hg => rfl); (case hr => first | (go_simp; done) | (go_simp; rfl)); intro gb433 hg w5 hbox hb; have n0_ := Aside0.mk (zad (g := gb431) (o := .cells #[.slice A0_0 l0_0.length c0_0, .int .i64 a0_1] 34 (0, 0)) (by (with_reducible repeat (first | refine za5 ?_ _ | refine za6 ?_ | refine za4 ?_ _)); exact BK431.out) hb); have n1_ := Aside0.mk (zad (g := gb432) (o := .cells #[.slice none 0 0, .int .i64 0] 39 (0, 0)) (by (with_reducible repeat (first | refine za5 ?_ _ | refine za6 ?_ | refine za4 ?_ _)); exact BK432.out) hb); have n2_ := Aside0.mk (zac (by repeat (first | (with_reducible first | exact HB.out | apply za2 | apply za0 | apply za1 | refine za3 ?_ GE431.out | refine za3 ?_ GE432.out) | exact HB.out)) hb); have n3_ := Aside0.mk (hbox); have n4_ := Aside0.mk ((by rw [hg]; exact (zaa (by repeat (first | (with_reducible first | exact HB.out | apply za2 | apply za0 | apply za1 | refine za3 ?_ GE431.out | refine za3 ?_ GE432.out) | exact HB.out))) : w.heap.size ≤ gb433)); have n5_ := Aside0.mk ((by rw [hg]; exact (zaa (by repeat (first | (with_reducible first | exact HB.out | apply za2 | apply za0 | apply za1 | refine za3 ?_ GE431.out | refine za3 ?_ GE432.out) | exact HB.out))) : w.heap.size ≤ gb433)); have n6_ := Aside0.mk ((by rw [hg]; exact Nat.ne_of_lt (zao (g := gb431) (o := .cells #[.slice A0_0 l0_0.length c0_0, .int .i64 a0_1] 34 (0, 0)) (by (with_reducible repeat (first | refine za5 ?_ _ | refine za6 ?_ | refine za4 ?_ _)); exact BK431.out)) : gb431 ≠ gb433)); have n7_ := Aside0.mk ((by rw [hg]; exact Nat.ne_of_gt (zao (g := gb431) (o := .cells #[.slice A0_0 l0_0.length c0_0, .int .i64 a0_1] 34 (0, 0)) (by (with_reducible repeat (first | refine za5 ?_ _ | refine za6 ?_ | refine za4 ?_ _)); exact BK431.out)) : gb433 ≠ gb431)); have n8_ := Aside0.mk ((by rw [hg]; exact Nat.ne_of_lt (zao (g := gb432) (o := .cells #[.slice none 0 0, .int .i64 0] 39 (0, 0)) (by (with_reducible repeat (first | refine za5 ?_ _ | refine za6 ?_ | refine za4 ?_ _)); exact BK432.out)) : gb432 ≠ gb433)); have n9_ := Aside0.mk ((by rw [hg]; exact Nat.ne_of_gt (zao (g := gb432) (o := .cells #[.slice none 0 0, .int .i64 0] 39 (0, 0)) (by (with_reducible repeat (first | refine za5 ?_ _ | refine za6 ?_ | refine za4 ?_ _)); exact BK432.out)) : gb433 ≠ gb432)); clear BK431; clear BK432; clear HB; have BK431 := n0_; have BK432 := n1_; have HB := n2_; have BK433 := n3_; have GW433 := n4_; have GE433 := n5_; have NB431_433 := n6_; have NB433_431 := n7_; have NB432_433 := n8_; have NB433_432 := n9_; clear n0_ n1_ n2_ n3_ n4_ n5_ n6_ n7_ n8_ n9_; clear hb hbox hg; have hnb6 := NB431_432.out; have hnc6 := NB432_431.out; have hnb7 := NB431_433.out; have hnc7 := NB433_431.out; have hcz8_0 : w5.cell? ⟨gb431, 0, none⟩ = some (.slice A0_0 l0_0.length c0_0) := (za8 BK431.out 0).trans rfl; have hcz8_1 : w5.cell? ⟨gb431, 1, none⟩ = some (.int .i64 a0_1) := (za8 BK431.out 1).trans rfl; have hfz8_0 := za7 BK431.out 0; have hfz8_1 := za7 BK431.out 1) | ((with_reducible refine zal (f := 66) rfl ?_); refine goesL_ (some 6) rfl rfl Try.func66 (by kernel_rfl) rfl #[.slice A0_0 l0_0.length c0_0] rfl (by (try simp only [List.map_toArray, List.map_cons, List.map_nil]); first | done | rfl | (simp only [List.length_drop, List.length_take]; rfl)) ?_; (with_reducible refine (laws_toOpS.calls k _ _ l0_0 t434 _ ?side1 ?side2 A2.out).mono ?_); (case side1 => repeat (first | exact (Kd.zar HR0_0.out HB.out) | (with_reducible refine Kd.zav ?_ _) | (with_reducible refine Kd.zau ?_ _) | (with_reducible refine Kd.zaz ?_))); (case side2 => exact HC0_0.out); rintro e w9 ⟨v435, rfl, ho0, hb⟩; refine ⟨_, rfl, ?_⟩; have n0_ := Aside0.mk (Kd.R_lower ho0 (zaa (by repeat (first | (with_reducible first | exact HB.out | apply za2 | apply za0 | apply za1 | refine za3 ?_ GE431.out | refine za3 ?_ GE432.out | refine za3 ?_ GE433.out) | exact HB.out)))); have n1_ := Aside0.mk (zad (g := gb431) (o := .cells #[.slice A0_0 l0_0.length c0_0, .int .i64 a0_1] 34 (0, 0)) (by (with_reducible repeat (first | refine za5 ?_ _ | refine za6 ?_ | refine za4 ?_ _)); exact BK431.out) hb); have n2_ := Aside0.mk (zad (g := gb432) (o := .cells #[.slice none 0 0, .int .i64 0] 39 (0, 0)) (by (with_reducible repeat (first | refine za5 ?_ _ | refine za6 ?_ | refine za4 ?_ _)); exact BK432.out) hb); have n3_ := Aside0.mk (zad (g := gb433) (o := .cells #[.slice none 0 0, .int .i64 0] 39 (0, 0)) (by (with_reducible repeat (first | refine za5 ?_ _ | refine za6 ?_ | refine za4 ?_ _)); exact BK433.out) hb); have n4_ := Aside0.mk (zac (by repeat (first | (with_reducible first | exact HB.out | apply za2 | apply za0 | apply za1 | refine za3 ?_ GE431.out | refine za3 ?_ GE432.out | refine za3 ?_ GE433.out) | exact HB.out)) hb); clear BK431; clear BK432; clear BK433; clear HB; have HO436 := n0_; have BK431 := n1_; have BK432 := n2_; have BK433 := n3_; have HB := n4_; clear n0_ n1_ n2_ n3_ n4_; (try clear hb); (try clear hb2); (try clear hk); (try clear hi); (try clear ho0); obtain ⟨Ao10, co10, eo10⟩ := Kd.zas HO436.out; subst eo10; have hnb11 := NB433_432.out; have hnc11 := NB432_433.out; have hcz12_0 : w9.cell? ⟨gb433, 0, none⟩ = some (.slice none 0 0) := (za8 BK433.out 0).trans rfl; have hcz12_1 : w9.cell? ⟨gb433, 1, none⟩ = some (.int .i64 0) := (za8 BK433.out 1).trans rfl; have hfz12_0 := za7 BK433.out 0; have hfz12_1 := za7 BK433.out 1; have hcz13_0 : w9.cell? ⟨gb431, 0, none⟩ = some (.slice A0_0 l0_0.length c0_0) := (za8 BK431.out 0).trans rfl; have hcz13_1 : w9.cell? ⟨gb431, 1, none⟩ = some (.int .i64 a0_1) := (za8 BK431.out 1).trans rfl; have hfz13_0 := za7 BK431.out 0; have hfz13_1 := za7 BK431.out 1; have hcz14_0 : w9.cell? ⟨gb432, 0, none⟩ = some (.slice none 0 0) := (za8 BK432.out 0).trans rfl; have hcz14_1 : w9.cell? ⟨gb432, 1, none⟩ = some (.int .i64 0) := (za8 BK432.out 1).trans rfl; have hfz14_0 := za7 BK432.out 0; have hfz14_1 := za7 BK432.out 1))
 refine bodyPost_ret (results_cell_row rfl _ _ gb432 39 #[.slice Ao10 t434.length co10, .int .i64 a0_1] (0, 0) _ rfl (by (with_reducible repeat (first | refine za5 ?_ _ | refine za6 ?_ | refine za4 ?_ _)); refine zat (cs := #[.slice Ao10 t434.length co10, .int .i64 0]) ?_ 1 _ rfl; (with_reducible repeat (first | refine za5 ?_ _ | refine za6 ?_ | refine za4 ?_ _)); refine zat (cs := #[.slice none 0 0, .int .i64 0]) ?_ 0 _ rfl; (with_reducible repeat (first | refine za5 ?_ _ | refine za6 ?_ | refine za4 ?_ _)); refine zay ?_ NB432_433.out _; (with_reducible repeat (first | refine za5 ?_ _ | refine za6 ?_ | refine za4 ?_ _)); refine zay ?_ NB432_433.out _; (with_reducible repeat (first | refine za5 ?_ _ | refine za6 ?_ | refine za4 ?_ _)); exact BK432.out) Try.underlying39 rfl (by kernel_rfl)) rfl ?_
 exact ⟨_, by first | rfl | (simp [zaf, zae] <;> rfl) | (simp [*, zaf, zae] <;> rfl), by (with_reducible repeat (first | apply Kd.zak | apply Kd.zaj | apply Kd.zam)); exact Kd.R_mono (Kd.R_far (p := ⟨gb432, 1, none⟩) (Kd.R_far (p := ⟨gb432, 0, none⟩) (Kd.R_far (p := ⟨gb433, 1, none⟩) (Kd.R_far (p := ⟨gb433, 0, none⟩) (Kd.R_types (Kd.R_types HO436.out BK433.out (by decide)) BK432.out (by decide)) (fun _ hk => hk.1.2) (.slice Ao10 t434.length co10)) (fun _ hk => hk.1.2) (.int .i64 a0_1)) (fun _ hk => hk.2) (.slice Ao10 t434.length co10)) (fun _ hk => hk.2) (.int .i64 a0_1)) (fun _ hk => trivial), by repeat (first | (with_reducible first | exact HB.out | apply za2 | apply za0 | apply za1 | refine za3 ?_ GE431.out | refine za3 ?_ GE432.out | refine za3 ?_ GE433.out) | exact HB.out)⟩

/-! ### spec_poBehind: function 87 -/
def spec_poBehind.f (l0_0 : List (S69)) (a0_1 : Int) (a1 : Int) : Option (Int) := if a1 = 0 then (some a0_1) else (some (wrap64 ((l0_0.length : Int) + a1)))
set_option maxHeartbeats 8000000 in
set_option maxRecDepth 100000 in
theorem spec_poBehind.calls (A0_0 : Option Addr) (c0_0 : Nat) (l0_0 : List (S69)) (a0_1 : Int) (a1 : Int) (r : Int) (w : World) (hr0_0 : Kd.C k69 w A0_0 l0_0.length l0_0) (hc0_0 : l0_0.length ≤ c0_0) (h : spec_poBehind.f l0_0 a0_1 a1 = some r) :
  Calls Try.prog 87 #[.agg #[.slice A0_0 l0_0.length c0_0, .int .i64 a0_1], .int .i64 a1] w fun e w' => e = .returned (.int .i64 r) ∧ Below w.heap.size w w' := by
 have hu39 := Try.underlying39
 have HR0_0 := Aside0.mk hr0_0
 have HC0_0 := Aside0.mk hc0_0
 clear hr0_0 hc0_0
 have HB := Aside0.mk (Below.refl w.heap.size w)
 have H : (if a1 = 0 then (some a0_1) else (some (wrap64 ((l0_0.length : Int) + a1)))) = some r := h
 clear h
 by_cases c3 : a1 = 0
 ·rw [if_pos c3] at H
  have c3b0 : (a1 == 0) = true := beq_iff_eq.mpr c3
  have c3b1 : (a1 != 0) = false := bne_eq_false_iff_eq.mpr c3
  clear c3
  obtain rfl := Option.some.inj H
  go_enter Try.func87, Try.ntmps87
  go_wp2_with (first | ((with_reducible refine zai (N := 2) rfl ?_); refine zah ?hg (N := 2) ?hd (cs := #[.slice A0_0 l0_0.length c0_0, .int .i64 a0_1]) (t := 39) ?hr ?_; (case hd => rfl); (case hg => rfl); (case hr => first | (go_simp; done) | (go_simp; rfl)); intro gb437 hg w4 hbox hb; have n0_ := Aside0.mk (zac (by repeat (first | (with_reducible first | exact HB.out | apply za2 | apply za0 | apply za1) | exact HB.out)) hb); have n1_ := Aside0.mk (hbox); have n2_ := Aside0.mk ((by rw [hg]; exact (zaa (by repeat (first | (with_reducible first | exact HB.out | apply za2 | apply za0 | apply za1) | exact HB.out))) : w.heap.size ≤ gb437)); have n3_ := Aside0.mk ((by rw [hg]; exact (zaa (by repeat (first | (with_reducible first | exact HB.out | apply za2 | apply za0 | apply za1) | exact HB.out))) : w.heap.size ≤ gb437)); clear HB; have HB := n0_; have BK437 := n1_; have GW437 := n2_; have GE437 := n3_; clear n0_ n1_ n2_ n3_; clear hb hbox hg; have hcz5_0 : w4.cell? ⟨gb437, 0, none⟩ = some (.slice A0_0 l0_0.length c0_0) := (za8 BK437.out 0).trans rfl; have hcz5_1 : w4.cell? ⟨gb437, 1, none⟩ = some (.int .i64 a0_1) := (za8 BK437.out 1).trans rfl; have hfz5_0 := za7 BK437.out 0; have hfz5_1 := za7 BK437.out 1))
  go_ret
  exact ⟨by first | rfl | (simp [zaf, zae] <;> rfl) | (simp [*, zaf, zae] <;> rfl), by repeat (first | (with_reducible first | exact HB.out | apply za2 | apply za0 | apply za1 | refine za3 ?_ GE437.out) | exact HB.out)⟩
 ·rw [if_neg c3] at H
  have c3b0 : (a1 == 0) = false := beq_eq_false_iff_ne.mpr c3
  have c3b1 : (a1 != 0) = true := bne_iff_ne.mpr c3
  obtain rfl := Option.some.inj H
  go_enter Try.func87, Try.ntmps87
  go_wp2_with (first | ((with_reducible refine zai (N := 2) rfl ?_); refine zah ?hg (N := 2) ?hd (cs := #[.slice A0_0 l0_0.length c0_0, .int .i64 a0_1]) (t := 39) ?hr ?_; (case hd => rfl); (case hg => rfl); (case hr => first | (go_simp; done) | (go_simp; rfl)); intro gb437 hg w6 hbox hb; have n0_ := Aside0.mk (zac (by repeat (first | (with_reducible first | exact HB.out | apply za2 | apply za0 | apply za1) | exact HB.out)) hb); have n1_ := Aside0.mk (hbox); have n2_ := Aside0.mk ((by rw [hg]; exact (zaa (by repeat (first | (with_reducible first | exact HB.out | apply za2 | apply za0 | apply za1) | exact HB.out))) : w.heap.size ≤ gb437)); have n3_ := Aside0.mk ((by rw [hg]; exact (zaa (by repeat (first | (with_reducible first | exact HB.out | apply za2 | apply za0 | apply za1) | exact HB.out))) : w.heap.size ≤ gb437)); clear HB; have HB := n0_; have BK437 := n1_; have GW437 := n2_; have GE437 := n3_; clear n0_ n1_ n2_ n3_; clear hb hbox hg; have hcz7_0 : w6.cell? ⟨gb437, 0, none⟩ = some (.slice A0_0 l0_0.length c0_0) := (za8 BK437.out 0).trans rfl; have hcz7_1 : w6.cell? ⟨gb437, 1, none⟩ = some (.int .i64 a0_1) := (za8 BK437.out 1).trans rfl; have hfz7_0 := za7 BK437.out 0; have hfz7_1 := za7 BK437.out 1))
  go_ret
  exact ⟨by first | rfl | (simp [zaf, zae] <;> rfl) | (simp [*, zaf, zae] <;> rfl), by repeat (first | (with_reducible first | exact HB.out | apply za2 | apply za0 | apply za1 | refine za3 ?_ GE437.out) | exact HB.out)⟩

/-! ### spec_poMoved: function 88 -/
def spec_poMoved.f (a0_0 : Int) (a0_1 : Int) (a0_2 : Int) (a1 : Int) (a2 : Int) : Option (Int × Int × Int) := if a0_0 = 0 then (some (a0_0, a0_1, a0_2)) else (if a0_0 = 2 then (some (a0_0, a1, a0_2)) else (some (a0_0, a1, a2)))
set_option maxHeartbeats 8000000 in
set_option maxRecDepth 100000 in
theorem spec_poMoved.calls (a0_0 : Int) (a0_1 : Int) (a0_2 : Int) (a1 : Int) (a2 : Int) (r1 : Int) (r2 : Int) (r3 : Int) (w : World) (h : spec_poMoved.f a0_0 a0_1 a0_2 a1 a2 = some (r1, r2, r3)) :
  Calls Try.prog 88 #[.agg #[.int .i64 a0_0, .int .i64 a0_1, .int .i64 a0_2], .int .i64 a1, .int .i64 a2] w fun e w' => e = .returned (.agg #[.int .i64 r1, .int .i64 r2, .int .i64 r3]) ∧ Below w.heap.size w w' := by
 have hu69 := Try.underlying69
 have HB := Aside0.mk (Below.refl w.heap.size w)
 have H : (if a0_0 = 0 then (some (a0_0, a0_1, a0_2)) else (if a0_0 = 2 then (some (a0_0, a1, a0_2)) else (some (a0_0, a1, a2)))) = some (r1, r2, r3) := h
 clear h
 by_cases c4 : a0_0 = 0
 ·rw [if_pos c4] at H
  have c4b0 : (a0_0 == 0) = true := beq_iff_eq.mpr c4
  have c4b1 : (a0_0 != 0) = false := bne_eq_false_iff_eq.mpr c4
  clear c4
  simp only [Option.some.injEq, Prod.mk.injEq] at H
  obtain ⟨rfl, rfl, rfl⟩ := H
  go_enter Try.func88, Try.ntmps88
  go_wp2_with (first | ((with_reducible refine zai (N := 3) rfl ?_); refine zah ?hg (N := 3) ?hd (cs := #[.int .i64 a0_0, .int .i64 a0_1, .int .i64 a0_2]) (t := 69) ?hr ?_; (case hd => rfl); (case hg => rfl); (case hr => first | (go_simp; done) | (go_simp; rfl)); intro gb438 hg w5 hbox hb; have n0_ := Aside0.mk (zac (by repeat (first | (with_reducible first | exact HB.out | apply za2 | apply za0 | apply za1) | exact HB.out)) hb); have n1_ := Aside0.mk (hbox); have n2_ := Aside0.mk ((by rw [hg]; exact (zaa (by repeat (first | (with_reducible first | exact HB.out | apply za2 | apply za0 | apply za1) | exact HB.out))) : w.heap.size ≤ gb438)); have n3_ := Aside0.mk ((by rw [hg]; exact (zaa (by repeat (first | (with_reducible first | exact HB.out | apply za2 | apply za0 | apply za1) | exact HB.out))) : w.heap.size ≤ gb438)); clear HB; have HB := n0_; have BK438 := n1_; have GW438 := n2_; have GE438 := n3_; clear n0_ n1_ n2_ n3_; clear hb hbox hg) | ((with_reducible refine zai (N := 6) rfl ?_); refine zah ?hg (N := 6) ?hd (cs := #[.int .i64 0, .int .i64 0, .int .i64 0]) (t := 69) ?hr ?_; (case hd => rfl); (case hg => rfl); (case hr => first | (go_simp; done) | (go_simp; rfl)); intro gb439 hg w6 hbox hb; have n0_ := Aside0.mk (zad (g := gb438) (o := .cells #[.int .i64 a0_0, .int .i64 a0_1, .int .i64 a0_2] 69 (0, 0)) (by (with_reducible repeat (first | refine za5 ?_ _ | refine za6 ?_ | refine za4 ?_ _)); exact BK438.out) hb); have n1_ := Aside0.mk (zac (by repeat (first | (with_reducible first | exact HB.out | apply za2 | apply za0 | apply za1 | refine za3 ?_ GE438.out) | exact HB.out)) hb); have n2_ := Aside0.mk (hbox); have n3_ := Aside0.mk ((by rw [hg]; exact (zaa (by repeat (first | (with_reducible first | exact HB.out | apply za2 | apply za0 | apply za1 | refine za3 ?_ GE438.out) | exact HB.out))) : w.heap.size ≤ gb439)); have n4_ := Aside0.mk ((by rw [hg]; exact (zaa (by repeat (first | (with_reducible first | exact HB.out | apply za2 | apply za0 | apply za1 | refine za3 ?_ GE438.out) | exact HB.out))) : w.heap.size ≤ gb439)); have n5_ := Aside0.mk ((by rw [hg]; exact Nat.ne_of_lt (zao (g := gb438) (o := .cells #[.int .i64 a0_0, .int .i64 a0_1, .int .i64 a0_2] 69 (0, 0)) (by (with_reducible repeat (first | refine za5 ?_ _ | refine za6 ?_ | refine za4 ?_ _)); exact BK438.out)) : gb438 ≠ gb439)); have n6_ := Aside0.mk ((by rw [hg]; exact Nat.ne_of_gt (zao (g := gb438) (o := .cells #[.int .i64 a0_0, .int .i64 a0_1, .int .i64 a0_2] 69 (0, 0)) (by (with_reducible repeat (first | refine za5 ?_ _ | refine za6 ?_ | refine za4 ?_ _)); exact BK438.out)) : gb439 ≠ gb438)); clear BK438; clear HB; have BK438 := n0_; have HB := n1_; have BK439 := n2_; have GW439 := n3_; have GE439 := n4_; have NB438_439 := n5_; have NB439_438 := n6_; clear n0_ n1_ n2_ n3_ n4_ n5_ n6_; clear hb hbox hg; have hnb7 := NB438_439.out; have hnc7 := NB439_438.out; have hcz8_0 : w6.cell? ⟨gb438, 0, none⟩ = some (.int .i64 a0_0) := (za8 BK438.out 0).trans rfl; have hcz8_1 : w6.cell? ⟨gb438, 1, none⟩ = some (.int .i64 a0_1) := (za8 BK438.out 1).trans rfl; have hcz8_2 : w6.cell? ⟨gb438, 2, none⟩ = some (.int .i64 a0_2) := (za8 BK438.out 2).trans rfl; have hfz8_0 := za7 BK438.out 0; have hfz8_1 := za7 BK438.out 1; have hfz8_2 := za7 BK438.out 2; have hcz9_0 : w6.cell? ⟨gb439, 0, none⟩ = some (.int .i64 0) := (za8 BK439.out 0).trans rfl; have hcz9_1 : w6.cell? ⟨gb439, 1, none⟩ = some (.int .i64 0) := (za8 BK439.out 1).trans rfl; have hcz9_2 : w6.cell? ⟨gb439, 2, none⟩ = some (.int .i64 0) := (za8 BK439.out 2).trans rfl; have hfz9_0 := za7 BK439.out 0; have hfz9_1 := za7 BK439.out 1; have hfz9_2 := za7 BK439.out 2))
  refine bodyPost_ret (results_cell_row rfl _ _ gb439 69 #[.int .i64 a0_0, .int .i64 a0_1, .int .i64 a0_2] (0, 0) _ rfl (by (with_reducible repeat (first | refine za5 ?_ _ | refine za6 ?_ | refine za4 ?_ _)); refine zat (cs := #[.int .i64 a0_0, .int .i64 a0_1, .int .i64 0]) ?_ 2 _ rfl; (with_reducible repeat (first | refine za5 ?_ _ | refine za6 ?_ | refine za4 ?_ _)); refine zat (cs := #[.int .i64 a0_0, .int .i64 0, .int .i64 0]) ?_ 1 _ rfl; (with_reducible repeat (first | refine za5 ?_ _ | refine za6 ?_ | refine za4 ?_ _)); refine zat (cs := #[.int .i64 0, .int .i64 0, .int .i64 0]) ?_ 0 _ rfl; (with_reducible repeat (first | refine za5 ?_ _ | refine za6 ?_ | refine za4 ?_ _)); exact BK439.out) Try.underlying69 rfl (by kernel_rfl)) rfl ?_
  exact ⟨by first | rfl | (simp [zaf, zae] <;> rfl) | (simp [*, zaf, zae] <;> rfl), by repeat (first | (with_reducible first | exact HB.out | apply za2 | apply za0 | apply za1 | refine za3 ?_ GE438.out | refine za3 ?_ GE439.out) | exact HB.out)⟩
 ·rw [if_neg c4] at H
  have c4b0 : (a0_0 == 0) = false := beq_eq_false_iff_ne.mpr c4
  have c4b1 : (a0_0 != 0) = true := bne_iff_ne.mpr c4
  by_cases c10 : a0_0 = 2
  ·rw [if_pos c10] at H
   have c10b0 : (a0_0 == 2) = true := beq_iff_eq.mpr c10
   have c10b1 : (a0_0 != 2) = false := bne_eq_false_iff_eq.mpr c10
   clear c10
   simp only [Option.some.injEq, Prod.mk.injEq] at H
   obtain ⟨rfl, rfl, rfl⟩ := H
   go_enter Try.func88, Try.ntmps88
   go_wp2_with (first | ((with_reducible refine zai (N := 3) rfl ?_); refine zah ?hg (N := 3) ?hd (cs := #[.int .i64 a0_0, .int .i64 a0_1, .int .i64 a0_2]) (t := 69) ?hr ?_; (case hd => rfl); (case hg => rfl); (case hr => first | (go_simp; done) | (go_simp; rfl)); intro gb438 hg w11 hbox hb; have n0_ := Aside0.mk (zac (by repeat (first | (with_reducible first | exact HB.out | apply za2 | apply za0 | apply za1) | exact HB.out)) hb); have n1_ := Aside0.mk (hbox); have n2_ := Aside0.mk ((by rw [hg]; exact (zaa (by repeat (first | (with_reducible first | exact HB.out | apply za2 | apply za0 | apply za1) | exact HB.out))) : w.heap.size ≤ gb438)); have n3_ := Aside0.mk ((by rw [hg]; exact (zaa (by repeat (first | (with_reducible first | exact HB.out | apply za2 | apply za0 | apply za1) | exact HB.out))) : w.heap.size ≤ gb438)); clear HB; have HB := n0_; have BK438 := n1_; have GW438 := n2_; have GE438 := n3_; clear n0_ n1_ n2_ n3_; clear hb hbox hg) | ((with_reducible refine zai (N := 6) rfl ?_); refine zah ?hg (N := 6) ?hd (cs := #[.int .i64 0, .int .i64 0, .int .i64 0]) (t := 69) ?hr ?_; (case hd => rfl); (case hg => rfl); (case hr => first | (go_simp; done) | (go_simp; rfl)); intro gb439 hg w12 hbox hb; have n0_ := Aside0.mk (zad (g := gb438) (o := .cells #[.int .i64 a0_0, .int .i64 a0_1, .int .i64 a0_2] 69 (0, 0)) (by (with_reducible repeat (first | refine za5 ?_ _ | refine za6 ?_ | refine za4 ?_ _)); exact BK438.out) hb); have n1_ := Aside0.mk (zac (by repeat (first | (with_reducible first | exact HB.out | apply za2 | apply za0 | apply za1 | refine za3 ?_ GE438.out) | exact HB.out)) hb); have n2_ := Aside0.mk (hbox); have n3_ := Aside0.mk ((by rw [hg]; exact (zaa (by repeat (first | (with_reducible first | exact HB.out | apply za2 | apply za0 | apply za1 | refine za3 ?_ GE438.out) | exact HB.out))) : w.heap.size ≤ gb439)); have n4_ := Aside0.mk ((by rw [hg]; exact (zaa (by repeat (first | (with_reducible first | exact HB.out | apply za2 | apply za0 | apply za1 | refine za3 ?_ GE438.out) | exact HB.out))) : w.heap.size ≤ gb439)); have n5_ := Aside0.mk ((by rw [hg]; exact Nat.ne_of_lt (zao (g := gb438) (o := .cells #[.int .i64 a0_0, .int .i64 a0_1, .int .i64 a0_2] 69 (0, 0)) (by (with_reducible repeat (first | refine za5 ?_ _ | refine za6 ?_ | refine za4 ?_ _)); exact BK438.out)) : gb438 ≠ gb439)); have n6_ := Aside0.mk ((by rw [hg]; exact Nat.ne_of_gt (zao (g := gb438) (o := .cells #[.int .i64 a0_0, .int .i64 a0_1, .int .i64 a0_2] 69 (0, 0)) (by (with_reducible repeat (first | refine za5 ?_ _ | refine za6 ?_ | refine za4 ?_ _)); exact BK438.out)) : gb439 ≠ gb438)); clear BK438; clear HB; have BK438 := n0_; have HB := n1_; have BK439 := n2_; have GW439 := n3_; have GE439 := n4_; have NB438_439 := n5_; have NB439_438 := n6_; clear n0_ n1_ n2_ n3_ n4_ n5_ n6_; clear hb hbox hg; have hnb13 := NB438_439.out; have hnc13 := NB439_438.out; have hcz14_0 : w12.cell? ⟨gb438, 0, none⟩ = some (.int .i64 a0_0) := (za8 BK438.out 0).trans rfl; have hcz14_1 : w12.cell? ⟨gb438, 1, none⟩ = some (.int .i64 a0_1) := (za8 BK438.out 1).trans rfl; have hcz14_2 : w12.cell? ⟨gb438, 2, none⟩ = some (.int .i64 a0_2) := (za8 BK438.out 2).trans rfl; have hfz14_0 := za7 BK438.out 0; have hfz14_1 := za7 BK438.out 1; have hfz14_2 := za7 BK438.out 2; have hcz15_0 : w12.cell? ⟨gb439, 0, none⟩ = some (.int .i64 0) := (za8 BK439.out 0).trans rfl; have hcz15_1 : w12.cell? ⟨gb439, 1, none⟩ = some (.int .i64 0) := (za8 BK439.out 1).trans rfl; have hcz15_2 : w12.cell? ⟨gb439, 2, none⟩ = some (.int .i64 0) := (za8 BK439.out 2).trans rfl; have hfz15_0 := za7 BK439.out 0; have hfz15_1 := za7 BK439.out 1; have hfz15_2 := za7 BK439.out 2))
   refine bodyPost_ret (results_cell_row rfl _ _ gb439 69 #[.int .i64 a0_0, .int .i64 a1, .int .i64 a0_2] (0, 0) _ rfl (by (with_reducible repeat (first | refine za5 ?_ _ | refine za6 ?_ | refine za4 ?_ _)); refine zat (cs := #[.int .i64 a0_0, .int .i64 a1, .int .i64 0]) ?_ 2 _ rfl; (with_reducible repeat (first | refine za5 ?_ _ | refine za6 ?_ | refine za4 ?_ _)); refine zat (cs := #[.int .i64 a0_0, .int .i64 0, .int .i64 0]) ?_ 1 _ rfl; (with_reducible repeat (first | refine za5 ?_ _ | refine za6 ?_ | refine za4 ?_ _)); refine zat (cs := #[.int .i64 0, .int .i64 0, .int .i64 0]) ?_ 0 _ rfl; (with_reducible repeat (first | refine za5 ?_ _ | refine za6 ?_ | refine za4 ?_ _)); exact BK439.out) Try.underlying69 rfl (by kernel_rfl)) rfl ?_
   exact ⟨by first | rfl | (simp [zaf, zae] <;> rfl) | (simp [*, zaf, zae] <;> rfl), by repeat (first | (with_reducible first | exact HB.out | apply za2 | apply za0 | apply za1 | refine za3 ?_ GE438.out | refine za3 ?_ GE439.out) | exact HB.out)⟩
  ·rw [if_neg c10] at H
   have c10b0 : (a0_0 == 2) = false := beq_eq_false_iff_ne.mpr c10
   have c10b1 : (a0_0 != 2) = true := bne_iff_ne.mpr c10
   simp only [Option.some.injEq, Prod.mk.injEq] at H
   obtain ⟨rfl, rfl, rfl⟩ := H
   go_enter Try.func88, Try.ntmps88
   go_wp2_with (first | ((with_reducible refine zai (N := 3) rfl ?_); refine zah ?hg (N := 3) ?hd (cs := #[.int .i64 a0_0, .int .i64 a0_1, .int .i64 a0_2]) (t := 69) ?hr ?_; (case hd => rfl); (case hg => rfl); (case hr => first | (go_simp; done) | (go_simp; rfl)); intro gb438 hg w16 hbox hb; have n0_ := Aside0.mk (zac (by repeat (first | (with_reducible first | exact HB.out | apply za2 | apply za0 | apply za1) | exact HB.out)) hb); have n1_ := Aside0.mk (hbox); have n2_ := Aside0.mk ((by rw [hg]; exact (zaa (by repeat (first | (with_reducible first | exact HB.out | apply za2 | apply za0 | apply za1) | exact HB.out))) : w.heap.size ≤ gb438)); have n3_ := Aside0.mk ((by rw [hg]; exact (zaa (by repeat (first | (with_reducible first | exact HB.out | apply za2 | apply za0 | apply za1) | exact HB.out))) : w.heap.size ≤ gb438)); clear HB; have HB := n0_; have BK438 := n1_; have GW438 := n2_; have GE438 := n3_; clear n0_ n1_ n2_ n3_; clear hb hbox hg) | ((with_reducible refine zai (N := 6) rfl ?_); refine zah ?hg (N := 6) ?hd (cs := #[.int .i64 0, .int .i64 0, .int .i64 0]) (t := 69) ?hr ?_; (case hd => rfl); (case hg => rfl); (case hr => first | (go_simp; done) | (go_simp; rfl)); intro gb439 hg w17 hbox hb; have n0_ := Aside0.mk (zad (g := gb438) (o := .cells #[.int .i64 a0_0, .int .i64 a0_1, .int .i64 a0_2] 69 (0, 0)) (by (with_reducible repeat (first | refine za5 ?_ _ | refine za6 ?_ | refine za4 ?_ _)); exact BK438.out) hb); have n1_ := Aside0.mk (zac (by repeat (first | (with_reducible first | exact HB.out | apply za2 | apply za0 | apply za1 | refine za3 ?_ GE438.out) | exact HB.out)) hb); have n2_ := Aside0.mk (hbox); have n3_ := Aside0.mk ((by rw [hg]; exact (zaa (by repeat (first | (with_reducible first | exact HB.out | apply za2 | apply za0 | apply za1 | refine za3 ?_ GE438.out) | exact HB.out))) : w.heap.size ≤ gb439)); have n4_ := Aside0.mk ((by rw [hg]; exact (zaa (by repeat (first | (with_reducible first | exact HB.out | apply za2 | apply za0 | apply za1 | refine za3 ?_ GE438.out) | exact HB.out))) : w.heap.size ≤ gb439)); have n5_ := Aside0.mk ((by rw [hg]; exact Nat.ne_of_lt (zao (g := gb438) (o := .cells #[.int .i64 a0_0, .int .i64 a0_1, .int .i64 a0_2] 69 (0, 0)) (by (with_reducible repeat (first | refine za5 ?_ _ | refine za6 ?_ | refine za4 ?_ _)); exact BK438.out)) : gb438 ≠ gb439)); have n6_ := Aside0.mk ((by rw [hg]; exact Nat.ne_of_gt (zao (g := gb438) (o := .cells #[.int .i64 a0_0, .int .i64 a0_1, .int .i64 a0_2] 69 (0, 0)) (by (with_reducible repeat (first | refine za5 ?_ _ | refine za6 ?_ | refine za4 ?_ _)); exact BK438.out)) : gb439 ≠ gb438)); clear BK438; clear HB; have BK438 := n0_; have HB := n1_; have BK439 := n2_; have GW439 := n3_; have GE439 := n4_; have NB438_439 := n5_; have NB439_438 := n6_; clear n0_ n1_ n2_ n3_ n4_ n5_ n6_; clear hb hbox hg; have hnb18 := NB438_439.out; have hnc18 := NB439_438.out; have hcz19_0 : w17.cell? ⟨gb438, 0, none⟩ = some (.int .i64 a0_0) := (za8 BK438.out 0).trans rfl; have hcz19_1 : w17.cell? ⟨gb438, 1, none⟩ = some (.int .i64 a0_1) := (za8 BK438.out 1).trans rfl; have hcz19_2 : w17.cell? ⟨gb438, 2, none⟩ = some (.int .i64 a0_2) := (za8 BK438.out 2).trans rfl; have hfz19_0 := za7 BK438.out 0; have hfz19_1 := za7 BK438.out 1; have hfz19_2 := za7 BK438.out 2; have hcz20_0 : w17.cell? ⟨gb439, 0, none⟩ = some (.int .i64 0) := (za8 BK439.out 0).trans rfl; have hcz20_1 : w17.cell? ⟨gb439, 1, none⟩ = some (.int .i64 0) := (za8 BK439.out 1).trans rfl; have hcz20_2 : w17.cell? ⟨gb439, 2, none⟩ = some (.int .i64 0) := (za8 BK439.out 2).trans rfl; have hfz20_0 := za7 BK439.out 0; have hfz20_1 := za7 BK439.out 1; have hfz20_2 := za7 BK439.out 2))
   refine bodyPost_ret (results_cell_row rfl _ _ gb439 69 #[.int .i64 a0_0, .int .i64 a1, .int .i64 a2] (0, 0) _ rfl (by (with_reducible repeat (first | refine za5 ?_ _ | refine za6 ?_ | refine za4 ?_ _)); refine zat (cs := #[.int .i64 a0_0, .int .i64 a1, .int .i64 0]) ?_ 2 _ rfl; (with_reducible repeat (first | refine za5 ?_ _ | refine za6 ?_ | refine za4 ?_ _)); refine zat (cs := #[.int .i64 a0_0, .int .i64 0, .int .i64 0]) ?_ 1 _ rfl; (with_reducible repeat (first | refine za5 ?_ _ | refine za6 ?_ | refine za4 ?_ _)); refine zat (cs := #[.int .i64 0, .int .i64 0, .int .i64 0]) ?_ 0 _ rfl; (with_reducible repeat (first | refine za5 ?_ _ | refine za6 ?_ | refine za4 ?_ _)); exact BK439.out) Try.underlying69 rfl (by kernel_rfl)) rfl ?_
   exact ⟨by first | rfl | (simp [zaf, zae] <;> rfl) | (simp [*, zaf, zae] <;> rfl), by repeat (first | (with_reducible first | exact HB.out | apply za2 | apply za0 | apply za1 | refine za3 ?_ GE438.out | refine za3 ?_ GE439.out) | exact HB.out)⟩

/-! ### spec_ThenCode: function 47 -/
mutual
def spec_ThenCode.j0 : Nat → Bool → List (S69) → Int → List (S69) → Int → Option ((List (S69)) × Int × Bool)
 | 0, _, _, _, _, _ => none
 | k + 1, x16, x441000, x441001, x442000, x442001 => if x16 = true then (some (([] : List (S69)), 0, false)) else ((some (([] : List (S69)) : List (S69))).bind fun y445 => (if y445.length + x441000.length < 5864062014805 then ((spec_poBehind.f x441000 x441001 x442001).bind fun t451 => (spec_ThenCode.l0 k x442000 (x442000.length : Int) 0 x441000 x441001 (y445 ++ x441000) t451)) else (none)))
def spec_ThenCode.l0 : Nat → List (S69) → Int → Int → List (S69) → Int → List (S69) → Int → Option ((List (S69)) × Int × Bool)
 | 0, _, _, _, _, _, _, _ => none
 | k + 1, x28, x29, x30, x441000, x441001, x453000, x453001 => if x30 < x29 then (if 0 ≤ x30 then (if x30 < (x28.length : Int) then ((spec_poBehind.f x441000 x441001 ((za9 x28 x30).f1)).bind fun t460 => ((spec_poBehind.f x441000 x441001 ((za9 x28 x30).f2)).bind fun t461 => ((spec_poMoved.f ((za9 x28 x30).f0) ((za9 x28 x30).f1) ((za9 x28 x30).f2) t460 t461).bind fun bt462 => (if x453000.length < 5864062014805 then (spec_ThenCode.l0 k x28 x29 (wrap64 (x30 + 1)) x441000 x441001 (x453000 ++ [(⟨bt462.1, bt462.2.1, bt462.2.2⟩ : S69)]) x453001) else (none))))) else (none)) else (none)) else ((spec_poIf.f k x453000 x453001).bind fun bt453 => (some (bt453.1, bt453.2.1, bt453.2.2)))
end
def spec_ThenCode.f (k : Nat) (l0_0 : List (S69)) (a0_1 : Int) (l1_0 : List (S69)) (a1_1 : Int) : Option ((List (S69)) × Int × Bool) := (spec_poGood.f k l0_0 a0_1).bind fun t443 => (if t443 = true then ((spec_poGood.f k l1_0 a1_1).bind fun t444 => (spec_ThenCode.j0 k (!t444) l0_0 a0_1 l1_0 a1_1)) else (spec_ThenCode.j0 k true l0_0 a0_1 l1_0 a1_1))
theorem spec_ThenCode.mono_l : ∀ k, (∀ y0 y1 y2 y3 y4, LeO (spec_ThenCode.j0 k y0 y1 y2 y3 y4) (spec_ThenCode.j0 (k + 1) y0 y1 y2 y3 y4)) ∧ (∀ y0 y1 y2 y3 y4 y5 y6, LeO (spec_ThenCode.l0 k y0 y1 y2 y3 y4 y5 y6) (spec_ThenCode.l0 (k + 1) y0 y1 y2 y3 y4 y5 y6))
 | 0 => ⟨fun _ _ _ _ _ r h => by simp [spec_ThenCode.j0] at h, fun _ _ _ _ _ _ _ r h => by simp [spec_ThenCode.l0] at h⟩
 | k + 1 => by
  obtain ⟨ih0, ih1⟩ := spec_ThenCode.mono_l k
  refine ⟨?_, ?_⟩
  ·intro y0 y1 y2 y3 y4
   unfold spec_ThenCode.j0
   repeat' first
   | (with_reducible exact ih0 _ _ _ _ _)
   | (with_reducible exact ih1 _ _ _ _ _ _ _)
   | (with_reducible exact spec_poGood.mono _ _ _)
   | (with_reducible exact spec_poIf.mono _ _ _)
   | (with_reducible exact LeO.refl _)
   | (with_reducible exact LeO.none _)
   | (with_reducible refine LeO.ite ?_ ?_)
   | (with_reducible refine LeO.bind ?_ (fun _ => ?_))
   | exact ih0 _ _ _ _ _
   | exact ih1 _ _ _ _ _ _ _
   | exact spec_poGood.mono _ _ _
   | exact spec_poIf.mono _ _ _
   | exact LeO.none _
   | refine LeO.ite ?_ ?_
   | refine LeO.bind ?_ (fun _ => ?_)
  ·intro y0 y1 y2 y3 y4 y5 y6
   unfold spec_ThenCode.l0
   repeat' first
   | (with_reducible exact ih0 _ _ _ _ _)
   | (with_reducible exact ih1 _ _ _ _ _ _ _)
   | (with_reducible exact spec_poGood.mono _ _ _)
   | (with_reducible exact spec_poIf.mono _ _ _)
   | (with_reducible exact LeO.refl _)
   | (with_reducible exact LeO.none _)
   | (with_reducible refine LeO.ite ?_ ?_)
   | (with_reducible refine LeO.bind ?_ (fun _ => ?_))
   | exact ih0 _ _ _ _ _
   | exact ih1 _ _ _ _ _ _ _
   | exact spec_poGood.mono _ _ _
   | exact spec_poIf.mono _ _ _
   | exact LeO.none _
   | refine LeO.ite ?_ ?_
   | refine LeO.bind ?_ (fun _ => ?_)
theorem spec_ThenCode.mono : ∀ a0 a1 a2 a3 k, LeO (spec_ThenCode.f k a0 a1 a2 a3) (spec_ThenCode.f (k + 1) a0 a1 a2 a3) := by
 intro a0 a1 a2 a3 k
 obtain ⟨ih0, ih1⟩ := spec_ThenCode.mono_l k
 unfold spec_ThenCode.f
 repeat' first
   | (with_reducible exact ih0 _ _ _ _ _)
   | (with_reducible exact ih1 _ _ _ _ _ _ _)
   | (with_reducible exact spec_poGood.mono _ _ _)
   | (with_reducible exact spec_poIf.mono _ _ _)
   | (with_reducible exact LeO.refl _)
   | (with_reducible exact LeO.none _)
   | (with_reducible refine LeO.ite ?_ ?_)
   | (with_reducible refine LeO.bind ?_ (fun _ => ?_))
   | exact ih0 _ _ _ _ _
   | exact ih1 _ _ _ _ _ _ _
   | exact spec_poGood.mono _ _ _
   | exact spec_poIf.mono _ _ _
   | exact LeO.none _
   | refine LeO.ite ?_ ?_
   | refine LeO.bind ?_ (fun _ => ?_)
def spec_ThenCode.T3 : Bool × List (List Nat × List Nat) := (true, [([], []), ([], []), ([1], [1]), ([0, 2], [0, 2]), ([], []), ([], []), ([5], [5]), ([4, 6, 3], [4, 6]), ([3, 7], [3, 7]), ([], []), ([9, 8, 7, 0, 1, 2, 3, 4, 5, 6, 7, 8, 9], [8, 9])])
def spec_ThenCode.B3 : List Nat := [0, 0, 2, 7, 0, 0, 32, 127, 255, 0, 1023]
theorem spec_ThenCode.tab3 : rtab .any (opsOf Try.f47 3) = spec_ThenCode.T3 := by kernel_rfl
theorem spec_ThenCode.bits3 : waitsOk spec_ThenCode.T3.2 spec_ThenCode.B3 = true := by kernel_rfl
def spec_ThenCode.T7 : Bool × List (List Nat × List Nat) := (true, [([], []), ([0], [0]), ([], []), ([], []), ([], []), ([4], [4]), ([3, 5], [3, 5]), ([], []), ([], []), ([8], [8]), ([7, 9, 6], [7, 9]), ([2, 6, 10, 10], [2, 6, 10]), ([11], [11]), ([1, 12, 11], [1, 12]), ([0, 1, 2, 3, 4, 5, 6, 7, 8, 9, 10, 11, 12, 13], []), ([14, 13, 13, 0, 1, 2, 3, 4, 5, 6, 7, 8, 9, 10, 11, 12, 13], [13, 14])])
def spec_ThenCode.B7 : List Nat := [0, 1, 0, 0, 0, 16, 56, 0, 0, 256, 1016, 2044, 4092, 8191, 16383, 32767]
theorem spec_ThenCode.tab7 : rtab .any (opsOf Try.f47 7) = spec_ThenCode.T7 := by kernel_rfl
theorem spec_ThenCode.bits7 : waitsOk spec_ThenCode.T7.2 spec_ThenCode.B7 = true := by kernel_rfl
set_option maxHeartbeats 8000000 in
set_option maxRecDepth 100000 in
theorem spec_ThenCode.calls (k : Nat) (A0_0 : Option Addr) (c0_0 : Nat) (l0_0 : List (S69)) (a0_1 : Int) (A1_0 : Option Addr) (c1_0 : Nat) (l1_0 : List (S69)) (a1_1 : Int) (r1 : List (S69)) (r2 : Int) (r3 : Bool) (w : World) (hr0_0 : Kd.C k69 w A0_0 l0_0.length l0_0) (hc0_0 : l0_0.length ≤ c0_0) (hr1_0 : Kd.C k69 w A1_0 l1_0.length l1_0) (hc1_0 : l1_0.length ≤ c1_0) (h : spec_ThenCode.f k l0_0 a0_1 l1_0 a1_1 = some (r1, r2, r3)) :
  Calls Try.prog 47 #[.agg #[.slice A0_0 l0_0.length c0_0, .int .i64 a0_1], .agg #[.slice A1_0 l1_0.length c1_0, .int .i64 a1_1]] w fun e w' => ∃ v0_ : Value, e = .returned (.tuple #[.agg #[v0_, .int .i64 r2], .bool r3]) ∧ Kd.R k69 69 w' w.heap.size (fun _ => True) v0_ r1 ∧ Below w.heap.size w w' := by
 have hu39 := Try.underlying39
 have hu69 := Try.underlying69
 have HR0_0 := Aside0.mk hr0_0
 have HC0_0 := Aside0.mk hc0_0
 clear hr0_0 hc0_0
 have HR1_0 := Aside0.mk hr1_0
 have HC1_0 := Aside0.mk hc1_0
 clear hr1_0 hc1_0
 have HB := Aside0.mk (Below.refl w.heap.size w)
 have H : ((spec_poGood.f k l0_0 a0_1).bind fun t443 => (if t443 = true then ((spec_poGood.f k l1_0 a1_1).bind fun t444 => (spec_ThenCode.j0 k (!t444) l0_0 a0_1 l1_0 a1_1)) else (spec_ThenCode.j0 k true l0_0 a0_1 l1_0 a1_1))) = some (r1, r2, r3) := h
 clear h
 have HC3 := Aside0.mk H
 clear H
 go_enter Try.func47, Try.ntmps47
 go_upto_region 1 with (first | ((with_reducible refine zai (N := 2) rfl ?_); refine zah ?hg (N := 2) ?hd (cs := #[.slice A0_0 l0_0.length c0_0, .int .i64 a0_1]) (t := 39) ?hr ?_; (case hd => rfl); (case hg => rfl); (case hr => first | (go_simp; done) | (go_simp; rfl)); intro gb440 hg w4 hbox hb; have n0_ := Aside0.mk (zac (by repeat (first | (with_reducible first | exact HB.out | apply za2 | apply za0 | apply za1) | exact HB.out)) hb); have n1_ := Aside0.mk (hbox); have n2_ := Aside0.mk ((by rw [hg]; exact (zaa (by repeat (first | (with_reducible first | exact HB.out | apply za2 | apply za0 | apply za1) | exact HB.out))) : w.heap.size ≤ gb440)); have n3_ := Aside0.mk ((by rw [hg]; exact (zaa (by repeat (first | (with_reducible first | exact HB.out | apply za2 | apply za0 | apply za1) | exact HB.out))) : w.heap.size ≤ gb440)); clear HB; have HB := n0_; have BK440 := n1_; have GW440 := n2_; have GE440 := n3_; clear n0_ n1_ n2_ n3_; clear hb hbox hg) | ((with_reducible refine zai (N := 3) rfl ?_); refine zah ?hg (N := 3) ?hd (cs := #[.slice A1_0 l1_0.length c1_0, .int .i64 a1_1]) (t := 39) ?hr ?_; (case hd => rfl); (case hg => rfl); (case hr => first | (go_simp; done) | (go_simp; rfl)); intro gb441 hg w5 hbox hb; have n0_ := Aside0.mk (zad (g := gb440) (o := .cells #[.slice A0_0 l0_0.length c0_0, .int .i64 a0_1] 39 (0, 0)) (by (with_reducible repeat (first | refine za5 ?_ _ | refine za6 ?_ | refine za4 ?_ _)); exact BK440.out) hb); have n1_ := Aside0.mk (zac (by repeat (first | (with_reducible first | exact HB.out | apply za2 | apply za0 | apply za1 | refine za3 ?_ GE440.out) | exact HB.out)) hb); have n2_ := Aside0.mk (hbox); have n3_ := Aside0.mk ((by rw [hg]; exact (zaa (by repeat (first | (with_reducible first | exact HB.out | apply za2 | apply za0 | apply za1 | refine za3 ?_ GE440.out) | exact HB.out))) : w.heap.size ≤ gb441)); have n4_ := Aside0.mk ((by rw [hg]; exact (zaa (by repeat (first | (with_reducible first | exact HB.out | apply za2 | apply za0 | apply za1 | refine za3 ?_ GE440.out) | exact HB.out))) : w.heap.size ≤ gb441)); have n5_ := Aside0.mk ((by rw [hg]; exact Nat.ne_of_lt (zao (g := gb440) (o := .cells #[.slice A0_0 l0_0.length c0_0, .int .i64 a0_1] 39 (0, 0)) (by (with_reducible repeat (first | refine za5 ?_ _ | refine za6 ?_ | refine za4 ?_ _)); exact BK440.out)) : gb440 ≠ gb441)); have n6_ := Aside0.mk ((by rw [hg]; exact Nat.ne_of_gt (zao (g := gb440) (o := .cells #[.slice A0_0 l0_0.length c0_0, .int .i64 a0_1] 39 (0, 0)) (by (with_reducible repeat (first | refine za5 ?_ _ | refine za6 ?_ | refine za4 ?_ _)); exact BK440.out)) : gb441 ≠ gb440)); clear BK440; clear HB; have BK440 := n0_; have HB := n1_; have BK441 := n2_; have GW441 := n3_; have GE441 := n4_; have NB440_441 := n5_; have NB441_440 := n6_; clear n0_ n1_ n2_ n3_ n4_ n5_ n6_; clear hb hbox hg) | ((with_reducible refine zai (N := 4) rfl ?_); refine zah ?hg (N := 4) ?hd (cs := #[.slice none 0 0, .int .i64 0]) (t := 39) ?hr ?_; (case hd => rfl); (case hg => rfl); (case hr => first | (go_simp; done) | (go_simp; rfl)); intro gb442 hg w6 hbox hb; have n0_ := Aside0.mk (zad (g := gb440) (o := .cells #[.slice A0_0 l0_0.length c0_0, .int .i64 a0_1] 39 (0, 0)) (by (with_reducible repeat (first | refine za5 ?_ _ | refine za6 ?_ | refine za4 ?_ _)); exact BK440.out) hb); have n1_ := Aside0.mk (zad (g := gb441) (o := .cells #[.slice A1_0 l1_0.length c1_0, .int .i64 a1_1] 39 (0, 0)) (by (with_reducible repeat (first | refine za5 ?_ _ | refine za6 ?_ | refine za4 ?_ _)); exact BK441.out) hb); have n2_ := Aside0.mk (zac (by repeat (first | (with_reducible first | exact HB.out | apply za2 | apply za0 | apply za1 | refine za3 ?_ GE440.out | refine za3 ?_ GE441.out) | exact HB.out)) hb); have n3_ := Aside0.mk (hbox); have n4_ := Aside0.mk ((by rw [hg]; exact (zaa (by repeat (first | (with_reducible first | exact HB.out | apply za2 | apply za0 | apply za1 | refine za3 ?_ GE440.out | refine za3 ?_ GE441.out) | exact HB.out))) : w.heap.size ≤ gb442)); have n5_ := Aside0.mk ((by rw [hg]; exact (zaa (by repeat (first | (with_reducible first | exact HB.out | apply za2 | apply za0 | apply za1 | refine za3 ?_ GE440.out | refine za3 ?_ GE441.out) | exact HB.out))) : w.heap.size ≤ gb442)); have n6_ := Aside0.mk ((by rw [hg]; exact Nat.ne_of_lt (zao (g := gb440) (o := .cells #[.slice A0_0 l0_0.length c0_0, .int .i64 a0_1] 39 (0, 0)) (by (with_reducible repeat (first | refine za5 ?_ _ | refine za6 ?_ | refine za4 ?_ _)); exact BK440.out)) : gb440 ≠ gb442)); have n7_ := Aside0.mk ((by rw [hg]; exact Nat.ne_of_gt (zao (g := gb440) (o := .cells #[.slice A0_0 l0_0.length c0_0, .int .i64 a0_1] 39 (0, 0)) (by (with_reducible repeat (first | refine za5 ?_ _ | refine za6 ?_ | refine za4 ?_ _)); exact BK440.out)) : gb442 ≠ gb440)); have n8_ := Aside0.mk ((by rw [hg]; exact Nat.ne_of_lt (zao (g := gb441) (o := .cells #[.slice A1_0 l1_0.length c1_0, .int .i64 a1_1] 39 (0, 0)) (by (with_reducible repeat (first | refine za5 ?_ _ | refine za6 ?_ | refine za4 ?_ _)); exact BK441.out)) : gb441 ≠ gb442)); have n9_ := Aside0.mk ((by rw [hg]; exact Nat.ne_of_gt (zao (g := gb441) (o := .cells #[.slice A1_0 l1_0.length c1_0, .int .i64 a1_1] 39 (0, 0)) (by (with_reducible repeat (first | refine za5 ?_ _ | refine za6 ?_ | refine za4 ?_ _)); exact BK441.out)) : gb442 ≠ gb441)); clear BK440; clear BK441; clear HB; have BK440 := n0_; have BK441 := n1_; have HB := n2_; have BK442 := n3_; have GW442 := n4_; have GE442 := n5_; have NB440_442 := n6_; have NB442_440 := n7_; have NB441_442 := n8_; have NB442_441 := n9_; clear n0_ n1_ n2_ n3_ n4_ n5_ n6_ n7_ n8_ n9_; clear hb hbox hg))
 (try simp only [Act.put, List.setIfInBounds_toArray, List.set_cons_zero, List.set_cons_succ])
 go_cut [16] (fun v16 wc => ∃ (kq : Nat) (x16_2 : Bool), v16 = .bool x16_2 ∧ Aside0 (spec_ThenCode.j0 kq x16_2 l0_0 a0_1 l1_0 a1_1 = some (r1, r2, r3)) ∧ Aside0 (kq ≤ k) ∧ Aside0 (wc.heap[gb440]? = some (.cells #[(.slice A0_0 l0_0.length c0_0), .int .i64 a0_1] 39 (0, 0))) ∧ Aside0 (wc.heap[gb441]? = some (.cells #[(.slice A1_0 l1_0.length c1_0), .int .i64 a1_1] 39 (0, 0))) ∧ Aside0 (wc.heap[gb442]? = some (.cells #[(.slice none 0 0), .int .i64 0] 39 (0, 0))) ∧ Aside0 (Below w.heap.size w wc))
 case first =>
  have H := HC3.out
  clear HC3
  replace H := Option.bind_eq_some_iff.mp H
  obtain ⟨t443, A70, H⟩ := H
  replace H : (if t443 = true then ((spec_poGood.f k l1_0 a1_1).bind fun t444 => (spec_ThenCode.j0 k (!t444) l0_0 a0_1 l1_0 a1_1)) else (spec_ThenCode.j0 k true l0_0 a0_1 l1_0 a1_1)) = some (r1, r2, r3) := H
  have A7 := Aside0.mk A70
  clear A70
  by_cases c8 : t443 = true
  ·subst c8
   have H1 : ((spec_poGood.f k l1_0 a1_1).bind fun t444 => (spec_ThenCode.j0 k (!t444) l0_0 a0_1 l1_0 a1_1)) = some (r1, r2, r3) := by rw [if_pos rfl] at H; exact H
   clear H
   have H := H1
   clear H1
   replace H := Option.bind_eq_some_iff.mp H
   obtain ⟨t444, A90, H⟩ := H
   replace H : (spec_ThenCode.j0 k (!t444) l0_0 a0_1 l1_0 a1_1) = some (r1, r2, r3) := H
   have A9 := Aside0.mk A90
   clear A90
   have H' := Aside0.mk H
   clear H
   have hnb10 := NB440_441.out
   have hnc10 := NB441_440.out
   have hnb11 := NB440_442.out
   have hnc11 := NB442_440.out
   have hcz12_0 : w6.cell? ⟨gb440, 0, none⟩ = some (.slice A0_0 l0_0.length c0_0) := (za8 BK440.out 0).trans rfl
   have hcz12_1 : w6.cell? ⟨gb440, 1, none⟩ = some (.int .i64 a0_1) := (za8 BK440.out 1).trans rfl
   have hfz12_0 := za7 BK440.out 0
   have hfz12_1 := za7 BK440.out 1
   go_wp2_with (first | ((with_reducible refine zal (f := 65) rfl ?_); refine goesL_ (some 10) rfl rfl Try.func65 (by kernel_rfl) rfl #[.agg #[.slice A0_0 l0_0.length c0_0, .int .i64 a0_1]] rfl (by (try simp only [List.map_toArray, List.map_cons, List.map_nil]); first | done | rfl | (simp only [List.length_drop, List.length_take]; rfl)) ?_; (with_reducible refine (spec_poGood.calls k _ _ l0_0 a0_1 true _ ?side1 ?side2 A7.out).mono ?_); (case side1 => repeat (first | exact (Kd.zar HR0_0.out HB.out) | (with_reducible refine Kd.zav ?_ _) | (with_reducible refine Kd.zau ?_ _) | (with_reducible refine Kd.zaz ?_))); (case side2 => exact HC0_0.out); rintro e w13 ⟨rfl, hb⟩; refine ⟨_, rfl, ?_⟩; have n0_ := Aside0.mk (zad (g := gb440) (o := .cells #[.slice A0_0 l0_0.length c0_0, .int .i64 a0_1] 39 (0, 0)) (by (with_reducible repeat (first | refine za5 ?_ _ | refine za6 ?_ | refine za4 ?_ _)); exact BK440.out) hb); have n1_ := Aside0.mk (zad (g := gb441) (o := .cells #[.slice A1_0 l1_0.length c1_0, .int .i64 a1_1] 39 (0, 0)) (by (with_reducible repeat (first | refine za5 ?_ _ | refine za6 ?_ | refine za4 ?_ _)); exact BK441.out) hb); have n2_ := Aside0.mk (zad (g := gb442) (o := .cells #[.slice none 0 0, .int .i64 0] 39 (0, 0)) (by (with_reducible repeat (first | refine za5 ?_ _ | refine za6 ?_ | refine za4 ?_ _)); exact BK442.out) hb); have n3_ := Aside0.mk (zac (by repeat (first | (with_reducible first | exact HB.out | apply za2 | apply za0 | apply za1 | refine za3 ?_ GE440.out | refine za3 ?_ GE441.out | refine za3 ?_ GE442.out) | exact HB.out)) hb); clear BK440; clear BK441; clear BK442; clear HB; have BK440 := n0_; have BK441 := n1_; have BK442 := n2_; have HB := n3_; clear n0_ n1_ n2_ n3_; (try clear hb); (try clear hb2); (try clear hk); (try clear hi); have hnb14 := NB441_442.out; have hnc14 := NB442_441.out; have hcz15_0 : w13.cell? ⟨gb441, 0, none⟩ = some (.slice A1_0 l1_0.length c1_0) := (za8 BK441.out 0).trans rfl; have hcz15_1 : w13.cell? ⟨gb441, 1, none⟩ = some (.int .i64 a1_1) := (za8 BK441.out 1).trans rfl; have hfz15_0 := za7 BK441.out 0; have hfz15_1 := za7 BK441.out 1) | (go_at_call 65; (with_reducible refine (spec_poGood.calls k _ _ l1_0 a1_1 t444 _ ?side1 ?side2 A9.out).mono ?_); (case side1 => repeat (first | exact (Kd.zar HR1_0.out HB.out) | (with_reducible refine Kd.zav ?_ _) | (with_reducible refine Kd.zau ?_ _) | (with_reducible refine Kd.zaz ?_))); (case side2 => exact HC1_0.out); rintro e w16 ⟨rfl, hb⟩; have n0_ := Aside0.mk (zad (g := gb440) (o := .cells #[.slice A0_0 l0_0.length c0_0, .int .i64 a0_1] 39 (0, 0)) (by (with_reducible repeat (first | refine za5 ?_ _ | refine za6 ?_ | refine za4 ?_ _)); exact BK440.out) hb); have n1_ := Aside0.mk (zad (g := gb441) (o := .cells #[.slice A1_0 l1_0.length c1_0, .int .i64 a1_1] 39 (0, 0)) (by (with_reducible repeat (first | refine za5 ?_ _ | refine za6 ?_ | refine za4 ?_ _)); exact BK441.out) hb); have n2_ := Aside0.mk (zad (g := gb442) (o := .cells #[.slice none 0 0, .int .i64 0] 39 (0, 0)) (by (with_reducible repeat (first | refine za5 ?_ _ | refine za6 ?_ | refine za4 ?_ _)); exact BK442.out) hb); have n3_ := Aside0.mk (zac (by repeat (first | (with_reducible first | exact HB.out | apply za2 | apply za0 | apply za1 | refine za3 ?_ GE440.out | refine za3 ?_ GE441.out | refine za3 ?_ GE442.out) | exact HB.out)) hb); clear BK440; clear BK441; clear BK442; clear HB; have BK440 := n0_; have BK441 := n1_; have BK442 := n2_; have HB := n3_; clear n0_ n1_ n2_ n3_; (try clear hb); (try clear hb2); (try clear hk); (try clear hi)))
   go_meet
   case rel => exact ⟨_, (!t444), (by first | rfl | (simp; done) | (simp [*]; done)), H', ⟨by first | omega | exact Nat.le_refl _⟩, ⟨by (with_reducible repeat (first | refine za5 ?_ _ | refine za6 ?_ | refine za4 ?_ _)); exact BK440.out⟩, ⟨by (with_reducible repeat (first | refine za5 ?_ _ | refine za6 ?_ | refine za4 ?_ _)); exact BK441.out⟩, ⟨by (with_reducible repeat (first | refine za5 ?_ _ | refine za6 ?_ | refine za4 ?_ _)); exact BK442.out⟩, ⟨by repeat (first | (with_reducible first | exact HB.out | apply za2 | apply za0 | apply za1 | refine za3 ?_ GE440.out | refine za3 ?_ GE441.out | refine za3 ?_ GE442.out) | exact HB.out)⟩⟩
  ·replace c8 := Bool.eq_false_iff.mpr c8
   subst c8
   have H1 : (spec_ThenCode.j0 k true l0_0 a0_1 l1_0 a1_1) = some (r1, r2, r3) := by rw [if_neg (show ¬ (false = true) by decide)] at H; exact H
   clear H
   have H := H1
   clear H1
   have H' := Aside0.mk H
   clear H
   have hnb17 := NB440_441.out
   have hnc17 := NB441_440.out
   have hnb18 := NB440_442.out
   have hnc18 := NB442_440.out
   have hcz19_0 : w6.cell? ⟨gb440, 0, none⟩ = some (.slice A0_0 l0_0.length c0_0) := (za8 BK440.out 0).trans rfl
   have hcz19_1 : w6.cell? ⟨gb440, 1, none⟩ = some (.int .i64 a0_1) := (za8 BK440.out 1).trans rfl
   have hfz19_0 := za7 BK440.out 0
   have hfz19_1 := za7 BK440.out 1
   go_wp2_with (first | ((with_reducible refine zal (f := 65) rfl ?_); refine goesL_ (some 10) rfl rfl Try.func65 (by kernel_rfl) rfl #[.agg #[.slice A0_0 l0_0.length c0_0, .int .i64 a0_1]] rfl (by (try simp only [List.map_toArray, List.map_cons, List.map_nil]); first | done | rfl | (simp only [List.length_drop, List.length_take]; rfl)) ?_; (with_reducible refine (spec_poGood.calls k _ _ l0_0 a0_1 false _ ?side1 ?side2 A7.out).mono ?_); (case side1 => repeat (first | exact (Kd.zar HR0_0.out HB.out) | (with_reducible refine Kd.zav ?_ _) | (with_reducible refine Kd.zau ?_ _) | (with_reducible refine Kd.zaz ?_))); (case side2 => exact HC0_0.out); rintro e w20 ⟨rfl, hb⟩; refine ⟨_, rfl, ?_⟩; have n0_ := Aside0.mk (zad (g := gb440) (o := .cells #[.slice A0_0 l0_0.length c0_0, .int .i64 a0_1] 39 (0, 0)) (by (with_reducible repeat (first | refine za5 ?_ _ | refine za6 ?_ | refine za4 ?_ _)); exact BK440.out) hb); have n1_ := Aside0.mk (zad (g := gb441) (o := .cells #[.slice A1_0 l1_0.length c1_0, .int .i64 a1_1] 39 (0, 0)) (by (with_reducible repeat (first | refine za5 ?_ _ | refine za6 ?_ | refine za4 ?_ _)); exact BK441.out) hb); have n2_ := Aside0.mk (zad (g := gb442) (o := .cells #[.slice none 0 0, .int .i64 0] 39 (0, 0)) (by (with_reducible repeat (first | refine za5 ?_ _ | refine za6 ?_ | refine za4 ?_ _)); exact BK442.out) hb); have n3_ := Aside0.mk (zac (by repeat (first | (with_reducible first | exact HB.out | apply za2 | apply za0 | apply za1 | refine za3 ?_ GE440.out | refine za3 ?_ GE441.out | refine za3 ?_ GE442.out) | exact HB.out)) hb); clear BK440; clear BK441; clear BK442; clear HB; have BK440 := n0_; have BK441 := n1_; have BK442 := n2_; have HB := n3_; clear n0_ n1_ n2_ n3_; (try clear hb); (try clear hb2); (try clear hk); (try clear hi)))
   go_meet
   case rel => exact ⟨_, (true), (by first | rfl | (simp; done) | (simp [*]; done)), H', ⟨by first | omega | exact Nat.le_refl _⟩, ⟨by (with_reducible repeat (first | refine za5 ?_ _ | refine za6 ?_ | refine za4 ?_ _)); exact BK440.out⟩, ⟨by (with_reducible repeat (first | refine za5 ?_ _ | refine za6 ?_ | refine za4 ?_ _)); exact BK441.out⟩, ⟨by (with_reducible repeat (first | refine za5 ?_ _ | refine za6 ?_ | refine za4 ?_ _)); exact BK442.out⟩, ⟨by repeat (first | (with_reducible first | exact HB.out | apply za2 | apply za0 | apply za1 | refine za3 ?_ GE440.out | refine za3 ?_ GE441.out | refine za3 ?_ GE442.out) | exact HB.out)⟩⟩
 case rest =>
  clear HC3
  try clear c1
  try clear p2
  try clear c4
  try clear c6
  try clear c8
  try clear c10
  try clear c11
  try clear c14
  try clear c17
  try clear c18
  try clear hcz12_0
  try clear hcz12_1
  try clear hcz15_0
  try clear hcz15_1
  try clear hcz19_0
  try clear hcz19_1
  try clear hfz12_0
  try clear hfz12_1
  try clear hfz15_0
  try clear hfz15_1
  try clear hfz19_0
  try clear hfz19_1
  obtain ⟨kq, x16_2, rfl, HA, HJ2, BK440, BK441, BK442, HB⟩ := hcut
  cases kq with
  | zero => exact absurd HA.out (by simp [spec_ThenCode.j0])
  | succ kj2 =>
   have H := HA.out
   clear HA
   simp only [spec_ThenCode.j0] at H
   by_cases c21 : x16_2 = true
   ·subst c21
    have H1 : (some (([] : List (S69)), 0, false)) = some (r1, r2, r3) := by rw [if_pos rfl] at H; exact H
    clear H
    have H := H1
    clear H1
    simp only [Option.some.injEq, Prod.mk.injEq] at H
    obtain ⟨rfl, rfl, rfl⟩ := H
    have hnb22 := NB442_440.out
    have hnc22 := NB440_442.out
    have hnb23 := NB442_441.out
    have hnc23 := NB441_442.out
    have hcz24_0 : wc.cell? ⟨gb442, 0, none⟩ = some (.slice none 0 0) := (za8 BK442.out 0).trans rfl
    have hcz24_1 : wc.cell? ⟨gb442, 1, none⟩ = some (.int .i64 0) := (za8 BK442.out 1).trans rfl
    have hfz24_0 := za7 BK442.out 0
    have hfz24_1 := za7 BK442.out 1
    go_wp2
    refine bodyPost_ret (results_ct rfl _ _ gb442 39 #[.slice none 0 0, .int .i64 0] (0, 0) _ rfl (by (with_reducible repeat (first | refine za5 ?_ _ | refine za6 ?_ | refine za4 ?_ _)); refine zat (cs := #[.slice none 0 0, .int .i64 0]) ?_ 1 _ rfl; (with_reducible repeat (first | refine za5 ?_ _ | refine za6 ?_ | refine za4 ?_ _)); refine zat (cs := #[.slice none 0 0, .int .i64 0]) ?_ 0 _ rfl; (with_reducible repeat (first | refine za5 ?_ _ | refine za6 ?_ | refine za4 ?_ _)); exact BK442.out) Try.underlying39 rfl (by kernel_rfl)) rfl ?_
    exact ⟨_, by first | rfl | (simp [zaf, zae] <;> rfl) | (simp [*, zaf, zae] <;> rfl), by first | exact Kd.R_nil _ _ _ _ _ | exact Kd.N_nil _ _ _ _ _ | exact Kd.V_nil _ _ _ _ _ | exact Kd.Q_nil _ _ _ _ _ | exact Kd.S_nil _ _ _ _ _, by repeat (first | (with_reducible first | exact HB.out | apply za2 | apply za0 | apply za1 | refine za3 ?_ GE440.out | refine za3 ?_ GE441.out | refine za3 ?_ GE442.out) | exact HB.out)⟩
   ·replace c21 := Bool.eq_false_iff.mpr c21
    subst c21
    have H1 : ((some (([] : List (S69)) : List (S69))).bind fun y445 => (if y445.length + l0_0.length < 5864062014805 then ((spec_poBehind.f l0_0 a0_1 a1_1).bind fun t451 => (spec_ThenCode.l0 kj2 l1_0 (l1_0.length : Int) 0 l0_0 a0_1 (y445 ++ l0_0) t451)) else (none))) = some (r1, r2, r3) := by rw [if_neg (show ¬ (false = true) by decide)] at H; exact H
    clear H
    have H := H1
    clear H1
    obtain ⟨y445, hy445⟩ : ∃ y_ : List (S69), y_ = (([] : List (S69))) := ⟨_, rfl⟩
    replace H : (if y445.length + l0_0.length < 5864062014805 then ((spec_poBehind.f l0_0 a0_1 a1_1).bind fun t451 => (spec_ThenCode.l0 kj2 l1_0 (l1_0.length : Int) 0 l0_0 a0_1 (y445 ++ l0_0) t451)) else (none)) = some (r1, r2, r3) := by first | (rw [hy445]; with_reducible exact H) | (have H2_ := (Option.bind_some _ _).symm.trans H; rw [hy445]; with_reducible exact H2_) | (have H2_ := (Option.bind_some _ _).symm.trans H; with_reducible exact H2_) | with_reducible exact H | (rw [hy445]; exact H) | exact H
    have Ny445 := Aside0.mk hy445
    clear hy445
    by_cases c25 : y445.length + l0_0.length < 5864062014805
    ·rw [if_pos c25] at H
     have LMc25 := Aside0.mk c25
     clear c25
     obtain ⟨y448, hy448⟩ : ∃ y_ : List (S69), y_ = (y445 ++ l0_0) := ⟨_, rfl⟩
     replace H : ((spec_poBehind.f l0_0 a0_1 a1_1).bind fun t451 => (spec_ThenCode.l0 kj2 l1_0 (l1_0.length : Int) 0 l0_0 a0_1 y448 t451)) = some (r1, r2, r3) := by first | (rw [hy448]; with_reducible exact H) | (have H2_ := (Option.bind_some _ _).symm.trans H; rw [hy448]; with_reducible exact H2_) | (have H2_ := (Option.bind_some _ _).symm.trans H; with_reducible exact H2_) | with_reducible exact H | (rw [hy448]; exact H) | exact H
     have Ny448 := Aside0.mk hy448
     clear hy448
     replace H := Option.bind_eq_some_iff.mp H
     obtain ⟨t451, A260, H⟩ := H
     replace H : (spec_ThenCode.l0 kj2 l1_0 (l1_0.length : Int) 0 l0_0 a0_1 y448 t451) = some (r1, r2, r3) := H
     have A26 := Aside0.mk A260
     clear A260
     have H' := Aside0.mk H
     clear H
     try go_wp2
     have n0_ := Aside0.mk (za6 BK440.out)
     have n1_ := Aside0.mk (za6 BK441.out)
     have n2_ := Aside0.mk (za6 BK442.out)
     have n3_ := Aside0.mk (za1 HB.out)
     clear BK440
     clear BK441
     clear BK442
     clear HB
     have BK440 := n0_
     have BK441 := n1_
     have BK442 := n2_
     have HB := n3_
     clear n0_ n1_ n2_ n3_
     refine start_ (n := 11) (S := fun w' => w'.cell? ⟨gb440, 0, none⟩ = some (.slice A0_0 l0_0.length c0_0) ∧ w'.cell? ⟨gb440, 1, none⟩ = some (.int .i64 a0_1) ∧ w'.cell? ⟨gb441, 0, none⟩ = some (.slice A1_0 l1_0.length c1_0) ∧ w'.cell? ⟨gb441, 1, none⟩ = some (.int .i64 a1_1)) (ds := []) #[false, false, false, false, false, false, false, false, false, false, false] (by kernel_rfl) rfl rfl ⟨(za8 BK440.out 0).trans rfl, (za8 BK440.out 1).trans rfl, (za8 BK441.out 0).trans rfl, (za8 BK441.out 1).trans rfl⟩ (fun hHeld => ?_); refine with_tabW spec_ThenCode.tab3 spec_ThenCode.bits3 (fun HT_ HW_ => ?_)
     generalize wc.drew = w27 at BK440 BK441 BK442 HB hHeld ⊢
     refine pure_ (i := 1) (N := some 19) (v := ?_) (a' := ?_) #[false, true, false, false, false, false, false, false, false, false, false] rfl rfl (zan HT_.out (by kernel_rfl)) (fun _ _ _ h => h) (Or.inl ⟨by rfl, ?_⟩) ?_ ?_
     rotate_left
     ·intro w'
      go_simp
      with_reducible rfl
     rotate_left
     ·simp only [Act.put, List.setIfInBounds_toArray, List.set_cons_zero, List.set_cons_succ, i64_w, i32_w]
      rfl
     refine pure_ (i := 5) (N := some 23) (v := ?_) (a' := ?_) #[false, true, false, false, false, true, false, false, false, false, false] rfl rfl (zan HT_.out (by kernel_rfl)) (fun _ _ _ h => h) (Or.inl ⟨by rfl, ?_⟩) ?_ ?_
     rotate_left
     ·intro w'
      go_simp
      with_reducible rfl
     rotate_left
     ·simp only [Act.put, List.setIfInBounds_toArray, List.set_cons_zero, List.set_cons_succ, i64_w, i32_w]
      rfl
     refine take_ (i := 2) (N := some 20) (v := ?_) (a' := ?_) #[false, true, true, false, false, true, false, false, false, false, false] rfl rfl (zax HT_.out HW_.out (by kernel_rfl)) (fun _ _ _ h => h) (Or.inl ⟨by rfl, ?_⟩) hHeld ?_ ?_
     rotate_left
     ·rintro w' ⟨s0, s1, s2, s3⟩
      go_simp
      with_reducible rfl
     rotate_left
     ·simp only [Act.put, List.setIfInBounds_toArray, List.set_cons_zero, List.set_cons_succ, i64_w, i32_w]
      rfl
     refine take_ (i := 4) (N := some 22) (v := ?_) (a' := ?_) #[false, true, true, false, true, true, false, false, false, false, false] rfl rfl (zax HT_.out HW_.out (by kernel_rfl)) (fun _ _ _ h => h) (Or.inl ⟨by rfl, ?_⟩) hHeld ?_ ?_
     rotate_left
     ·rintro w' ⟨s0, s1, s2, s3⟩
      go_simp
      with_reducible rfl
     rotate_left
     ·simp only [Act.put, List.setIfInBounds_toArray, List.set_cons_zero, List.set_cons_succ, i64_w, i32_w]
      rfl
     refine take_ (i := 6) (N := some 24) (v := ?_) (a' := ?_) #[false, true, true, false, true, true, true, false, false, false, false] rfl rfl (zax HT_.out HW_.out (by kernel_rfl)) (fun _ _ _ h => h) (Or.inl ⟨by rfl, ?_⟩) hHeld ?_ ?_
     rotate_left
     ·rintro w' ⟨s0, s1, s2, s3⟩
      go_simp
      with_reducible rfl
     rotate_left
     ·simp only [Act.put, List.setIfInBounds_toArray, List.set_cons_zero, List.set_cons_succ, i64_w, i32_w]
      rfl
     refine join_ (σ := Value × Value × Nat) 1 #[true, true, true, true, true, true, true, true, true, true, false] (fun s_ => [(18, s_.1), (21, s_.2.1), (25, .int .i64 t451), (6, .pointer (some ⟨s_.2.2, 0, none⟩)), (26, .agg #[s_.2.1, .int .i64 t451])]) (fun s_ w' => (w'.cell? ⟨gb440, 0, none⟩ = some (.slice A0_0 l0_0.length c0_0) ∧ w'.cell? ⟨gb440, 1, none⟩ = some (.int .i64 a0_1) ∧ w'.cell? ⟨gb441, 0, none⟩ = some (.slice A1_0 l1_0.length c1_0) ∧ w'.cell? ⟨gb441, 1, none⟩ = some (.int .i64 a1_1)) ∧ (Kd.R k69 69 w' w.heap.size (fun _ => True) s_.2.1 y448) ∧ (w'.heap[gb440]? = some (.cells #[.slice A0_0 l0_0.length c0_0, .int .i64 a0_1] 39 (0, 0))) ∧ (w'.heap[gb441]? = some (.cells #[.slice A1_0 l1_0.length c1_0, .int .i64 a1_1] 39 (0, 0))) ∧ (w'.heap[gb442]? = some (.cells #[.slice none 0 0, .int .i64 0] 39 (0, 0))) ∧ (w'.heap[s_.2.2]? = some (.cells #[.slice none 0 0, .int .i64 0] 39 (0, 0))) ∧ (w.heap.size ≤ s_.2.2) ∧ (w.heap.size ≤ s_.2.2) ∧ (gb440 ≠ s_.2.2) ∧ (s_.2.2 ≠ gb440) ∧ (gb441 ≠ s_.2.2) ∧ (s_.2.2 ≠ gb441) ∧ (gb442 ≠ s_.2.2) ∧ (s_.2.2 ≠ gb442) ∧ (Below w.heap.size w w')) ?_ ?_
     rotate_left
     ·intro hCont
      refine two_ (i := 0) (j := 9) (Ni := some 18) (Nj := some 6) #[true, true, true, false, true, true, true, false, false, false, false] #[false, true, true, false, true, true, true, false, false, true, false] rfl rfl rfl rfl (two_of HT_.out (by kernel_rfl)) (by decide) (by decide) (fun K hK => ?_) (fun K hK => ?_)
      ·skip
       refine Kd.R_lit_step k69 _ 69 ?hg (N := 18) ?hd (xs := ([] : List (S69))) (inner := []) (ok := fun _ => True) (okp := fun _ => True) ?hr ?hp (fun _ hk => hk) trivial (Below.refl _ _) (Nat.le_refl _) (by simp) ?_; (case hd => rfl); (case hg => rfl); (case hr => first | (go_simp; done) | (go_simp; rfl)); (case hp => exact (Reps.none _ _))
       intro v446 w28 ho29 hb hg_ hnew_
       clear hg_ hnew_
       (first | rw [← Ny445.out] at ho29 | (simp only [Int.reduceToNat] at ho29; rw [← Ny445.out] at ho29))
       have n0_ := Aside0.mk (Kd.R_lower ho29 (zaa (by repeat (first | (with_reducible first | exact HB.out | apply za2 | apply za0 | apply za1 | refine za3 ?_ GE440.out | refine za3 ?_ GE441.out | refine za3 ?_ GE442.out) | exact HB.out))))
       have n1_ := Aside0.mk (zad (g := gb440) (o := .cells #[.slice A0_0 l0_0.length c0_0, .int .i64 a0_1] 39 (0, 0)) (by (with_reducible repeat (first | refine za5 ?_ _ | refine za6 ?_ | refine za4 ?_ _)); exact BK440.out) hb)
       have n2_ := Aside0.mk (zad (g := gb441) (o := .cells #[.slice A1_0 l1_0.length c1_0, .int .i64 a1_1] 39 (0, 0)) (by (with_reducible repeat (first | refine za5 ?_ _ | refine za6 ?_ | refine za4 ?_ _)); exact BK441.out) hb)
       have n3_ := Aside0.mk (zad (g := gb442) (o := .cells #[.slice none 0 0, .int .i64 0] 39 (0, 0)) (by (with_reducible repeat (first | refine za5 ?_ _ | refine za6 ?_ | refine za4 ?_ _)); exact BK442.out) hb)
       have n4_ := Aside0.mk (zac (by repeat (first | (with_reducible first | exact HB.out | apply za2 | apply za0 | apply za1 | refine za3 ?_ GE440.out | refine za3 ?_ GE441.out | refine za3 ?_ GE442.out) | exact HB.out)) hb)
       clear BK440
       clear BK441
       clear BK442
       clear HB
       have HO447 := n0_
       have BK440 := n1_
       have BK441 := n2_
       have BK442 := n3_
       have HB := n4_
       clear n0_ n1_ n2_ n3_ n4_
       clear hb ho29
       refine hK.out _ _ ⟨(za8 BK440.out 0).trans rfl, (za8 BK440.out 1).trans rfl, (za8 BK441.out 0).trans rfl, (za8 BK441.out 1).trans rfl⟩ (fun hHeld => ?_)
       clear hK K
       refine norm_ (a' := ?_) ?_ ?_
       rotate_left
       ·show Act.put _ (some 18) _ = _
        simp only [Act.put, List.setIfInBounds_toArray, List.set_cons_zero, List.set_cons_succ, i64_w, i32_w]
        rfl
       refine two_ (i := 3) (j := 9) (Ni := some 21) (Nj := some 6) #[true, true, true, true, true, true, true, false, false, false, false] #[true, true, true, false, true, true, true, false, false, true, false] rfl rfl rfl rfl (two_of HT_.out (by kernel_rfl)) (by decide) (by decide) (fun K hK => ?_) (fun K hK => ?_)
       ·skip
        refine Kd.R_append_rows_step k69 (w0 := w) w.heap.size (by rfl) (.tmp 18) (.tmp 20) 37 69 (.agg #[(.int .i64 0), (.int .i64 0), (.int .i64 0)]) 24 rfl Try.underlying37 info69 rfl (by decide) (by omega) v446 y445 l0_0 _ _ _ (fun _ => True) (fun _ => False) rfl rfl ?aO ?aR (fun _ _ h => h) (fun _ h => h.elim) ?aF ?aB ?aS ?aL ?_
        (case aR => repeat (first | exact (Kd.zar HR0_0.out HB.out) | (with_reducible refine Kd.zav ?_ _) | (with_reducible refine Kd.zau ?_ _) | (with_reducible refine Kd.zaz ?_)))
        (case aB => exact (by repeat (first | (with_reducible first | exact HB.out | apply za2 | apply za0 | apply za1 | refine za3 ?_ GE440.out | refine za3 ?_ GE441.out | refine za3 ?_ GE442.out) | exact HB.out)))
        (case aF => exact (fun _ _ => trivial))
        (case aO => exact (by (with_reducible repeat (first | apply Kd.zak | apply Kd.zaj | apply Kd.zam)); exact HO447.out))
        (case aS => exact (zaa (by repeat (first | (with_reducible first | exact HB.out | apply za2 | apply za0 | apply za1 | refine za3 ?_ GE440.out | refine za3 ?_ GE441.out | refine za3 ?_ GE442.out) | exact HB.out))))
        (case aL => have := LMc25.out; omega)
        intro v449 w30 ho hb hg hat
        rw [← Ny448.out] at ho
        have n0_ := Aside0.mk (blk_grown (g := gb440) (o := .cells #[.slice A0_0 l0_0.length c0_0, .int .i64 a0_1] 39 (0, 0)) (by (with_reducible repeat (first | refine za5 ?_ _ | refine za6 ?_ | refine za4 ?_ _)); exact BK440.out) hg (Kd.R_ne HO447.out BK440.out (by decide)))
        have n1_ := Aside0.mk (blk_grown (g := gb441) (o := .cells #[.slice A1_0 l1_0.length c1_0, .int .i64 a1_1] 39 (0, 0)) (by (with_reducible repeat (first | refine za5 ?_ _ | refine za6 ?_ | refine za4 ?_ _)); exact BK441.out) hg (Kd.R_ne HO447.out BK441.out (by decide)))
        have n2_ := Aside0.mk (blk_grown (g := gb442) (o := .cells #[.slice none 0 0, .int .i64 0] 39 (0, 0)) (by (with_reducible repeat (first | refine za5 ?_ _ | refine za6 ?_ | refine za4 ?_ _)); exact BK442.out) hg (Kd.R_ne HO447.out BK442.out (by decide)))
        have n3_ := Aside0.mk (hb)
        have n4_ := Aside0.mk (ho)
        clear BK440
        clear BK441
        clear BK442
        clear HB
        clear HO447
        have BK440 := n0_
        have BK441 := n1_
        have BK442 := n2_
        have HB := n3_
        have HO450 := n4_
        clear n0_ n1_ n2_ n3_ n4_
        clear ho hb hg hat
        refine hK.out _ _ ⟨(za8 BK440.out 0).trans rfl, (za8 BK440.out 1).trans rfl, (za8 BK441.out 0).trans rfl, (za8 BK441.out 1).trans rfl⟩ (fun hHeld => ?_)
        clear hK K
        refine norm_ (a' := ?_) ?_ ?_
        rotate_left
        ·show Act.put _ (some 21) _ = _
         simp only [Act.put, List.setIfInBounds_toArray, List.set_cons_zero, List.set_cons_succ, i64_w, i32_w]
         rfl
        refine two_ (i := 7) (j := 9) (Ni := some 25) (Nj := some 6) #[true, true, true, true, true, true, true, true, false, false, false] #[true, true, true, true, true, true, true, false, false, true, false] rfl rfl rfl rfl (two_of HT_.out (by kernel_rfl)) (by decide) (by decide) (fun K hK => ?_) (fun K hK => ?_)
        ·skip
         refine goes_ Try.func87 (by kernel_rfl) rfl #[.agg #[.slice A0_0 l0_0.length c0_0, .int .i64 a0_1], .int .i64 a1_1] (by rfl) rfl rfl (by (try simp only [List.map_toArray, List.map_cons, List.map_nil]); first | done | rfl | (simp only [List.length_drop, List.length_take]; rfl)) ?_
         with_reducible refine (spec_poBehind.calls _ _ l0_0 a0_1 a1_1 t451 _ ?side1 ?side2 A26.out).mono ?_
         (case side1 => repeat (first | exact (Kd.zar HR0_0.out HB.out) | (with_reducible refine Kd.zav ?_ _) | (with_reducible refine Kd.zau ?_ _) | (with_reducible refine Kd.zaz ?_)))
         (case side2 => exact HC0_0.out)
         rintro e w31 ⟨rfl, hb⟩
         refine ⟨_, rfl, ?_⟩
         have n0_ := Aside0.mk (Kd.zb2 (by (with_reducible repeat (first | apply Kd.zak | apply Kd.zaj | apply Kd.zam)); exact HO450.out) hb)
         have n1_ := Aside0.mk (zad (g := gb440) (o := .cells #[.slice A0_0 l0_0.length c0_0, .int .i64 a0_1] 39 (0, 0)) (by (with_reducible repeat (first | refine za5 ?_ _ | refine za6 ?_ | refine za4 ?_ _)); exact BK440.out) hb)
         have n2_ := Aside0.mk (zad (g := gb441) (o := .cells #[.slice A1_0 l1_0.length c1_0, .int .i64 a1_1] 39 (0, 0)) (by (with_reducible repeat (first | refine za5 ?_ _ | refine za6 ?_ | refine za4 ?_ _)); exact BK441.out) hb)
         have n3_ := Aside0.mk (zad (g := gb442) (o := .cells #[.slice none 0 0, .int .i64 0] 39 (0, 0)) (by (with_reducible repeat (first | refine za5 ?_ _ | refine za6 ?_ | refine za4 ?_ _)); exact BK442.out) hb)
         have n4_ := Aside0.mk (zac (by repeat (first | (with_reducible first | exact HB.out | apply za2 | apply za0 | apply za1 | refine za3 ?_ GE440.out | refine za3 ?_ GE441.out | refine za3 ?_ GE442.out) | exact HB.out)) hb)
         clear HO450
         clear BK440
         clear BK441
         clear BK442
         clear HB
         have HO450 := n0_
         have BK440 := n1_
         have BK441 := n2_
         have BK442 := n3_
         have HB := n4_
         clear n0_ n1_ n2_ n3_ n4_
         (try clear hb)
         (try clear hb2)
         (try clear hk)
         (try clear hi)
         obtain ⟨Ao32, co32, eo32⟩ := Kd.zas HO450.out
         (first | subst eo32 | (injection eo32 with f1_ f2_ f3_; have f4_ := f1_.symm; have f5_ := f3_.symm; clear f1_ f2_ f3_; subst f4_; subst f5_))
         refine hK.out _ _ ⟨(za8 BK440.out 0).trans rfl, (za8 BK440.out 1).trans rfl, (za8 BK441.out 0).trans rfl, (za8 BK441.out 1).trans rfl⟩ (fun hHeld => ?_)
         clear hK K
         refine norm_ (a' := ?_) ?_ ?_
         rotate_left
         ·show Act.put _ (some 25) _ = _
          simp only [Act.put, List.setIfInBounds_toArray, List.set_cons_zero, List.set_cons_succ, i64_w, i32_w]
          rfl
         refine pure_ (i := 8) (N := some 26) (v := ?_) (a' := ?_) #[true, true, true, true, true, true, true, true, true, false, false] rfl rfl (zan HT_.out (by kernel_rfl)) (fun _ _ _ h => h) (Or.inl ⟨by rfl, ?_⟩) ?_ ?_
         rotate_left
         ·intro w'
          go_simp
          with_reducible rfl
         rotate_left
         ·simp only [Act.put, List.setIfInBounds_toArray, List.set_cons_zero, List.set_cons_succ, i64_w, i32_w]
          rfl
         refine one_ (i := 9) (N := some 6) #[true, true, true, true, true, true, true, true, true, true, false] rfl rfl (one_of HT_.out (by kernel_rfl)) (by decide) (fun K hK => ?_)
         refine box_step ?hg (N := 6) ?hd (cs := #[.slice none 0 0, .int .i64 0]) (t := 39) ?hr ?_; (case hd => rfl); (case hg => rfl); (case hr => first | (go_simp; done) | (go_simp; rfl))
         intro gb452 hg w33 hbox hb
         have n0_ := Aside0.mk (Kd.zb2 (by (with_reducible repeat (first | apply Kd.zak | apply Kd.zaj | apply Kd.zam)); exact HO450.out) hb)
         have n1_ := Aside0.mk (zad (g := gb440) (o := .cells #[.slice A0_0 l0_0.length c0_0, .int .i64 a0_1] 39 (0, 0)) (by (with_reducible repeat (first | refine za5 ?_ _ | refine za6 ?_ | refine za4 ?_ _)); exact BK440.out) hb)
         have n2_ := Aside0.mk (zad (g := gb441) (o := .cells #[.slice A1_0 l1_0.length c1_0, .int .i64 a1_1] 39 (0, 0)) (by (with_reducible repeat (first | refine za5 ?_ _ | refine za6 ?_ | refine za4 ?_ _)); exact BK441.out) hb)
         have n3_ := Aside0.mk (zad (g := gb442) (o := .cells #[.slice none 0 0, .int .i64 0] 39 (0, 0)) (by (with_reducible repeat (first | refine za5 ?_ _ | refine za6 ?_ | refine za4 ?_ _)); exact BK442.out) hb)
         have n4_ := Aside0.mk (zac (by repeat (first | (with_reducible first | exact HB.out | apply za2 | apply za0 | apply za1 | refine za3 ?_ GE440.out | refine za3 ?_ GE441.out | refine za3 ?_ GE442.out) | exact HB.out)) hb)
         have n5_ := Aside0.mk (hbox)
         have n6_ := Aside0.mk ((by rw [hg]; exact (zaa (by repeat (first | (with_reducible first | exact HB.out | apply za2 | apply za0 | apply za1 | refine za3 ?_ GE440.out | refine za3 ?_ GE441.out | refine za3 ?_ GE442.out) | exact HB.out))) : w.heap.size ≤ gb452))
         have n7_ := Aside0.mk ((by rw [hg]; exact (zaa (by repeat (first | (with_reducible first | exact HB.out | apply za2 | apply za0 | apply za1 | refine za3 ?_ GE440.out | refine za3 ?_ GE441.out | refine za3 ?_ GE442.out) | exact HB.out))) : w.heap.size ≤ gb452))
         have n8_ := Aside0.mk ((by rw [hg]; exact Nat.ne_of_lt (zao (g := gb440) (o := .cells #[.slice A0_0 l0_0.length c0_0, .int .i64 a0_1] 39 (0, 0)) (by (with_reducible repeat (first | refine za5 ?_ _ | refine za6 ?_ | refine za4 ?_ _)); exact BK440.out)) : gb440 ≠ gb452))
         have n9_ := Aside0.mk ((by rw [hg]; exact Nat.ne_of_gt (zao (g := gb440) (o := .cells #[.slice A0_0 l0_0.length c0_0, .int .i64 a0_1] 39 (0, 0)) (by (with_reducible repeat (first | refine za5 ?_ _ | refine za6 ?_ | refine za4 ?_ _)); exact BK440.out)) : gb452 ≠ gb440))
         have n10_ := Aside0.mk ((by rw [hg]; exact Nat.ne_of_lt (zao (g := gb441) (o := .cells #[.slice A1_0 l1_0.length c1_0, .int .i64 a1_1] 39 (0, 0)) (by (with_reducible repeat (first | refine za5 ?_ _ | refine za6 ?_ | refine za4 ?_ _)); exact BK441.out)) : gb441 ≠ gb452))
         have n11_ := Aside0.mk ((by rw [hg]; exact Nat.ne_of_gt (zao (g := gb441) (o := .cells #[.slice A1_0 l1_0.length c1_0, .int .i64 a1_1] 39 (0, 0)) (by (with_reducible repeat (first | refine za5 ?_ _ | refine za6 ?_ | refine za4 ?_ _)); exact BK441.out)) : gb452 ≠ gb441))
         have n12_ := Aside0.mk ((by rw [hg]; exact Nat.ne_of_lt (zao (g := gb442) (o := .cells #[.slice none 0 0, .int .i64 0] 39 (0, 0)) (by (with_reducible repeat (first | refine za5 ?_ _ | refine za6 ?_ | refine za4 ?_ _)); exact BK442.out)) : gb442 ≠ gb452))
         have n13_ := Aside0.mk ((by rw [hg]; exact Nat.ne_of_gt (zao (g := gb442) (o := .cells #[.slice none 0 0, .int .i64 0] 39 (0, 0)) (by (with_reducible repeat (first | refine za5 ?_ _ | refine za6 ?_ | refine za4 ?_ _)); exact BK442.out)) : gb452 ≠ gb442))
         clear HO450
         clear BK440
         clear BK441
         clear BK442
         clear HB
         have HO450 := n0_
         have BK440 := n1_
         have BK441 := n2_
         have BK442 := n3_
         have HB := n4_
         have BK452 := n5_
         have GW452 := n6_
         have GE452 := n7_
         have NB440_452 := n8_
         have NB452_440 := n9_
         have NB441_452 := n10_
         have NB452_441 := n11_
         have NB442_452 := n12_
         have NB452_442 := n13_
         clear n0_ n1_ n2_ n3_ n4_ n5_ n6_ n7_ n8_ n9_ n10_ n11_ n12_ n13_
         clear hb hbox hg
         refine hK.out _ _ ⟨(za8 BK440.out 0).trans rfl, (za8 BK440.out 1).trans rfl, (za8 BK441.out 0).trans rfl, (za8 BK441.out 1).trans rfl⟩ (fun hHeld => ?_)
         clear hK K
         refine norm_ (a' := ?_) ?_ ?_
         rotate_left
         ·show Act.put _ (some 6) _ = _
          simp only [Act.put, List.setIfInBounds_toArray, List.set_cons_zero, List.set_cons_succ, i64_w, i32_w]
          rfl
         exact norm_ (by simp only [putAll, Act.put, List.setIfInBounds_toArray, List.set_cons_zero, List.set_cons_succ]) (hCont (v446, .slice Ao32 y448.length co32, gb452) _ ⟨hHeld, (by (with_reducible repeat (first | apply Kd.zak | apply Kd.zaj | apply Kd.zam)); exact HO450.out), (by (with_reducible repeat (first | refine za5 ?_ _ | refine za6 ?_ | refine za4 ?_ _)); exact BK440.out), (by (with_reducible repeat (first | refine za5 ?_ _ | refine za6 ?_ | refine za4 ?_ _)); exact BK441.out), (by (with_reducible repeat (first | refine za5 ?_ _ | refine za6 ?_ | refine za4 ?_ _)); exact BK442.out), (by (with_reducible repeat (first | refine za5 ?_ _ | refine za6 ?_ | refine za4 ?_ _)); exact BK452.out), GW452.out, GE452.out, NB440_452.out, NB452_440.out, NB441_452.out, NB452_441.out, NB442_452.out, NB452_442.out, (by repeat (first | (with_reducible first | exact HB.out | apply za2 | apply za0 | apply za1 | refine za3 ?_ GE440.out | refine za3 ?_ GE441.out | refine za3 ?_ GE442.out | refine za3 ?_ GE452.out) | exact HB.out))⟩)
        ·skip
         refine box_step ?hg (N := 6) ?hd (cs := #[.slice none 0 0, .int .i64 0]) (t := 39) ?hr ?_; (case hd => rfl); (case hg => rfl); (case hr => first | (go_simp; done) | (go_simp; rfl))
         intro gb452 hg w31 hbox hb
         have n0_ := Aside0.mk (Kd.zb2 (by (with_reducible repeat (first | apply Kd.zak | apply Kd.zaj | apply Kd.zam)); exact HO450.out) hb)
         have n1_ := Aside0.mk (zad (g := gb440) (o := .cells #[.slice A0_0 l0_0.length c0_0, .int .i64 a0_1] 39 (0, 0)) (by (with_reducible repeat (first | refine za5 ?_ _ | refine za6 ?_ | refine za4 ?_ _)); exact BK440.out) hb)
         have n2_ := Aside0.mk (zad (g := gb441) (o := .cells #[.slice A1_0 l1_0.length c1_0, .int .i64 a1_1] 39 (0, 0)) (by (with_reducible repeat (first | refine za5 ?_ _ | refine za6 ?_ | refine za4 ?_ _)); exact BK441.out) hb)
         have n3_ := Aside0.mk (zad (g := gb442) (o := .cells #[.slice none 0 0, .int .i64 0] 39 (0, 0)) (by (with_reducible repeat (first | refine za5 ?_ _ | refine za6 ?_ | refine za4 ?_ _)); exact BK442.out) hb)
         have n4_ := Aside0.mk (zac (by repeat (first | (with_reducible first | exact HB.out | apply za2 | apply za0 | apply za1 | refine za3 ?_ GE440.out | refine za3 ?_ GE441.out | refine za3 ?_ GE442.out) | exact HB.out)) hb)
         have n5_ := Aside0.mk (hbox)
         have n6_ := Aside0.mk ((by rw [hg]; exact (zaa (by repeat (first | (with_reducible first | exact HB.out | apply za2 | apply za0 | apply za1 | refine za3 ?_ GE440.out | refine za3 ?_ GE441.out | refine za3 ?_ GE442.out) | exact HB.out))) : w.heap.size ≤ gb452))
         have n7_ := Aside0.mk ((by rw [hg]; exact (zaa (by repeat (first | (with_reducible first | exact HB.out | apply za2 | apply za0 | apply za1 | refine za3 ?_ GE440.out | refine za3 ?_ GE441.out | refine za3 ?_ GE442.out) | exact HB.out))) : w.heap.size ≤ gb452))
         have n8_ := Aside0.mk ((by rw [hg]; exact Nat.ne_of_lt (zao (g := gb440) (o := .cells #[.slice A0_0 l0_0.length c0_0, .int .i64 a0_1] 39 (0, 0)) (by (with_reducible repeat (first | refine za5 ?_ _ | refine za6 ?_ | refine za4 ?_ _)); exact BK440.out)) : gb440 ≠ gb452))
         have n9_ := Aside0.mk ((by rw [hg]; exact Nat.ne_of_gt (zao (g := gb440) (o := .cells #[.slice A0_0 l0_0.length c0_0, .int .i64 a0_1] 39 (0, 0)) (by (with_reducible repeat (first | refine za5 ?_ _ | refine za6 ?_ | refine za4 ?_ _)); exact BK440.out)) : gb452 ≠ gb440))
         have n10_ := Aside0.mk ((by rw [hg]; exact Nat.ne_of_lt (zao (g := gb441) (o := .cells #[.slice A1_0 l1_0.length c1_0, .int .i64 a1_1] 39 (0, 0)) (by (with_reducible repeat (first | refine za5 ?_ _ | refine za6 ?_ | refine za4 ?_ _)); exact BK441.out)) : gb441 ≠ gb452))
         have n11_ := Aside0.mk ((by rw [hg]; exact Nat.ne_of_gt (zao (g := gb441) (o := .cells #[.slice A1_0 l1_0.length c1_0, .int .i64 a1_1] 39 (0, 0)) (by (with_reducible repeat (first | refine za5 ?_ _ | refine za6 ?_ | refine za4 ?_ _)); exact BK441.out)) : gb452 ≠ gb441))
         have n12_ := Aside0.mk ((by rw [hg]; exact Nat.ne_of_lt (zao (g := gb442) (o := .cells #[.slice none 0 0, .int .i64 0] 39 (0, 0)) (by (with_reducible repeat (first | refine za5 ?_ _ | refine za6 ?_ | refine za4 ?_ _)); exact BK442.out)) : gb442 ≠ gb452))
         have n13_ := Aside0.mk ((by rw [hg]; exact Nat.ne_of_gt (zao (g := gb442) (o := .cells #[.slice none 0 0, .int .i64 0] 39 (0, 0)) (by (with_reducible repeat (first | refine za5 ?_ _ | refine za6 ?_ | refine za4 ?_ _)); exact BK442.out)) : gb452 ≠ gb442))
         clear HO450
         clear BK440
         clear BK441
         clear BK442
         clear HB
         have HO450 := n0_
         have BK440 := n1_
         have BK441 := n2_
         have BK442 := n3_
         have HB := n4_
         have BK452 := n5_
         have GW452 := n6_
         have GE452 := n7_
         have NB440_452 := n8_
         have NB452_440 := n9_
         have NB441_452 := n10_
         have NB452_441 := n11_
         have NB442_452 := n12_
         have NB452_442 := n13_
         clear n0_ n1_ n2_ n3_ n4_ n5_ n6_ n7_ n8_ n9_ n10_ n11_ n12_ n13_
         clear hb hbox hg
         refine hK.out _ _ ⟨(za8 BK440.out 0).trans rfl, (za8 BK440.out 1).trans rfl, (za8 BK441.out 0).trans rfl, (za8 BK441.out 1).trans rfl⟩ (fun hHeld => ?_)
         clear hK K
         refine norm_ (a' := ?_) ?_ ?_
         rotate_left
         ·show Act.put _ (some 6) _ = _
          simp only [Act.put, List.setIfInBounds_toArray, List.set_cons_zero, List.set_cons_succ, i64_w, i32_w]
          rfl
         refine one_ (i := 7) (N := some 25) #[true, true, true, true, true, true, true, true, false, true, false] rfl rfl (one_of HT_.out (by kernel_rfl)) (by decide) (fun K hK => ?_)
         refine goes_ Try.func87 (by kernel_rfl) rfl #[.agg #[.slice A0_0 l0_0.length c0_0, .int .i64 a0_1], .int .i64 a1_1] (by rfl) rfl rfl (by (try simp only [List.map_toArray, List.map_cons, List.map_nil]); first | done | rfl | (simp only [List.length_drop, List.length_take]; rfl)) ?_
         with_reducible refine (spec_poBehind.calls _ _ l0_0 a0_1 a1_1 t451 _ ?side1 ?side2 A26.out).mono ?_
         (case side1 => repeat (first | exact (Kd.zar HR0_0.out HB.out) | (with_reducible refine Kd.zav ?_ _) | (with_reducible refine Kd.zau ?_ _) | (with_reducible refine Kd.zaz ?_)))
         (case side2 => exact HC0_0.out)
         rintro e w32 ⟨rfl, hb⟩
         refine ⟨_, rfl, ?_⟩
         have n0_ := Aside0.mk (Kd.zb2 (by (with_reducible repeat (first | apply Kd.zak | apply Kd.zaj | apply Kd.zam)); exact HO450.out) hb)
         have n1_ := Aside0.mk (zad (g := gb440) (o := .cells #[.slice A0_0 l0_0.length c0_0, .int .i64 a0_1] 39 (0, 0)) (by (with_reducible repeat (first | refine za5 ?_ _ | refine za6 ?_ | refine za4 ?_ _)); exact BK440.out) hb)
         have n2_ := Aside0.mk (zad (g := gb441) (o := .cells #[.slice A1_0 l1_0.length c1_0, .int .i64 a1_1] 39 (0, 0)) (by (with_reducible repeat (first | refine za5 ?_ _ | refine za6 ?_ | refine za4 ?_ _)); exact BK441.out) hb)
         have n3_ := Aside0.mk (zad (g := gb442) (o := .cells #[.slice none 0 0, .int .i64 0] 39 (0, 0)) (by (with_reducible repeat (first | refine za5 ?_ _ | refine za6 ?_ | refine za4 ?_ _)); exact BK442.out) hb)
         have n4_ := Aside0.mk (zad (g := gb452) (o := .cells #[.slice none 0 0, .int .i64 0] 39 (0, 0)) (by (with_reducible repeat (first | refine za5 ?_ _ | refine za6 ?_ | refine za4 ?_ _)); exact BK452.out) hb)
         have n5_ := Aside0.mk (zac (by repeat (first | (with_reducible first | exact HB.out | apply za2 | apply za0 | apply za1 | refine za3 ?_ GE440.out | refine za3 ?_ GE441.out | refine za3 ?_ GE442.out | refine za3 ?_ GE452.out) | exact HB.out)) hb)
         clear HO450
         clear BK440
         clear BK441
         clear BK442
         clear BK452
         clear HB
         have HO450 := n0_
         have BK440 := n1_
         have BK441 := n2_
         have BK442 := n3_
         have BK452 := n4_
         have HB := n5_
         clear n0_ n1_ n2_ n3_ n4_ n5_
         (try clear hb)
         (try clear hb2)
         (try clear hk)
         (try clear hi)
         obtain ⟨Ao33, co33, eo33⟩ := Kd.zas HO450.out
         (first | subst eo33 | (injection eo33 with f1_ f2_ f3_; have f4_ := f1_.symm; have f5_ := f3_.symm; clear f1_ f2_ f3_; subst f4_; subst f5_))
         refine hK.out _ _ ⟨(za8 BK440.out 0).trans rfl, (za8 BK440.out 1).trans rfl, (za8 BK441.out 0).trans rfl, (za8 BK441.out 1).trans rfl⟩ (fun hHeld => ?_)
         clear hK K
         refine norm_ (a' := ?_) ?_ ?_
         rotate_left
         ·show Act.put _ (some 25) _ = _
          simp only [Act.put, List.setIfInBounds_toArray, List.set_cons_zero, List.set_cons_succ, i64_w, i32_w]
          rfl
         refine pure_ (i := 8) (N := some 26) (v := ?_) (a' := ?_) #[true, true, true, true, true, true, true, true, true, true, false] rfl rfl (zan HT_.out (by kernel_rfl)) (fun _ _ _ h => h) (Or.inl ⟨by rfl, ?_⟩) ?_ ?_
         rotate_left
         ·intro w'
          go_simp
          with_reducible rfl
         rotate_left
         ·simp only [Act.put, List.setIfInBounds_toArray, List.set_cons_zero, List.set_cons_succ, i64_w, i32_w]
          rfl
         exact norm_ (by simp only [putAll, Act.put, List.setIfInBounds_toArray, List.set_cons_zero, List.set_cons_succ]) (hCont (v446, .slice Ao33 y448.length co33, gb452) _ ⟨hHeld, (by (with_reducible repeat (first | apply Kd.zak | apply Kd.zaj | apply Kd.zam)); exact HO450.out), (by (with_reducible repeat (first | refine za5 ?_ _ | refine za6 ?_ | refine za4 ?_ _)); exact BK440.out), (by (with_reducible repeat (first | refine za5 ?_ _ | refine za6 ?_ | refine za4 ?_ _)); exact BK441.out), (by (with_reducible repeat (first | refine za5 ?_ _ | refine za6 ?_ | refine za4 ?_ _)); exact BK442.out), (by (with_reducible repeat (first | refine za5 ?_ _ | refine za6 ?_ | refine za4 ?_ _)); exact BK452.out), GW452.out, GE452.out, NB440_452.out, NB452_440.out, NB441_452.out, NB452_441.out, NB442_452.out, NB452_442.out, (by repeat (first | (with_reducible first | exact HB.out | apply za2 | apply za0 | apply za1 | refine za3 ?_ GE440.out | refine za3 ?_ GE441.out | refine za3 ?_ GE442.out | refine za3 ?_ GE452.out) | exact HB.out))⟩)
       ·skip
        refine box_step ?hg (N := 6) ?hd (cs := #[.slice none 0 0, .int .i64 0]) (t := 39) ?hr ?_; (case hd => rfl); (case hg => rfl); (case hr => first | (go_simp; done) | (go_simp; rfl))
        intro gb452 hg w30 hbox hb
        have n0_ := Aside0.mk (Kd.zb2 (by (with_reducible repeat (first | apply Kd.zak | apply Kd.zaj | apply Kd.zam)); exact HO447.out) hb)
        have n1_ := Aside0.mk (zad (g := gb440) (o := .cells #[.slice A0_0 l0_0.length c0_0, .int .i64 a0_1] 39 (0, 0)) (by (with_reducible repeat (first | refine za5 ?_ _ | refine za6 ?_ | refine za4 ?_ _)); exact BK440.out) hb)
        have n2_ := Aside0.mk (zad (g := gb441) (o := .cells #[.slice A1_0 l1_0.length c1_0, .int .i64 a1_1] 39 (0, 0)) (by (with_reducible repeat (first | refine za5 ?_ _ | refine za6 ?_ | refine za4 ?_ _)); exact BK441.out) hb)
        have n3_ := Aside0.mk (zad (g := gb442) (o := .cells #[.slice none 0 0, .int .i64 0] 39 (0, 0)) (by (with_reducible repeat (first | refine za5 ?_ _ | refine za6 ?_ | refine za4 ?_ _)); exact BK442.out) hb)
        have n4_ := Aside0.mk (zac (by repeat (first | (with_reducible first | exact HB.out | apply za2 | apply za0 | apply za1 | refine za3 ?_ GE440.out | refine za3 ?_ GE441.out | refine za3 ?_ GE442.out) | exact HB.out)) hb)
        have n5_ := Aside0.mk (hbox)
        have n6_ := Aside0.mk ((by rw [hg]; exact (zaa (by repeat (first | (with_reducible first | exact HB.out | apply za2 | apply za0 | apply za1 | refine za3 ?_ GE440.out | refine za3 ?_ GE441.out | refine za3 ?_ GE442.out) | exact HB.out))) : w.heap.size ≤ gb452))
        have n7_ := Aside0.mk ((by rw [hg]; exact (zaa (by repeat (first | (with_reducible first | exact HB.out | apply za2 | apply za0 | apply za1 | refine za3 ?_ GE440.out | refine za3 ?_ GE441.out | refine za3 ?_ GE442.out) | exact HB.out))) : w.heap.size ≤ gb452))
        have n8_ := Aside0.mk ((by rw [hg]; exact Nat.ne_of_lt (zao (g := gb440) (o := .cells #[.slice A0_0 l0_0.length c0_0, .int .i64 a0_1] 39 (0, 0)) (by (with_reducible repeat (first | refine za5 ?_ _ | refine za6 ?_ | refine za4 ?_ _)); exact BK440.out)) : gb440 ≠ gb452))
        have n9_ := Aside0.mk ((by rw [hg]; exact Nat.ne_of_gt (zao (g := gb440) (o := .cells #[.slice A0_0 l0_0.length c0_0, .int .i64 a0_1] 39 (0, 0)) (by (with_reducible repeat (first | refine za5 ?_ _ | refine za6 ?_ | refine za4 ?_ _)); exact BK440.out)) : gb452 ≠ gb440))
        have n10_ := Aside0.mk ((by rw [hg]; exact Nat.ne_of_lt (zao (g := gb441) (o := .cells #[.slice A1_0 l1_0.length c1_0, .int .i64 a1_1] 39 (0, 0)) (by (with_reducible repeat (first | refine za5 ?_ _ | refine za6 ?_ | refine za4 ?_ _)); exact BK441.out)) : gb441 ≠ gb452))
        have n11_ := Aside0.mk ((by rw [hg]; exact Nat.ne_of_gt (zao (g := gb441) (o := .cells #[.slice A1_0 l1_0.length c1_0, .int .i64 a1_1] 39 (0, 0)) (by (with_reducible repeat (first | refine za5 ?_ _ | refine za6 ?_ | refine za4 ?_ _)); exact BK441.out)) : gb452 ≠ gb441))
        have n12_ := Aside0.mk ((by rw [hg]; exact Nat.ne_of_lt (zao (g := gb442) (o := .cells #[.slice none 0 0, .int .i64 0] 39 (0, 0)) (by (with_reducible repeat (first | refine za5 ?_ _ | refine za6 ?_ | refine za4 ?_ _)); exact BK442.out)) : gb442 ≠ gb452))
        have n13_ := Aside0.mk ((by rw [hg]; exact Nat.ne_of_gt (zao (g := gb442) (o := .cells #[.slice none 0 0, .int .i64 0] 39 (0, 0)) (by (with_reducible repeat (first | refine za5 ?_ _ | refine za6 ?_ | refine za4 ?_ _)); exact BK442.out)) : gb452 ≠ gb442))
        clear HO447
        clear BK440
        clear BK441
        clear BK442
        clear HB
        have HO447 := n0_
        have BK440 := n1_
        have BK441 := n2_
        have BK442 := n3_
        have HB := n4_
        have BK452 := n5_
        have GW452 := n6_
        have GE452 := n7_
        have NB440_452 := n8_
        have NB452_440 := n9_
        have NB441_452 := n10_
        have NB452_441 := n11_
        have NB442_452 := n12_
        have NB452_442 := n13_
        clear n0_ n1_ n2_ n3_ n4_ n5_ n6_ n7_ n8_ n9_ n10_ n11_ n12_ n13_
        clear hb hbox hg
        refine hK.out _ _ ⟨(za8 BK440.out 0).trans rfl, (za8 BK440.out 1).trans rfl, (za8 BK441.out 0).trans rfl, (za8 BK441.out 1).trans rfl⟩ (fun hHeld => ?_)
        clear hK K
        refine norm_ (a' := ?_) ?_ ?_
        rotate_left
        ·show Act.put _ (some 6) _ = _
         simp only [Act.put, List.setIfInBounds_toArray, List.set_cons_zero, List.set_cons_succ, i64_w, i32_w]
         rfl
        refine one_ (i := 3) (N := some 21) #[true, true, true, true, true, true, true, false, false, true, false] rfl rfl (one_of HT_.out (by kernel_rfl)) (by decide) (fun K hK => ?_)
        refine Kd.R_append_rows_step k69 (w0 := w) w.heap.size (by rfl) (.tmp 18) (.tmp 20) 37 69 (.agg #[(.int .i64 0), (.int .i64 0), (.int .i64 0)]) 24 rfl Try.underlying37 info69 rfl (by decide) (by omega) v446 y445 l0_0 _ _ _ (fun _ => True) (fun _ => False) rfl rfl ?aO ?aR (fun _ _ h => h) (fun _ h => h.elim) ?aF ?aB ?aS ?aL ?_
        (case aR => repeat (first | exact (Kd.zar HR0_0.out HB.out) | (with_reducible refine Kd.zav ?_ _) | (with_reducible refine Kd.zau ?_ _) | (with_reducible refine Kd.zaz ?_)))
        (case aB => exact (by repeat (first | (with_reducible first | exact HB.out | apply za2 | apply za0 | apply za1 | refine za3 ?_ GE440.out | refine za3 ?_ GE441.out | refine za3 ?_ GE442.out | refine za3 ?_ GE452.out) | exact HB.out)))
        (case aF => exact (fun _ _ => trivial))
        (case aO => exact (by (with_reducible repeat (first | apply Kd.zak | apply Kd.zaj | apply Kd.zam)); exact HO447.out))
        (case aS => exact (zaa (by repeat (first | (with_reducible first | exact HB.out | apply za2 | apply za0 | apply za1 | refine za3 ?_ GE440.out | refine za3 ?_ GE441.out | refine za3 ?_ GE442.out | refine za3 ?_ GE452.out) | exact HB.out))))
        (case aL => have := LMc25.out; omega)
        intro v449 w31 ho hb hg hat
        rw [← Ny448.out] at ho
        have n0_ := Aside0.mk (blk_grown (g := gb440) (o := .cells #[.slice A0_0 l0_0.length c0_0, .int .i64 a0_1] 39 (0, 0)) (by (with_reducible repeat (first | refine za5 ?_ _ | refine za6 ?_ | refine za4 ?_ _)); exact BK440.out) hg (Kd.R_ne HO447.out BK440.out (by decide)))
        have n1_ := Aside0.mk (blk_grown (g := gb441) (o := .cells #[.slice A1_0 l1_0.length c1_0, .int .i64 a1_1] 39 (0, 0)) (by (with_reducible repeat (first | refine za5 ?_ _ | refine za6 ?_ | refine za4 ?_ _)); exact BK441.out) hg (Kd.R_ne HO447.out BK441.out (by decide)))
        have n2_ := Aside0.mk (blk_grown (g := gb442) (o := .cells #[.slice none 0 0, .int .i64 0] 39 (0, 0)) (by (with_reducible repeat (first | refine za5 ?_ _ | refine za6 ?_ | refine za4 ?_ _)); exact BK442.out) hg (Kd.R_ne HO447.out BK442.out (by decide)))
        have n3_ := Aside0.mk (blk_grown (g := gb452) (o := .cells #[.slice none 0 0, .int .i64 0] 39 (0, 0)) (by (with_reducible repeat (first | refine za5 ?_ _ | refine za6 ?_ | refine za4 ?_ _)); exact BK452.out) hg (Kd.R_ne HO447.out BK452.out (by decide)))
        have n4_ := Aside0.mk (hb)
        have n5_ := Aside0.mk (ho)
        clear BK440
        clear BK441
        clear BK442
        clear BK452
        clear HB
        clear HO447
        have BK440 := n0_
        have BK441 := n1_
        have BK442 := n2_
        have BK452 := n3_
        have HB := n4_
        have HO450 := n5_
        clear n0_ n1_ n2_ n3_ n4_ n5_
        clear ho hb hg hat
        refine hK.out _ _ ⟨(za8 BK440.out 0).trans rfl, (za8 BK440.out 1).trans rfl, (za8 BK441.out 0).trans rfl, (za8 BK441.out 1).trans rfl⟩ (fun hHeld => ?_)
        clear hK K
        refine norm_ (a' := ?_) ?_ ?_
        rotate_left
        ·show Act.put _ (some 21) _ = _
         simp only [Act.put, List.setIfInBounds_toArray, List.set_cons_zero, List.set_cons_succ, i64_w, i32_w]
         rfl
        refine one_ (i := 7) (N := some 25) #[true, true, true, true, true, true, true, true, false, true, false] rfl rfl (one_of HT_.out (by kernel_rfl)) (by decide) (fun K hK => ?_)
        refine goes_ Try.func87 (by kernel_rfl) rfl #[.agg #[.slice A0_0 l0_0.length c0_0, .int .i64 a0_1], .int .i64 a1_1] (by rfl) rfl rfl (by (try simp only [List.map_toArray, List.map_cons, List.map_nil]); first | done | rfl | (simp only [List.length_drop, List.length_take]; rfl)) ?_
        with_reducible refine (spec_poBehind.calls _ _ l0_0 a0_1 a1_1 t451 _ ?side1 ?side2 A26.out).mono ?_
        (case side1 => repeat (first | exact (Kd.zar HR0_0.out HB.out) | (with_reducible refine Kd.zav ?_ _) | (with_reducible refine Kd.zau ?_ _) | (with_reducible refine Kd.zaz ?_)))
        (case side2 => exact HC0_0.out)
        rintro e w32 ⟨rfl, hb⟩
        refine ⟨_, rfl, ?_⟩
        have n0_ := Aside0.mk (Kd.zb2 (by (with_reducible repeat (first | apply Kd.zak | apply Kd.zaj | apply Kd.zam)); exact HO450.out) hb)
        have n1_ := Aside0.mk (zad (g := gb440) (o := .cells #[.slice A0_0 l0_0.length c0_0, .int .i64 a0_1] 39 (0, 0)) (by (with_reducible repeat (first | refine za5 ?_ _ | refine za6 ?_ | refine za4 ?_ _)); exact BK440.out) hb)
        have n2_ := Aside0.mk (zad (g := gb441) (o := .cells #[.slice A1_0 l1_0.length c1_0, .int .i64 a1_1] 39 (0, 0)) (by (with_reducible repeat (first | refine za5 ?_ _ | refine za6 ?_ | refine za4 ?_ _)); exact BK441.out) hb)
        have n3_ := Aside0.mk (zad (g := gb442) (o := .cells #[.slice none 0 0, .int .i64 0] 39 (0, 0)) (by (with_reducible repeat (first | refine za5 ?_ _ | refine za6 ?_ | refine za4 ?_ _)); exact BK442.out) hb)
        have n4_ := Aside0.mk (zad (g := gb452) (o := .cells #[.slice none 0 0, .int .i64 0] 39 (0, 0)) (by (with_reducible repeat (first | refine za5 ?_ _ | refine za6 ?_ | refine za4 ?_ _)); exact BK452.out) hb)
        have n5_ := Aside0.mk (zac (by repeat (first | (with_reducible first | exact HB.out | apply za2 | apply za0 | apply za1 | refine za3 ?_ GE440.out | refine za3 ?_ GE441.out | refine za3 ?_ GE442.out | refine za3 ?_ GE452.out) | exact HB.out)) hb)
        clear HO450
        clear BK440
        clear BK441
        clear BK442
        clear BK452
        clear HB
        have HO450 := n0_
        have BK440 := n1_
        have BK441 := n2_
        have BK442 := n3_
        have BK452 := n4_
        have HB := n5_
        clear n0_ n1_ n2_ n3_ n4_ n5_
        (try clear hb)
        (try clear hb2)
        (try clear hk)
        (try clear hi)
        obtain ⟨Ao33, co33, eo33⟩ := Kd.zas HO450.out
        (first | subst eo33 | (injection eo33 with f1_ f2_ f3_; have f4_ := f1_.symm; have f5_ := f3_.symm; clear f1_ f2_ f3_; subst f4_; subst f5_))
        refine hK.out _ _ ⟨(za8 BK440.out 0).trans rfl, (za8 BK440.out 1).trans rfl, (za8 BK441.out 0).trans rfl, (za8 BK441.out 1).trans rfl⟩ (fun hHeld => ?_)
        clear hK K
        refine norm_ (a' := ?_) ?_ ?_
        rotate_left
        ·show Act.put _ (some 25) _ = _
         simp only [Act.put, List.setIfInBounds_toArray, List.set_cons_zero, List.set_cons_succ, i64_w, i32_w]
         rfl
        refine pure_ (i := 8) (N := some 26) (v := ?_) (a' := ?_) #[true, true, true, true, true, true, true, true, true, true, false] rfl rfl (zan HT_.out (by kernel_rfl)) (fun _ _ _ h => h) (Or.inl ⟨by rfl, ?_⟩) ?_ ?_
        rotate_left
        ·intro w'
         go_simp
         with_reducible rfl
        rotate_left
        ·simp only [Act.put, List.setIfInBounds_toArray, List.set_cons_zero, List.set_cons_succ, i64_w, i32_w]
         rfl
        exact norm_ (by simp only [putAll, Act.put, List.setIfInBounds_toArray, List.set_cons_zero, List.set_cons_succ]) (hCont (v446, .slice Ao33 y448.length co33, gb452) _ ⟨hHeld, (by (with_reducible repeat (first | apply Kd.zak | apply Kd.zaj | apply Kd.zam)); exact HO450.out), (by (with_reducible repeat (first | refine za5 ?_ _ | refine za6 ?_ | refine za4 ?_ _)); exact BK440.out), (by (with_reducible repeat (first | refine za5 ?_ _ | refine za6 ?_ | refine za4 ?_ _)); exact BK441.out), (by (with_reducible repeat (first | refine za5 ?_ _ | refine za6 ?_ | refine za4 ?_ _)); exact BK442.out), (by (with_reducible repeat (first | refine za5 ?_ _ | refine za6 ?_ | refine za4 ?_ _)); exact BK452.out), GW452.out, GE452.out, NB440_452.out, NB452_440.out, NB441_452.out, NB452_441.out, NB442_452.out, NB452_442.out, (by repeat (first | (with_reducible first | exact HB.out | apply za2 | apply za0 | apply za1 | refine za3 ?_ GE440.out | refine za3 ?_ GE441.out | refine za3 ?_ GE442.out | refine za3 ?_ GE452.out) | exact HB.out))⟩)
      ·skip
       refine box_step ?hg (N := 6) ?hd (cs := #[.slice none 0 0, .int .i64 0]) (t := 39) ?hr ?_; (case hd => rfl); (case hg => rfl); (case hr => first | (go_simp; done) | (go_simp; rfl))
       intro gb452 hg w28 hbox hb
       have n0_ := Aside0.mk (zad (g := gb440) (o := .cells #[.slice A0_0 l0_0.length c0_0, .int .i64 a0_1] 39 (0, 0)) (by (with_reducible repeat (first | refine za5 ?_ _ | refine za6 ?_ | refine za4 ?_ _)); exact BK440.out) hb)
       have n1_ := Aside0.mk (zad (g := gb441) (o := .cells #[.slice A1_0 l1_0.length c1_0, .int .i64 a1_1] 39 (0, 0)) (by (with_reducible repeat (first | refine za5 ?_ _ | refine za6 ?_ | refine za4 ?_ _)); exact BK441.out) hb)
       have n2_ := Aside0.mk (zad (g := gb442) (o := .cells #[.slice none 0 0, .int .i64 0] 39 (0, 0)) (by (with_reducible repeat (first | refine za5 ?_ _ | refine za6 ?_ | refine za4 ?_ _)); exact BK442.out) hb)
       have n3_ := Aside0.mk (zac (by repeat (first | (with_reducible first | exact HB.out | apply za2 | apply za0 | apply za1 | refine za3 ?_ GE440.out | refine za3 ?_ GE441.out | refine za3 ?_ GE442.out) | exact HB.out)) hb)
       have n4_ := Aside0.mk (hbox)
       have n5_ := Aside0.mk ((by rw [hg]; exact (zaa (by repeat (first | (with_reducible first | exact HB.out | apply za2 | apply za0 | apply za1 | refine za3 ?_ GE440.out | refine za3 ?_ GE441.out | refine za3 ?_ GE442.out) | exact HB.out))) : w.heap.size ≤ gb452))
       have n6_ := Aside0.mk ((by rw [hg]; exact (zaa (by repeat (first | (with_reducible first | exact HB.out | apply za2 | apply za0 | apply za1 | refine za3 ?_ GE440.out | refine za3 ?_ GE441.out | refine za3 ?_ GE442.out) | exact HB.out))) : w.heap.size ≤ gb452))
       have n7_ := Aside0.mk ((by rw [hg]; exact Nat.ne_of_lt (zao (g := gb440) (o := .cells #[.slice A0_0 l0_0.length c0_0, .int .i64 a0_1] 39 (0, 0)) (by (with_reducible repeat (first | refine za5 ?_ _ | refine za6 ?_ | refine za4 ?_ _)); exact BK440.out)) : gb440 ≠ gb452))
       have n8_ := Aside0.mk ((by rw [hg]; exact Nat.ne_of_gt (zao (g := gb440) (o := .cells #[.slice A0_0 l0_0.length c0_0, .int .i64 a0_1] 39 (0, 0)) (by (with_reducible repeat (first | refine za5 ?_ _ | refine za6 ?_ | refine za4 ?_ _)); exact BK440.out)) : gb452 ≠ gb440))
       have n9_ := Aside0.mk ((by rw [hg]; exact Nat.ne_of_lt (zao (g := gb441) (o := .cells #[.slice A1_0 l1_0.length c1_0, .int .i64 a1_1] 39 (0, 0)) (by (with_reducible repeat (first | refine za5 ?_ _ | refine za6 ?_ | refine za4 ?_ _)); exact BK441.out)) : gb441 ≠ gb452))
       have n10_ := Aside0.mk ((by rw [hg]; exact Nat.ne_of_gt (zao (g := gb441) (o := .cells #[.slice A1_0 l1_0.length c1_0, .int .i64 a1_1] 39 (0, 0)) (by (with_reducible repeat (first | refine za5 ?_ _ | refine za6 ?_ | refine za4 ?_ _)); exact BK441.out)) : gb452 ≠ gb441))
       have n11_ := Aside0.mk ((by rw [hg]; exact Nat.ne_of_lt (zao (g := gb442) (o := .cells #[.slice none 0 0, .int .i64 0] 39 (0, 0)) (by (with_reducible repeat (first | refine za5 ?_ _ | refine za6 ?_ | refine za4 ?_ _)); exact BK442.out)) : gb442 ≠ gb452))
       have n12_ := Aside0.mk ((by rw [hg]; exact Nat.ne_of_gt (zao (g := gb442) (o := .cells #[.slice none 0 0, .int .i64 0] 39 (0, 0)) (by (with_reducible repeat (first | refine za5 ?_ _ | refine za6 ?_ | refine za4 ?_ _)); exact BK442.out)) : gb452 ≠ gb442))
       clear BK440
       clear BK441
       clear BK442
       clear HB
       have BK440 := n0_
       have BK441 := n1_
       have BK442 := n2_
       have HB := n3_
       have BK452 := n4_
       have GW452 := n5_
       have GE452 := n6_
       have NB440_452 := n7_
       have NB452_440 := n8_
       have NB441_452 := n9_
       have NB452_441 := n10_
       have NB442_452 := n11_
       have NB452_442 := n12_
       clear n0_ n1_ n2_ n3_ n4_ n5_ n6_ n7_ n8_ n9_ n10_ n11_ n12_
       clear hb hbox hg
       refine hK.out _ _ ⟨(za8 BK440.out 0).trans rfl, (za8 BK440.out 1).trans rfl, (za8 BK441.out 0).trans rfl, (za8 BK441.out 1).trans rfl⟩ (fun hHeld => ?_)
       clear hK K
       refine norm_ (a' := ?_) ?_ ?_
       rotate_left
       ·show Act.put _ (some 6) _ = _
        simp only [Act.put, List.setIfInBounds_toArray, List.set_cons_zero, List.set_cons_succ, i64_w, i32_w]
        rfl
       refine one_ (i := 0) (N := some 18) #[true, true, true, false, true, true, true, false, false, true, false] rfl rfl (one_of HT_.out (by kernel_rfl)) (by decide) (fun K hK => ?_)
       refine Kd.R_lit_step k69 _ 69 ?hg (N := 18) ?hd (xs := ([] : List (S69))) (inner := []) (ok := fun _ => True) (okp := fun _ => True) ?hr ?hp (fun _ hk => hk) trivial (Below.refl _ _) (Nat.le_refl _) (by simp) ?_; (case hd => rfl); (case hg => rfl); (case hr => first | (go_simp; done) | (go_simp; rfl)); (case hp => exact (Reps.none _ _))
       intro v446 w29 ho30 hb hg_ hnew_
       clear hg_ hnew_
       (first | rw [← Ny445.out] at ho30 | (simp only [Int.reduceToNat] at ho30; rw [← Ny445.out] at ho30))
       have n0_ := Aside0.mk (Kd.R_lower ho30 (zaa (by repeat (first | (with_reducible first | exact HB.out | apply za2 | apply za0 | apply za1 | refine za3 ?_ GE440.out | refine za3 ?_ GE441.out | refine za3 ?_ GE442.out | refine za3 ?_ GE452.out) | exact HB.out))))
       have n1_ := Aside0.mk (zad (g := gb440) (o := .cells #[.slice A0_0 l0_0.length c0_0, .int .i64 a0_1] 39 (0, 0)) (by (with_reducible repeat (first | refine za5 ?_ _ | refine za6 ?_ | refine za4 ?_ _)); exact BK440.out) hb)
       have n2_ := Aside0.mk (zad (g := gb441) (o := .cells #[.slice A1_0 l1_0.length c1_0, .int .i64 a1_1] 39 (0, 0)) (by (with_reducible repeat (first | refine za5 ?_ _ | refine za6 ?_ | refine za4 ?_ _)); exact BK441.out) hb)
       have n3_ := Aside0.mk (zad (g := gb442) (o := .cells #[.slice none 0 0, .int .i64 0] 39 (0, 0)) (by (with_reducible repeat (first | refine za5 ?_ _ | refine za6 ?_ | refine za4 ?_ _)); exact BK442.out) hb)
       have n4_ := Aside0.mk (zad (g := gb452) (o := .cells #[.slice none 0 0, .int .i64 0] 39 (0, 0)) (by (with_reducible repeat (first | refine za5 ?_ _ | refine za6 ?_ | refine za4 ?_ _)); exact BK452.out) hb)
       have n5_ := Aside0.mk (zac (by repeat (first | (with_reducible first | exact HB.out | apply za2 | apply za0 | apply za1 | refine za3 ?_ GE440.out | refine za3 ?_ GE441.out | refine za3 ?_ GE442.out | refine za3 ?_ GE452.out) | exact HB.out)) hb)
       clear BK440
       clear BK441
       clear BK442
       clear BK452
       clear HB
       have HO447 := n0_
       have BK440 := n1_
       have BK441 := n2_
       have BK442 := n3_
       have BK452 := n4_
       have HB := n5_
       clear n0_ n1_ n2_ n3_ n4_ n5_
       clear hb ho30
       refine hK.out _ _ ⟨(za8 BK440.out 0).trans rfl, (za8 BK440.out 1).trans rfl, (za8 BK441.out 0).trans rfl, (za8 BK441.out 1).trans rfl⟩ (fun hHeld => ?_)
       clear hK K
       refine norm_ (a' := ?_) ?_ ?_
       rotate_left
       ·show Act.put _ (some 18) _ = _
        simp only [Act.put, List.setIfInBounds_toArray, List.set_cons_zero, List.set_cons_succ, i64_w, i32_w]
        rfl
       refine one_ (i := 3) (N := some 21) #[true, true, true, true, true, true, true, false, false, true, false] rfl rfl (one_of HT_.out (by kernel_rfl)) (by decide) (fun K hK => ?_)
       refine Kd.R_append_rows_step k69 (w0 := w) w.heap.size (by rfl) (.tmp 18) (.tmp 20) 37 69 (.agg #[(.int .i64 0), (.int .i64 0), (.int .i64 0)]) 24 rfl Try.underlying37 info69 rfl (by decide) (by omega) v446 y445 l0_0 _ _ _ (fun _ => True) (fun _ => False) rfl rfl ?aO ?aR (fun _ _ h => h) (fun _ h => h.elim) ?aF ?aB ?aS ?aL ?_
       (case aR => repeat (first | exact (Kd.zar HR0_0.out HB.out) | (with_reducible refine Kd.zav ?_ _) | (with_reducible refine Kd.zau ?_ _) | (with_reducible refine Kd.zaz ?_)))
       (case aB => exact (by repeat (first | (with_reducible first | exact HB.out | apply za2 | apply za0 | apply za1 | refine za3 ?_ GE440.out | refine za3 ?_ GE441.out | refine za3 ?_ GE442.out | refine za3 ?_ GE452.out) | exact HB.out)))
       (case aF => exact (fun _ _ => trivial))
       (case aO => exact (by (with_reducible repeat (first | apply Kd.zak | apply Kd.zaj | apply Kd.zam)); exact HO447.out))
       (case aS => exact (zaa (by repeat (first | (with_reducible first | exact HB.out | apply za2 | apply za0 | apply za1 | refine za3 ?_ GE440.out | refine za3 ?_ GE441.out | refine za3 ?_ GE442.out | refine za3 ?_ GE452.out) | exact HB.out))))
       (case aL => have := LMc25.out; omega)
       intro v449 w31 ho hb hg hat
       rw [← Ny448.out] at ho
       have n0_ := Aside0.mk (blk_grown (g := gb440) (o := .cells #[.slice A0_0 l0_0.length c0_0, .int .i64 a0_1] 39 (0, 0)) (by (with_reducible repeat (first | refine za5 ?_ _ | refine za6 ?_ | refine za4 ?_ _)); exact BK440.out) hg (Kd.R_ne HO447.out BK440.out (by decide)))
       have n1_ := Aside0.mk (blk_grown (g := gb441) (o := .cells #[.slice A1_0 l1_0.length c1_0, .int .i64 a1_1] 39 (0, 0)) (by (with_reducible repeat (first | refine za5 ?_ _ | refine za6 ?_ | refine za4 ?_ _)); exact BK441.out) hg (Kd.R_ne HO447.out BK441.out (by decide)))
       have n2_ := Aside0.mk (blk_grown (g := gb442) (o := .cells #[.slice none 0 0, .int .i64 0] 39 (0, 0)) (by (with_reducible repeat (first | refine za5 ?_ _ | refine za6 ?_ | refine za4 ?_ _)); exact BK442.out) hg (Kd.R_ne HO447.out BK442.out (by decide)))
       have n3_ := Aside0.mk (blk_grown (g := gb452) (o := .cells #[.slice none 0 0, .int .i64 0] 39 (0, 0)) (by (with_reducible repeat (first | refine za5 ?_ _ | refine za6 ?_ | refine za4 ?_ _)); exact BK452.out) hg (Kd.R_ne HO447.out BK452.out (by decide)))
       have n4_ := Aside0.mk (hb)
       have n5_ := Aside0.mk (ho)
       clear BK440
       clear BK441
       clear BK442
       clear BK452
       clear HB
       clear HO447
       have BK440 := n0_
       have BK441 := n1_
       have BK442 := n2_
       have BK452 := n3_
       have HB := n4_
       have HO450 := n5_
       clear n0_ n1_ n2_ n3_ n4_ n5_
       clear ho hb hg hat
       refine hK.out _ _ ⟨(za8 BK440.out 0).trans rfl, (za8 BK440.out 1).trans rfl, (za8 BK441.out 0).trans rfl, (za8 BK441.out 1).trans rfl⟩ (fun hHeld => ?_)
       clear hK K
       refine norm_ (a' := ?_) ?_ ?_
       rotate_left
       ·show Act.put _ (some 21) _ = _
        simp only [Act.put, List.setIfInBounds_toArray, List.set_cons_zero, List.set_cons_succ, i64_w, i32_w]
        rfl
       refine one_ (i := 7) (N := some 25) #[true, true, true, true, true, true, true, true, false, true, false] rfl rfl (one_of HT_.out (by kernel_rfl)) (by decide) (fun K hK => ?_)
       refine goes_ Try.func87 (by kernel_rfl) rfl #[.agg #[.slice A0_0 l0_0.length c0_0, .int .i64 a0_1], .int .i64 a1_1] (by rfl) rfl rfl (by (try simp only [List.map_toArray, List.map_cons, List.map_nil]); first | done | rfl | (simp only [List.length_drop, List.length_take]; rfl)) ?_
       with_reducible refine (spec_poBehind.calls _ _ l0_0 a0_1 a1_1 t451 _ ?side1 ?side2 A26.out).mono ?_
       (case side1 => repeat (first | exact (Kd.zar HR0_0.out HB.out) | (with_reducible refine Kd.zav ?_ _) | (with_reducible refine Kd.zau ?_ _) | (with_reducible refine Kd.zaz ?_)))
       (case side2 => exact HC0_0.out)
       rintro e w32 ⟨rfl, hb⟩
       refine ⟨_, rfl, ?_⟩
       have n0_ := Aside0.mk (Kd.zb2 (by (with_reducible repeat (first | apply Kd.zak | apply Kd.zaj | apply Kd.zam)); exact HO450.out) hb)
       have n1_ := Aside0.mk (zad (g := gb440) (o := .cells #[.slice A0_0 l0_0.length c0_0, .int .i64 a0_1] 39 (0, 0)) (by (with_reducible repeat (first | refine za5 ?_ _ | refine za6 ?_ | refine za4 ?_ _)); exact BK440.out) hb)
       have n2_ := Aside0.mk (zad (g := gb441) (o := .cells #[.slice A1_0 l1_0.length c1_0, .int .i64 a1_1] 39 (0, 0)) (by (with_reducible repeat (first | refine za5 ?_ _ | refine za6 ?_ | refine za4 ?_ _)); exact BK441.out) hb)
       have n3_ := Aside0.mk (zad (g := gb442) (o := .cells #[.slice none 0 0, .int .i64 0] 39 (0, 0)) (by (with_reducible repeat (first | refine za5 ?_ _ | refine za6 ?_ | refine za4 ?_ _)); exact BK442.out) hb)
       have n4_ := Aside0.mk (zad (g := gb452) (o := .cells #[.slice none 0 0, .int .i64 0] 39 (0, 0)) (by (with_reducible repeat (first | refine za5 ?_ _ | refine za6 ?_ | refine za4 ?_ _)); exact BK452.out) hb)
       have n5_ := Aside0.mk (zac (by repeat (first | (with_reducible first | exact HB.out | apply za2 | apply za0 | apply za1 | refine za3 ?_ GE440.out | refine za3 ?_ GE441.out | refine za3 ?_ GE442.out | refine za3 ?_ GE452.out) | exact HB.out)) hb)
       clear HO450
       clear BK440
       clear BK441
       clear BK442
       clear BK452
       clear HB
       have HO450 := n0_
       have BK440 := n1_
       have BK441 := n2_
       have BK442 := n3_
       have BK452 := n4_
       have HB := n5_
       clear n0_ n1_ n2_ n3_ n4_ n5_
       (try clear hb)
       (try clear hb2)
       (try clear hk)
       (try clear hi)
       obtain ⟨Ao33, co33, eo33⟩ := Kd.zas HO450.out
       (first | subst eo33 | (injection eo33 with f1_ f2_ f3_; have f4_ := f1_.symm; have f5_ := f3_.symm; clear f1_ f2_ f3_; subst f4_; subst f5_))
       refine hK.out _ _ ⟨(za8 BK440.out 0).trans rfl, (za8 BK440.out 1).trans rfl, (za8 BK441.out 0).trans rfl, (za8 BK441.out 1).trans rfl⟩ (fun hHeld => ?_)
       clear hK K
       refine norm_ (a' := ?_) ?_ ?_
       rotate_left
       ·show Act.put _ (some 25) _ = _
        simp only [Act.put, List.setIfInBounds_toArray, List.set_cons_zero, List.set_cons_succ, i64_w, i32_w]
        rfl
       refine pure_ (i := 8) (N := some 26) (v := ?_) (a' := ?_) #[true, true, true, true, true, true, true, true, true, true, false] rfl rfl (zan HT_.out (by kernel_rfl)) (fun _ _ _ h => h) (Or.inl ⟨by rfl, ?_⟩) ?_ ?_
       rotate_left
       ·intro w'
        go_simp
        with_reducible rfl
       rotate_left
       ·simp only [Act.put, List.setIfInBounds_toArray, List.set_cons_zero, List.set_cons_succ, i64_w, i32_w]
        rfl
       exact norm_ (by simp only [putAll, Act.put, List.setIfInBounds_toArray, List.set_cons_zero, List.set_cons_succ]) (hCont (v446, .slice Ao33 y448.length co33, gb452) _ ⟨hHeld, (by (with_reducible repeat (first | apply Kd.zak | apply Kd.zaj | apply Kd.zam)); exact HO450.out), (by (with_reducible repeat (first | refine za5 ?_ _ | refine za6 ?_ | refine za4 ?_ _)); exact BK440.out), (by (with_reducible repeat (first | refine za5 ?_ _ | refine za6 ?_ | refine za4 ?_ _)); exact BK441.out), (by (with_reducible repeat (first | refine za5 ?_ _ | refine za6 ?_ | refine za4 ?_ _)); exact BK442.out), (by (with_reducible repeat (first | refine za5 ?_ _ | refine za6 ?_ | refine za4 ?_ _)); exact BK452.out), GW452.out, GE452.out, NB440_452.out, NB452_440.out, NB441_452.out, NB452_441.out, NB442_452.out, NB452_442.out, (by repeat (first | (with_reducible first | exact HB.out | apply za2 | apply za0 | apply za1 | refine za3 ?_ GE440.out | refine za3 ?_ GE441.out | refine za3 ?_ GE442.out | refine za3 ?_ GE452.out) | exact HB.out))⟩)
     rintro ⟨v446, v449, gb452⟩ w34 ⟨hS_, h0_, h1_, h2_, h3_, h4_, h5_, h6_, h7_, h8_, h9_, h10_, h11_, h12_, h13_⟩
     have n0_ : Aside0 (Kd.R k69 69 w34 w.heap.size (fun _ => True) v449 y448) := ⟨h0_⟩
     have n1_ : Aside0 (w34.heap[gb440]? = some (.cells #[.slice A0_0 l0_0.length c0_0, .int .i64 a0_1] 39 (0, 0))) := ⟨h1_⟩
     have n2_ : Aside0 (w34.heap[gb441]? = some (.cells #[.slice A1_0 l1_0.length c1_0, .int .i64 a1_1] 39 (0, 0))) := ⟨h2_⟩
     have n3_ : Aside0 (w34.heap[gb442]? = some (.cells #[.slice none 0 0, .int .i64 0] 39 (0, 0))) := ⟨h3_⟩
     have n4_ : Aside0 (w34.heap[gb452]? = some (.cells #[.slice none 0 0, .int .i64 0] 39 (0, 0))) := ⟨h4_⟩
     have n5_ : Aside0 (w.heap.size ≤ gb452) := ⟨h5_⟩
     have n6_ : Aside0 (w.heap.size ≤ gb452) := ⟨h6_⟩
     have n7_ : Aside0 (gb440 ≠ gb452) := ⟨h7_⟩
     have n8_ : Aside0 (gb452 ≠ gb440) := ⟨h8_⟩
     have n9_ : Aside0 (gb441 ≠ gb452) := ⟨h9_⟩
     have n10_ : Aside0 (gb452 ≠ gb441) := ⟨h10_⟩
     have n11_ : Aside0 (gb442 ≠ gb452) := ⟨h11_⟩
     have n12_ : Aside0 (gb452 ≠ gb442) := ⟨h12_⟩
     have n13_ : Aside0 (Below w.heap.size w w34) := ⟨h13_⟩
     clear BK440
     clear BK441
     clear BK442
     clear HB
     clear h0_ h1_ h2_ h3_ h4_ h5_ h6_ h7_ h8_ h9_ h10_ h11_ h12_ h13_
     have HO450 := n0_
     have BK440 := n1_
     have BK441 := n2_
     have BK442 := n3_
     have BK452 := n4_
     have GW452 := n5_
     have GE452 := n6_
     have NB440_452 := n7_
     have NB452_440 := n8_
     have NB441_452 := n9_
     have NB452_441 := n10_
     have NB442_452 := n11_
     have NB452_442 := n12_
     have HB := n13_
     clear n0_ n1_ n2_ n3_ n4_ n5_ n6_ n7_ n8_ n9_ n10_ n11_ n12_ n13_
     have hHeld : w34.cell? ⟨gb440, 0, none⟩ = some (.slice A0_0 l0_0.length c0_0) ∧ w34.cell? ⟨gb440, 1, none⟩ = some (.int .i64 a0_1) ∧ w34.cell? ⟨gb441, 0, none⟩ = some (.slice A1_0 l1_0.length c1_0) ∧ w34.cell? ⟨gb441, 1, none⟩ = some (.int .i64 a1_1) := hS_
     obtain ⟨Ao35, co35, eo35⟩ := Kd.zas HO450.out
     (first | subst eo35 | (injection eo35 with f1_ f2_ f3_; have f4_ := f1_.symm; have f5_ := f3_.symm; clear f1_ f2_ f3_; subst f4_; subst f5_))
     refine norm_ (a' := ?_) ?_ ?_
     rotate_left
     ·simp only [putAll, Act.put, List.setIfInBounds_toArray, List.set_cons_zero, List.set_cons_succ]
      rfl
     refine one_ (i := 10) (N := none) #[true, true, true, true, true, true, true, true, true, true, true] rfl rfl (one_of HT_.out (by kernel_rfl)) (by decide) (fun K hK => ?_)
     have hs36 : w34.cell? ⟨gb452, 0, none⟩ = some (.slice none 0 0) := (za8 BK452.out 0).trans rfl
     have hfs36 := za7 BK452.out 0
     have hns36_0 := NB440_452.out
     have hns36_1 := NB441_452.out
     have hns36_2 := NB442_452.out
     have hms36_0 := NB452_440.out
     have hms36_1 := NB452_441.out
     have hms36_2 := NB452_442.out
     have hs37 : w34.cell? ⟨gb452, 1, none⟩ = some (.int .i64 0) := (za8 BK452.out 1).trans rfl
     have hfs37 := za7 BK452.out 1
     have hns37_0 := NB440_452.out
     have hns37_1 := NB441_452.out
     have hns37_2 := NB442_452.out
     have hms37_0 := NB452_440.out
     have hms37_1 := NB452_441.out
     have hms37_2 := NB452_442.out
     refine skip_ (w1 := ?_) (by rfl) rfl ?_ ?_
     rotate_left
     ·go_simp
      rfl
     refine hK.out _ _ ⟨((cell_far (p := ⟨gb452, _, none⟩) NB440_452.out _).trans (((cell_far (p := ⟨gb452, _, none⟩) NB440_452.out _).trans (hHeld.1)))), ((cell_far (p := ⟨gb452, _, none⟩) NB440_452.out _).trans (((cell_far (p := ⟨gb452, _, none⟩) NB440_452.out _).trans (hHeld.2.1)))), ((cell_far (p := ⟨gb452, _, none⟩) NB441_452.out _).trans (((cell_far (p := ⟨gb452, _, none⟩) NB441_452.out _).trans (hHeld.2.2.1)))), ((cell_far (p := ⟨gb452, _, none⟩) NB441_452.out _).trans (((cell_far (p := ⟨gb452, _, none⟩) NB441_452.out _).trans (hHeld.2.2.2))))⟩ (fun hHeld => ?_)
     clear hK K
     refine done_ (done_of HT_.out (by kernel_rfl)) ?_
     have hnb38 := NB441_440.out
     have hnc38 := NB440_441.out
     have hnb39 := NB441_442.out
     have hnc39 := NB442_441.out
     have hnb40 := NB441_452.out
     have hnc40 := NB452_441.out
     have hcz41_0 : w34.cell? ⟨gb441, 0, none⟩ = some (.slice A1_0 l1_0.length c1_0) := (za8 BK441.out 0).trans rfl
     have hcz41_1 : w34.cell? ⟨gb441, 1, none⟩ = some (.int .i64 a1_1) := (za8 BK441.out 1).trans rfl
     have hfz41_0 := za7 BK441.out 0
     have hfz41_1 := za7 BK441.out 1
     try go_wp2
     go_loopg [30] kj2 (fun kq v30 w' => ∃ (x30_2 : Int) (x453000_2 : List (S69)) (u453000 : Value), v30 = .int .i64 x30_2 ∧ Aside0 (spec_ThenCode.l0 kq l1_0 (l1_0.length : Int) x30_2 l0_0 a0_1 x453000_2 t451 = some (r1, r2, r3)) ∧ Aside0 (kq ≤ kj2) ∧ Aside0 (Kd.R k69 69 w' w.heap.size (fun _ => True) u453000 x453000_2) ∧ Aside0 (w'.heap[gb440]? = some (.cells #[(.slice A0_0 l0_0.length c0_0), .int .i64 a0_1] 39 (0, 0))) ∧ Aside0 (w'.heap[gb441]? = some (.cells #[(.slice A1_0 l1_0.length c1_0), .int .i64 a1_1] 39 (0, 0))) ∧ Aside0 (w'.heap[gb442]? = some (.cells #[(.slice none 0 0), .int .i64 0] 39 (0, 0))) ∧ Aside0 (w'.heap[gb452]? = some (.cells #[u453000, .int .i64 t451] 39 (0, 0))) ∧ Aside0 (Below w.heap.size w w'))
     case atStart => exact ⟨(0), (y448), (.slice Ao35 y448.length co35), (by first | rfl | (simp; done) | (simp [*]; done)), H', ⟨Nat.le_refl _⟩, ⟨by (with_reducible repeat (first | apply Kd.zak | apply Kd.zaj | apply Kd.zam)); exact Kd.R_mono (Kd.R_far (p := ⟨gb452, 1, none⟩) (Kd.R_far (p := ⟨gb452, 0, none⟩) (Kd.R_types HO450.out BK452.out (by decide)) (fun _ hk => hk.2) (.slice Ao35 y448.length co35)) (fun _ hk => hk.2) (.int .i64 t451)) (fun _ hk => trivial)⟩, ⟨by (with_reducible repeat (first | refine za5 ?_ _ | refine za6 ?_ | refine za4 ?_ _)); refine zay ?_ NB440_452.out _; (with_reducible repeat (first | refine za5 ?_ _ | refine za6 ?_ | refine za4 ?_ _)); refine zay ?_ NB440_452.out _; (with_reducible repeat (first | refine za5 ?_ _ | refine za6 ?_ | refine za4 ?_ _)); exact BK440.out⟩, ⟨by (with_reducible repeat (first | refine za5 ?_ _ | refine za6 ?_ | refine za4 ?_ _)); refine zay ?_ NB441_452.out _; (with_reducible repeat (first | refine za5 ?_ _ | refine za6 ?_ | refine za4 ?_ _)); refine zay ?_ NB441_452.out _; (with_reducible repeat (first | refine za5 ?_ _ | refine za6 ?_ | refine za4 ?_ _)); exact BK441.out⟩, ⟨by (with_reducible repeat (first | refine za5 ?_ _ | refine za6 ?_ | refine za4 ?_ _)); refine zay ?_ NB442_452.out _; (with_reducible repeat (first | refine za5 ?_ _ | refine za6 ?_ | refine za4 ?_ _)); refine zay ?_ NB442_452.out _; (with_reducible repeat (first | refine za5 ?_ _ | refine za6 ?_ | refine za4 ?_ _)); exact BK442.out⟩, ⟨by (with_reducible repeat (first | refine za5 ?_ _ | refine za6 ?_ | refine za4 ?_ _)); refine zat (cs := #[.slice Ao35 y448.length co35, .int .i64 0]) ?_ 1 _ rfl; (with_reducible repeat (first | refine za5 ?_ _ | refine za6 ?_ | refine za4 ?_ _)); refine zat (cs := #[.slice none 0 0, .int .i64 0]) ?_ 0 _ rfl; (with_reducible repeat (first | refine za5 ?_ _ | refine za6 ?_ | refine za4 ?_ _)); exact BK452.out⟩, ⟨by repeat (first | (with_reducible first | exact HB.out | apply za2 | apply za0 | apply za1 | refine za3 ?_ GE440.out | refine za3 ?_ GE441.out | refine za3 ?_ GE442.out | refine za3 ?_ GE452.out) | exact HB.out)⟩⟩
     case round =>
      clear H'
      try clear c1
      try clear c2
      try clear p2
      try clear c3
      try clear c4
      try clear c8
      try clear c25
      try clear c38
      try clear c39
      try clear c40
      try clear hcz41_0
      try clear hcz41_1
      try clear hfz41_0
      try clear hfz41_1
      obtain ⟨x30_2, x453000_2, u453000, rfl, HA, HK2, HO_453000, BK440, BK441, BK442, BK452, HB⟩ := hrel
      cases gk with
      | zero => exact absurd HA.out (by simp [spec_ThenCode.l0])
      | succ k2 =>
       have H := HA.out
       clear HA
       simp only [spec_ThenCode.l0] at H
       by_cases c42 : x30_2 < (l1_0.length : Int)
       ·rw [if_pos c42] at H
        have c42b0 : decide (x30_2 < (l1_0.length : Int)) = true := decide_eq_true c42
        clear c42
        by_cases c43 : 0 ≤ x30_2
        ·rw [if_pos c43] at H
         have c43b0 : decide (0 ≤ x30_2) = true := decide_eq_true c43
         clear c43
         by_cases c44 : x30_2 < (l1_0.length : Int)
         ·rw [if_pos c44] at H
          have c44b0 : decide (x30_2 < (l1_0.length : Int)) = true := decide_eq_true c44
          clear c44
          replace H := Option.bind_eq_some_iff.mp H
          obtain ⟨t460, A450, H⟩ := H
          replace H : ((spec_poBehind.f l0_0 a0_1 ((za9 l1_0 x30_2).f2)).bind fun t461 => ((spec_poMoved.f ((za9 l1_0 x30_2).f0) ((za9 l1_0 x30_2).f1) ((za9 l1_0 x30_2).f2) t460 t461).bind fun bt462 => (if x453000_2.length < 5864062014805 then (spec_ThenCode.l0 k2 l1_0 (l1_0.length : Int) (wrap64 (x30_2 + 1)) l0_0 a0_1 (x453000_2 ++ [(⟨bt462.1, bt462.2.1, bt462.2.2⟩ : S69)]) t451) else (none)))) = some (r1, r2, r3) := H
          have A45 := Aside0.mk A450
          clear A450
          replace H := Option.bind_eq_some_iff.mp H
          obtain ⟨t461, A460, H⟩ := H
          replace H : ((spec_poMoved.f ((za9 l1_0 x30_2).f0) ((za9 l1_0 x30_2).f1) ((za9 l1_0 x30_2).f2) t460 t461).bind fun bt462 => (if x453000_2.length < 5864062014805 then (spec_ThenCode.l0 k2 l1_0 (l1_0.length : Int) (wrap64 (x30_2 + 1)) l0_0 a0_1 (x453000_2 ++ [(⟨bt462.1, bt462.2.1, bt462.2.2⟩ : S69)]) t451) else (none))) = some (r1, r2, r3) := H
          have A46 := Aside0.mk A460
          clear A460
          replace H := Option.bind_eq_some_iff.mp H
          obtain ⟨⟨t462, t463, t464⟩, A470, H⟩ := H
          replace H : (if x453000_2.length < 5864062014805 then (spec_ThenCode.l0 k2 l1_0 (l1_0.length : Int) (wrap64 (x30_2 + 1)) l0_0 a0_1 (x453000_2 ++ [(⟨t462, t463, t464⟩ : S69)]) t451) else (none)) = some (r1, r2, r3) := H
          have A47 := Aside0.mk A470
          clear A470
          by_cases c48 : x453000_2.length < 5864062014805
          ·rw [if_pos c48] at H
           have LMc48 := Aside0.mk c48
           clear c48
           obtain ⟨y465, hy465⟩ : ∃ y_ : List (S69), y_ = (x453000_2 ++ [(⟨t462, t463, t464⟩ : S69)]) := ⟨_, rfl⟩
           replace H : (spec_ThenCode.l0 k2 l1_0 (l1_0.length : Int) (wrap64 (x30_2 + 1)) l0_0 a0_1 y465 t451) = some (r1, r2, r3) := by first | (rw [hy465]; with_reducible exact H) | (have H2_ := (Option.bind_some _ _).symm.trans H; rw [hy465]; with_reducible exact H2_) | (have H2_ := (Option.bind_some _ _).symm.trans H; with_reducible exact H2_) | with_reducible exact H | (rw [hy465]; exact H) | exact H
           have Ny465 := Aside0.mk hy465
           clear hy465
           have H' := Aside0.mk H
           clear H
           have p458 : 0 ≤ (x30_2 : Int) := of_decide_eq_true (by first | (with_reducible assumption) | assumption)
           have q458 : x30_2 < (l1_0.length : Int) := of_decide_eq_true (by first | (with_reducible assumption) | assumption)
           obtain ⟨ad458, e458, hx458_0, hx458_1, hx458_2⟩ := at_T69 HR1_0.out x30_2 p458 q458
           cases e458
           replace hx458_0 := (HB.out.cell (World.block_lt_of_cell? w _ hx458_0)).trans hx458_0
           replace hx458_1 := (HB.out.cell (World.block_lt_of_cell? w _ hx458_1)).trans hx458_1
           replace hx458_2 := (HB.out.cell (World.block_lt_of_cell? w _ hx458_2)).trans hx458_2
           replace p458 := eq_true p458
           replace q458 := eq_true q458
           try go_wp2_with (first | ((with_reducible refine zai (N := 8) rfl ?_); refine zah ?hg (N := 8) ?hd (cs := #[.int .i64 0, .int .i64 0, .int .i64 0]) (t := 69) ?hr ?_; (case hd => rfl); (case hg => rfl); (case hr => first | (go_simp; done) | (go_simp; rfl)); intro gb459 hg w49 hbox hb; have n0_ := Aside0.mk (Kd.zb2 (Kd.R_elderB (by (with_reducible repeat (first | apply Kd.zak | apply Kd.zaj | apply Kd.zam)); exact HO_453000.out) gb459 (Nat.le_of_eq hg.symm)) hb); have n1_ := Aside0.mk (zad (g := gb440) (o := .cells #[.slice A0_0 l0_0.length c0_0, .int .i64 a0_1] 39 (0, 0)) (by (with_reducible repeat (first | refine za5 ?_ _ | refine za6 ?_ | refine za4 ?_ _)); exact BK440.out) hb); have n2_ := Aside0.mk (zad (g := gb441) (o := .cells #[.slice (some ad458) l1_0.length c1_0, .int .i64 a1_1] 39 (0, 0)) (by (with_reducible repeat (first | refine za5 ?_ _ | refine za6 ?_ | refine za4 ?_ _)); exact BK441.out) hb); have n3_ := Aside0.mk (zad (g := gb442) (o := .cells #[.slice none 0 0, .int .i64 0] 39 (0, 0)) (by (with_reducible repeat (first | refine za5 ?_ _ | refine za6 ?_ | refine za4 ?_ _)); exact BK442.out) hb); have n4_ := Aside0.mk (zad (g := gb452) (o := .cells #[u453000, .int .i64 t451] 39 (0, 0)) (by (with_reducible repeat (first | refine za5 ?_ _ | refine za6 ?_ | refine za4 ?_ _)); exact BK452.out) hb); have n5_ := Aside0.mk (zac (by repeat (first | (with_reducible first | exact HB.out | apply za2 | apply za0 | apply za1 | refine za3 ?_ GE440.out | refine za3 ?_ GE441.out | refine za3 ?_ GE442.out | refine za3 ?_ GE452.out) | exact HB.out)) hb); have n6_ := Aside0.mk (hbox); have n7_ := Aside0.mk ((by rw [hg]; exact (zaa (by repeat (first | (with_reducible first | exact HB.out | apply za2 | apply za0 | apply za1 | refine za3 ?_ GE440.out | refine za3 ?_ GE441.out | refine za3 ?_ GE442.out | refine za3 ?_ GE452.out) | exact HB.out))) : w.heap.size ≤ gb459)); have n8_ := Aside0.mk ((by rw [hg]; exact (zaa (by repeat (first | (with_reducible first | exact HB.out | apply za2 | apply za0 | apply za1 | refine za3 ?_ GE440.out | refine za3 ?_ GE441.out | refine za3 ?_ GE442.out | refine za3 ?_ GE452.out) | exact HB.out))) : w.heap.size ≤ gb459)); have n9_ := Aside0.mk ((by rw [hg]; exact Nat.ne_of_lt (zao (g := gb440) (o := .cells #[.slice A0_0 l0_0.length c0_0, .int .i64 a0_1] 39 (0, 0)) (by (with_reducible repeat (first | refine za5 ?_ _ | refine za6 ?_ | refine za4 ?_ _)); exact BK440.out)) : gb440 ≠ gb459)); have n10_ := Aside0.mk ((by rw [hg]; exact Nat.ne_of_gt (zao (g := gb440) (o := .cells #[.slice A0_0 l0_0.length c0_0, .int .i64 a0_1] 39 (0, 0)) (by (with_reducible repeat (first | refine za5 ?_ _ | refine za6 ?_ | refine za4 ?_ _)); exact BK440.out)) : gb459 ≠ gb440)); have n11_ := Aside0.mk ((by rw [hg]; exact Nat.ne_of_lt (zao (g := gb441) (o := .cells #[.slice (some ad458) l1_0.length c1_0, .int .i64 a1_1] 39 (0, 0)) (by (with_reducible repeat (first | refine za5 ?_ _ | refine za6 ?_ | refine za4 ?_ _)); exact BK441.out)) : gb441 ≠ gb459)); have n12_ := Aside0.mk ((by rw [hg]; exact Nat.ne_of_gt (zao (g := gb441) (o := .cells #[.slice (some ad458) l1_0.length c1_0, .int .i64 a1_1] 39 (0, 0)) (by (with_reducible repeat (first | refine za5 ?_ _ | refine za6 ?_ | refine za4 ?_ _)); exact BK441.out)) : gb459 ≠ gb441)); have n13_ := Aside0.mk ((by rw [hg]; exact Nat.ne_of_lt (zao (g := gb442) (o := .cells #[.slice none 0 0, .int .i64 0] 39 (0, 0)) (by (with_reducible repeat (first | refine za5 ?_ _ | refine za6 ?_ | refine za4 ?_ _)); exact BK442.out)) : gb442 ≠ gb459)); have n14_ := Aside0.mk ((by rw [hg]; exact Nat.ne_of_gt (zao (g := gb442) (o := .cells #[.slice none 0 0, .int .i64 0] 39 (0, 0)) (by (with_reducible repeat (first | refine za5 ?_ _ | refine za6 ?_ | refine za4 ?_ _)); exact BK442.out)) : gb459 ≠ gb442)); have n15_ := Aside0.mk ((by rw [hg]; exact Nat.ne_of_lt (zao (g := gb452) (o := .cells #[u453000, .int .i64 t451] 39 (0, 0)) (by (with_reducible repeat (first | refine za5 ?_ _ | refine za6 ?_ | refine za4 ?_ _)); exact BK452.out)) : gb452 ≠ gb459)); have n16_ := Aside0.mk ((by rw [hg]; exact Nat.ne_of_gt (zao (g := gb452) (o := .cells #[u453000, .int .i64 t451] 39 (0, 0)) (by (with_reducible repeat (first | refine za5 ?_ _ | refine za6 ?_ | refine za4 ?_ _)); exact BK452.out)) : gb459 ≠ gb452)); clear HO_453000; clear BK440; clear BK441; clear BK442; clear BK452; clear HB; have HO_453000 := n0_; have BK440 := n1_; have BK441 := n2_; have BK442 := n3_; have BK452 := n4_; have HB := n5_; have BK459 := n6_; have GW459 := n7_; have GE459 := n8_; have NB440_459 := n9_; have NB459_440 := n10_; have NB441_459 := n11_; have NB459_441 := n12_; have NB442_459 := n13_; have NB459_442 := n14_; have NB452_459 := n15_; have NB459_452 := n16_; clear n0_ n1_ n2_ n3_ n4_ n5_ n6_ n7_ n8_ n9_ n10_ n11_ n12_ n13_ n14_ n15_ n16_; clear hb hbox hg; have hnb50 := NB459_440.out; have hnc50 := NB440_459.out; have hnb51 := NB459_441.out; have hnc51 := NB441_459.out; have hnb52 := NB459_442.out; have hnc52 := NB442_459.out; have hnb53 := NB459_452.out; have hnc53 := NB452_459.out; have hcz54_0 : w49.cell? ⟨gb459, 0, none⟩ = some (.int .i64 0) := (za8 BK459.out 0).trans rfl; have hcz54_1 : w49.cell? ⟨gb459, 1, none⟩ = some (.int .i64 0) := (za8 BK459.out 1).trans rfl; have hcz54_2 : w49.cell? ⟨gb459, 2, none⟩ = some (.int .i64 0) := (za8 BK459.out 2).trans rfl; have hfz54_0 := za7 BK459.out 0; have hfz54_1 := za7 BK459.out 1; have hfz54_2 := za7 BK459.out 2))
           have n0_ : Aside0 (Kd.R k69 69 (((w49.setCell ⟨gb459, 0, none⟩ (.int .i64 ((za9 l1_0 x30_2).f0))).setCell ⟨gb459, 1, none⟩ (.int .i64 ((za9 l1_0 x30_2).f1))).setCell ⟨gb459, 2, none⟩ (.int .i64 ((za9 l1_0 x30_2).f2))) w.heap.size (fun k_ => k_ ≠ gb459) u453000 x453000_2) := ⟨by (with_reducible repeat (first | apply Kd.zak | apply Kd.zaj | apply Kd.zam)); exact Kd.R_mono (Kd.R_far (p := ⟨gb459, 2, none⟩) (Kd.R_far (p := ⟨gb459, 1, none⟩) (Kd.R_far (p := ⟨gb459, 0, none⟩) (Kd.R_mono HO_453000.out (fun k_ hk => (⟨hk, hk.2⟩ : _ ∧ k_ ≠ gb459))) (fun _ hk => hk.2) (.int .i64 ((za9 l1_0 x30_2).f0))) (fun _ hk => hk.2) (.int .i64 ((za9 l1_0 x30_2).f1))) (fun _ hk => hk.2) (.int .i64 ((za9 l1_0 x30_2).f2))) (fun _ hk => hk.1.2)⟩
           have n1_ : Aside0 ((((w49.setCell ⟨gb459, 0, none⟩ (.int .i64 ((za9 l1_0 x30_2).f0))).setCell ⟨gb459, 1, none⟩ (.int .i64 ((za9 l1_0 x30_2).f1))).setCell ⟨gb459, 2, none⟩ (.int .i64 ((za9 l1_0 x30_2).f2))).heap[gb440]? = some (.cells #[.slice A0_0 l0_0.length c0_0, .int .i64 a0_1] 39 (0, 0))) := ⟨by (with_reducible repeat (first | refine za5 ?_ _ | refine za6 ?_ | refine za4 ?_ _)); refine zay ?_ NB440_459.out _; (with_reducible repeat (first | refine za5 ?_ _ | refine za6 ?_ | refine za4 ?_ _)); refine zay ?_ NB440_459.out _; (with_reducible repeat (first | refine za5 ?_ _ | refine za6 ?_ | refine za4 ?_ _)); refine zay ?_ NB440_459.out _; (with_reducible repeat (first | refine za5 ?_ _ | refine za6 ?_ | refine za4 ?_ _)); exact BK440.out⟩
           have n2_ : Aside0 ((((w49.setCell ⟨gb459, 0, none⟩ (.int .i64 ((za9 l1_0 x30_2).f0))).setCell ⟨gb459, 1, none⟩ (.int .i64 ((za9 l1_0 x30_2).f1))).setCell ⟨gb459, 2, none⟩ (.int .i64 ((za9 l1_0 x30_2).f2))).heap[gb441]? = some (.cells #[.slice (some ad458) l1_0.length c1_0, .int .i64 a1_1] 39 (0, 0))) := ⟨by (with_reducible repeat (first | refine za5 ?_ _ | refine za6 ?_ | refine za4 ?_ _)); refine zay ?_ NB441_459.out _; (with_reducible repeat (first | refine za5 ?_ _ | refine za6 ?_ | refine za4 ?_ _)); refine zay ?_ NB441_459.out _; (with_reducible repeat (first | refine za5 ?_ _ | refine za6 ?_ | refine za4 ?_ _)); refine zay ?_ NB441_459.out _; (with_reducible repeat (first | refine za5 ?_ _ | refine za6 ?_ | refine za4 ?_ _)); exact BK441.out⟩
           have n3_ : Aside0 ((((w49.setCell ⟨gb459, 0, none⟩ (.int .i64 ((za9 l1_0 x30_2).f0))).setCell ⟨gb459, 1, none⟩ (.int .i64 ((za9 l1_0 x30_2).f1))).setCell ⟨gb459, 2, none⟩ (.int .i64 ((za9 l1_0 x30_2).f2))).heap[gb442]? = some (.cells #[.slice none 0 0, .int .i64 0] 39 (0, 0))) := ⟨by (with_reducible repeat (first | refine za5 ?_ _ | refine za6 ?_ | refine za4 ?_ _)); refine zay ?_ NB442_459.out _; (with_reducible repeat (first | refine za5 ?_ _ | refine za6 ?_ | refine za4 ?_ _)); refine zay ?_ NB442_459.out _; (with_reducible repeat (first | refine za5 ?_ _ | refine za6 ?_ | refine za4 ?_ _)); refine zay ?_ NB442_459.out _; (with_reducible repeat (first | refine za5 ?_ _ | refine za6 ?_ | refine za4 ?_ _)); exact BK442.out⟩
           have n4_ : Aside0 ((((w49.setCell ⟨gb459, 0, none⟩ (.int .i64 ((za9 l1_0 x30_2).f0))).setCell ⟨gb459, 1, none⟩ (.int .i64 ((za9 l1_0 x30_2).f1))).setCell ⟨gb459, 2, none⟩ (.int .i64 ((za9 l1_0 x30_2).f2))).heap[gb452]? = some (.cells #[u453000, .int .i64 t451] 39 (0, 0))) := ⟨by (with_reducible repeat (first | refine za5 ?_ _ | refine za6 ?_ | refine za4 ?_ _)); refine zay ?_ NB452_459.out _; (with_reducible repeat (first | refine za5 ?_ _ | refine za6 ?_ | refine za4 ?_ _)); refine zay ?_ NB452_459.out _; (with_reducible repeat (first | refine za5 ?_ _ | refine za6 ?_ | refine za4 ?_ _)); refine zay ?_ NB452_459.out _; (with_reducible repeat (first | refine za5 ?_ _ | refine za6 ?_ | refine za4 ?_ _)); exact BK452.out⟩
           have n5_ : Aside0 ((((w49.setCell ⟨gb459, 0, none⟩ (.int .i64 ((za9 l1_0 x30_2).f0))).setCell ⟨gb459, 1, none⟩ (.int .i64 ((za9 l1_0 x30_2).f1))).setCell ⟨gb459, 2, none⟩ (.int .i64 ((za9 l1_0 x30_2).f2))).heap[gb459]? = some (.cells #[.int .i64 ((za9 l1_0 x30_2).f0), .int .i64 ((za9 l1_0 x30_2).f1), .int .i64 ((za9 l1_0 x30_2).f2)] 69 (0, 0))) := ⟨by (with_reducible repeat (first | refine za5 ?_ _ | refine za6 ?_ | refine za4 ?_ _)); refine zat (cs := #[.int .i64 ((za9 l1_0 x30_2).f0), .int .i64 ((za9 l1_0 x30_2).f1), .int .i64 0]) ?_ 2 _ rfl; (with_reducible repeat (first | refine za5 ?_ _ | refine za6 ?_ | refine za4 ?_ _)); refine zat (cs := #[.int .i64 ((za9 l1_0 x30_2).f0), .int .i64 0, .int .i64 0]) ?_ 1 _ rfl; (with_reducible repeat (first | refine za5 ?_ _ | refine za6 ?_ | refine za4 ?_ _)); refine zat (cs := #[.int .i64 0, .int .i64 0, .int .i64 0]) ?_ 0 _ rfl; (with_reducible repeat (first | refine za5 ?_ _ | refine za6 ?_ | refine za4 ?_ _)); exact BK459.out⟩
           have n6_ : Aside0 (Below w.heap.size w (((w49.setCell ⟨gb459, 0, none⟩ (.int .i64 ((za9 l1_0 x30_2).f0))).setCell ⟨gb459, 1, none⟩ (.int .i64 ((za9 l1_0 x30_2).f1))).setCell ⟨gb459, 2, none⟩ (.int .i64 ((za9 l1_0 x30_2).f2)))) := ⟨by repeat (first | (with_reducible first | exact HB.out | apply za2 | apply za0 | apply za1 | refine za3 ?_ GE440.out | refine za3 ?_ GE441.out | refine za3 ?_ GE442.out | refine za3 ?_ GE452.out | refine za3 ?_ GE459.out) | exact HB.out)⟩
           (try clear HO_453000)
           (try clear BK440)
           (try clear BK441)
           (try clear BK442)
           (try clear BK452)
           (try clear BK459)
           (try clear HB)
           generalize (((w49.setCell ⟨gb459, 0, none⟩ (.int .i64 ((za9 l1_0 x30_2).f0))).setCell ⟨gb459, 1, none⟩ (.int .i64 ((za9 l1_0 x30_2).f1))).setCell ⟨gb459, 2, none⟩ (.int .i64 ((za9 l1_0 x30_2).f2))) = w55 at n0_ n1_ n2_ n3_ n4_ n5_ n6_ ⊢
           have HO_453000 := n0_
           have BK440 := n1_
           have BK441 := n2_
           have BK442 := n3_
           have BK452 := n4_
           have BK459 := n5_
           have HB := n6_
           clear n0_ n1_ n2_ n3_ n4_ n5_ n6_
           have n0_ := Aside0.mk (Kd.zam HO_453000.out)
           have n1_ := Aside0.mk (za6 BK440.out)
           have n2_ := Aside0.mk (za6 BK441.out)
           have n3_ := Aside0.mk (za6 BK442.out)
           have n4_ := Aside0.mk (za6 BK452.out)
           have n5_ := Aside0.mk (za6 BK459.out)
           have n6_ := Aside0.mk (za1 HB.out)
           clear HO_453000
           clear BK440
           clear BK441
           clear BK442
           clear BK452
           clear BK459
           clear HB
           have HO_453000 := n0_
           have BK440 := n1_
           have BK441 := n2_
           have BK442 := n3_
           have BK452 := n4_
           have BK459 := n5_
           have HB := n6_
           clear n0_ n1_ n2_ n3_ n4_ n5_ n6_
           refine start_ (n := 16) (S := fun w' => w'.cell? ⟨gb452, 0, none⟩ = some (u453000) ∧ w'.cell? ⟨gb452, 1, none⟩ = some (.int .i64 t451) ∧ w'.cell? ⟨gb459, 0, none⟩ = some (.int .i64 ((za9 l1_0 x30_2).f0)) ∧ w'.cell? ⟨gb459, 1, none⟩ = some (.int .i64 ((za9 l1_0 x30_2).f1)) ∧ w'.cell? ⟨gb459, 2, none⟩ = some (.int .i64 ((za9 l1_0 x30_2).f2)) ∧ w'.cell? ⟨gb440, 0, none⟩ = some (.slice A0_0 l0_0.length c0_0) ∧ w'.cell? ⟨gb440, 1, none⟩ = some (.int .i64 a0_1)) (ds := [15]) #[false, false, false, false, false, false, false, false, false, false, false, false, false, false, false, false] (by kernel_rfl) rfl rfl ⟨(za8 BK452.out 0).trans rfl, (za8 BK452.out 1).trans rfl, (za8 BK459.out 0).trans rfl, (za8 BK459.out 1).trans rfl, (za8 BK459.out 2).trans rfl, (za8 BK440.out 0).trans rfl, (za8 BK440.out 1).trans rfl⟩ (fun hHeld => ?_); refine with_tabW spec_ThenCode.tab7 spec_ThenCode.bits7 (fun HT_ HW_ => ?_)
           generalize w55.drew = w56 at HO_453000 BK440 BK441 BK442 BK452 BK459 HB hHeld ⊢
           refine pure_ (i := 0) (N := some 34) (v := ?_) (a' := ?_) #[true, false, false, false, false, false, false, false, false, false, false, false, false, false, false, false] rfl rfl (zan HT_.out (by kernel_rfl)) (fun _ _ _ h => h) (Or.inl ⟨by rfl, ?_⟩) ?_ ?_
           rotate_left
           ·intro w'
            go_simp
            with_reducible rfl
           rotate_left
           ·simp only [Act.put, List.setIfInBounds_toArray, List.set_cons_zero, List.set_cons_succ, i64_w, i32_w]
            rfl
           refine pure_ (i := 4) (N := some 38) (v := ?_) (a' := ?_) #[true, false, false, false, true, false, false, false, false, false, false, false, false, false, false, false] rfl rfl (zan HT_.out (by kernel_rfl)) (fun _ _ _ h => h) (Or.inl ⟨by rfl, ?_⟩) ?_ ?_
           rotate_left
           ·intro w'
            go_simp
            with_reducible rfl
           rotate_left
           ·simp only [Act.put, List.setIfInBounds_toArray, List.set_cons_zero, List.set_cons_succ, i64_w, i32_w]
            rfl
           refine pure_ (i := 8) (N := some 42) (v := ?_) (a' := ?_) #[true, false, false, false, true, false, false, false, true, false, false, false, false, false, false, false] rfl rfl (zan HT_.out (by kernel_rfl)) (fun _ _ _ h => h) (Or.inl ⟨by rfl, ?_⟩) ?_ ?_
           rotate_left
           ·intro w'
            go_simp
            with_reducible rfl
           rotate_left
           ·simp only [Act.put, List.setIfInBounds_toArray, List.set_cons_zero, List.set_cons_succ, i64_w, i32_w]
            rfl
           refine take_ (i := 1) (N := some 35) (v := ?_) (a' := ?_) #[true, true, false, false, true, false, false, false, true, false, false, false, false, false, false, false] rfl rfl (zax HT_.out HW_.out (by kernel_rfl)) (fun _ _ _ h => h) (Or.inl ⟨by rfl, ?_⟩) hHeld ?_ ?_
           rotate_left
           ·rintro w' ⟨s0, s1, s2, s3, s4, s5, s6⟩
            go_simp
            with_reducible rfl
           rotate_left
           ·simp only [Act.put, List.setIfInBounds_toArray, List.set_cons_zero, List.set_cons_succ, i64_w, i32_w]
            rfl
           refine take_ (i := 2) (N := some 36) (v := ?_) (a' := ?_) #[true, true, true, false, true, false, false, false, true, false, false, false, false, false, false, false] rfl rfl (zax HT_.out HW_.out (by kernel_rfl)) (fun _ _ _ h => h) (Or.inl ⟨by rfl, ?_⟩) hHeld ?_ ?_
           rotate_left
           ·rintro w' ⟨s0, s1, s2, s3, s4, s5, s6⟩
            go_simp
            with_reducible rfl
           rotate_left
           ·simp only [Act.put, List.setIfInBounds_toArray, List.set_cons_zero, List.set_cons_succ, i64_w, i32_w]
            rfl
           refine take_ (i := 3) (N := some 37) (v := ?_) (a' := ?_) #[true, true, true, true, true, false, false, false, true, false, false, false, false, false, false, false] rfl rfl (zax HT_.out HW_.out (by kernel_rfl)) (fun _ _ _ h => h) (Or.inl ⟨by rfl, ?_⟩) hHeld ?_ ?_
           rotate_left
           ·rintro w' ⟨s0, s1, s2, s3, s4, s5, s6⟩
            go_simp
            with_reducible rfl
           rotate_left
           ·simp only [Act.put, List.setIfInBounds_toArray, List.set_cons_zero, List.set_cons_succ, i64_w, i32_w]
            rfl
           refine take_ (i := 5) (N := some 39) (v := ?_) (a' := ?_) #[true, true, true, true, true, true, false, false, true, false, false, false, false, false, false, false] rfl rfl (zax HT_.out HW_.out (by kernel_rfl)) (fun _ _ _ h => h) (Or.inl ⟨by rfl, ?_⟩) hHeld ?_ ?_
           rotate_left
           ·rintro w' ⟨s0, s1, s2, s3, s4, s5, s6⟩
            go_simp
            with_reducible rfl
           rotate_left
           ·simp only [Act.put, List.setIfInBounds_toArray, List.set_cons_zero, List.set_cons_succ, i64_w, i32_w]
            rfl
           refine take_ (i := 7) (N := some 41) (v := ?_) (a' := ?_) #[true, true, true, true, true, true, false, true, true, false, false, false, false, false, false, false] rfl rfl (zax HT_.out HW_.out (by kernel_rfl)) (fun _ _ _ h => h) (Or.inl ⟨by rfl, ?_⟩) hHeld ?_ ?_
           rotate_left
           ·rintro w' ⟨s0, s1, s2, s3, s4, s5, s6⟩
            go_simp
            with_reducible rfl
           rotate_left
           ·simp only [Act.put, List.setIfInBounds_toArray, List.set_cons_zero, List.set_cons_succ, i64_w, i32_w]
            rfl
           refine take_ (i := 9) (N := some 43) (v := ?_) (a' := ?_) #[true, true, true, true, true, true, false, true, true, true, false, false, false, false, false, false] rfl rfl (zax HT_.out HW_.out (by kernel_rfl)) (fun _ _ _ h => h) (Or.inl ⟨by rfl, ?_⟩) hHeld ?_ ?_
           rotate_left
           ·rintro w' ⟨s0, s1, s2, s3, s4, s5, s6⟩
            go_simp
            with_reducible rfl
           rotate_left
           ·simp only [Act.put, List.setIfInBounds_toArray, List.set_cons_zero, List.set_cons_succ, i64_w, i32_w]
            rfl
           refine one_ (i := 6) (N := some 40) #[true, true, true, true, true, true, true, true, true, true, false, false, false, false, false, false] rfl rfl (one_of HT_.out (by kernel_rfl)) (by decide) (fun K hK => ?_)
           refine goes_ Try.func87 (by kernel_rfl) rfl #[.agg #[.slice A0_0 l0_0.length c0_0, .int .i64 a0_1], .int .i64 ((za9 l1_0 x30_2).f1)] (by rfl) rfl rfl (by (try simp only [List.map_toArray, List.map_cons, List.map_nil]); first | done | rfl | (simp only [List.length_drop, List.length_take]; rfl)) ?_
           with_reducible refine (spec_poBehind.calls _ _ l0_0 a0_1 ((za9 l1_0 x30_2).f1) t460 _ ?side1 ?side2 A45.out).mono ?_
           (case side1 => repeat (first | exact (Kd.zar HR0_0.out HB.out) | (with_reducible refine Kd.zav ?_ _) | (with_reducible refine Kd.zau ?_ _) | (with_reducible refine Kd.zaz ?_)))
           (case side2 => exact HC0_0.out)
           rintro e w57 ⟨rfl, hb⟩
           refine ⟨_, rfl, ?_⟩
           have n0_ := Aside0.mk (Kd.zb2 (by (with_reducible repeat (first | apply Kd.zak | apply Kd.zaj | apply Kd.zam)); exact HO_453000.out) hb)
           have n1_ := Aside0.mk (zad (g := gb440) (o := .cells #[.slice A0_0 l0_0.length c0_0, .int .i64 a0_1] 39 (0, 0)) (by (with_reducible repeat (first | refine za5 ?_ _ | refine za6 ?_ | refine za4 ?_ _)); exact BK440.out) hb)
           have n2_ := Aside0.mk (zad (g := gb441) (o := .cells #[.slice (some ad458) l1_0.length c1_0, .int .i64 a1_1] 39 (0, 0)) (by (with_reducible repeat (first | refine za5 ?_ _ | refine za6 ?_ | refine za4 ?_ _)); exact BK441.out) hb)
           have n3_ := Aside0.mk (zad (g := gb442) (o := .cells #[.slice none 0 0, .int .i64 0] 39 (0, 0)) (by (with_reducible repeat (first | refine za5 ?_ _ | refine za6 ?_ | refine za4 ?_ _)); exact BK442.out) hb)
           have n4_ := Aside0.mk (zad (g := gb452) (o := .cells #[u453000, .int .i64 t451] 39 (0, 0)) (by (with_reducible repeat (first | refine za5 ?_ _ | refine za6 ?_ | refine za4 ?_ _)); exact BK452.out) hb)
           have n5_ := Aside0.mk (zad (g := gb459) (o := .cells #[.int .i64 ((za9 l1_0 x30_2).f0), .int .i64 ((za9 l1_0 x30_2).f1), .int .i64 ((za9 l1_0 x30_2).f2)] 69 (0, 0)) (by (with_reducible repeat (first | refine za5 ?_ _ | refine za6 ?_ | refine za4 ?_ _)); exact BK459.out) hb)
           have n6_ := Aside0.mk (zac (by repeat (first | (with_reducible first | exact HB.out | apply za2 | apply za0 | apply za1 | refine za3 ?_ GE440.out | refine za3 ?_ GE441.out | refine za3 ?_ GE442.out | refine za3 ?_ GE452.out | refine za3 ?_ GE459.out) | exact HB.out)) hb)
           clear HO_453000
           clear BK440
           clear BK441
           clear BK442
           clear BK452
           clear BK459
           clear HB
           have HO_453000 := n0_
           have BK440 := n1_
           have BK441 := n2_
           have BK442 := n3_
           have BK452 := n4_
           have BK459 := n5_
           have HB := n6_
           clear n0_ n1_ n2_ n3_ n4_ n5_ n6_
           (try clear hb)
           (try clear hb2)
           (try clear hk)
           (try clear hi)
           refine hK.out _ _ ⟨(za8 BK452.out 0).trans rfl, (za8 BK452.out 1).trans rfl, (za8 BK459.out 0).trans rfl, (za8 BK459.out 1).trans rfl, (za8 BK459.out 2).trans rfl, (za8 BK440.out 0).trans rfl, (za8 BK440.out 1).trans rfl⟩ (fun hHeld => ?_)
           clear hK K
           refine norm_ (a' := ?_) ?_ ?_
           rotate_left
           ·show Act.put _ (some 40) _ = _
            simp only [Act.put, List.setIfInBounds_toArray, List.set_cons_zero, List.set_cons_succ, i64_w, i32_w]
            rfl
           refine one_ (i := 10) (N := some 44) #[true, true, true, true, true, true, true, true, true, true, true, false, false, false, false, false] rfl rfl (one_of HT_.out (by kernel_rfl)) (by decide) (fun K hK => ?_)
           refine goes_ Try.func87 (by kernel_rfl) rfl #[.agg #[.slice A0_0 l0_0.length c0_0, .int .i64 a0_1], .int .i64 ((za9 l1_0 x30_2).f2)] (by rfl) rfl rfl (by (try simp only [List.map_toArray, List.map_cons, List.map_nil]); first | done | rfl | (simp only [List.length_drop, List.length_take]; rfl)) ?_
           with_reducible refine (spec_poBehind.calls _ _ l0_0 a0_1 ((za9 l1_0 x30_2).f2) t461 _ ?side1 ?side2 A46.out).mono ?_
           (case side1 => repeat (first | exact (Kd.zar HR0_0.out HB.out) | (with_reducible refine Kd.zav ?_ _) | (with_reducible refine Kd.zau ?_ _) | (with_reducible refine Kd.zaz ?_)))
           (case side2 => exact HC0_0.out)
           rintro e w58 ⟨rfl, hb⟩
           refine ⟨_, rfl, ?_⟩
           have n0_ := Aside0.mk (Kd.zb2 (by (with_reducible repeat (first | apply Kd.zak | apply Kd.zaj | apply Kd.zam)); exact HO_453000.out) hb)
           have n1_ := Aside0.mk (zad (g := gb440) (o := .cells #[.slice A0_0 l0_0.length c0_0, .int .i64 a0_1] 39 (0, 0)) (by (with_reducible repeat (first | refine za5 ?_ _ | refine za6 ?_ | refine za4 ?_ _)); exact BK440.out) hb)
           have n2_ := Aside0.mk (zad (g := gb441) (o := .cells #[.slice (some ad458) l1_0.length c1_0, .int .i64 a1_1] 39 (0, 0)) (by (with_reducible repeat (first | refine za5 ?_ _ | refine za6 ?_ | refine za4 ?_ _)); exact BK441.out) hb)
           have n3_ := Aside0.mk (zad (g := gb442) (o := .cells #[.slice none 0 0, .int .i64 0] 39 (0, 0)) (by (with_reducible repeat (first | refine za5 ?_ _ | refine za6 ?_ | refine za4 ?_ _)); exact BK442.out) hb)
           have n4_ := Aside0.mk (zad (g := gb452) (o := .cells #[u453000, .int .i64 t451] 39 (0, 0)) (by (with_reducible repeat (first | refine za5 ?_ _ | refine za6 ?_ | refine za4 ?_ _)); exact BK452.out) hb)
           have n5_ := Aside0.mk (zad (g := gb459) (o := .cells #[.int .i64 ((za9 l1_0 x30_2).f0), .int .i64 ((za9 l1_0 x30_2).f1), .int .i64 ((za9 l1_0 x30_2).f2)] 69 (0, 0)) (by (with_reducible repeat (first | refine za5 ?_ _ | refine za6 ?_ | refine za4 ?_ _)); exact BK459.out) hb)
           have n6_ := Aside0.mk (zac (by repeat (first | (with_reducible first | exact HB.out | apply za2 | apply za0 | apply za1 | refine za3 ?_ GE440.out | refine za3 ?_ GE441.out | refine za3 ?_ GE442.out | refine za3 ?_ GE452.out | refine za3 ?_ GE459.out) | exact HB.out)) hb)
           clear HO_453000
           clear BK440
           clear BK441
           clear BK442
           clear BK452
           clear BK459
           clear HB
           have HO_453000 := n0_
           have BK440 := n1_
           have BK441 := n2_
           have BK442 := n3_
           have BK452 := n4_
           have BK459 := n5_
           have HB := n6_
           clear n0_ n1_ n2_ n3_ n4_ n5_ n6_
           (try clear hb)
           (try clear hb2)
           (try clear hk)
           (try clear hi)
           refine hK.out _ _ ⟨(za8 BK452.out 0).trans rfl, (za8 BK452.out 1).trans rfl, (za8 BK459.out 0).trans rfl, (za8 BK459.out 1).trans rfl, (za8 BK459.out 2).trans rfl, (za8 BK440.out 0).trans rfl, (za8 BK440.out 1).trans rfl⟩ (fun hHeld => ?_)
           clear hK K
           refine norm_ (a' := ?_) ?_ ?_
           rotate_left
           ·show Act.put _ (some 44) _ = _
            simp only [Act.put, List.setIfInBounds_toArray, List.set_cons_zero, List.set_cons_succ, i64_w, i32_w]
            rfl
           refine one_ (i := 11) (N := some 45) #[true, true, true, true, true, true, true, true, true, true, true, true, false, false, false, false] rfl rfl (one_of HT_.out (by kernel_rfl)) (by decide) (fun K hK => ?_)
           refine goes_ Try.func88 (by kernel_rfl) rfl #[.agg #[.int .i64 ((za9 l1_0 x30_2).f0), .int .i64 ((za9 l1_0 x30_2).f1), .int .i64 ((za9 l1_0 x30_2).f2)], .int .i64 t460, .int .i64 t461] (by rfl) rfl rfl (by (try simp only [List.map_toArray, List.map_cons, List.map_nil]); first | done | rfl | (simp only [List.length_drop, List.length_take]; rfl)) ?_
           with_reducible refine (spec_poMoved.calls ((za9 l1_0 x30_2).f0) ((za9 l1_0 x30_2).f1) ((za9 l1_0 x30_2).f2) t460 t461 t462 t463 t464 _ A47.out).mono ?_
           rintro e w59 ⟨rfl, hb⟩
           refine ⟨_, rfl, ?_⟩
           have n0_ := Aside0.mk (Kd.zb2 (by (with_reducible repeat (first | apply Kd.zak | apply Kd.zaj | apply Kd.zam)); exact HO_453000.out) hb)
           have n1_ := Aside0.mk (zad (g := gb440) (o := .cells #[.slice A0_0 l0_0.length c0_0, .int .i64 a0_1] 39 (0, 0)) (by (with_reducible repeat (first | refine za5 ?_ _ | refine za6 ?_ | refine za4 ?_ _)); exact BK440.out) hb)
           have n2_ := Aside0.mk (zad (g := gb441) (o := .cells #[.slice (some ad458) l1_0.length c1_0, .int .i64 a1_1] 39 (0, 0)) (by (with_reducible repeat (first | refine za5 ?_ _ | refine za6 ?_ | refine za4 ?_ _)); exact BK441.out) hb)
           have n3_ := Aside0.mk (zad (g := gb442) (o := .cells #[.slice none 0 0, .int .i64 0] 39 (0, 0)) (by (with_reducible repeat (first | refine za5 ?_ _ | refine za6 ?_ | refine za4 ?_ _)); exact BK442.out) hb)
           have n4_ := Aside0.mk (zad (g := gb452) (o := .cells #[u453000, .int .i64 t451] 39 (0, 0)) (by (with_reducible repeat (first | refine za5 ?_ _ | refine za6 ?_ | refine za4 ?_ _)); exact BK452.out) hb)
           have n5_ := Aside0.mk (zad (g := gb459) (o := .cells #[.int .i64 ((za9 l1_0 x30_2).f0), .int .i64 ((za9 l1_0 x30_2).f1), .int .i64 ((za9 l1_0 x30_2).f2)] 69 (0, 0)) (by (with_reducible repeat (first | refine za5 ?_ _ | refine za6 ?_ | refine za4 ?_ _)); exact BK459.out) hb)
           have n6_ := Aside0.mk (zac (by repeat (first | (with_reducible first | exact HB.out | apply za2 | apply za0 | apply za1 | refine za3 ?_ GE440.out | refine za3 ?_ GE441.out | refine za3 ?_ GE442.out | refine za3 ?_ GE452.out | refine za3 ?_ GE459.out) | exact HB.out)) hb)
           clear HO_453000
           clear BK440
           clear BK441
           clear BK442
           clear BK452
           clear BK459
           clear HB
           have HO_453000 := n0_
           have BK440 := n1_
           have BK441 := n2_
           have BK442 := n3_
           have BK452 := n4_
           have BK459 := n5_
           have HB := n6_
           clear n0_ n1_ n2_ n3_ n4_ n5_ n6_
           (try clear hb)
           (try clear hb2)
           (try clear hk)
           (try clear hi)
           refine hK.out _ _ ⟨(za8 BK452.out 0).trans rfl, (za8 BK452.out 1).trans rfl, (za8 BK459.out 0).trans rfl, (za8 BK459.out 1).trans rfl, (za8 BK459.out 2).trans rfl, (za8 BK440.out 0).trans rfl, (za8 BK440.out 1).trans rfl⟩ (fun hHeld => ?_)
           clear hK K
           refine norm_ (a' := ?_) ?_ ?_
           rotate_left
           ·show Act.put _ (some 45) _ = _
            simp only [Act.put, List.setIfInBounds_toArray, List.set_cons_zero, List.set_cons_succ, i64_w, i32_w]
            rfl
           refine one_ (i := 12) (N := some 46) #[true, true, true, true, true, true, true, true, true, true, true, true, true, false, false, false] rfl rfl (one_of HT_.out (by kernel_rfl)) (by decide) (fun K hK => ?_)
           refine value_ (w1 := ?_) (v := ?_) (by rfl) rfl ?_ ?_
           rotate_left 2
           ·go_simp
            constructor
            ·rfl
            ·rfl
           refine hK.out _ _ ⟨(za8 (za4 BK452.out _) 0).trans rfl, (za8 (za4 BK452.out _) 1).trans rfl, (za8 (za4 BK459.out _) 0).trans rfl, (za8 (za4 BK459.out _) 1).trans rfl, (za8 (za4 BK459.out _) 2).trans rfl, (za8 (za4 BK440.out _) 0).trans rfl, (za8 (za4 BK440.out _) 1).trans rfl⟩ (fun hHeld => ?_)
           clear hK K
           refine norm_ (a' := ?_) ?_ ?_
           rotate_left
           ·show Act.put _ (some 46) _ = _
            simp only [Act.put, List.setIfInBounds_toArray, List.set_cons_zero, List.set_cons_succ, i64_w, i32_w]
            rfl
           refine one_ (i := 13) (N := some 47) #[true, true, true, true, true, true, true, true, true, true, true, true, true, true, false, false] rfl rfl (one_of HT_.out (by kernel_rfl)) (by decide) (fun K hK => ?_)
           refine Kd.R_append_step k69 (w0 := w) w.heap.size (by rfl) (.tmp 35) (.tmp 46) 37 69 (.agg #[(.int .i64 0), (.int .i64 0), (.int .i64 0)]) 24 rfl Try.underlying37 info69 rfl (by decide) (by omega) u453000 x453000_2 (⟨t462, t463, t464⟩ : S69) [.int .i64 t462, .int .i64 t463, .int .i64 t464] (fun k_ => k_ ≠ gb459) (fun _ => False) rfl rfl ?aP (fun _ hk => hk.elim) ?aF ?aO ?aB ?aS ?aL ?_
           (case aP => exact k69_mkM _ _ _ (⟨t462, t463, t464⟩ : S69))
           (case aB => exact (by repeat (first | (with_reducible first | exact HB.out | apply za2 | apply za0 | apply za1 | refine za3 ?_ GE440.out | refine za3 ?_ GE441.out | refine za3 ?_ GE442.out | refine za3 ?_ GE452.out | refine za3 ?_ GE459.out) | exact HB.out)))
           (case aF => exact (fun k_ hk => Kd.freshB (g := gb459) (o := .cells #[.int .i64 ((za9 l1_0 x30_2).f0), .int .i64 ((za9 l1_0 x30_2).f1), .int .i64 ((za9 l1_0 x30_2).f2)] 69 (0, 0)) (by (with_reducible repeat (first | refine za5 ?_ _ | refine za6 ?_ | refine za4 ?_ _)); exact BK459.out) k_ hk))
           (case aO => exact (by (with_reducible repeat (first | apply Kd.zak | apply Kd.zaj | apply Kd.zam)); exact HO_453000.out))
           (case aS => exact (zaa (by repeat (first | (with_reducible first | exact HB.out | apply za2 | apply za0 | apply za1 | refine za3 ?_ GE440.out | refine za3 ?_ GE441.out | refine za3 ?_ GE442.out | refine za3 ?_ GE452.out | refine za3 ?_ GE459.out) | exact HB.out))))
           (case aL => have := LMc48.out; omega)
           intro v466 w60 ho hb hg hat
           rw [← Ny465.out] at ho
           have n0_ := Aside0.mk (blk_grown (g := gb440) (o := .cells #[.slice A0_0 l0_0.length c0_0, .int .i64 a0_1] 39 (0, 0)) (by (with_reducible repeat (first | refine za5 ?_ _ | refine za6 ?_ | refine za4 ?_ _)); exact BK440.out) hg (Kd.R_ne HO_453000.out BK440.out (by decide)))
           have n1_ := Aside0.mk (blk_grown (g := gb441) (o := .cells #[.slice (some ad458) l1_0.length c1_0, .int .i64 a1_1] 39 (0, 0)) (by (with_reducible repeat (first | refine za5 ?_ _ | refine za6 ?_ | refine za4 ?_ _)); exact BK441.out) hg (Kd.R_ne HO_453000.out BK441.out (by decide)))
           have n2_ := Aside0.mk (blk_grown (g := gb442) (o := .cells #[.slice none 0 0, .int .i64 0] 39 (0, 0)) (by (with_reducible repeat (first | refine za5 ?_ _ | refine za6 ?_ | refine za4 ?_ _)); exact BK442.out) hg (Kd.R_ne HO_453000.out BK442.out (by decide)))
           have n3_ := Aside0.mk (blk_grown (g := gb452) (o := .cells #[u453000, .int .i64 t451] 39 (0, 0)) (by (with_reducible repeat (first | refine za5 ?_ _ | refine za6 ?_ | refine za4 ?_ _)); exact BK452.out) hg (Kd.R_ne HO_453000.out BK452.out (by decide)))
           have n4_ := Aside0.mk (blk_grown (g := gb459) (o := .cells #[.int .i64 ((za9 l1_0 x30_2).f0), .int .i64 ((za9 l1_0 x30_2).f1), .int .i64 ((za9 l1_0 x30_2).f2)] 69 (0, 0)) (by (with_reducible repeat (first | refine za5 ?_ _ | refine za6 ?_ | refine za4 ?_ _)); exact BK459.out) hg (Kd.R_away HO_453000.out (fun _ hk => hk)))
           have n5_ := Aside0.mk (hb)
           have n6_ := Aside0.mk (ho)
           clear BK440
           clear BK441
           clear BK442
           clear BK452
           clear BK459
           clear HB
           clear HO_453000
           have BK440 := n0_
           have BK441 := n1_
           have BK442 := n2_
           have BK452 := n3_
           have BK459 := n4_
           have HB := n5_
           have HO467 := n6_
           clear n0_ n1_ n2_ n3_ n4_ n5_ n6_
           clear ho hb hg hat
           obtain ⟨Ao61, co61, eo61⟩ := Kd.zas HO467.out
           (first | subst eo61 | (injection eo61 with f1_ f2_ f3_; have f4_ := f1_.symm; have f5_ := f3_.symm; clear f1_ f2_ f3_; subst f4_; subst f5_))
           refine hK.out _ _ ⟨(za8 BK452.out 0).trans rfl, (za8 BK452.out 1).trans rfl, (za8 BK459.out 0).trans rfl, (za8 BK459.out 1).trans rfl, (za8 BK459.out 2).trans rfl, (za8 BK440.out 0).trans rfl, (za8 BK440.out 1).trans rfl⟩ (fun hHeld => ?_)
           clear hK K
           refine norm_ (a' := ?_) ?_ ?_
           rotate_left
           ·show Act.put _ (some 47) _ = _
            simp only [Act.put, List.setIfInBounds_toArray, List.set_cons_zero, List.set_cons_succ, i64_w, i32_w]
            rfl
           refine pure_ (i := 14) (N := some 48) (v := ?_) (a' := ?_) #[true, true, true, true, true, true, true, true, true, true, true, true, true, true, true, false] rfl rfl (zan HT_.out (by kernel_rfl)) (fun _ _ _ h => h) (Or.inl ⟨by rfl, ?_⟩) ?_ ?_
           rotate_left
           ·intro w'
            go_simp
            with_reducible rfl
           rotate_left
           ·simp only [Act.put, List.setIfInBounds_toArray, List.set_cons_zero, List.set_cons_succ, i64_w, i32_w]
            rfl
           refine last_ (i := 15) (N := none) #[true, true, true, true, true, true, true, true, true, true, true, true, true, true, true, true] rfl rfl (one_of HT_.out (by kernel_rfl)) (by decide) (fun K hK => ?_)
           have hs62 : w60.cell? ⟨gb452, 0, none⟩ = some (u453000) := (za8 BK452.out 0).trans rfl
           have hfs62 := za7 BK452.out 0
           have hns62_0 := NB440_452.out
           have hns62_1 := NB441_452.out
           have hns62_2 := NB442_452.out
           have hns62_4 := NB459_452.out
           have hms62_0 := NB452_440.out
           have hms62_1 := NB452_441.out
           have hms62_2 := NB452_442.out
           have hms62_4 := NB452_459.out
           refine skip_ (w1 := ?_) (by rfl) rfl ?_ ?_
           rotate_left
           ·go_simp
            rfl
           refine hK.out _ _ ?_
           clear hK K
           refine done_ (done_of HT_.out (by kernel_rfl)) ?_
           try go_wp2
           go_roundg k2
           case measure => have := HJ2.out; have := HK2.out; omega
           case rel => exact ⟨(wrap64 (x30_2 + 1)), (y465), (.slice Ao61 y465.length co61), (by first | rfl | (simp; done) | (simp [*]; done)), H', ⟨by have := HJ2.out; have := HK2.out; omega⟩, ⟨by (with_reducible repeat (first | apply Kd.zak | apply Kd.zaj | apply Kd.zam)); exact Kd.R_mono (Kd.R_far (p := ⟨gb452, 0, none⟩) (Kd.R_types HO467.out BK452.out (by decide)) (fun _ hk => hk.2) (.slice Ao61 y465.length co61)) (fun _ hk => trivial)⟩, ⟨by (with_reducible repeat (first | refine za5 ?_ _ | refine za6 ?_ | refine za4 ?_ _)); refine zay ?_ NB440_452.out _; (with_reducible repeat (first | refine za5 ?_ _ | refine za6 ?_ | refine za4 ?_ _)); exact BK440.out⟩, ⟨by (with_reducible repeat (first | refine za5 ?_ _ | refine za6 ?_ | refine za4 ?_ _)); refine zay ?_ NB441_452.out _; (with_reducible repeat (first | refine za5 ?_ _ | refine za6 ?_ | refine za4 ?_ _)); exact BK441.out⟩, ⟨by (with_reducible repeat (first | refine za5 ?_ _ | refine za6 ?_ | refine za4 ?_ _)); refine zay ?_ NB442_452.out _; (with_reducible repeat (first | refine za5 ?_ _ | refine za6 ?_ | refine za4 ?_ _)); exact BK442.out⟩, ⟨by (with_reducible repeat (first | refine za5 ?_ _ | refine za6 ?_ | refine za4 ?_ _)); refine zat (cs := #[u453000, .int .i64 t451]) ?_ 0 _ rfl; (with_reducible repeat (first | refine za5 ?_ _ | refine za6 ?_ | refine za4 ?_ _)); exact BK452.out⟩, ⟨by repeat (first | (with_reducible first | exact HB.out | apply za2 | apply za0 | apply za1 | refine za3 ?_ GE440.out | refine za3 ?_ GE441.out | refine za3 ?_ GE442.out | refine za3 ?_ GE452.out | refine za3 ?_ GE459.out) | exact HB.out)⟩⟩
          ·rw [if_neg c48] at H
           exact absurd H (by simp)
         ·rw [if_neg c44] at H
          exact absurd H (by simp)
        ·rw [if_neg c43] at H
         exact absurd H (by simp)
       ·rw [if_neg c42] at H
        have c42b0 : decide (x30_2 < (l1_0.length : Int)) = false := decide_eq_false c42
        clear c42
        replace H := Option.bind_eq_some_iff.mp H
        obtain ⟨⟨t453, t456, t457⟩, A630, H⟩ := H
        replace H : (some (t453, t456, t457)) = some (r1, r2, r3) := H
        have A63 := Aside0.mk A630
        clear A630
        simp only [Option.some.injEq, Prod.mk.injEq] at H
        obtain ⟨rfl, rfl, rfl⟩ := H
        have hnb64 := NB452_440.out
        have hnc64 := NB440_452.out
        have hnb65 := NB452_441.out
        have hnc65 := NB441_452.out
        have hnb66 := NB452_442.out
        have hnc66 := NB442_452.out
        have hcz67_0 : wr.cell? ⟨gb452, 0, none⟩ = some (u453000) := (za8 BK452.out 0).trans rfl
        have hcz67_1 : wr.cell? ⟨gb452, 1, none⟩ = some (.int .i64 t451) := (za8 BK452.out 1).trans rfl
        have hfz67_0 := za7 BK452.out 0
        have hfz67_1 := za7 BK452.out 1
        obtain ⟨Ao68, co68, eo68⟩ := Kd.zas HO_453000.out
        subst eo68
        go_wp2_with (first | ((with_reducible refine zal (f := 78) rfl ?_); refine goesL_ (some 51) rfl rfl Try.func78 (by kernel_rfl) rfl #[.agg #[.slice Ao68 x453000_2.length co68, .int .i64 t451]] rfl (by (try simp only [List.map_toArray, List.map_cons, List.map_nil]); first | done | rfl | (simp only [List.length_drop, List.length_take]; rfl)) ?_; (with_reducible refine (spec_poIf.calls k2 (fun k_ => some k_ = (.slice Ao68 x453000_2.length co68 : Value).ownBlock) (.slice Ao68 x453000_2.length co68) x453000_2 t451 t453 t456 t457 w _ ?side1 ?side2 A63.out).mono ?_); (case side1 => repeat (first | (with_reducible first | exact HB.out | apply za2 | apply za0 | apply za1 | refine za3 ?_ GE440.out | refine za3 ?_ GE441.out | refine za3 ?_ GE442.out | refine za3 ?_ GE452.out) | exact HB.out)); (case side2 => exact Kd.R_tight rfl HO_453000.out); rintro e w69 ⟨v454, rfl, ho0, hb, hkp⟩; refine ⟨_, rfl, ?_⟩; have n0_ := Aside0.mk (blk_kept (by (with_reducible repeat (first | refine za5 ?_ _ | refine za6 ?_ | refine za4 ?_ _)); exact BK440.out) hkp (fun hs_ => (fun e_ => (Kd.R_ne HO_453000.out BK440.out (by decide)) e_) hs_)); have n1_ := Aside0.mk (blk_kept (by (with_reducible repeat (first | refine za5 ?_ _ | refine za6 ?_ | refine za4 ?_ _)); exact BK441.out) hkp (fun hs_ => (fun e_ => (Kd.R_ne HO_453000.out BK441.out (by decide)) e_) hs_)); have n2_ := Aside0.mk (blk_kept (by (with_reducible repeat (first | refine za5 ?_ _ | refine za6 ?_ | refine za4 ?_ _)); exact BK442.out) hkp (fun hs_ => (fun e_ => (Kd.R_ne HO_453000.out BK442.out (by decide)) e_) hs_)); have n3_ := Aside0.mk (blk_kept (by (with_reducible repeat (first | refine za5 ?_ _ | refine za6 ?_ | refine za4 ?_ _)); exact BK452.out) hkp (fun hs_ => (fun e_ => (Kd.R_ne HO_453000.out BK452.out (by decide)) e_) hs_)); have n4_ := Aside0.mk (Kd.R_mono (ok' := fun k_ => True) ho0 (fun k_ hk_ => trivial)); have n5_ := Aside0.mk (hb); clear BK440; clear BK441; clear BK442; clear BK452; clear HB; clear HO_453000; have BK440 := n0_; have BK441 := n1_; have BK442 := n2_; have BK452 := n3_; have HO455 := n4_; have HB := n5_; clear n0_ n1_ n2_ n3_ n4_ n5_; (try clear hb); (try clear hkp); (try clear ho0); obtain ⟨Ao70, co70, eo70⟩ := Kd.zas HO455.out; subst eo70; have hnb71 := NB442_440.out; have hnc71 := NB440_442.out; have hnb72 := NB442_441.out; have hnc72 := NB441_442.out; have hcz73_0 : w69.cell? ⟨gb442, 0, none⟩ = some (.slice none 0 0) := (za8 BK442.out 0).trans rfl; have hcz73_1 : w69.cell? ⟨gb442, 1, none⟩ = some (.int .i64 0) := (za8 BK442.out 1).trans rfl; have hfz73_0 := za7 BK442.out 0; have hfz73_1 := za7 BK442.out 1))
        refine bodyPost_ret (results_ct rfl _ _ gb442 39 #[.slice Ao70 t453.length co70, .int .i64 t456] (0, 0) _ rfl (by (with_reducible repeat (first | refine za5 ?_ _ | refine za6 ?_ | refine za4 ?_ _)); refine zat (cs := #[.slice Ao70 t453.length co70, .int .i64 0]) ?_ 1 _ rfl; (with_reducible repeat (first | refine za5 ?_ _ | refine za6 ?_ | refine za4 ?_ _)); refine zat (cs := #[.slice none 0 0, .int .i64 0]) ?_ 0 _ rfl; (with_reducible repeat (first | refine za5 ?_ _ | refine za6 ?_ | refine za4 ?_ _)); exact BK442.out) Try.underlying39 rfl (by kernel_rfl)) rfl ?_
        exact ⟨_, by first | rfl | (simp [zaf, zae] <;> rfl) | (simp [*, zaf, zae] <;> rfl), by (with_reducible repeat (first | apply Kd.zak | apply Kd.zaj | apply Kd.zam)); exact Kd.R_mono (Kd.R_far (p := ⟨gb442, 1, none⟩) (Kd.R_far (p := ⟨gb442, 0, none⟩) (Kd.R_types HO455.out BK442.out (by decide)) (fun _ hk => hk.2) (.slice Ao70 t453.length co70)) (fun _ hk => hk.2) (.int .i64 t456)) (fun _ hk => trivial), by repeat (first | (with_reducible first | exact HB.out | apply za2 | apply za0 | apply za1 | refine za3 ?_ GE440.out | refine za3 ?_ GE441.out | refine za3 ?_ GE442.out | refine za3 ?_ GE452.out) | exact HB.out)⟩
    ·rw [if_neg c25] at H
     exact absurd H (by simp)

/-! ### impl_Op: function 89 -/
def impl_Op.f (l0 : List (S69)) : Option (List (S69)) := if l0.length < 5864062014805 then some l0 else none
set_option maxHeartbeats 8000000 in
set_option maxRecDepth 100000 in
theorem impl_Op.calls (A0 : Option Addr) (c0 : Nat) (l0 : List (S69)) (r : List (S69)) (w : World) (hr0 : Kd.C k69 w A0 l0.length l0) (hc0 : l0.length ≤ c0) (h : impl_Op.f l0 = some r) :
  Calls Try.prog 89 #[.slice A0 l0.length c0] w fun e w' => ∃ v0_ : Value, e = .returned (v0_) ∧ Kd.R k69 69 w' w.heap.size (fun _ => True) v0_ r ∧ Below w.heap.size w w' := by
 unfold impl_Op.f at h
 by_cases c2 : l0.length < 5864062014805
 ·rw [if_pos c2] at h
  obtain rfl := Option.some.inj h
  clear h
  have he := Lib.run_eql_slice_nil (P := Try.prog) w 37 69 A0 l0.length c0 0 0 Try.underlying37
  have HR0 := Aside0.mk hr0
  have LM := Aside0.mk c2
  have HB := Aside0.mk (Below.refl w.heap.size w)
  rcases A0 with _ | ad
  ·have hl : l0 = [] := by
    rcases Nat.eq_zero_or_pos l0.length with h0 | h0
    ·exact List.eq_nil_of_length_eq_zero h0
    ·obtain ⟨ad, h', _⟩ := hr0.2.2 h0
     cases h'
   subst hl
   clear hr0 hc0 c2
   simp only [List.length_nil, Option.isNone_none] at he ⊢
   go_enter Try.func89, Try.ntmps89
   go_wp2
   go_ret
   exact ⟨_, rfl, Kd.R_nil _ _ _ _ _, Below.refl _ _⟩
  ·clear hr0 hc0 c2
   go_enter Try.func89, Try.ntmps89
   go_wp2_with (first | ((with_reducible refine zai (N := 5) rfl ?_); refine Kd.R_lit k69 _ 69 ?hg (N := 5) ?hd (xs := ([] : List (S69))) (inner := []) (ok := fun _ => True) (okp := fun _ => True) ?hr ?hp (fun _ hk => hk) trivial (Below.refl _ _) (Nat.le_refl _) (by simp) ?_; (case hd => rfl); (case hg => rfl); (case hr => first | (go_simp; done) | (go_simp; rfl)); (case hp => exact (Reps.none _ _)); intro v134 w3 ho4 hb hg_ hnew_; clear hg_ hnew_; have n0_ := Aside0.mk (Kd.R_lower ho4 (zaa (by repeat (first | (with_reducible first | exact HB.out | apply za2 | apply za0 | apply za1) | exact HB.out)))); have n1_ := Aside0.mk (zac (by repeat (first | (with_reducible first | exact HB.out | apply za2 | apply za0 | apply za1) | exact HB.out)) hb); clear HB; have HO135 := n0_; have HB := n1_; clear n0_ n1_; clear hb ho4) | ((with_reducible refine gate_builtin (b := .append) (xs := #[.tmp 5, .tmp 6]) rfl ?_); at_builtin; refine Kd.R_append_rows k69 (w0 := w) w.heap.size rfl (.tmp 5) (.tmp 6) 37 69 (.agg #[(.int .i64 0), (.int .i64 0), (.int .i64 0)]) 24 rfl Try.underlying37 info69 rfl (by decide) (by omega) v134 [] l0 _ _ _ (fun _ => True) (fun _ => False) rfl rfl ?aO ?aR (fun _ _ h => h) (fun _ h => h.elim) ?aF ?aB ?aS ?aL ?_; (case aR => repeat (first | exact (Kd.zar HR0.out HB.out) | (with_reducible refine Kd.zav ?_ _) | (with_reducible refine Kd.zau ?_ _) | (with_reducible refine Kd.zaz ?_))); (case aB => exact (by repeat (first | (with_reducible first | exact HB.out | apply za2 | apply za0 | apply za1) | exact HB.out))); (case aF => exact (fun _ _ => trivial)); (case aO => exact (by (with_reducible repeat (first | apply Kd.zak | apply Kd.zaj | apply Kd.zam)); exact HO135.out)); (case aS => exact (zaa (by repeat (first | (with_reducible first | exact HB.out | apply za2 | apply za0 | apply za1) | exact HB.out)))); (case aL => have := LM.out; simp; omega); intro v137 w5 ho hb hg hat; have n0_ := Aside0.mk (hb); have n1_ := Aside0.mk (ho); clear HB; clear HO135; have HB := n0_; have HO138 := n1_; clear n0_ n1_; clear ho hb hg hat))
   go_ret
   exact ⟨_, by first | rfl | (simp; done), by (with_reducible repeat (first | apply Kd.zak | apply Kd.zaj | apply Kd.zam)); exact HO138.out, by repeat (first | (with_reducible first | exact HB.out | apply za2 | apply za0 | apply za1) | exact HB.out)⟩
 ·rw [if_neg c2] at h
  exact absurd h (by simp)

end Go.Proofs.Ytgglemlhombgkaa.T
