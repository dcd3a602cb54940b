-- Written by a program of this session (wip/tools/stubprint.py): contracts by hand where the kit's print has none.
import Derived.Test.YtgglemlhombgkaaKFnExactBestGiantQ0
import Derived.Test.YtgglemlhombgkaaKFnExactBestGiantQ1
import Derived.Test.YtgglemlhombgkaaKFnExactBestGiantQ2
import Derived.Test.YtgglemlhombgkaaKFnExactBestGiantQ3
import Derived.Test.YtgglemlhombgkaaKFnExactBestGiantQ4
namespace Go.Proofs.Ytgglemlhombgkaa.Z
open Go.RowKit Go.Proofs.YtgglemlhombgkaaW.PrintWords Go.Proofs.YtgglemlhombgkaaW.PrintLast Go.Proofs.YtgglemlhombgkaaW.PrintMore
attribute [local go_sem] max2_int min2_int max_two min_two max_three min_three max_four min_four   -- for this text's walks alone
set_option linter.unusedVariables false
set_option linter.unusedSimpArgs false

/-! ### laws_toOpS: function 66 -/
def laws_toOpS.l0 : Nat → List (S93) → List (S69) → Int → Option ((List (S69)))
  | 0, _, _, _ => none
  | k + 1, x0, x3, x4 => if x4 < (x0.length : Int) then (if 0 ≤ x4 then ((laws_toOp.f ((rd_T93 x0 x4).f0) ((rd_T93 x0 x4).f1) ((rd_T93 x0 x4).f2)).bind fun bt579 => (if x4 < (x3.length : Int) then (laws_toOpS.l0 k x0 (x3.set (x4 : Int).toNat (⟨bt579.1, bt579.2.1, bt579.2.2⟩ : S69)) (wrap64 (x4 + 1))) else (none))) else (none)) else (some x3)
def laws_toOpS.f (k : Nat) (l0 : List (S93)) : Option ((List (S69))) := if 0 ≤ (l0.length : Int) then (if ((l0.length : Int) : Int).toNat ≤ 11728124029610 then (laws_toOpS.l0 k l0 (List.replicate ((l0.length : Int) : Int).toNat z69) 0) else (none)) else (none)
theorem laws_toOpS.zb1 : ∀ k, (∀ y0 y1 y2, LeO (laws_toOpS.l0 k y0 y1 y2) (laws_toOpS.l0 (k + 1) y0 y1 y2))
  | 0 => fun _ _ _ r h => by simp [laws_toOpS.l0] at h
  | k + 1 => by
    have ih0 := laws_toOpS.zb1 k
    · intro y0 y1 y2
      unfold laws_toOpS.l0
      repeat' first
      | (with_reducible exact ih0 _ _ _)
      | (with_reducible exact LeO.refl _)
      | (with_reducible exact LeO.none _)
      | (with_reducible refine LeO.ite ?_ ?_)
      | (with_reducible refine LeO.bind ?_ (fun _ => ?_))
      | exact ih0 _ _ _
      | exact LeO.none _
      | refine LeO.ite ?_ ?_
      | refine LeO.bind ?_ (fun _ => ?_)
theorem laws_toOpS.mono : ∀ a0 k, LeO (laws_toOpS.f k a0) (laws_toOpS.f (k + 1) a0) := by
  intro a0 k
  have ih0 := laws_toOpS.zb1 k
  unfold laws_toOpS.f
  repeat' first
      | (with_reducible exact ih0 _ _ _)
      | (with_reducible exact LeO.refl _)
      | (with_reducible exact LeO.none _)
      | (with_reducible refine LeO.ite ?_ ?_)
      | (with_reducible refine LeO.bind ?_ (fun _ => ?_))
      | exact ih0 _ _ _
      | exact LeO.none _
      | refine LeO.ite ?_ ?_
      | refine LeO.bind ?_ (fun _ => ?_)
set_option maxHeartbeats 8000000 in
set_option maxRecDepth 100000 in
theorem laws_toOpS.calls (k : Nat) (A0 : Option Addr) (c0 : Nat) (l0 : List (S93)) (r : List (S69)) (w : World) (hr0 : Kd.C k93 w A0 l0.length l0) (hc0 : l0.length ≤ c0) (h : laws_toOpS.f k l0 = some r) :
    Calls Try.prog 66 #[.slice A0 l0.length c0] w fun e w' => ∃ v0_ : Value, e = .returned (v0_) ∧ Kd.R k69 69 w' w.heap.size (fun _ => True) v0_ r ∧ Below w.heap.size w w' := by
  have hu93 := Try.underlying93
  have hu69 := Try.underlying69
  have HR0 := Aside0.mk hr0
  have HC0 := Aside0.mk hc0
  clear hr0 hc0
  have HB := Aside0.mk (Below.refl w.heap.size w)
  have H : (if 0 ≤ (l0.length : Int) then (if ((l0.length : Int) : Int).toNat ≤ 11728124029610 then (laws_toOpS.l0 k l0 (List.replicate ((l0.length : Int) : Int).toNat z69) 0) else (none)) else (none)) = some r := h
  clear h
  by_cases c2 : 0 ≤ (l0.length : Int)
  · rw [if_pos c2] at H
    have c2b0 := eq_true c2
    have c2b1 : decide (0 ≤ (l0.length : Int)) = true := decide_eq_true c2
    clear c2
    by_cases c3 : ((l0.length : Int) : Int).toNat ≤ 11728124029610
    · rw [if_pos c3] at H
      have c3b0 := eq_true c3
      have c3b1 : decide (((l0.length : Int) : Int).toNat ≤ 11728124029610) = true := decide_eq_true c3
      clear c3
      obtain ⟨y575, hy575⟩ : ∃ y_ : List (S69), y_ = (List.replicate ((l0.length : Int) : Int).toNat z69) := ⟨_, rfl⟩
      replace H : (laws_toOpS.l0 k l0 y575 0) = some r := by first | (rw [hy575]; with_reducible exact H) | (have H2_ := (Option.bind_some _ _).symm.trans H; rw [hy575]; with_reducible exact H2_) | (have H2_ := (Option.bind_some _ _).symm.trans H; with_reducible exact H2_) | with_reducible exact H | (rw [hy575]; exact H) | exact H
      have Ny575 := Aside0.mk hy575
      clear hy575
      have H' := Aside0.mk H
      clear H
      go_enter Try.func66, Try.ntmps66
      go_wp2_with (first | ((with_reducible refine zal (N := 7) rfl ?_); refine Kd.R_make k69 _ 69 rfl (N := 7) rfl 37 _ _ rfl (l0.length : Int) rfl rfl Try.underlying37 (.agg #[(.int .i64 0), (.int .i64 0), (.int .i64 0)]) 24 info69 rfl (by decide) (by omega) z69 (ok := fun _ => True) (okp := fun _ => True) (k69_mkM _ _ _ z69 ) (fun _ hk => hk) trivial (of_decide_eq_true (by first | (with_reducible assumption) | assumption)) (Nat.le_trans (Nat.mul_le_mul_right _ (of_decide_eq_true (by first | (with_reducible assumption) | assumption) : (l0.length : Int).toNat ≤ 11728124029610)) (by omega)) (Below.refl _ _) (Nat.le_refl _) ?_; intro v576 w4 ho5 hb hg_ hnew_; clear hg_ hnew_; (first | rw [← Ny575.out] at ho5 | (simp only [Int.reduceToNat] at ho5; rw [← Ny575.out] at ho5)); have n0_ := Aside0.mk (Kd.zb0 ho5 (za9 (by repeat (first | (with_reducible first | exact HB.out | apply za2 | apply za0 | apply za1) | exact HB.out)))); have n1_ := Aside0.mk (zab (by repeat (first | (with_reducible first | exact HB.out | apply za2 | apply za0 | apply za1) | exact HB.out)) hb); clear HB; have HO577 := n0_; have HB := n1_; clear n0_ n1_; clear hb ho5))
      go_loopg [4] k (fun kq v4 w' => ∃ (x3_1 : List (S69)) (x4_1 : Int), v4 = .int .i64 x4_1 ∧ Aside0 (laws_toOpS.l0 kq l0 x3_1 x4_1 = some r) ∧ Aside0 (kq ≤ k) ∧ Aside0 (Kd.R k69 69 w' w.heap.size (fun _ => True) v576 x3_1) ∧ Aside0 (Below w.heap.size w w'))
      case atStart => exact ⟨(y575), (0), (by first | rfl | (simp; done) | (simp [*]; done)), H', ⟨Nat.le_refl _⟩, ⟨by (with_reducible repeat (first | apply Kd.zai | apply Kd.zah | apply Kd.zak)); exact HO577.out⟩, ⟨by repeat (first | (with_reducible first | exact HB.out | apply za2 | apply za0 | apply za1) | exact HB.out)⟩⟩
      case round =>
        clear H'
        try clear c2
        try clear c2b0
        try clear c2b1
        try clear p2
        try clear c3
        try clear c3b0
        try clear c3b1
        obtain ⟨x3_1, x4_1, rfl, HA, HK1, HO_3, HB⟩ := hrel
        cases gk with
        | zero => exact absurd HA.out (by simp [laws_toOpS.l0])
        | succ k1 =>
          have H := HA.out
          clear HA
          simp only [laws_toOpS.l0] at H
          by_cases c6 : x4_1 < (l0.length : Int)
          · rw [if_pos c6] at H
            have c6b0 : decide (x4_1 < (l0.length : Int)) = true := decide_eq_true c6
            clear c6
            by_cases c7 : 0 ≤ x4_1
            · rw [if_pos c7] at H
              have c7b0 : decide (0 ≤ x4_1) = true := decide_eq_true c7
              clear c7
              replace H := Option.bind_eq_some_iff.mp H
              obtain ⟨⟨t579, t580, t581⟩, A80, H⟩ := H
              replace H : (if x4_1 < (x3_1.length : Int) then (laws_toOpS.l0 k1 l0 (x3_1.set (x4_1 : Int).toNat (⟨t579, t580, t581⟩ : S69)) (wrap64 (x4_1 + 1))) else (none)) = some r := H
              have A8 := Aside0.mk A80
              clear A80
              by_cases c9 : x4_1 < (x3_1.length : Int)
              · rw [if_pos c9] at H
                have c9b0 : decide (x4_1 < (x3_1.length : Int)) = true := decide_eq_true c9
                clear c9
                obtain ⟨y582, hy582⟩ : ∃ y_ : List (S69), y_ = (x3_1.set (x4_1 : Int).toNat (⟨t579, t580, t581⟩ : S69)) := ⟨_, rfl⟩
                replace H : (laws_toOpS.l0 k1 l0 y582 (wrap64 (x4_1 + 1))) = some r := by first | (rw [hy582]; with_reducible exact H) | (have H2_ := (Option.bind_some _ _).symm.trans H; rw [hy582]; with_reducible exact H2_) | (have H2_ := (Option.bind_some _ _).symm.trans H; with_reducible exact H2_) | with_reducible exact H | (rw [hy582]; exact H) | exact H
                have Ny582 := Aside0.mk hy582
                clear hy582
                have H' := Aside0.mk H
                clear H
                have p578 : 0 ≤ (x4_1 : Int) := of_decide_eq_true (by first | (with_reducible assumption) | assumption)
                have q578 : x4_1 < (l0.length : Int) := of_decide_eq_true (by first | (with_reducible assumption) | assumption)
                obtain ⟨ad578, e578, hx578_0, hx578_1, hx578_2⟩ := at_T93 HR0.out x4_1 p578 q578
                cases e578
                replace hx578_0 := (HB.out.cell (World.block_lt_of_cell? w _ hx578_0)).trans hx578_0
                replace hx578_1 := (HB.out.cell (World.block_lt_of_cell? w _ hx578_1)).trans hx578_1
                replace hx578_2 := (HB.out.cell (World.block_lt_of_cell? w _ hx578_2)).trans hx578_2
                replace p578 := eq_true p578
                replace q578 := eq_true q578
                go_wp2_with (first | ((with_reducible refine zaf (f := 97) rfl ?_); refine zax (some 20) rfl rfl Try.func97 (by kernel_rfl) rfl #[.agg #[.int .i64 ((rd_T93 l0 x4_1).f0), .int .i64 ((rd_T93 l0 x4_1).f1), .int .i64 ((rd_T93 l0 x4_1).f2)]] rfl (by (try simp only [List.map_toArray, List.map_cons, List.map_nil]); first | done | rfl | (simp only [List.length_drop, List.length_take]; rfl)) ?_; (with_reducible refine (laws_toOp.calls ((rd_T93 l0 x4_1).f0) ((rd_T93 l0 x4_1).f1) ((rd_T93 l0 x4_1).f2) t579 t580 t581 _ A8.out).mono ?_); rintro e w11 ⟨rfl, hb⟩; refine ⟨_, rfl, ?_⟩; have n0_ := Aside0.mk (Kd.R_below (by (with_reducible repeat (first | apply Kd.zai | apply Kd.zah | apply Kd.zak)); exact HO_3.out) hb); have n1_ := Aside0.mk (zab (by repeat (first | (with_reducible first | exact HB.out | apply za2 | apply za0 | apply za1) | exact HB.out)) hb); clear HO_3; clear HB; have HO_3 := n0_; have HB := n1_; clear n0_ n1_; (try clear hb); (try clear hb2); (try clear hk); (try clear hi); have p10 : 0 ≤ (x4_1 : Int) := of_decide_eq_true (by first | (with_reducible assumption) | assumption); have q10 : (x4_1 : Int) < ((x3_1.length : Int) : Int) := of_decide_eq_true (by first | (with_reducible assumption) | assumption); obtain ⟨go10, co10, eo10, gb10, gl10, cl10, HG10⟩ := Kd.R_form HO_3.out (by omega); (first | cases eo10 | (injection eo10 with ea_ en_ ec_; (first | subst ea_ | (injection ea_ with ea_; subst ea_)); subst ec_; clear en_)); have GB10 := Aside0.mk gb10; have GG10 := Aside0.mk HG10; clear gb10 gl10 HG10; obtain ⟨ce10, hcl10, hM10, hcc10, hfr10⟩ := Kd.R_elem HO_3.out z69 (x4_1 : Int) p10 q10; obtain rfl := k69_openM hM10; have hx10_0 : w11.cell? ⟨go10, (x4_1 : Int).toNat * 3, none⟩ = some (.int .i64 ((zaa x3_1 x4_1).f0)) := hcc10 0 _ rfl; have hx10_1 : w11.cell? ⟨go10, (x4_1 : Int).toNat * 3 + 1, none⟩ = some (.int .i64 ((zaa x3_1 x4_1).f1)) := hcc10 1 _ rfl; have hx10_2 : w11.cell? ⟨go10, (x4_1 : Int).toNat * 3 + 2, none⟩ = some (.int .i64 ((zaa x3_1 x4_1).f2)) := hcc10 2 _ rfl; have hf10_0 : w11.frozen? ⟨go10, (x4_1 : Int).toNat * 3, none⟩ = false := hfr10 0; have hf10_1 : w11.frozen? ⟨go10, (x4_1 : Int).toNat * 3 + 1, none⟩ = false := hfr10 1; have hf10_2 : w11.frozen? ⟨go10, (x4_1 : Int).toNat * 3 + 2, none⟩ = false := hfr10 2; clear hcl10 hcc10 hfr10 hM10; replace p10 := eq_true p10; replace q10 := eq_true q10; have HX12 := Aside0.mk (show Kd.R k69 69 w11 w.heap.size (fun _ => True) (.slice (some ⟨go10, 0, none⟩) x3_1.length co10) x3_1 from (by (with_reducible repeat (first | apply Kd.zai | apply Kd.zah | apply Kd.zak)); exact HO_3.out)); obtain ⟨ce12, hcl12, hM12, hcc12, hfr12⟩ := Kd.R_elem HX12.out z69 (x4_1 : Int) (of_decide_eq_true (by first | (with_reducible assumption) | assumption)) (by have h_ : (x4_1 : Int) < ((x3_1.length : Int) : Int) := of_decide_eq_true (by first | (with_reducible assumption) | assumption); first | exact h_ | (have e_ := (Kd.R_reads' HO_3.out).1; omega) | simpa using h_); obtain rfl := k69_openM hM12; have HP12 := Kd.R_seg HX12.out (x4_1 : Int) (of_decide_eq_true (by first | (with_reducible assumption) | assumption)) (by have h_ : (x4_1 : Int) < ((x3_1.length : Int) : Int) := of_decide_eq_true (by first | (with_reducible assumption) | assumption); first | exact h_ | (have e_ := (Kd.R_reads' HO_3.out).1; omega) | simpa using h_) (seg := [.int .i64 t579, .int .i64 t580, .int .i64 t581]) (j := 0) hcl12 hcc12 (show 3 ≤ 3 from by decide) (x' := (⟨t579, t580, t581⟩ : S69)) (k69_mkM _ _ _ (⟨t579, t580, t581⟩ : S69) ) (fun _ hk => hk); have hx12_0 := hcc12 0 _ rfl; (try simp only [show (k69).sz = 3 from rfl, Nat.mul_one, Nat.add_zero] at hx12_0); have hf12_0 := hfr12 0; (try simp only [show (k69).sz = 3 from rfl, Nat.mul_one, Nat.add_zero] at hf12_0); have hx12_1 := hcc12 1 _ rfl; (try simp only [show (k69).sz = 3 from rfl, Nat.mul_one, Nat.add_zero] at hx12_1); have hf12_1 := hfr12 1; (try simp only [show (k69).sz = 3 from rfl, Nat.mul_one, Nat.add_zero] at hf12_1); have hx12_2 := hcc12 2 _ rfl; (try simp only [show (k69).sz = 3 from rfl, Nat.mul_one, Nat.add_zero] at hx12_2); have hf12_2 := hfr12 2; (try simp only [show (k69).sz = 3 from rfl, Nat.mul_one, Nat.add_zero] at hf12_2); clear hcl12 hcc12 hfr12 hM12) | ((with_reducible refine gate_store (t := 69) (p := 21) rfl ?_); refine store_event (t := 69) (p := 21) (v := ?vo_w13) (w1 := (((w11.setCell ⟨go10, (x4_1 : Int).toNat * 3, none⟩ (.int .i64 t579)).setCell ⟨go10, (x4_1 : Int).toNat * 3 + 1, none⟩ (.int .i64 t580)).setCell ⟨go10, (x4_1 : Int).toNat * 3 + 2, none⟩ (.int .i64 t581))) ?hg ?ho ?hn ?hr ?_; (case ho => rfl); (case hg => rfl); (case hn => rfl); (case hr => first | (go_simp; done) | (go_simp; rfl)); intro w13 hw; have hg : w11.grownBy w13 (some go10) := (by rw [hw]; exact HP12.2); have hp_ : Kd.R k69 69 w13 w.heap.size (fun _ => True) (.slice (some ⟨go10, 0, none⟩) x3_1.length co10) y582 := (by rw [hw, Ny582.out]; exact HP12.1); clear HP12; have n0_ := Aside0.mk (hp_); have n1_ := Aside0.mk ((by rw [hw]; exact za3 (za3 (za3 (HB.out) GB10.out) GB10.out) GB10.out : Below w.heap.size w w13)); clear HO_3; clear HB; have HO_3 := n0_; have HB := n1_; clear n0_ n1_; clear hg hw hp_))
                go_roundg k1
                case measure => have := HK1.out; omega
                case rel => exact ⟨(y582), (wrap64 (x4_1 + 1)), (by first | rfl | (simp; done) | (simp [*]; done)), H', ⟨by have := HK1.out; omega⟩, ⟨by (with_reducible repeat (first | apply Kd.zai | apply Kd.zah | apply Kd.zak)); exact HO_3.out⟩, ⟨by repeat (first | (with_reducible first | exact HB.out | apply za2 | apply za0 | apply za1) | exact HB.out)⟩⟩
              · rw [if_neg c9] at H
                exact absurd H (by simp)
            · rw [if_neg c7] at H
              exact absurd H (by simp)
          · rw [if_neg c6] at H
            have c6b0 : decide (x4_1 < (l0.length : Int)) = false := decide_eq_false c6
            clear c6
            obtain rfl := Option.some.inj H
            go_wp2
            go_ret
            exact ⟨_, by first | rfl | (simp [zad, zac] <;> rfl) | (simp [*, zad, zac] <;> rfl), by (with_reducible repeat (first | apply Kd.zai | apply Kd.zah | apply Kd.zak)); exact HO_3.out, by repeat (first | (with_reducible first | exact HB.out | apply za2 | apply za0 | apply za1) | exact HB.out)⟩
    · rw [if_neg c3] at H
      exact absurd H (by simp)
  · rw [if_neg c2] at H
    exact absurd H (by simp)

/-! ### laws_toCode: function 26 -/
def laws_toCode.f (k : Nat) (l0_0 : List (S93)) (a0_1 : Int) : Option ((List (S69)) × Int) := (laws_toOpS.f k l0_0).bind fun t586 => (some (t586, a0_1))
theorem laws_toCode.mono : ∀ a0 a1 k, LeO (laws_toCode.f k a0 a1) (laws_toCode.f (k + 1) a0 a1) := by
  intro a0 a1 k
  unfold laws_toCode.f
  repeat' first
      | (with_reducible exact laws_toOpS.mono _ _)
      | (with_reducible exact LeO.refl _)
      | (with_reducible exact LeO.none _)
      | (with_reducible refine LeO.ite ?_ ?_)
      | (with_reducible refine LeO.bind ?_ (fun _ => ?_))
      | exact laws_toOpS.mono _ _
      | exact LeO.none _
      | refine LeO.ite ?_ ?_
      | refine LeO.bind ?_ (fun _ => ?_)
set_option maxHeartbeats 8000000 in
set_option maxRecDepth 100000 in
theorem laws_toCode.calls (k : Nat) (A0_0 : Option Addr) (c0_0 : Nat) (l0_0 : List (S93)) (a0_1 : Int) (r1 : List (S69)) (r2 : Int) (w : World) (hr0_0 : Kd.C k93 w A0_0 l0_0.length l0_0) (hc0_0 : l0_0.length ≤ c0_0) (h : laws_toCode.f k l0_0 a0_1 = some (r1, r2)) :
    Calls Try.prog 26 #[.agg #[.slice A0_0 l0_0.length c0_0, .int .i64 a0_1]] w fun e w' => ∃ v0_ : Value, e = .returned (.agg #[v0_, .int .i64 r2]) ∧ Kd.R k69 69 w' w.heap.size (fun _ => True) v0_ r1 ∧ Below w.heap.size w w' := by
  have hu34 := Try.underlying34
  have hu39 := Try.underlying39
  have HR0_0 := Aside0.mk hr0_0
  have HC0_0 := Aside0.mk hc0_0
  clear hr0_0 hc0_0
  have HB := Aside0.mk (Below.refl w.heap.size w)
  have H : ((laws_toOpS.f k l0_0).bind fun t586 => (some (t586, a0_1))) = some (r1, r2) := h
  clear h
  replace H := Option.bind_eq_some_iff.mp H
  obtain ⟨t586, A20, H⟩ := H
  replace H : (some (t586, a0_1)) = some (r1, r2) := H
  have A2 := Aside0.mk A20
  clear A20
  simp only [Option.some.injEq, Prod.mk.injEq] at H
  obtain ⟨rfl, rfl⟩ := H
  go_enter Try.func26, Try.ntmps26
  go_wp2_with (first | ((with_reducible refine zal (N := 1) rfl ?_); refine zam ?hg (N := 1) ?hd (cs := #[.slice A0_0 l0_0.length c0_0, .int .i64 a0_1]) (t := 34) ?hr ?_; (case hd => rfl); (case hg => rfl); (case hr => first | (go_simp; done) | (go_simp; rfl)); intro gb583 hg w3 hbox hb; have n0_ := Aside0.mk (zab (by repeat (first | (with_reducible first | exact HB.out | apply za2 | apply za0 | apply za1) | exact HB.out)) hb); have n1_ := Aside0.mk (hbox); have n2_ := Aside0.mk ((by rw [hg]; exact (za9 (by repeat (first | (with_reducible first | exact HB.out | apply za2 | apply za0 | apply za1) | exact HB.out))) : w.heap.size ≤ gb583)); have n3_ := Aside0.mk ((by rw [hg]; exact (za9 (by repeat (first | (with_reducible first | exact HB.out | apply za2 | apply za0 | apply za1) | exact HB.out))) : w.heap.size ≤ gb583)); clear HB; have HB := n0_; have BK583 := n1_; have GW583 := n2_; have GE583 := n3_; clear n0_ n1_ n2_ n3_; clear hb hbox hg) | ((with_reducible refine zal (N := 2) rfl ?_); refine zam ?hg (N := 2) ?hd (cs := #[.slice none 0 0, .int .i64 0]) (t := 39) ?hr ?_; (case hd => rfl); (case hg => rfl); (case hr => first | (go_simp; done) | (go_simp; rfl)); intro gb584 hg w4 hbox hb; have n0_ := Aside0.mk (zae (g := gb583) (o := .cells #[.slice A0_0 l0_0.length c0_0, .int .i64 a0_1] 34 (0, 0)) (by (with_reducible repeat (first | refine za5 ?_ _ | refine za6 ?_ | refine za4 ?_ _)); exact BK583.out) hb); have n1_ := Aside0.mk (zab (by repeat (first | (with_reducible first | exact HB.out | apply za2 | apply za0 | apply za1 | refine za3 ?_ GE583.out) | exact HB.out)) hb); have n2_ := Aside0.mk (hbox); have n3_ := Aside0.mk ((by rw [hg]; exact (za9 (by repeat (first | (with_reducible first | exact HB.out | apply za2 | apply za0 | apply za1 | refine za3 ?_ GE583.out) | exact HB.out))) : w.heap.size ≤ gb584)); have n4_ := Aside0.mk ((by rw [hg]; exact (za9 (by repeat (first | (with_reducible first | exact HB.out | apply za2 | apply za0 | apply za1 | refine za3 ?_ GE583.out) | exact HB.out))) : w.heap.size ≤ gb584)); have n5_ := Aside0.mk ((by rw [hg]; exact Nat.ne_of_lt (zau (g := gb583) (o := .cells #[.slice A0_0 l0_0.length c0_0, .int .i64 a0_1] 34 (0, 0)) (by (with_reducible repeat (first | refine za5 ?_ _ | refine za6 ?_ | refine za4 ?_ _)); exact BK583.out)) : gb583 ≠ gb584)); have n6_ := Aside0.mk ((by rw [hg]; exact Nat.ne_of_gt (zau (g := gb583) (o := .cells #[.slice A0_0 l0_0.length c0_0, .int .i64 a0_1] 34 (0, 0)) (by (with_reducible repeat (first | refine za5 ?_ _ | refine za6 ?_ | refine za4 ?_ _)); exact BK583.out)) : gb584 ≠ gb583)); clear BK583; clear HB; have BK583 := n0_; have HB := n1_; have BK584 := n2_; have GW584 := n3_; have GE584 := n4_; have NB583_584 := n5_; have NB584_583 := n6_; clear n0_ n1_ n2_ n3_ n4_ n5_ n6_; clear hb hbox hg) | ((with_reducible refine zal (N := 3) rfl ?_); refine zam ?hg (N := 3) ?hd (cs := #[.slice none 0 0, .int .i64 0]) (t := 39) ?hr ?_; (case hd => rfl); (case hg => rfl); (case hr => first | (go_simp; done) | (go_simp; rfl)); intro gb585 hg w5 hbox hb; have n0_ := Aside0.mk (zae (g := gb583) (o := .cells #[.slice A0_0 l0_0.length c0_0, .int .i64 a0_1] 34 (0, 0)) (by (with_reducible repeat (first | refine za5 ?_ _ | refine za6 ?_ | refine za4 ?_ _)); exact BK583.out) hb); have n1_ := Aside0.mk (zae (g := gb584) (o := .cells #[.slice none 0 0, .int .i64 0] 39 (0, 0)) (by (with_reducible repeat (first | refine za5 ?_ _ | refine za6 ?_ | refine za4 ?_ _)); exact BK584.out) hb); have n2_ := Aside0.mk (zab (by repeat (first | (with_reducible first | exact HB.out | apply za2 | apply za0 | apply za1 | refine za3 ?_ GE583.out | refine za3 ?_ GE584.out) | exact HB.out)) hb); have n3_ := Aside0.mk (hbox); have n4_ := Aside0.mk ((by rw [hg]; exact (za9 (by repeat (first | (with_reducible first | exact HB.out | apply za2 | apply za0 | apply za1 | refine za3 ?_ GE583.out | refine za3 ?_ GE584.out) | exact HB.out))) : w.heap.size ≤ gb585)); have n5_ := Aside0.mk ((by rw [hg]; exact (za9 (by repeat (first | (with_reducible first | exact HB.out | apply za2 | apply za0 | apply za1 | refine za3 ?_ GE583.out | refine za3 ?_ GE584.out) | exact HB.out))) : w.heap.size ≤ gb585)); have n6_ := Aside0.mk ((by rw [hg]; exact Nat.ne_of_lt (zau (g := gb583) (o := .cells #[.slice A0_0 l0_0.length c0_0, .int .i64 a0_1] 34 (0, 0)) (by (with_reducible repeat (first | refine za5 ?_ _ | refine za6 ?_ | refine za4 ?_ _)); exact BK583.out)) : gb583 ≠ gb585)); have n7_ := Aside0.mk ((by rw [hg]; exact Nat.ne_of_gt (zau (g := gb583) (o := .cells #[.slice A0_0 l0_0.length c0_0, .int .i64 a0_1] 34 (0, 0)) (by (with_reducible repeat (first | refine za5 ?_ _ | refine za6 ?_ | refine za4 ?_ _)); exact BK583.out)) : gb585 ≠ gb583)); have n8_ := Aside0.mk ((by rw [hg]; exact Nat.ne_of_lt (zau (g := gb584) (o := .cells #[.slice none 0 0, .int .i64 0] 39 (0, 0)) (by (with_reducible repeat (first | refine za5 ?_ _ | refine za6 ?_ | refine za4 ?_ _)); exact BK584.out)) : gb584 ≠ gb585)); have n9_ := Aside0.mk ((by rw [hg]; exact Nat.ne_of_gt (zau (g := gb584) (o := .cells #[.slice none 0 0, .int .i64 0] 39 (0, 0)) (by (with_reducible repeat (first | refine za5 ?_ _ | refine za6 ?_ | refine za4 ?_ _)); exact BK584.out)) : gb585 ≠ gb584)); clear BK583; clear BK584; clear HB; have BK583 := n0_; have BK584 := n1_; have HB := n2_; have BK585 := n3_; have GW585 := n4_; have GE585 := n5_; have NB583_585 := n6_; have NB585_583 := n7_; have NB584_585 := n8_; have NB585_584 := n9_; clear n0_ n1_ n2_ n3_ n4_ n5_ n6_ n7_ n8_ n9_; clear hb hbox hg; have hnb6 := NB583_584.out; have hnc6 := NB584_583.out; have hnb7 := NB583_585.out; have hnc7 := NB585_583.out; have hcz8_0 : w5.cell? ⟨gb583, 0, none⟩ = some (.slice A0_0 l0_0.length c0_0) := (za7 BK583.out 0).trans rfl; have hcz8_1 : w5.cell? ⟨gb583, 1, none⟩ = some (.int .i64 a0_1) := (za7 BK583.out 1).trans rfl; have hfz8_0 := za8 BK583.out 0; have hfz8_1 := za8 BK583.out 1) | ((with_reducible refine zaf (f := 66) rfl ?_); refine zax (some 6) rfl rfl Try.func66 (by kernel_rfl) rfl #[.slice A0_0 l0_0.length c0_0] rfl (by (try simp only [List.map_toArray, List.map_cons, List.map_nil]); first | done | rfl | (simp only [List.length_drop, List.length_take]; rfl)) ?_; (with_reducible refine (laws_toOpS.calls k _ _ l0_0 t586 _ ?side1 ?side2 A2.out).mono ?_); (case side1 => repeat (first | exact (Kd.C_below HR0_0.out HB.out) | (with_reducible refine Kd.zao ?_ _) | (with_reducible refine Kd.zan ?_ _) | (with_reducible refine Kd.zav ?_))); (case side2 => exact HC0_0.out); rintro e w9 ⟨v587, rfl, ho0, hb⟩; refine ⟨_, rfl, ?_⟩; have n0_ := Aside0.mk (Kd.zb0 ho0 (za9 (by repeat (first | (with_reducible first | exact HB.out | apply za2 | apply za0 | apply za1 | refine za3 ?_ GE583.out | refine za3 ?_ GE584.out | refine za3 ?_ GE585.out) | exact HB.out)))); have n1_ := Aside0.mk (zae (g := gb583) (o := .cells #[.slice A0_0 l0_0.length c0_0, .int .i64 a0_1] 34 (0, 0)) (by (with_reducible repeat (first | refine za5 ?_ _ | refine za6 ?_ | refine za4 ?_ _)); exact BK583.out) hb); have n2_ := Aside0.mk (zae (g := gb584) (o := .cells #[.slice none 0 0, .int .i64 0] 39 (0, 0)) (by (with_reducible repeat (first | refine za5 ?_ _ | refine za6 ?_ | refine za4 ?_ _)); exact BK584.out) hb); have n3_ := Aside0.mk (zae (g := gb585) (o := .cells #[.slice none 0 0, .int .i64 0] 39 (0, 0)) (by (with_reducible repeat (first | refine za5 ?_ _ | refine za6 ?_ | refine za4 ?_ _)); exact BK585.out) hb); have n4_ := Aside0.mk (zab (by repeat (first | (with_reducible first | exact HB.out | apply za2 | apply za0 | apply za1 | refine za3 ?_ GE583.out | refine za3 ?_ GE584.out | refine za3 ?_ GE585.out) | exact HB.out)) hb); clear BK583; clear BK584; clear BK585; clear HB; have HO588 := n0_; have BK583 := n1_; have BK584 := n2_; have BK585 := n3_; have HB := n4_; clear n0_ n1_ n2_ n3_ n4_; (try clear hb); (try clear hb2); (try clear hk); (try clear hi); (try clear ho0); obtain ⟨Ao10, co10, eo10⟩ := Kd.zaz HO588.out; subst eo10; have hnb11 := NB585_584.out; have hnc11 := NB584_585.out; have hcz12_0 : w9.cell? ⟨gb585, 0, none⟩ = some (.slice none 0 0) := (za7 BK585.out 0).trans rfl; have hcz12_1 : w9.cell? ⟨gb585, 1, none⟩ = some (.int .i64 0) := (za7 BK585.out 1).trans rfl; have hfz12_0 := za8 BK585.out 0; have hfz12_1 := za8 BK585.out 1; have hcz13_0 : w9.cell? ⟨gb583, 0, none⟩ = some (.slice A0_0 l0_0.length c0_0) := (za7 BK583.out 0).trans rfl; have hcz13_1 : w9.cell? ⟨gb583, 1, none⟩ = some (.int .i64 a0_1) := (za7 BK583.out 1).trans rfl; have hfz13_0 := za8 BK583.out 0; have hfz13_1 := za8 BK583.out 1; have hcz14_0 : w9.cell? ⟨gb584, 0, none⟩ = some (.slice none 0 0) := (za7 BK584.out 0).trans rfl; have hcz14_1 : w9.cell? ⟨gb584, 1, none⟩ = some (.int .i64 0) := (za7 BK584.out 1).trans rfl; have hfz14_0 := za8 BK584.out 0; have hfz14_1 := za8 BK584.out 1))
  refine bodyPost_ret (results_cell_row rfl _ _ gb584 39 #[.slice Ao10 t586.length co10, .int .i64 a0_1] (0, 0) _ rfl (by (with_reducible repeat (first | refine za5 ?_ _ | refine za6 ?_ | refine za4 ?_ _)); refine zas (cs := #[.slice Ao10 t586.length co10, .int .i64 0]) ?_ 1 _ rfl; (with_reducible repeat (first | refine za5 ?_ _ | refine za6 ?_ | refine za4 ?_ _)); refine zas (cs := #[.slice none 0 0, .int .i64 0]) ?_ 0 _ rfl; (with_reducible repeat (first | refine za5 ?_ _ | refine za6 ?_ | refine za4 ?_ _)); refine zaw ?_ NB584_585.out _; (with_reducible repeat (first | refine za5 ?_ _ | refine za6 ?_ | refine za4 ?_ _)); refine zaw ?_ NB584_585.out _; (with_reducible repeat (first | refine za5 ?_ _ | refine za6 ?_ | refine za4 ?_ _)); exact BK584.out) Try.underlying39 rfl (by kernel_rfl)) rfl ?_
  exact ⟨_, by first | rfl | (simp [zad, zac] <;> rfl) | (simp [*, zad, zac] <;> rfl), by (with_reducible repeat (first | apply Kd.zai | apply Kd.zah | apply Kd.zak)); exact Kd.zay (Kd.R_far (p := ⟨gb584, 1, none⟩) (Kd.R_far (p := ⟨gb584, 0, none⟩) (Kd.R_far (p := ⟨gb585, 1, none⟩) (Kd.R_far (p := ⟨gb585, 0, none⟩) (Kd.zar (Kd.zar HO588.out BK585.out (by decide)) BK584.out (by decide)) (fun _ hk => hk.1.2) (.slice Ao10 t586.length co10)) (fun _ hk => hk.1.2) (.int .i64 a0_1)) (fun _ hk => hk.2) (.slice Ao10 t586.length co10)) (fun _ hk => hk.2) (.int .i64 a0_1)) (fun _ hk => trivial), by repeat (first | (with_reducible first | exact HB.out | apply za2 | apply za0 | apply za1 | refine za3 ?_ GE583.out | refine za3 ?_ GE584.out | refine za3 ?_ GE585.out) | exact HB.out)⟩

/-! ### spec_l1Least: function 108 -/
def spec_l1Least.f (a0 : Int) (a1 : Int) : Option (Int) := if a0 < a1 then (some a0) else (some a1)
set_option maxHeartbeats 8000000 in
set_option maxRecDepth 100000 in
theorem spec_l1Least.calls (a0 : Int) (a1 : Int) (r : Int) (w : World) (h : spec_l1Least.f a0 a1 = some r) :
    Calls Try.prog 108 #[.int .i64 a0, .int .i64 a1] w fun e w' => e = .returned (.int .i64 r) ∧ Drawn0 w w' := by
  have H : (if a0 < a1 then (some a0) else (some a1)) = some r := h
  clear h
  by_cases c3 : a0 < a1
  · rw [if_pos c3] at H
    have c3b0 : decide (a0 < a1) = true := decide_eq_true c3
    clear c3
    obtain rfl := Option.some.inj H
    go_enter Try.func108, Try.ntmps108
    go_wp2
    go_ret
    exact ⟨by first | rfl | (simp; done) | (simp [*]; done), by repeat (first | exact Drawn0.refl _ | apply Drawn0.step)⟩
  · rw [if_neg c3] at H
    have c3b0 : decide (a0 < a1) = false := decide_eq_false c3
    clear c3
    obtain rfl := Option.some.inj H
    go_enter Try.func108, Try.ntmps108
    go_wp2
    go_ret
    exact ⟨by first | rfl | (simp; done) | (simp [*]; done), by repeat (first | exact Drawn0.refl _ | apply Drawn0.step)⟩

/-! ### spec_poGiant: function 95 -/
mutual
def spec_poGiant.l0 : Nat → List Int → Int → List Int → Int → Int → List (S69) → Int → Option ((List (S69)) × Int)
  | 0, _, _, _, _, _, _, _ => none
  | k + 1, x0, x1, x6, x7, x8, x706000, x706001 => if x8 ≥ 0 then (if x7 ≥ 0 then (if 0 ≤ (wrap64 (x1 - 1)) then (if (wrap64 (x1 - 1)) < (x6.length : Int) then ((spec_poAdd.f x706000 x706001 3 x7 (rd x6 (wrap64 (x1 - 1)))).bind fun bt707 => (spec_poGiant.j1 k x0 x1 x6 bt707.2.2 x8 bt707.1 bt707.2.1)) else (none)) else (none)) else (spec_poGiant.j1 k x0 x1 x6 x7 x8 x706000 x706001)) else (some (x706000, x7))
def spec_poGiant.j1 : Nat → List Int → Int → List Int → Int → Int → List (S69) → Int → Option ((List (S69)) × Int)
  | 0, _, _, _, _, _, _, _ => none
  | k + 1, x0, x1, x6, x7, x8, x706000, x706001 => (spec_l1Least.f (wrap64 (x8 + x1)) (x0.length : Int)).bind fun t712 => (if 0 ≤ x8 then (if x8 ≤ t712 then (if t712 ≤ (x0.length : Int) then ((spec_poGroup.f k x706000 x706001 ((x0.take (t712 : Int).toNat).drop (x8 : Int).toNat) x6).bind fun bt714 => (if x7 < 0 then (spec_poGiant.l0 k x0 x1 x6 bt714.2.2 (wrap64 (x8 - x1)) bt714.1 bt714.2.1) else ((spec_poAdd.f bt714.1 bt714.2.1 1 x7 bt714.2.2).bind fun bt719 => (spec_poGiant.l0 k x0 x1 x6 bt719.2.2 (wrap64 (x8 - x1)) bt719.1 bt719.2.1)))) else (none)) else (none)) else (none))
end
def spec_poGiant.f (k : Nat) (l0 : List Int) (a1 : Int) : Option ((List (S69)) × Int) := (spec_l1Least.f a1 (wrap64 ((l0.length : Int) - 1))).bind fun t697 => ((spec_poPowers.f k ([] : List (S69)) 0 t697).bind fun bt698 => (if a1 = 0 then (none) else (spec_poGiant.l0 k l0 a1 bt698.2.2 (-1) (wrap64 ((wrap64 (Int.tdiv (wrap64 ((l0.length : Int) - 1)) a1)) * a1)) bt698.1 bt698.2.1)))
theorem spec_poGiant.zb1 : ∀ k, (∀ y0 y1 y2 y3 y4 y5 y6, LeO (spec_poGiant.l0 k y0 y1 y2 y3 y4 y5 y6) (spec_poGiant.l0 (k + 1) y0 y1 y2 y3 y4 y5 y6)) ∧ (∀ y0 y1 y2 y3 y4 y5 y6, LeO (spec_poGiant.j1 k y0 y1 y2 y3 y4 y5 y6) (spec_poGiant.j1 (k + 1) y0 y1 y2 y3 y4 y5 y6))
  | 0 => ⟨fun _ _ _ _ _ _ _ r h => by simp [spec_poGiant.l0] at h, fun _ _ _ _ _ _ _ r h => by simp [spec_poGiant.j1] at h⟩
  | k + 1 => by
    obtain ⟨ih0, ih1⟩ := spec_poGiant.zb1 k
    refine ⟨?_, ?_⟩
    · intro y0 y1 y2 y3 y4 y5 y6
      unfold spec_poGiant.l0
      repeat' first
      | (with_reducible exact ih0 _ _ _ _ _ _ _)
      | (with_reducible exact ih1 _ _ _ _ _ _ _)
      | (with_reducible exact spec_poGroup.mono _ _ _ _ _)
      | (with_reducible exact spec_poPowers.mono _ _ _ _)
      | (with_reducible exact LeO.refl _)
      | (with_reducible exact LeO.none _)
      | (with_reducible refine LeO.ite ?_ ?_)
      | (with_reducible refine LeO.bind ?_ (fun _ => ?_))
      | exact ih0 _ _ _ _ _ _ _
      | exact ih1 _ _ _ _ _ _ _
      | exact spec_poGroup.mono _ _ _ _ _
      | exact spec_poPowers.mono _ _ _ _
      | exact LeO.none _
      | refine LeO.ite ?_ ?_
      | refine LeO.bind ?_ (fun _ => ?_)
    · intro y0 y1 y2 y3 y4 y5 y6
      unfold spec_poGiant.j1
      repeat' first
      | (with_reducible exact ih0 _ _ _ _ _ _ _)
      | (with_reducible exact ih1 _ _ _ _ _ _ _)
      | (with_reducible exact spec_poGroup.mono _ _ _ _ _)
      | (with_reducible exact spec_poPowers.mono _ _ _ _)
      | (with_reducible exact LeO.refl _)
      | (with_reducible exact LeO.none _)
      | (with_reducible refine LeO.ite ?_ ?_)
      | (with_reducible refine LeO.bind ?_ (fun _ => ?_))
      | exact ih0 _ _ _ _ _ _ _
      | exact ih1 _ _ _ _ _ _ _
      | exact spec_poGroup.mono _ _ _ _ _
      | exact spec_poPowers.mono _ _ _ _
      | exact LeO.none _
      | refine LeO.ite ?_ ?_
      | refine LeO.bind ?_ (fun _ => ?_)
theorem spec_poGiant.mono : ∀ a0 a1 k, LeO (spec_poGiant.f k a0 a1) (spec_poGiant.f (k + 1) a0 a1) := by
  intro a0 a1 k
  obtain ⟨ih0, ih1⟩ := spec_poGiant.zb1 k
  unfold spec_poGiant.f
  repeat' first
      | (with_reducible exact ih0 _ _ _ _ _ _ _)
      | (with_reducible exact ih1 _ _ _ _ _ _ _)
      | (with_reducible exact spec_poGroup.mono _ _ _ _ _)
      | (with_reducible exact spec_poPowers.mono _ _ _ _)
      | (with_reducible exact LeO.refl _)
      | (with_reducible exact LeO.none _)
      | (with_reducible refine LeO.ite ?_ ?_)
      | (with_reducible refine LeO.bind ?_ (fun _ => ?_))
      | exact ih0 _ _ _ _ _ _ _
      | exact ih1 _ _ _ _ _ _ _
      | exact spec_poGroup.mono _ _ _ _ _
      | exact spec_poPowers.mono _ _ _ _
      | exact LeO.none _
      | refine LeO.ite ?_ ?_
      | refine LeO.bind ?_ (fun _ => ?_)
def spec_poGiant.T7 : Bool × List (List Nat × List Nat) := (true, [([], []), ([], []), ([], []), ([], []), ([3], [3]), ([2, 4], [2, 4]), ([5], [5]), ([0, 1, 6], [0, 1, 6]), ([7], [7]), ([8], [8]), ([8], [8]), ([9, 7, 0, 1, 2, 3, 4, 5, 6, 7, 8, 9], [9]), ([10, 11, 0, 1, 2, 3, 4, 5, 6, 7, 8, 9, 10, 11], [1, 10])])
def spec_poGiant.B7 : List Nat := [0, 0, 0, 0, 8, 28, 60, 127, 255, 511, 511, 1023, 4095]
theorem spec_poGiant.tab7 : rtab .any (opsOf Try.f95 7) = spec_poGiant.T7 := by kernel_rfl
theorem spec_poGiant.bits7 : waitsOk spec_poGiant.T7.2 spec_poGiant.B7 = true := by kernel_rfl
def spec_poGiant.T9 : Bool × List (List Nat × List Nat) := (true, [([], []), ([], []), ([], []), ([], []), ([], []), ([3, 4], [3, 4]), ([], []), ([6], [6]), ([5, 7], [5, 7]), ([1, 2, 8], [1, 2, 8]), ([], []), ([0, 9, 10, 8], [0, 9, 10]), ([11], [11]), ([12], [12]), ([12], [12]), ([13, 11, 0, 1, 2, 3, 4, 5, 6, 7, 8, 9, 10, 11, 12, 13], [13]), ([14, 15, 0, 1, 2, 3, 4, 5, 6, 7, 8, 9, 10, 11, 12, 13, 14, 15], [14])])
def spec_poGiant.B9 : List Nat := [0, 0, 0, 0, 0, 24, 0, 64, 248, 510, 0, 2047, 4095, 8191, 8191, 16383, 65535]
theorem spec_poGiant.tab9 : rtab .any (opsOf Try.f95 9) = spec_poGiant.T9 := by kernel_rfl
theorem spec_poGiant.bits9 : waitsOk spec_poGiant.T9.2 spec_poGiant.B9 = true := by kernel_rfl
set_option maxHeartbeats 8000000 in
set_option maxRecDepth 100000 in
theorem spec_poGiant.calls (k : Nat) (A0 : Option Addr) (c0 : Nat) (l0 : List Int) (a1 : Int) (r1 : List (S69)) (r2 : Int) (w : World) (hr0 : Kd.C (Kd.int .i64) w A0 l0.length l0) (hc0 : l0.length ≤ c0) (h : spec_poGiant.f k l0 a1 = some (r1, r2)) :
    Calls Try.prog 95 #[.slice A0 l0.length c0, .int .i64 a1] w fun e w' => ∃ v0_ : Value, e = .returned (.agg #[v0_, .int .i64 r2]) ∧ Kd.V k69 69 w' w.heap.size (fun k_ => (w.heap.size ≤ k_)) v0_ r1 ∧ Below w.heap.size w w' := by
  have hu39 := Try.underlying39
  have HR0 := Aside0.mk hr0
  have HC0 := Aside0.mk hc0
  clear hr0 hc0
  have HB := Aside0.mk (Below.refl w.heap.size w)
  have H : ((spec_l1Least.f a1 (wrap64 ((l0.length : Int) - 1))).bind fun t697 => ((spec_poPowers.f k ([] : List (S69)) 0 t697).bind fun bt698 => (if a1 = 0 then (none) else (spec_poGiant.l0 k l0 a1 bt698.2.2 (-1) (wrap64 ((wrap64 (Int.tdiv (wrap64 ((l0.length : Int) - 1)) a1)) * a1)) bt698.1 bt698.2.1)))) = some (r1, r2) := h
  clear h
  replace H := Option.bind_eq_some_iff.mp H
  obtain ⟨t697, A30, H⟩ := H
  replace H : ((spec_poPowers.f k ([] : List (S69)) 0 t697).bind fun bt698 => (if a1 = 0 then (none) else (spec_poGiant.l0 k l0 a1 bt698.2.2 (-1) (wrap64 ((wrap64 (Int.tdiv (wrap64 ((l0.length : Int) - 1)) a1)) * a1)) bt698.1 bt698.2.1))) = some (r1, r2) := H
  have A3 := Aside0.mk A30
  clear A30
  replace H := Option.bind_eq_some_iff.mp H
  obtain ⟨⟨t698, t701, t702⟩, A40, H⟩ := H
  replace H : (if a1 = 0 then (none) else (spec_poGiant.l0 k l0 a1 t702 (-1) (wrap64 ((wrap64 (Int.tdiv (wrap64 ((l0.length : Int) - 1)) a1)) * a1)) t698 t701)) = some (r1, r2) := H
  have A4 := Aside0.mk A40
  clear A40
  by_cases c5 : a1 = 0
  · rw [if_pos c5] at H
    exact absurd H (by simp)
  · rw [if_neg c5] at H
    have c5b0 : (a1 == 0) = false := beq_eq_false_iff_ne.mpr c5
    have c5b1 : (a1 != 0) = true := bne_iff_ne.mpr c5
    have H' := Aside0.mk H
    clear H
    go_enter Try.func95, Try.ntmps95
    go_wp2_with (first | ((with_reducible refine zal (N := 4) rfl ?_); refine zam ?hg (N := 4) ?hd (cs := #[.slice none 0 0, .int .i64 0]) (t := 39) ?hr ?_; (case hd => rfl); (case hg => rfl); (case hr => first | (go_simp; done) | (go_simp; rfl)); intro gb696 hg w6 hbox hb; have n0_ := Aside0.mk (zab (by repeat (first | (with_reducible first | exact HB.out | apply za2 | apply za0 | apply za1) | exact HB.out)) hb); have n1_ := Aside0.mk (hbox); have n2_ := Aside0.mk ((by rw [hg]; exact (za9 (by repeat (first | (with_reducible first | exact HB.out | apply za2 | apply za0 | apply za1) | exact HB.out))) : w.heap.size ≤ gb696)); have n3_ := Aside0.mk ((by rw [hg]; exact (za9 (by repeat (first | (with_reducible first | exact HB.out | apply za2 | apply za0 | apply za1) | exact HB.out))) : w.heap.size ≤ gb696)); clear HB; have HB := n0_; have BK696 := n1_; have GW696 := n2_; have GE696 := n3_; clear n0_ n1_ n2_ n3_; clear hb hbox hg) | ((with_reducible refine zaf (f := 108) rfl ?_); refine zax (some 16) rfl rfl Try.func108 (by kernel_rfl) rfl #[.int .i64 a1, .int .i64 (wrap64 ((l0.length : Int) - 1))] rfl (by (try simp only [List.map_toArray, List.map_cons, List.map_nil]); first | done | rfl | (simp only [List.length_drop, List.length_take]; rfl)) ?_; (with_reducible refine (spec_l1Least.calls a1 (wrap64 ((l0.length : Int) - 1)) t697 _ A3.out).mono ?_); rintro e w' ⟨rfl, ⟨nd, rfl⟩⟩; refine ⟨_, rfl, ?_⟩; (try (rw [drewN_self w6]; generalize hq_ : World.drewN w6 _ = w6; have n0_ : Aside0 (w6.heap[gb696]? = some (.cells #[.slice none 0 0, .int .i64 0] 39 (0, 0))) := ⟨by rw [← hq_]; exact (by (with_reducible repeat (first | refine za5 ?_ _ | refine za6 ?_ | refine za4 ?_ _)); exact BK696.out)⟩; have n1_ : Aside0 (Below w.heap.size w w6) := ⟨by rw [← hq_]; exact (by repeat (first | (with_reducible first | exact HB.out | apply za2 | apply za0 | apply za1 | refine za3 ?_ GE696.out) | exact HB.out))⟩; clear BK696 HB hq_; have BK696 := n0_; have HB := n1_; clear n0_ n1_))) | ((with_reducible refine zaf (f := 83) rfl ?_); refine zax (some 17) rfl rfl Try.func83 (by kernel_rfl) rfl #[.agg #[.slice none 0 0, .int .i64 0], .int .i64 t697] rfl (by (try simp only [List.map_toArray, List.map_cons, List.map_nil]); first | done | rfl | (simp only [List.length_drop, List.length_take]; rfl)) ?_; (refine (spec_poPowers.calls k (fun k_ => False) _ _ ([] : List (S69)) 0 t697 t698 t701 t702 _ ?side1 A4.out).mono ?_); (case side1 => exact Kd.V_nil _ _ _ _ _); rintro e w7 ⟨v699, v703, rfl, ho0, ho1, hb⟩; refine ⟨_, rfl, ?_⟩; have n0_ := Aside0.mk (Kd.V_lower (Kd.V_mono (ok' := fun k_ => (w.heap.size ≤ k_) ∧ some k_ ≠ (v703 : Value).ownBlock ∧ k_ ≠ gb696) ho0 (fun k_ hk_ => ⟨Or.elim hk_.1 (fun hs_ => (hs_).elim) (fun hn_ => (Nat.le_trans (za9 (by repeat (first | (with_reducible first | exact HB.out | apply za2 | apply za0 | apply za1 | refine za3 ?_ GE696.out) | exact HB.out))) hn_)), hk_.2, Or.elim hk_.1 (fun hs_ => (hs_).elim) (fun hn_ => (Kd.freshB (g := gb696) (o := .cells #[.slice none 0 0, .int .i64 0] 39 (0, 0)) (by (with_reducible repeat (first | refine za5 ?_ _ | refine za6 ?_ | refine za4 ?_ _)); exact BK696.out) k_ hn_))⟩)) (za9 (by repeat (first | (with_reducible first | exact HB.out | apply za2 | apply za0 | apply za1 | refine za3 ?_ GE696.out) | exact HB.out)))); have n1_ := Aside0.mk (Kd.zb0 (Kd.R_newM (M := fun k_ => (w.heap.size ≤ k_)) (Kd.zay (ok' := fun k_ => True) ho1 (fun _ hk_ => trivial)) (za9 (by repeat (first | (with_reducible first | exact HB.out | apply za2 | apply za0 | apply za1 | refine za3 ?_ GE696.out) | exact HB.out))) (fun k_ h_ => h_)) (za9 (by repeat (first | (with_reducible first | exact HB.out | apply za2 | apply za0 | apply za1 | refine za3 ?_ GE696.out) | exact HB.out)))); have n2_ := Aside0.mk (zae (g := gb696) (o := .cells #[.slice none 0 0, .int .i64 0] 39 (0, 0)) (by (with_reducible repeat (first | refine za5 ?_ _ | refine za6 ?_ | refine za4 ?_ _)); exact BK696.out) hb); have n3_ := Aside0.mk (zab (by repeat (first | (with_reducible first | exact HB.out | apply za2 | apply za0 | apply za1 | refine za3 ?_ GE696.out) | exact HB.out)) hb); clear BK696; clear HB; have HO700 := n0_; have HO704 := n1_; have BK696 := n2_; have HB := n3_; clear n0_ n1_ n2_ n3_; (try clear hb); (try clear hb2); (try clear hk); (try clear hi); (try clear ho0); (try clear ho1)) | ((with_reducible refine zal (N := 5) rfl ?_); refine zam ?hg (N := 5) ?hd (cs := #[.slice none 0 0, .int .i64 0]) (t := 39) ?hr ?_; (case hd => rfl); (case hg => rfl); (case hr => first | (go_simp; done) | (go_simp; rfl)); intro gb705 hg w8 hbox hb; have n0_ := Aside0.mk (Kd.V_below (Kd.V_elderB (by (with_reducible repeat (first | apply Kd.zb4 | apply Kd.zb5 | apply Kd.V_drew)); exact HO700.out) gb705 (Nat.le_of_eq hg.symm)) hb); have n1_ := Aside0.mk (Kd.R_below (by (with_reducible repeat (first | apply Kd.zai | apply Kd.zah | apply Kd.zak)); exact HO704.out) hb); have n2_ := Aside0.mk (zae (g := gb696) (o := .cells #[.slice none 0 0, .int .i64 0] 39 (0, 0)) (by (with_reducible repeat (first | refine za5 ?_ _ | refine za6 ?_ | refine za4 ?_ _)); exact BK696.out) hb); have n3_ := Aside0.mk (zab (by repeat (first | (with_reducible first | exact HB.out | apply za2 | apply za0 | apply za1 | refine za3 ?_ GE696.out) | exact HB.out)) hb); have n4_ := Aside0.mk (hbox); have n5_ := Aside0.mk ((by rw [hg]; exact (za9 (by repeat (first | (with_reducible first | exact HB.out | apply za2 | apply za0 | apply za1 | refine za3 ?_ GE696.out) | exact HB.out))) : w.heap.size ≤ gb705)); have n6_ := Aside0.mk ((by rw [hg]; exact (za9 (by repeat (first | (with_reducible first | exact HB.out | apply za2 | apply za0 | apply za1 | refine za3 ?_ GE696.out) | exact HB.out))) : w.heap.size ≤ gb705)); have n7_ := Aside0.mk ((by rw [hg]; exact Nat.ne_of_lt (zau (g := gb696) (o := .cells #[.slice none 0 0, .int .i64 0] 39 (0, 0)) (by (with_reducible repeat (first | refine za5 ?_ _ | refine za6 ?_ | refine za4 ?_ _)); exact BK696.out)) : gb696 ≠ gb705)); have n8_ := Aside0.mk ((by rw [hg]; exact Nat.ne_of_gt (zau (g := gb696) (o := .cells #[.slice none 0 0, .int .i64 0] 39 (0, 0)) (by (with_reducible repeat (first | refine za5 ?_ _ | refine za6 ?_ | refine za4 ?_ _)); exact BK696.out)) : gb705 ≠ gb696)); clear HO700; clear HO704; clear BK696; clear HB; have HO700 := n0_; have HO704 := n1_; have BK696 := n2_; have HB := n3_; have BK705 := n4_; have GW705 := n5_; have GE705 := n6_; have NB696_705 := n7_; have NB705_696 := n8_; clear n0_ n1_ n2_ n3_ n4_ n5_ n6_ n7_ n8_; clear hb hbox hg; obtain ⟨Ao9, co9, eo9⟩ := Kd.V_slice HO700.out; subst eo9; have hnb10 := NB705_696.out; have hnc10 := NB696_705.out; have hcz11_0 : w8.cell? ⟨gb705, 0, none⟩ = some (.slice none 0 0) := (za7 BK705.out 0).trans rfl; have hcz11_1 : w8.cell? ⟨gb705, 1, none⟩ = some (.int .i64 0) := (za7 BK705.out 1).trans rfl; have hfz11_0 := za8 BK705.out 0; have hfz11_1 := za8 BK705.out 1))
    go_loopg [7, 8] k (fun kq v7 v8 w' => ∃ (x7_1 : Int) (x8_1 : Int) (x706000_1 : List (S69)) (x706001_1 : Int) (u706000 : Value), v7 = .int .i64 x7_1 ∧ v8 = .int .i64 x8_1 ∧ Aside0 (spec_poGiant.l0 kq l0 a1 t702 x7_1 x8_1 x706000_1 x706001_1 = some (r1, r2)) ∧ Aside0 (kq ≤ k) ∧ Aside0 (Kd.R (Kd.int .i64) 3 w' w.heap.size (fun k_ => (w.heap.size ≤ k_)) v703 t702) ∧ Aside0 (Kd.V k69 69 w' w.heap.size (fun k_ => (w.heap.size ≤ k_) ∧ some k_ ≠ (v703 : Value).ownBlock ∧ k_ ≠ gb696 ∧ k_ ≠ gb705) u706000 x706000_1) ∧ Aside0 (w'.heap[gb696]? = some (.cells #[(.slice none 0 0), .int .i64 0] 39 (0, 0))) ∧ Aside0 (w'.heap[gb705]? = some (.cells #[u706000, .int .i64 x706001_1] 39 (0, 0))) ∧ Aside0 (Below w.heap.size w w'))
    case atStart => exact ⟨((-1)), (wrap64 ((wrap64 (Int.tdiv (wrap64 ((l0.length : Int) - 1)) a1)) * a1)), (t698), (t701), (.slice Ao9 t698.length co9), (by first | rfl | (simp; done) | (simp [*]; done)), (by first | rfl | (simp; done) | (simp [*]; done)), H', ⟨Nat.le_refl _⟩, ⟨by (with_reducible repeat (first | apply Kd.zai | apply Kd.zah | apply Kd.zak)); exact Kd.zay (Kd.R_far (p := ⟨gb705, 1, none⟩) (Kd.R_far (p := ⟨gb705, 0, none⟩) (Kd.zar HO704.out BK705.out (by decide)) (fun _ hk => hk.2) (.slice Ao9 t698.length co9)) (fun _ hk => hk.2) (.int .i64 t701)) (fun _ hk => hk.1.1)⟩, ⟨by (with_reducible repeat (first | apply Kd.zb4 | apply Kd.zb5 | apply Kd.V_drew)); exact Kd.V_mono (Kd.V_far (p := ⟨gb705, 1, none⟩) (Kd.V_far (p := ⟨gb705, 0, none⟩) (Kd.V_mono HO700.out (fun k_ hk => (⟨hk, hk.2⟩ : _ ∧ k_ ≠ gb705))) (fun _ hk => hk.2) (.slice Ao9 t698.length co9)) (fun _ hk => hk.2) (.int .i64 t701)) (fun _ hk => ⟨hk.1.1.1, ⟨hk.1.1.2.1, ⟨hk.1.1.2.2, hk.1.2⟩⟩⟩)⟩, ⟨by (with_reducible repeat (first | refine za5 ?_ _ | refine za6 ?_ | refine za4 ?_ _)); refine zaw ?_ NB696_705.out _; (with_reducible repeat (first | refine za5 ?_ _ | refine za6 ?_ | refine za4 ?_ _)); refine zaw ?_ NB696_705.out _; (with_reducible repeat (first | refine za5 ?_ _ | refine za6 ?_ | refine za4 ?_ _)); exact BK696.out⟩, ⟨by (with_reducible repeat (first | refine za5 ?_ _ | refine za6 ?_ | refine za4 ?_ _)); refine zas (cs := #[.slice Ao9 t698.length co9, .int .i64 0]) ?_ 1 _ rfl; (with_reducible repeat (first | refine za5 ?_ _ | refine za6 ?_ | refine za4 ?_ _)); refine zas (cs := #[.slice none 0 0, .int .i64 0]) ?_ 0 _ rfl; (with_reducible repeat (first | refine za5 ?_ _ | refine za6 ?_ | refine za4 ?_ _)); exact BK705.out⟩, ⟨by repeat (first | (with_reducible first | exact HB.out | apply za2 | apply za0 | apply za1 | refine za3 ?_ GE696.out | refine za3 ?_ GE705.out) | exact HB.out)⟩⟩
    case round =>
      clear H'
      try clear c1
      try clear p2
      try clear c5
      try clear c5b0
      try clear c5b1
      try clear p6
      try clear c8
      try clear c9
      try clear c10
      try clear hcz11_0
      try clear hcz11_1
      try clear hfz11_0
      try clear hfz11_1
      obtain ⟨x7_1, x8_1, x706000_1, x706001_1, u706000, rfl, rfl, HA, HK1, HO_6, HO_706000, BK696, BK705, HB⟩ := hrel
      cases gk with
      | zero => exact absurd HA.out (by simp [spec_poGiant.l0])
      | succ k1 =>
        have H := HA.out
        clear HA
        simp only [spec_poGiant.l0] at H
        by_cases c12 : x8_1 ≥ 0
        · rw [if_pos c12] at H
          have c12b0 : decide (0 ≤ x8_1) = true := decide_eq_true c12
          clear c12
          have HC13 := Aside0.mk H
          clear H
          go_upto_if 33 with (fail)
          go_cut [7] (fun v7 wc => ∃ (kq : Nat) (x7_12 : Int) (x706000_12 : List (S69)) (x706001_12 : Int) (u706000 : Value), v7 = .int .i64 x7_12 ∧ Aside0 (spec_poGiant.j1 kq l0 a1 t702 x7_12 x8_1 x706000_12 x706001_12 = some (r1, r2)) ∧ Aside0 (kq ≤ k1) ∧ Aside0 (Kd.R (Kd.int .i64) 3 wc w.heap.size (fun k_ => (w.heap.size ≤ k_)) v703 t702) ∧ Aside0 (Kd.V k69 69 wc w.heap.size (fun k_ => (w.heap.size ≤ k_) ∧ some k_ ≠ (v703 : Value).ownBlock ∧ k_ ≠ gb696 ∧ k_ ≠ gb705) u706000 x706000_12) ∧ Aside0 (wc.heap[gb696]? = some (.cells #[(.slice none 0 0), .int .i64 0] 39 (0, 0))) ∧ Aside0 (wc.heap[gb705]? = some (.cells #[u706000, .int .i64 x706001_12] 39 (0, 0))) ∧ Aside0 (Below w.heap.size w wc))
          case first =>
            have H := HC13.out
            clear HC13
            by_cases c14 : x7_1 ≥ 0
            · rw [if_pos c14] at H
              have c14b0 : decide (0 ≤ x7_1) = true := decide_eq_true c14
              clear c14
              (first | rw [c14b0] | (simp only [i64_w, i32_w]; rw [c14b0]) | skip)
              obtain ⟨ji15, hji15⟩ : ∃ j_ : Int, (wrap64 (a1 - 1)) = j_ := ⟨_, rfl⟩
              replace H : (if 0 ≤ (ji15) then (if (ji15) < (t702.length : Int) then ((spec_poAdd.f x706000_1 x706001_1 3 x7_1 (rd t702 (ji15))).bind fun bt707 => (spec_poGiant.j1 k1 l0 a1 t702 bt707.2.2 x8_1 bt707.1 bt707.2.1)) else (none)) else (none)) = some (r1, r2) := by first | (rw [hji15] at H; exact H) | (simp only [hji15] at H ⊢; exact H)
              have hji15w : (IntKind.i64.wrap (a1 - 1)) = ji15 := (i64_w _).trans hji15
              by_cases c16 : 0 ≤ (ji15)
              · rw [if_pos c16] at H
                have c16b0 : decide (0 ≤ (ji15)) = true := decide_eq_true c16
                clear c16
                by_cases c17 : (ji15) < (t702.length : Int)
                · rw [if_pos c17] at H
                  have c17b0 : decide ((ji15) < (t702.length : Int)) = true := decide_eq_true c17
                  clear c17
                  replace H := Option.bind_eq_some_iff.mp H
                  obtain ⟨⟨t707, t710, t711⟩, A180, H⟩ := H
                  replace H : (spec_poGiant.j1 k1 l0 a1 t702 t711 x8_1 t707 t710) = some (r1, r2) := H
                  have A18 := Aside0.mk A180
                  clear A180
                  have H' := Aside0.mk H
                  clear H
                  try go_wp2
                  have n0_ := Aside0.mk (Kd.zak HO_6.out)
                  have n1_ := Aside0.mk (Kd.V_drew HO_706000.out)
                  have n2_ := Aside0.mk (za6 BK696.out)
                  have n3_ := Aside0.mk (za6 BK705.out)
                  have n4_ := Aside0.mk (za1 HB.out)
                  clear HO_6
                  clear HO_706000
                  clear BK696
                  clear BK705
                  clear HB
                  have HO_6 := n0_
                  have HO_706000 := n1_
                  have BK696 := n2_
                  have BK705 := n3_
                  have HB := n4_
                  clear n0_ n1_ n2_ n3_ n4_
                  obtain ⟨Ao20, co20, eo20⟩ := Kd.zaz HO_6.out
                  (first | subst eo20 | (injection eo20 with f1_ f2_ f3_; have f4_ := f1_.symm; have f5_ := f3_.symm; clear f1_ f2_ f3_; subst f4_; subst f5_))
                  have p706 : 0 ≤ ((ji15) : Int) := of_decide_eq_true (by first | (with_reducible assumption) | assumption)
                  have q706 : (ji15) < (t702.length : Int) := of_decide_eq_true (by first | (with_reducible assumption) | assumption)
                  obtain ⟨ad706, e706, hx706_0⟩ := Kd.at_int (Kd.R_reads' HO_6.out).2.2 (ji15) p706 q706
                  cases e706
                  replace p706 := eq_true p706
                  replace q706 := eq_true q706
                  obtain ⟨Ao21, co21, eo21⟩ := Kd.V_slice HO_706000.out
                  (first | subst eo21 | (injection eo21 with f1_ f2_ f3_; have f4_ := f1_.symm; have f5_ := f3_.symm; clear f1_ f2_ f3_; subst f4_; subst f5_))
                  refine start_ (n := 13) (S := fun w' => w'.cell? ⟨gb705, 0, none⟩ = some (.slice Ao21 x706000_1.length co21) ∧ w'.cell? ⟨gb705, 1, none⟩ = some (.int .i64 x706001_1) ∧ w'.cell? (ad706.add ((ji15)).toNat) = some (.int .i64 (rd t702 (ji15)))) (ds := [11]) #[false, false, false, false, false, false, false, false, false, false, false, false, false] (by kernel_rfl) rfl rfl ⟨(za7 BK705.out 0).trans rfl, (za7 BK705.out 1).trans rfl, hx706_0⟩ (fun hHeld => ?_); refine with_tabW spec_poGiant.tab7 spec_poGiant.bits7 (fun HT_ HW_ => ?_)
                  generalize wr.drew = w19 at HO_6 HO_706000 BK696 BK705 HB hx706_0 hHeld ⊢
                  refine pure_ (i := 1) (N := some 36) (v := ?_) (a' := ?_) #[false, true, false, false, false, false, false, false, false, false, false, false, false] rfl rfl (zaj HT_.out (by kernel_rfl)) (fun _ _ _ h => h) (Or.inl ⟨by rfl, ?_⟩) ?_ ?_
                  rotate_left
                  · intro w'
                    go_simp
                    with_reducible rfl
                  rotate_left
                  · simp only [Act.put, List.setIfInBounds_toArray, List.set_cons_zero, List.set_cons_succ, i64_w, i32_w]
                    rfl
                  refine pure_ (i := 2) (N := some 37) (v := ?_) (a' := ?_) #[false, true, true, false, false, false, false, false, false, false, false, false, false] rfl rfl (zaj HT_.out (by kernel_rfl)) (fun _ _ _ h => h) (Or.inl ⟨by rfl, ?_⟩) ?_ ?_
                  rotate_left
                  · intro w'
                    go_simp
                    with_reducible rfl
                  rotate_left
                  · simp only [Act.put, List.setIfInBounds_toArray, List.set_cons_zero, List.set_cons_succ, i64_w, i32_w]
                    rfl
                  refine pure_ (i := 3) (N := some 38) (v := ?_) (a' := ?_) #[false, true, true, true, false, false, false, false, false, false, false, false, false] rfl rfl (zaj HT_.out (by kernel_rfl)) (fun _ _ _ h => h) (Or.inl ⟨by rfl, ?_⟩) ?_ ?_
                  rotate_left
                  · intro w'
                    go_simp
                    with_reducible rfl
                  rotate_left
                  · simp only [Act.put, List.setIfInBounds_toArray, List.set_cons_zero, List.set_cons_succ, i64_w, i32_w]
                    rfl
                  refine pure_ (i := 4) (N := some 39) (v := ?_) (a' := ?_) #[false, true, true, true, true, false, false, false, false, false, false, false, false] rfl rfl (zaj HT_.out (by kernel_rfl)) (fun _ _ _ h => h) (Or.inl ⟨by rfl, ?_⟩) ?_ ?_
                  rotate_left
                  · intro w'
                    go_simp
                    with_reducible rfl
                  rotate_left
                  · simp only [Act.put, List.setIfInBounds_toArray, List.set_cons_zero, List.set_cons_succ, i64_w, i32_w]
                    rfl
                  refine pure_ (i := 5) (N := some 40) (v := ?_) (a' := ?_) #[false, true, true, true, true, true, false, false, false, false, false, false, false] rfl rfl (zaj HT_.out (by kernel_rfl)) (fun _ _ _ h => h) (Or.inl ⟨by rfl, ?_⟩) ?_ ?_
                  rotate_left
                  · intro w'
                    go_simp
                    with_reducible rfl
                  rotate_left
                  · simp only [Act.put, List.setIfInBounds_toArray, List.set_cons_zero, List.set_cons_succ, i64_w, i32_w]
                    rfl
                  refine take_ (i := 0) (N := some 35) (v := ?_) (a' := ?_) #[true, true, true, true, true, true, false, false, false, false, false, false, false] rfl rfl (zat HT_.out HW_.out (by kernel_rfl)) (fun _ _ _ h => h) (Or.inl ⟨by rfl, ?_⟩) hHeld ?_ ?_
                  rotate_left
                  · rintro w' ⟨s0, s1, s2⟩
                    go_simp
                    with_reducible rfl
                  rotate_left
                  · simp only [Act.put, List.setIfInBounds_toArray, List.set_cons_zero, List.set_cons_succ, i64_w, i32_w]
                    rfl
                  refine take_ (i := 6) (N := some 41) (v := ?_) (a' := ?_) #[true, true, true, true, true, true, true, false, false, false, false, false, false] rfl rfl (zat HT_.out HW_.out (by kernel_rfl)) (fun _ _ _ h => h) (Or.inl ⟨by rfl, ?_⟩) hHeld ?_ ?_
                  rotate_left
                  · rintro w' ⟨s0, s1, s2⟩
                    go_simp
                    with_reducible rfl
                  rotate_left
                  · simp only [Act.put, List.setIfInBounds_toArray, List.set_cons_zero, List.set_cons_succ, i64_w, i32_w]
                    rfl
                  refine one_ (i := 7) (N := some 42) #[true, true, true, true, true, true, true, true, false, false, false, false, false] rfl rfl (one_of HT_.out (by kernel_rfl)) (by decide) (fun K hK => ?_)
                  refine goes_ Try.func77 (by kernel_rfl) rfl #[.agg #[.slice Ao21 x706000_1.length co21, .int .i64 x706001_1], .int .i64 3, .int .i64 x7_1, .int .i64 (rd t702 (ji15))] (by rfl) rfl rfl (by (try simp only [List.map_toArray, List.map_cons, List.map_nil]); first | done | (simp only [hji15]; rfl) | rfl | (simp only [List.length_drop, List.length_take]; rfl)) ?_
                  with_reducible refine (spec_poAdd.calls _ _ x706000_1 x706001_1 3 x7_1 (rd t702 (ji15)) t707 t710 t711 _ ?side1 ?side2 A18.out).mono ?_
                  (case side1 => repeat (first | exact (Kd.V_reads' HO_706000.out).2.2 | (with_reducible refine Kd.zao ?_ _) | (with_reducible refine Kd.zan ?_ _) | (with_reducible refine Kd.zav ?_)))
                  (case side2 => exact (Kd.V_reads' HO_706000.out).2.1)
                  rintro e w22 ⟨v708, rfl, ho0, hb⟩
                  have HS2_ := (hb.cell (World.block_lt_of_cell? _ _ (hHeld.2.2))).trans (hHeld.2.2)
                  refine ⟨_, rfl, ?_⟩
                  have n0_ := Aside0.mk (Kd.R_below (by (with_reducible repeat (first | apply Kd.zai | apply Kd.zah | apply Kd.zak)); exact HO_6.out) hb)
                  have n1_ := Aside0.mk (Kd.V_elder' (by (with_reducible repeat (first | apply Kd.zb4 | apply Kd.zb5 | apply Kd.V_drew)); exact HO_706000.out) (Kd.R_base ho0) hb)
                  have n2_ := Aside0.mk (Kd.zb0 (Kd.R_newM (M := fun k_ => (w.heap.size ≤ k_)) ho0 (za9 (by repeat (first | (with_reducible first | exact HB.out | apply za2 | apply za0 | apply za1 | refine za3 ?_ GE696.out | refine za3 ?_ GE705.out) | exact HB.out))) (fun k_ h_ => h_)) (za9 (by repeat (first | (with_reducible first | exact HB.out | apply za2 | apply za0 | apply za1 | refine za3 ?_ GE696.out | refine za3 ?_ GE705.out) | exact HB.out))))
                  have n3_ := Aside0.mk (zae (g := gb696) (o := .cells #[.slice none 0 0, .int .i64 0] 39 (0, 0)) (by (with_reducible repeat (first | refine za5 ?_ _ | refine za6 ?_ | refine za4 ?_ _)); exact BK696.out) hb)
                  have n4_ := Aside0.mk (zae (g := gb705) (o := .cells #[.slice Ao21 x706000_1.length co21, .int .i64 x706001_1] 39 (0, 0)) (by (with_reducible repeat (first | refine za5 ?_ _ | refine za6 ?_ | refine za4 ?_ _)); exact BK705.out) hb)
                  have n5_ := Aside0.mk (zab (by repeat (first | (with_reducible first | exact HB.out | apply za2 | apply za0 | apply za1 | refine za3 ?_ GE696.out | refine za3 ?_ GE705.out) | exact HB.out)) hb)
                  clear HO_6
                  clear HO_706000
                  clear BK696
                  clear BK705
                  clear HB
                  have HO_6 := n0_
                  have HO_706000 := n1_
                  have HO709 := n2_
                  have BK696 := n3_
                  have BK705 := n4_
                  have HB := n5_
                  clear n0_ n1_ n2_ n3_ n4_ n5_
                  (try clear hb)
                  (try clear hb2)
                  (try clear hk)
                  (try clear hi)
                  (try clear ho0)
                  obtain ⟨Ao23, co23, eo23⟩ := Kd.zaz HO709.out
                  (first | subst eo23 | (injection eo23 with f1_ f2_ f3_; have f4_ := f1_.symm; have f5_ := f3_.symm; clear f1_ f2_ f3_; subst f4_; subst f5_))
                  refine hK.out _ _ ⟨(za7 BK705.out 0).trans rfl, (za7 BK705.out 1).trans rfl, HS2_⟩ (fun hHeld => ?_)
                  clear hK K
                  refine norm_ (a' := ?_) ?_ ?_
                  rotate_left
                  · show Act.put _ (some 42) _ = _
                    simp only [Act.put, List.setIfInBounds_toArray, List.set_cons_zero, List.set_cons_succ, i64_w, i32_w]
                    rfl
                  refine pure_ (i := 8) (N := some 34) (v := ?_) (a' := ?_) #[true, true, true, true, true, true, true, true, true, false, false, false, false] rfl rfl (zaj HT_.out (by kernel_rfl)) (fun _ _ _ h => h) (Or.inl ⟨by rfl, ?_⟩) ?_ ?_
                  rotate_left
                  · intro w'
                    go_simp
                    with_reducible rfl
                  rotate_left
                  · simp only [Act.put, List.setIfInBounds_toArray, List.set_cons_zero, List.set_cons_succ, i64_w, i32_w]
                    rfl
                  refine pure_ (i := 9) (N := some 43) (v := ?_) (a' := ?_) #[true, true, true, true, true, true, true, true, true, true, false, false, false] rfl rfl (zaj HT_.out (by kernel_rfl)) (fun _ _ _ h => h) (Or.inl ⟨by rfl, ?_⟩) ?_ ?_
                  rotate_left
                  · intro w'
                    go_simp
                    with_reducible rfl
                  rotate_left
                  · simp only [Act.put, List.setIfInBounds_toArray, List.set_cons_zero, List.set_cons_succ, i64_w, i32_w]
                    rfl
                  refine pure_ (i := 10) (N := some 44) (v := ?_) (a' := ?_) #[true, true, true, true, true, true, true, true, true, true, true, false, false] rfl rfl (zaj HT_.out (by kernel_rfl)) (fun _ _ _ h => h) (Or.inl ⟨by rfl, ?_⟩) ?_ ?_
                  rotate_left
                  · intro w'
                    go_simp
                    with_reducible rfl
                  rotate_left
                  · simp only [Act.put, List.setIfInBounds_toArray, List.set_cons_zero, List.set_cons_succ, i64_w, i32_w]
                    rfl
                  refine last_ (i := 11) (N := none) #[true, true, true, true, true, true, true, true, true, true, true, true, false] rfl rfl (one_of HT_.out (by kernel_rfl)) (by decide) (fun K hK => ?_)
                  have hs24 : w22.cell? ⟨gb705, 0, none⟩ = some (.slice Ao21 x706000_1.length co21) := (za7 BK705.out 0).trans rfl
                  have hfs24 := za8 BK705.out 0
                  have hns24_0 := NB696_705.out
                  have hms24_0 := NB705_696.out
                  have hs25 : w22.cell? ⟨gb705, 1, none⟩ = some (.int .i64 x706001_1) := (za7 BK705.out 1).trans rfl
                  have hfs25 := za8 BK705.out 1
                  have hns25_0 := NB696_705.out
                  have hms25_0 := NB705_696.out
                  refine skip_ (w1 := ?_) (by rfl) rfl ?_ ?_
                  rotate_left
                  · go_simp
                    rfl
                  refine hK.out _ _ ?_
                  clear hK K
                  refine pure_ (i := 12) (N := some 7) (v := ?_) (a' := ?_) #[true, true, true, true, true, true, true, true, true, true, true, true, true] rfl rfl (zaj HT_.out (by kernel_rfl)) (fun _ _ _ h => h) (Or.inl ⟨by rfl, ?_⟩) ?_ ?_
                  rotate_left
                  · intro w'
                    go_simp
                    with_reducible rfl
                  rotate_left
                  · simp only [Act.put, List.setIfInBounds_toArray, List.set_cons_zero, List.set_cons_succ, i64_w, i32_w]
                    rfl
                  refine done_ (done_of HT_.out (by kernel_rfl)) ?_
                  try go_wp2
                  go_meet
                  case rel => exact ⟨_, (t711), (t707), (t710), (.slice Ao23 t707.length co23), (by first | rfl | (simp; done) | (simp [*]; done)), H', ⟨by have := HK1.out; first | omega | exact Nat.le_refl _⟩, ⟨by (with_reducible repeat (first | apply Kd.zai | apply Kd.zah | apply Kd.zak)); exact Kd.zay (Kd.R_far (p := ⟨gb705, 1, none⟩) (Kd.R_far (p := ⟨gb705, 0, none⟩) (Kd.zar HO_6.out BK705.out (by decide)) (fun _ hk => hk.2) (.slice Ao23 t707.length co23)) (fun _ hk => hk.2) (.int .i64 t710)) (fun _ hk => hk.1)⟩, ⟨Kd.R_V (by (with_reducible repeat (first | apply Kd.zai | apply Kd.zah | apply Kd.zak)); exact Kd.zay (Kd.R_far (p := ⟨gb705, 1, none⟩) (Kd.R_far (p := ⟨gb705, 0, none⟩) (Kd.zar (Kd.zar (Kd.zar (Kd.R_apart' HO709.out (Kd.R_typed HO_6.out) (by decide)) BK696.out (by decide)) BK705.out (by decide)) BK705.out (by decide)) (fun _ hk => hk.2) (.slice Ao23 t707.length co23)) (fun _ hk => hk.2) (.int .i64 t710)) (fun _ hk => ⟨hk.1.1.1.1.1, ⟨hk.1.1.1.2, ⟨hk.1.1.2, hk.1.2⟩⟩⟩))⟩, ⟨by (with_reducible repeat (first | refine za5 ?_ _ | refine za6 ?_ | refine za4 ?_ _)); refine zaw ?_ NB696_705.out _; (with_reducible repeat (first | refine za5 ?_ _ | refine za6 ?_ | refine za4 ?_ _)); refine zaw ?_ NB696_705.out _; (with_reducible repeat (first | refine za5 ?_ _ | refine za6 ?_ | refine za4 ?_ _)); exact BK696.out⟩, ⟨by (with_reducible repeat (first | refine za5 ?_ _ | refine za6 ?_ | refine za4 ?_ _)); refine zas (cs := #[.slice Ao23 t707.length co23, .int .i64 x706001_1]) ?_ 1 _ rfl; (with_reducible repeat (first | refine za5 ?_ _ | refine za6 ?_ | refine za4 ?_ _)); refine zas (cs := #[.slice Ao21 x706000_1.length co21, .int .i64 x706001_1]) ?_ 0 _ rfl; (with_reducible repeat (first | refine za5 ?_ _ | refine za6 ?_ | refine za4 ?_ _)); exact BK705.out⟩, ⟨by repeat (first | (with_reducible first | exact HB.out | apply za2 | apply za0 | apply za1 | refine za3 ?_ GE696.out | refine za3 ?_ GE705.out) | exact HB.out)⟩⟩
                · rw [if_neg c17] at H
                  exact absurd H (by simp)
              · rw [if_neg c16] at H
                exact absurd H (by simp)
            · rw [if_neg c14] at H
              have c14b0 : decide (0 ≤ x7_1) = false := decide_eq_false c14
              clear c14
              (first | rw [c14b0] | (simp only [i64_w, i32_w]; rw [c14b0]) | skip)
              have H' := Aside0.mk H
              clear H
              go_wp2
              go_meet
              case rel => exact ⟨_, (x7_1), (x706000_1), (x706001_1), (u706000), (by first | rfl | (simp; done) | (simp [*]; done)), H', ⟨by have := HK1.out; first | omega | exact Nat.le_refl _⟩, ⟨by (with_reducible repeat (first | apply Kd.zai | apply Kd.zah | apply Kd.zak)); exact HO_6.out⟩, ⟨by (with_reducible repeat (first | apply Kd.zb4 | apply Kd.zb5 | apply Kd.V_drew)); exact HO_706000.out⟩, ⟨by (with_reducible repeat (first | refine za5 ?_ _ | refine za6 ?_ | refine za4 ?_ _)); exact BK696.out⟩, ⟨by (with_reducible repeat (first | refine za5 ?_ _ | refine za6 ?_ | refine za4 ?_ _)); exact BK705.out⟩, ⟨by repeat (first | (with_reducible first | exact HB.out | apply za2 | apply za0 | apply za1 | refine za3 ?_ GE696.out | refine za3 ?_ GE705.out) | exact HB.out)⟩⟩
          case rest =>
            clear HC13
            try clear c1
            try clear p2
            try clear c5
            try clear c5b0
            try clear c5b1
            try clear p6
            try clear c7
            try clear p7
            try clear q7
            try clear hx7
            try clear c8
            try clear c9
            try clear c10
            try clear c12
            try clear c12b0
            try clear c14
            try clear c14b0
            try clear c16
            try clear c16b0
            try clear c17
            try clear c17b0
            try clear hcz11_0
            try clear hcz11_1
            try clear hfz11_0
            try clear hfz11_1
            try clear hx706_0
            try clear p2
            try clear p6
            try clear p706
            try clear q706
            obtain ⟨kq, x7_12, x706000_12, x706001_12, u706000, rfl, HA, HJ12, HO_6, HO_706000, BK696, BK705, HB⟩ := hcut
            cases kq with
            | zero => exact absurd HA.out (by simp [spec_poGiant.j1])
            | succ kj12 =>
              have H := HA.out
              clear HA
              simp only [spec_poGiant.j1] at H
              replace H := Option.bind_eq_some_iff.mp H
              obtain ⟨t712, A260, H⟩ := H
              replace H : (if 0 ≤ x8_1 then (if x8_1 ≤ t712 then (if t712 ≤ (l0.length : Int) then ((spec_poGroup.f kj12 x706000_12 x706001_12 ((l0.take (t712 : Int).toNat).drop (x8_1 : Int).toNat) t702).bind fun bt714 => (if x7_12 < 0 then (spec_poGiant.l0 kj12 l0 a1 t702 bt714.2.2 (wrap64 (x8_1 - a1)) bt714.1 bt714.2.1) else ((spec_poAdd.f bt714.1 bt714.2.1 1 x7_12 bt714.2.2).bind fun bt719 => (spec_poGiant.l0 kj12 l0 a1 t702 bt719.2.2 (wrap64 (x8_1 - a1)) bt719.1 bt719.2.1)))) else (none)) else (none)) else (none)) = some (r1, r2) := H
              have A26 := Aside0.mk A260
              clear A260
              by_cases c27 : 0 ≤ x8_1
              · rw [if_pos c27] at H
                have c27b0 := eq_true c27
                have c27b1 : decide (0 ≤ x8_1) = true := decide_eq_true c27
                clear c27
                by_cases c28 : x8_1 ≤ t712
                · rw [if_pos c28] at H
                  have c28b0 := eq_true c28
                  have c28b1 : decide (x8_1 ≤ t712) = true := decide_eq_true c28
                  clear c28
                  by_cases c29 : t712 ≤ (l0.length : Int)
                  · rw [if_pos c29] at H
                    have c29b0 := eq_true c29
                    have c29b1 : decide (t712 ≤ (l0.length : Int)) = true := decide_eq_true c29
                    clear c29
                    replace H := Option.bind_eq_some_iff.mp H
                    obtain ⟨⟨t714, t717, t718⟩, A300, H⟩ := H
                    replace H : (if x7_12 < 0 then (spec_poGiant.l0 kj12 l0 a1 t702 t718 (wrap64 (x8_1 - a1)) t714 t717) else ((spec_poAdd.f t714 t717 1 x7_12 t718).bind fun bt719 => (spec_poGiant.l0 kj12 l0 a1 t702 bt719.2.2 (wrap64 (x8_1 - a1)) bt719.1 bt719.2.1))) = some (r1, r2) := H
                    have A30 := Aside0.mk A300
                    clear A300
                    by_cases c31 : x7_12 < 0
                    · rw [if_pos c31] at H
                      have c31b0 : decide (x7_12 < 0) = true := decide_eq_true c31
                      clear c31
                      have H' := Aside0.mk H
                      clear H
                      try go_wp2
                      have n0_ := Aside0.mk (Kd.zak HO_6.out)
                      have n1_ := Aside0.mk (Kd.V_drew HO_706000.out)
                      have n2_ := Aside0.mk (za6 BK696.out)
                      have n3_ := Aside0.mk (za6 BK705.out)
                      have n4_ := Aside0.mk (za1 HB.out)
                      clear HO_6
                      clear HO_706000
                      clear BK696
                      clear BK705
                      clear HB
                      have HO_6 := n0_
                      have HO_706000 := n1_
                      have BK696 := n2_
                      have BK705 := n3_
                      have HB := n4_
                      clear n0_ n1_ n2_ n3_ n4_
                      refine start_ (n := 17) (S := fun w' => w'.cell? ⟨gb705, 0, none⟩ = some (u706000) ∧ w'.cell? ⟨gb705, 1, none⟩ = some (.int .i64 x706001_12)) (ds := [15]) #[false, false, false, false, false, false, false, false, false, false, false, false, false, false, false, false, false] (by kernel_rfl) rfl rfl ⟨(za7 BK705.out 0).trans rfl, (za7 BK705.out 1).trans rfl⟩ (fun hHeld => ?_); refine with_tabW spec_poGiant.tab9 spec_poGiant.bits9 (fun HT_ HW_ => ?_)
                      generalize wc.drew = w32 at HO_6 HO_706000 BK696 BK705 HB hHeld ⊢
                      refine pure_ (i := 1) (N := some 47) (v := ?_) (a' := ?_) #[false, true, false, false, false, false, false, false, false, false, false, false, false, false, false, false, false] rfl rfl (zaj HT_.out (by kernel_rfl)) (fun _ _ _ h => h) (Or.inl ⟨by rfl, ?_⟩) ?_ ?_
                      rotate_left
                      · intro w'
                        go_simp
                        with_reducible rfl
                      rotate_left
                      · simp only [Act.put, List.setIfInBounds_toArray, List.set_cons_zero, List.set_cons_succ, i64_w, i32_w]
                        rfl
                      refine pure_ (i := 2) (N := some 48) (v := ?_) (a' := ?_) #[false, true, true, false, false, false, false, false, false, false, false, false, false, false, false, false, false] rfl rfl (zaj HT_.out (by kernel_rfl)) (fun _ _ _ h => h) (Or.inl ⟨by rfl, ?_⟩) ?_ ?_
                      rotate_left
                      · intro w'
                        go_simp
                        with_reducible rfl
                      rotate_left
                      · simp only [Act.put, List.setIfInBounds_toArray, List.set_cons_zero, List.set_cons_succ, i64_w, i32_w]
                        rfl
                      refine pure_ (i := 3) (N := some 49) (v := ?_) (a' := ?_) #[false, true, true, true, false, false, false, false, false, false, false, false, false, false, false, false, false] rfl rfl (zaj HT_.out (by kernel_rfl)) (fun _ _ _ h => h) (Or.inl ⟨by rfl, ?_⟩) ?_ ?_
                      rotate_left
                      · intro w'
                        go_simp
                        with_reducible rfl
                      rotate_left
                      · simp only [Act.put, List.setIfInBounds_toArray, List.set_cons_zero, List.set_cons_succ, i64_w, i32_w]
                        rfl
                      refine pure_ (i := 4) (N := some 50) (v := ?_) (a' := ?_) #[false, true, true, true, true, false, false, false, false, false, false, false, false, false, false, false, false] rfl rfl (zaj HT_.out (by kernel_rfl)) (fun _ _ _ h => h) (Or.inl ⟨by rfl, ?_⟩) ?_ ?_
                      rotate_left
                      · intro w'
                        go_simp
                        with_reducible rfl
                      rotate_left
                      · simp only [Act.put, List.setIfInBounds_toArray, List.set_cons_zero, List.set_cons_succ, i64_w, i32_w]
                        rfl
                      refine pure_ (i := 5) (N := some 51) (v := ?_) (a' := ?_) #[false, true, true, true, true, true, false, false, false, false, false, false, false, false, false, false, false] rfl rfl (zaj HT_.out (by kernel_rfl)) (fun _ _ _ h => h) (Or.inl ⟨by rfl, ?_⟩) ?_ ?_
                      rotate_left
                      · intro w'
                        go_simp
                        with_reducible rfl
                      rotate_left
                      · simp only [Act.put, List.setIfInBounds_toArray, List.set_cons_zero, List.set_cons_succ, i64_w, i32_w]
                        rfl
                      refine pure_ (i := 6) (N := some 52) (v := ?_) (a' := ?_) #[false, true, true, true, true, true, true, false, false, false, false, false, false, false, false, false, false] rfl rfl (zaj HT_.out (by kernel_rfl)) (fun _ _ _ h => h) (Or.inl ⟨by rfl, ?_⟩) ?_ ?_
                      rotate_left
                      · intro w'
                        go_simp
                        with_reducible rfl
                      rotate_left
                      · simp only [Act.put, List.setIfInBounds_toArray, List.set_cons_zero, List.set_cons_succ, i64_w, i32_w]
                        rfl
                      refine pure_ (i := 7) (N := some 53) (v := ?_) (a' := ?_) #[false, true, true, true, true, true, true, true, false, false, false, false, false, false, false, false, false] rfl rfl (zaj HT_.out (by kernel_rfl)) (fun _ _ _ h => h) (Or.inl ⟨by rfl, ?_⟩) ?_ ?_
                      rotate_left
                      · intro w'
                        go_simp
                        with_reducible rfl
                      rotate_left
                      · simp only [Act.put, List.setIfInBounds_toArray, List.set_cons_zero, List.set_cons_succ, i64_w, i32_w]
                        rfl
                      refine pure_ (i := 10) (N := some 56) (v := ?_) (a' := ?_) #[false, true, true, true, true, true, true, true, false, false, true, false, false, false, false, false, false] rfl rfl (zaj HT_.out (by kernel_rfl)) (fun _ _ _ h => h) (Or.inl ⟨by rfl, ?_⟩) ?_ ?_
                      rotate_left
                      · intro w'
                        go_simp
                        with_reducible rfl
                      rotate_left
                      · simp only [Act.put, List.setIfInBounds_toArray, List.set_cons_zero, List.set_cons_succ, i64_w, i32_w]
                        rfl
                      refine take_ (i := 0) (N := some 46) (v := ?_) (a' := ?_) #[true, true, true, true, true, true, true, true, false, false, true, false, false, false, false, false, false] rfl rfl (zat HT_.out HW_.out (by kernel_rfl)) (fun _ _ _ h => h) (Or.inl ⟨by rfl, ?_⟩) hHeld ?_ ?_
                      rotate_left
                      · rintro w' ⟨s0, s1⟩
                        go_simp
                        with_reducible rfl
                      rotate_left
                      · simp only [Act.put, List.setIfInBounds_toArray, List.set_cons_zero, List.set_cons_succ, i64_w, i32_w]
                        rfl
                      refine one_ (i := 8) (N := some 54) #[true, true, true, true, true, true, true, true, true, false, true, false, false, false, false, false, false] rfl rfl (one_of HT_.out (by kernel_rfl)) (by decide) (fun K hK => ?_)
                      refine goes_ Try.func108 (by kernel_rfl) rfl #[.int .i64 (wrap64 (x8_1 + a1)), .int .i64 (l0.length : Int)] (by rfl) rfl rfl (by (try simp only [List.map_toArray, List.map_cons, List.map_nil]); first | done | rfl | (simp only [List.length_drop, List.length_take]; rfl)) ?_
                      with_reducible refine (spec_l1Least.calls (wrap64 (x8_1 + a1)) (l0.length : Int) t712 _ A26.out).mono ?_
                      rintro e w' ⟨rfl, ⟨nd, rfl⟩⟩
                      refine ⟨_, rfl, ?_⟩
                      obtain ⟨i033, hi033, _, hsz33, _⟩ := info_parts info3
                      obtain ⟨A33, hcut33, hA33, hC33⟩ := print_mid_of (P := Try.prog) (Value.int .i64) 0 22 3 .i64 .i64 Try.underlying22 hi033 hsz33 A0 c0 l0 x8_1 t712 (of_decide_eq_true (by first | (with_reducible assumption) | assumption)) (by first | omega | exact of_decide_eq_true (by first | (with_reducible assumption) | assumption)) (of_decide_eq_true (by first | (with_reducible assumption) | assumption)) HC0.out
                      have HR713 := Aside0.mk (Kd.C_of_reads (h1 := fun _ => rfl) (hA33 _ (Kd.reads_of_C HR0.out)))
                      have HC713 := Aside0.mk hC33
                      clear hA33 hC33 hi033 hsz33
                      obtain ⟨Ao34, co34, eo34⟩ := Kd.V_slice HO_706000.out
                      (first | subst eo34 | (injection eo34 with f1_ f2_ f3_; have f4_ := f1_.symm; have f5_ := f3_.symm; clear f1_ f2_ f3_; subst f4_; subst f5_))
                      obtain ⟨Ao35, co35, eo35⟩ := Kd.zaz HO_6.out
                      (first | subst eo35 | (injection eo35 with f1_ f2_ f3_; have f4_ := f1_.symm; have f5_ := f3_.symm; clear f1_ f2_ f3_; subst f4_; subst f5_))
                      refine hK.out _ _ ⟨(za7 BK705.out 0).trans rfl, (za7 BK705.out 1).trans rfl⟩ (fun hHeld => ?_)
                      clear hK K
                      refine norm_ (a' := ?_) ?_ ?_
                      rotate_left
                      · show Act.put _ (some 54) _ = _
                        simp only [Act.put, List.setIfInBounds_toArray, List.set_cons_zero, List.set_cons_succ, i64_w, i32_w]
                        rfl
                      refine pure_ (i := 9) (N := some 55) (v := ?_) (a' := ?_) #[true, true, true, true, true, true, true, true, true, true, true, false, false, false, false, false, false] rfl rfl (zaj HT_.out (by kernel_rfl)) (fun _ _ _ h => h) (Or.inl ⟨by rfl, ?_⟩) ?_ ?_
                      rotate_left
                      · intro w'
                        go_simp
                        with_reducible rfl
                      rotate_left
                      · simp only [Act.put, List.setIfInBounds_toArray, List.set_cons_zero, List.set_cons_succ, i64_w, i32_w]
                        rfl
                      refine one_ (i := 11) (N := some 57) #[true, true, true, true, true, true, true, true, true, true, true, true, false, false, false, false, false] rfl rfl (one_of HT_.out (by kernel_rfl)) (by decide) (fun K hK => ?_)
                      refine goes_ Try.func84 (by kernel_rfl) rfl #[.agg #[.slice Ao34 x706000_12.length co34, .int .i64 x706001_12], .slice A33 ((l0.take (t712 : Int).toNat).drop (x8_1 : Int).toNat).length (c0 - x8_1.toNat), .slice Ao35 t702.length co35] (by rfl) rfl rfl (by (try simp only [List.map_toArray, List.map_cons, List.map_nil]); first | done | (rw [show ((l0.take (t712 : Int).toNat).drop (x8_1 : Int).toNat).length = (t712.toNat - x8_1.toNat) from (by rw [List.length_drop, List.length_take]; have h_ : (t712 : Int) ≤ (l0.length : Int) := of_decide_eq_true (by first | (with_reducible assumption) | assumption); omega)] <;> rfl) | rfl | (simp only [List.length_drop, List.length_take]; rfl)) ?_
                      with_reducible refine (spec_poGroup.calls kj12 _ _ x706000_12 x706001_12 _ _ ((l0.take (t712 : Int).toNat).drop (x8_1 : Int).toNat) _ _ t702 t714 t717 t718 _ ?side1 ?side2 ?side3 ?side4 ?side5 ?side6 A30.out).mono ?_
                      (case side1 => repeat (first | exact (Kd.V_reads' HO_706000.out).2.2 | (with_reducible refine Kd.zao ?_ _) | (with_reducible refine Kd.zan ?_ _) | (with_reducible refine Kd.zav ?_)))
                      (case side2 => exact (Kd.V_reads' HO_706000.out).2.1)
                      (case side3 => repeat (first | exact (Kd.C_below HR713.out (by repeat (first | (with_reducible first | exact HB.out | apply za2 | apply za0 | apply za1 | refine za3 ?_ GE696.out | refine za3 ?_ GE705.out) | exact HB.out))) | (with_reducible refine Kd.zao ?_ _) | (with_reducible refine Kd.zan ?_ _) | (with_reducible refine Kd.zav ?_)))
                      (case side4 => exact HC713.out)
                      (case side5 => repeat (first | exact (Kd.R_reads' HO_6.out).2.2 | (with_reducible refine Kd.zao ?_ _) | (with_reducible refine Kd.zan ?_ _) | (with_reducible refine Kd.zav ?_)))
                      (case side6 => exact (Kd.R_reads' HO_6.out).2.1)
                      rintro e w36 ⟨v715, rfl, ho0, hb⟩
                      refine ⟨_, rfl, ?_⟩
                      have n0_ := Aside0.mk (Kd.R_below (by (with_reducible repeat (first | apply Kd.zai | apply Kd.zah | apply Kd.zak)); exact HO_6.out) hb)
                      have n1_ := Aside0.mk (Kd.V_elder' (by (with_reducible repeat (first | apply Kd.zb4 | apply Kd.zb5 | apply Kd.V_drew)); exact HO_706000.out) (Kd.R_base ho0) hb)
                      have n2_ := Aside0.mk (Kd.zb0 (Kd.R_newM (M := fun k_ => (w.heap.size ≤ k_)) ho0 (za9 (by repeat (first | (with_reducible first | exact HB.out | apply za2 | apply za0 | apply za1 | refine za3 ?_ GE696.out | refine za3 ?_ GE705.out) | exact HB.out))) (fun k_ h_ => h_)) (za9 (by repeat (first | (with_reducible first | exact HB.out | apply za2 | apply za0 | apply za1 | refine za3 ?_ GE696.out | refine za3 ?_ GE705.out) | exact HB.out))))
                      have n3_ := Aside0.mk (zae (g := gb696) (o := .cells #[.slice none 0 0, .int .i64 0] 39 (0, 0)) (by (with_reducible repeat (first | refine za5 ?_ _ | refine za6 ?_ | refine za4 ?_ _)); exact BK696.out) hb)
                      have n4_ := Aside0.mk (zae (g := gb705) (o := .cells #[.slice Ao34 x706000_12.length co34, .int .i64 x706001_12] 39 (0, 0)) (by (with_reducible repeat (first | refine za5 ?_ _ | refine za6 ?_ | refine za4 ?_ _)); exact BK705.out) hb)
                      have n5_ := Aside0.mk (zab (by repeat (first | (with_reducible first | exact HB.out | apply za2 | apply za0 | apply za1 | refine za3 ?_ GE696.out | refine za3 ?_ GE705.out) | exact HB.out)) hb)
                      clear HO_6
                      clear HO_706000
                      clear BK696
                      clear BK705
                      clear HB
                      have HO_6 := n0_
                      have HO_706000 := n1_
                      have HO716 := n2_
                      have BK696 := n3_
                      have BK705 := n4_
                      have HB := n5_
                      clear n0_ n1_ n2_ n3_ n4_ n5_
                      (try clear hb)
                      (try clear hb2)
                      (try clear hk)
                      (try clear hi)
                      (try clear ho0)
                      obtain ⟨Ao37, co37, eo37⟩ := Kd.zaz HO716.out
                      (first | subst eo37 | (injection eo37 with f1_ f2_ f3_; have f4_ := f1_.symm; have f5_ := f3_.symm; clear f1_ f2_ f3_; subst f4_; subst f5_))
                      refine hK.out _ _ ⟨(za7 BK705.out 0).trans rfl, (za7 BK705.out 1).trans rfl⟩ (fun hHeld => ?_)
                      clear hK K
                      refine norm_ (a' := ?_) ?_ ?_
                      rotate_left
                      · show Act.put _ (some 57) _ = _
                        simp only [Act.put, List.setIfInBounds_toArray, List.set_cons_zero, List.set_cons_succ, i64_w, i32_w]
                        rfl
                      refine pure_ (i := 12) (N := some 45) (v := ?_) (a' := ?_) #[true, true, true, true, true, true, true, true, true, true, true, true, true, false, false, false, false] rfl rfl (zaj HT_.out (by kernel_rfl)) (fun _ _ _ h => h) (Or.inl ⟨by rfl, ?_⟩) ?_ ?_
                      rotate_left
                      · intro w'
                        go_simp
                        with_reducible rfl
                      rotate_left
                      · simp only [Act.put, List.setIfInBounds_toArray, List.set_cons_zero, List.set_cons_succ, i64_w, i32_w]
                        rfl
                      refine pure_ (i := 13) (N := some 58) (v := ?_) (a' := ?_) #[true, true, true, true, true, true, true, true, true, true, true, true, true, true, false, false, false] rfl rfl (zaj HT_.out (by kernel_rfl)) (fun _ _ _ h => h) (Or.inl ⟨by rfl, ?_⟩) ?_ ?_
                      rotate_left
                      · intro w'
                        go_simp
                        with_reducible rfl
                      rotate_left
                      · simp only [Act.put, List.setIfInBounds_toArray, List.set_cons_zero, List.set_cons_succ, i64_w, i32_w]
                        rfl
                      refine pure_ (i := 14) (N := some 59) (v := ?_) (a' := ?_) #[true, true, true, true, true, true, true, true, true, true, true, true, true, true, true, false, false] rfl rfl (zaj HT_.out (by kernel_rfl)) (fun _ _ _ h => h) (Or.inl ⟨by rfl, ?_⟩) ?_ ?_
                      rotate_left
                      · intro w'
                        go_simp
                        with_reducible rfl
                      rotate_left
                      · simp only [Act.put, List.setIfInBounds_toArray, List.set_cons_zero, List.set_cons_succ, i64_w, i32_w]
                        rfl
                      refine last_ (i := 15) (N := none) #[true, true, true, true, true, true, true, true, true, true, true, true, true, true, true, true, false] rfl rfl (one_of HT_.out (by kernel_rfl)) (by decide) (fun K hK => ?_)
                      have hs38 : w36.cell? ⟨gb705, 0, none⟩ = some (.slice Ao34 x706000_12.length co34) := (za7 BK705.out 0).trans rfl
                      have hfs38 := za8 BK705.out 0
                      have hns38_0 := NB696_705.out
                      have hms38_0 := NB705_696.out
                      have hs39 : w36.cell? ⟨gb705, 1, none⟩ = some (.int .i64 x706001_12) := (za7 BK705.out 1).trans rfl
                      have hfs39 := za8 BK705.out 1
                      have hns39_0 := NB696_705.out
                      have hms39_0 := NB705_696.out
                      refine skip_ (w1 := ?_) (by rfl) rfl ?_ ?_
                      rotate_left
                      · go_simp
                        rfl
                      refine hK.out _ _ ?_
                      clear hK K
                      refine pure_ (i := 16) (N := some 9) (v := ?_) (a' := ?_) #[true, true, true, true, true, true, true, true, true, true, true, true, true, true, true, true, true] rfl rfl (zaj HT_.out (by kernel_rfl)) (fun _ _ _ h => h) (Or.inl ⟨by rfl, ?_⟩) ?_ ?_
                      rotate_left
                      · intro w'
                        go_simp
                        with_reducible rfl
                      rotate_left
                      · simp only [Act.put, List.setIfInBounds_toArray, List.set_cons_zero, List.set_cons_succ, i64_w, i32_w]
                        rfl
                      refine done_ (done_of HT_.out (by kernel_rfl)) ?_
                      try go_wp2
                      go_roundg kj12
                      case measure => have := HK1.out; have := HJ12.out; omega
                      case rel => exact ⟨(t718), (wrap64 (x8_1 - a1)), (t714), (t717), (.slice Ao37 t714.length co37), (by first | rfl | (simp; done) | (simp [*]; done)), (by first | rfl | (simp; done) | (simp [*]; done)), H', ⟨by have := HK1.out; have := HJ12.out; omega⟩, ⟨by (with_reducible repeat (first | apply Kd.zai | apply Kd.zah | apply Kd.zak)); exact Kd.zay (Kd.R_far (p := ⟨gb705, 1, none⟩) (Kd.R_far (p := ⟨gb705, 0, none⟩) (Kd.zar HO_6.out BK705.out (by decide)) (fun _ hk => hk.2) (.slice Ao37 t714.length co37)) (fun _ hk => hk.2) (.int .i64 t717)) (fun _ hk => hk.1)⟩, ⟨Kd.R_V (by (with_reducible repeat (first | apply Kd.zai | apply Kd.zah | apply Kd.zak)); exact Kd.zay (Kd.R_far (p := ⟨gb705, 1, none⟩) (Kd.R_far (p := ⟨gb705, 0, none⟩) (Kd.zar (Kd.zar (Kd.zar (Kd.R_apart' HO716.out (Kd.R_typed HO_6.out) (by decide)) BK696.out (by decide)) BK705.out (by decide)) BK705.out (by decide)) (fun _ hk => hk.2) (.slice Ao37 t714.length co37)) (fun _ hk => hk.2) (.int .i64 t717)) (fun _ hk => ⟨hk.1.1.1.1.1, ⟨hk.1.1.1.2, ⟨hk.1.1.2, hk.1.2⟩⟩⟩))⟩, ⟨by (with_reducible repeat (first | refine za5 ?_ _ | refine za6 ?_ | refine za4 ?_ _)); refine zaw ?_ NB696_705.out _; (with_reducible repeat (first | refine za5 ?_ _ | refine za6 ?_ | refine za4 ?_ _)); refine zaw ?_ NB696_705.out _; (with_reducible repeat (first | refine za5 ?_ _ | refine za6 ?_ | refine za4 ?_ _)); exact BK696.out⟩, ⟨by (with_reducible repeat (first | refine za5 ?_ _ | refine za6 ?_ | refine za4 ?_ _)); refine zas (cs := #[.slice Ao37 t714.length co37, .int .i64 x706001_12]) ?_ 1 _ rfl; (with_reducible repeat (first | refine za5 ?_ _ | refine za6 ?_ | refine za4 ?_ _)); refine zas (cs := #[.slice Ao34 x706000_12.length co34, .int .i64 x706001_12]) ?_ 0 _ rfl; (with_reducible repeat (first | refine za5 ?_ _ | refine za6 ?_ | refine za4 ?_ _)); exact BK705.out⟩, ⟨by repeat (first | (with_reducible first | exact HB.out | apply za2 | apply za0 | apply za1 | refine za3 ?_ GE696.out | refine za3 ?_ GE705.out) | exact HB.out)⟩⟩
                    · rw [if_neg c31] at H
                      have c31b0 : decide (x7_12 < 0) = false := decide_eq_false c31
                      clear c31
                      replace H := Option.bind_eq_some_iff.mp H
                      obtain ⟨⟨t719, t722, t723⟩, A400, H⟩ := H
                      replace H : (spec_poGiant.l0 kj12 l0 a1 t702 t723 (wrap64 (x8_1 - a1)) t719 t722) = some (r1, r2) := H
                      have A40 := Aside0.mk A400
                      clear A400
                      have H' := Aside0.mk H
                      clear H
                      try go_wp2
                      have n0_ := Aside0.mk (Kd.zak HO_6.out)
                      have n1_ := Aside0.mk (Kd.V_drew HO_706000.out)
                      have n2_ := Aside0.mk (za6 BK696.out)
                      have n3_ := Aside0.mk (za6 BK705.out)
                      have n4_ := Aside0.mk (za1 HB.out)
                      clear HO_6
                      clear HO_706000
                      clear BK696
                      clear BK705
                      clear HB
                      have HO_6 := n0_
                      have HO_706000 := n1_
                      have BK696 := n2_
                      have BK705 := n3_
                      have HB := n4_
                      clear n0_ n1_ n2_ n3_ n4_
                      refine start_ (n := 17) (S := fun w' => w'.cell? ⟨gb705, 0, none⟩ = some (u706000) ∧ w'.cell? ⟨gb705, 1, none⟩ = some (.int .i64 x706001_12)) (ds := [15]) #[false, false, false, false, false, false, false, false, false, false, false, false, false, false, false, false, false] (by kernel_rfl) rfl rfl ⟨(za7 BK705.out 0).trans rfl, (za7 BK705.out 1).trans rfl⟩ (fun hHeld => ?_); refine with_tabW spec_poGiant.tab9 spec_poGiant.bits9 (fun HT_ HW_ => ?_)
                      generalize wc.drew = w41 at HO_6 HO_706000 BK696 BK705 HB hHeld ⊢
                      refine pure_ (i := 1) (N := some 47) (v := ?_) (a' := ?_) #[false, true, false, false, false, false, false, false, false, false, false, false, false, false, false, false, false] rfl rfl (zaj HT_.out (by kernel_rfl)) (fun _ _ _ h => h) (Or.inl ⟨by rfl, ?_⟩) ?_ ?_
                      rotate_left
                      · intro w'
                        go_simp
                        with_reducible rfl
                      rotate_left
                      · simp only [Act.put, List.setIfInBounds_toArray, List.set_cons_zero, List.set_cons_succ, i64_w, i32_w]
                        rfl
                      refine pure_ (i := 2) (N := some 48) (v := ?_) (a' := ?_) #[false, true, true, false, false, false, false, false, false, false, false, false, false, false, false, false, false] rfl rfl (zaj HT_.out (by kernel_rfl)) (fun _ _ _ h => h) (Or.inl ⟨by rfl, ?_⟩) ?_ ?_
                      rotate_left
                      · intro w'
                        go_simp
                        with_reducible rfl
                      rotate_left
                      · simp only [Act.put, List.setIfInBounds_toArray, List.set_cons_zero, List.set_cons_succ, i64_w, i32_w]
                        rfl
                      refine pure_ (i := 3) (N := some 49) (v := ?_) (a' := ?_) #[false, true, true, true, false, false, false, false, false, false, false, false, false, false, false, false, false] rfl rfl (zaj HT_.out (by kernel_rfl)) (fun _ _ _ h => h) (Or.inl ⟨by rfl, ?_⟩) ?_ ?_
                      rotate_left
                      · intro w'
                        go_simp
                        with_reducible rfl
                      rotate_left
                      · simp only [Act.put, List.setIfInBounds_toArray, List.set_cons_zero, List.set_cons_succ, i64_w, i32_w]
                        rfl
                      refine pure_ (i := 4) (N := some 50) (v := ?_) (a' := ?_) #[false, true, true, true, true, false, false, false, false, false, false, false, false, false, false, false, false] rfl rfl (zaj HT_.out (by kernel_rfl)) (fun _ _ _ h => h) (Or.inl ⟨by rfl, ?_⟩) ?_ ?_
                      rotate_left
                      · intro w'
                        go_simp
                        with_reducible rfl
                      rotate_left
                      · simp only [Act.put, List.setIfInBounds_toArray, List.set_cons_zero, List.set_cons_succ, i64_w, i32_w]
                        rfl
                      refine pure_ (i := 5) (N := some 51) (v := ?_) (a' := ?_) #[false, true, true, true, true, true, false, false, false, false, false, false, false, false, false, false, false] rfl rfl (zaj HT_.out (by kernel_rfl)) (fun _ _ _ h => h) (Or.inl ⟨by rfl, ?_⟩) ?_ ?_
                      rotate_left
                      · intro w'
                        go_simp
                        with_reducible rfl
                      rotate_left
                      · simp only [Act.put, List.setIfInBounds_toArray, List.set_cons_zero, List.set_cons_succ, i64_w, i32_w]
                        rfl
                      refine pure_ (i := 6) (N := some 52) (v := ?_) (a' := ?_) #[false, true, true, true, true, true, true, false, false, false, false, false, false, false, false, false, false] rfl rfl (zaj HT_.out (by kernel_rfl)) (fun _ _ _ h => h) (Or.inl ⟨by rfl, ?_⟩) ?_ ?_
                      rotate_left
                      · intro w'
                        go_simp
                        with_reducible rfl
                      rotate_left
                      · simp only [Act.put, List.setIfInBounds_toArray, List.set_cons_zero, List.set_cons_succ, i64_w, i32_w]
                        rfl
                      refine pure_ (i := 7) (N := some 53) (v := ?_) (a' := ?_) #[false, true, true, true, true, true, true, true, false, false, false, false, false, false, false, false, false] rfl rfl (zaj HT_.out (by kernel_rfl)) (fun _ _ _ h => h) (Or.inl ⟨by rfl, ?_⟩) ?_ ?_
                      rotate_left
                      · intro w'
                        go_simp
                        with_reducible rfl
                      rotate_left
                      · simp only [Act.put, List.setIfInBounds_toArray, List.set_cons_zero, List.set_cons_succ, i64_w, i32_w]
                        rfl
                      refine pure_ (i := 10) (N := some 56) (v := ?_) (a' := ?_) #[false, true, true, true, true, true, true, true, false, false, true, false, false, false, false, false, false] rfl rfl (zaj HT_.out (by kernel_rfl)) (fun _ _ _ h => h) (Or.inl ⟨by rfl, ?_⟩) ?_ ?_
                      rotate_left
                      · intro w'
                        go_simp
                        with_reducible rfl
                      rotate_left
                      · simp only [Act.put, List.setIfInBounds_toArray, List.set_cons_zero, List.set_cons_succ, i64_w, i32_w]
                        rfl
                      refine take_ (i := 0) (N := some 46) (v := ?_) (a' := ?_) #[true, true, true, true, true, true, true, true, false, false, true, false, false, false, false, false, false] rfl rfl (zat HT_.out HW_.out (by kernel_rfl)) (fun _ _ _ h => h) (Or.inl ⟨by rfl, ?_⟩) hHeld ?_ ?_
                      rotate_left
                      · rintro w' ⟨s0, s1⟩
                        go_simp
                        with_reducible rfl
                      rotate_left
                      · simp only [Act.put, List.setIfInBounds_toArray, List.set_cons_zero, List.set_cons_succ, i64_w, i32_w]
                        rfl
                      refine one_ (i := 8) (N := some 54) #[true, true, true, true, true, true, true, true, true, false, true, false, false, false, false, false, false] rfl rfl (one_of HT_.out (by kernel_rfl)) (by decide) (fun K hK => ?_)
                      refine goes_ Try.func108 (by kernel_rfl) rfl #[.int .i64 (wrap64 (x8_1 + a1)), .int .i64 (l0.length : Int)] (by rfl) rfl rfl (by (try simp only [List.map_toArray, List.map_cons, List.map_nil]); first | done | rfl | (simp only [List.length_drop, List.length_take]; rfl)) ?_
                      with_reducible refine (spec_l1Least.calls (wrap64 (x8_1 + a1)) (l0.length : Int) t712 _ A26.out).mono ?_
                      rintro e w' ⟨rfl, ⟨nd, rfl⟩⟩
                      refine ⟨_, rfl, ?_⟩
                      obtain ⟨i042, hi042, _, hsz42, _⟩ := info_parts info3
                      obtain ⟨A42, hcut42, hA42, hC42⟩ := print_mid_of (P := Try.prog) (Value.int .i64) 0 22 3 .i64 .i64 Try.underlying22 hi042 hsz42 A0 c0 l0 x8_1 t712 (of_decide_eq_true (by first | (with_reducible assumption) | assumption)) (by first | omega | exact of_decide_eq_true (by first | (with_reducible assumption) | assumption)) (of_decide_eq_true (by first | (with_reducible assumption) | assumption)) HC0.out
                      have HR713 := Aside0.mk (Kd.C_of_reads (h1 := fun _ => rfl) (hA42 _ (Kd.reads_of_C HR0.out)))
                      have HC713 := Aside0.mk hC42
                      clear hA42 hC42 hi042 hsz42
                      obtain ⟨Ao43, co43, eo43⟩ := Kd.V_slice HO_706000.out
                      (first | subst eo43 | (injection eo43 with f1_ f2_ f3_; have f4_ := f1_.symm; have f5_ := f3_.symm; clear f1_ f2_ f3_; subst f4_; subst f5_))
                      obtain ⟨Ao44, co44, eo44⟩ := Kd.zaz HO_6.out
                      (first | subst eo44 | (injection eo44 with f1_ f2_ f3_; have f4_ := f1_.symm; have f5_ := f3_.symm; clear f1_ f2_ f3_; subst f4_; subst f5_))
                      refine hK.out _ _ ⟨(za7 BK705.out 0).trans rfl, (za7 BK705.out 1).trans rfl⟩ (fun hHeld => ?_)
                      clear hK K
                      refine norm_ (a' := ?_) ?_ ?_
                      rotate_left
                      · show Act.put _ (some 54) _ = _
                        simp only [Act.put, List.setIfInBounds_toArray, List.set_cons_zero, List.set_cons_succ, i64_w, i32_w]
                        rfl
                      refine pure_ (i := 9) (N := some 55) (v := ?_) (a' := ?_) #[true, true, true, true, true, true, true, true, true, true, true, false, false, false, false, false, false] rfl rfl (zaj HT_.out (by kernel_rfl)) (fun _ _ _ h => h) (Or.inl ⟨by rfl, ?_⟩) ?_ ?_
                      rotate_left
                      · intro w'
                        go_simp
                        with_reducible rfl
                      rotate_left
                      · simp only [Act.put, List.setIfInBounds_toArray, List.set_cons_zero, List.set_cons_succ, i64_w, i32_w]
                        rfl
                      refine one_ (i := 11) (N := some 57) #[true, true, true, true, true, true, true, true, true, true, true, true, false, false, false, false, false] rfl rfl (one_of HT_.out (by kernel_rfl)) (by decide) (fun K hK => ?_)
                      refine goes_ Try.func84 (by kernel_rfl) rfl #[.agg #[.slice Ao43 x706000_12.length co43, .int .i64 x706001_12], .slice A42 ((l0.take (t712 : Int).toNat).drop (x8_1 : Int).toNat).length (c0 - x8_1.toNat), .slice Ao44 t702.length co44] (by rfl) rfl rfl (by (try simp only [List.map_toArray, List.map_cons, List.map_nil]); first | done | (rw [show ((l0.take (t712 : Int).toNat).drop (x8_1 : Int).toNat).length = (t712.toNat - x8_1.toNat) from (by rw [List.length_drop, List.length_take]; have h_ : (t712 : Int) ≤ (l0.length : Int) := of_decide_eq_true (by first | (with_reducible assumption) | assumption); omega)] <;> rfl) | rfl | (simp only [List.length_drop, List.length_take]; rfl)) ?_
                      with_reducible refine (spec_poGroup.calls kj12 _ _ x706000_12 x706001_12 _ _ ((l0.take (t712 : Int).toNat).drop (x8_1 : Int).toNat) _ _ t702 t714 t717 t718 _ ?side1 ?side2 ?side3 ?side4 ?side5 ?side6 A30.out).mono ?_
                      (case side1 => repeat (first | exact (Kd.V_reads' HO_706000.out).2.2 | (with_reducible refine Kd.zao ?_ _) | (with_reducible refine Kd.zan ?_ _) | (with_reducible refine Kd.zav ?_)))
                      (case side2 => exact (Kd.V_reads' HO_706000.out).2.1)
                      (case side3 => repeat (first | exact (Kd.C_below HR713.out (by repeat (first | (with_reducible first | exact HB.out | apply za2 | apply za0 | apply za1 | refine za3 ?_ GE696.out | refine za3 ?_ GE705.out) | exact HB.out))) | (with_reducible refine Kd.zao ?_ _) | (with_reducible refine Kd.zan ?_ _) | (with_reducible refine Kd.zav ?_)))
                      (case side4 => exact HC713.out)
                      (case side5 => repeat (first | exact (Kd.R_reads' HO_6.out).2.2 | (with_reducible refine Kd.zao ?_ _) | (with_reducible refine Kd.zan ?_ _) | (with_reducible refine Kd.zav ?_)))
                      (case side6 => exact (Kd.R_reads' HO_6.out).2.1)
                      rintro e w45 ⟨v715, rfl, ho0, hb⟩
                      refine ⟨_, rfl, ?_⟩
                      have n0_ := Aside0.mk (Kd.R_below (by (with_reducible repeat (first | apply Kd.zai | apply Kd.zah | apply Kd.zak)); exact HO_6.out) hb)
                      have n1_ := Aside0.mk (Kd.V_elder' (by (with_reducible repeat (first | apply Kd.zb4 | apply Kd.zb5 | apply Kd.V_drew)); exact HO_706000.out) (Kd.R_base ho0) hb)
                      have n2_ := Aside0.mk (Kd.zb0 (Kd.R_newM (M := fun k_ => (w.heap.size ≤ k_)) ho0 (za9 (by repeat (first | (with_reducible first | exact HB.out | apply za2 | apply za0 | apply za1 | refine za3 ?_ GE696.out | refine za3 ?_ GE705.out) | exact HB.out))) (fun k_ h_ => h_)) (za9 (by repeat (first | (with_reducible first | exact HB.out | apply za2 | apply za0 | apply za1 | refine za3 ?_ GE696.out | refine za3 ?_ GE705.out) | exact HB.out))))
                      have n3_ := Aside0.mk (zae (g := gb696) (o := .cells #[.slice none 0 0, .int .i64 0] 39 (0, 0)) (by (with_reducible repeat (first | refine za5 ?_ _ | refine za6 ?_ | refine za4 ?_ _)); exact BK696.out) hb)
                      have n4_ := Aside0.mk (zae (g := gb705) (o := .cells #[.slice Ao43 x706000_12.length co43, .int .i64 x706001_12] 39 (0, 0)) (by (with_reducible repeat (first | refine za5 ?_ _ | refine za6 ?_ | refine za4 ?_ _)); exact BK705.out) hb)
                      have n5_ := Aside0.mk (zab (by repeat (first | (with_reducible first | exact HB.out | apply za2 | apply za0 | apply za1 | refine za3 ?_ GE696.out | refine za3 ?_ GE705.out) | exact HB.out)) hb)
                      clear HO_6
                      clear HO_706000
                      clear BK696
                      clear BK705
                      clear HB
                      have HO_6 := n0_
                      have HO_706000 := n1_
                      have HO716 := n2_
                      have BK696 := n3_
                      have BK705 := n4_
                      have HB := n5_
                      clear n0_ n1_ n2_ n3_ n4_ n5_
                      (try clear hb)
                      (try clear hb2)
                      (try clear hk)
                      (try clear hi)
                      (try clear ho0)
                      obtain ⟨Ao46, co46, eo46⟩ := Kd.zaz HO716.out
                      (first | subst eo46 | (injection eo46 with f1_ f2_ f3_; have f4_ := f1_.symm; have f5_ := f3_.symm; clear f1_ f2_ f3_; subst f4_; subst f5_))
                      refine hK.out _ _ ⟨(za7 BK705.out 0).trans rfl, (za7 BK705.out 1).trans rfl⟩ (fun hHeld => ?_)
                      clear hK K
                      refine norm_ (a' := ?_) ?_ ?_
                      rotate_left
                      · show Act.put _ (some 57) _ = _
                        simp only [Act.put, List.setIfInBounds_toArray, List.set_cons_zero, List.set_cons_succ, i64_w, i32_w]
                        rfl
                      refine pure_ (i := 12) (N := some 45) (v := ?_) (a' := ?_) #[true, true, true, true, true, true, true, true, true, true, true, true, true, false, false, false, false] rfl rfl (zaj HT_.out (by kernel_rfl)) (fun _ _ _ h => h) (Or.inl ⟨by rfl, ?_⟩) ?_ ?_
                      rotate_left
                      · intro w'
                        go_simp
                        with_reducible rfl
                      rotate_left
                      · simp only [Act.put, List.setIfInBounds_toArray, List.set_cons_zero, List.set_cons_succ, i64_w, i32_w]
                        rfl
                      refine pure_ (i := 13) (N := some 58) (v := ?_) (a' := ?_) #[true, true, true, true, true, true, true, true, true, true, true, true, true, true, false, false, false] rfl rfl (zaj HT_.out (by kernel_rfl)) (fun _ _ _ h => h) (Or.inl ⟨by rfl, ?_⟩) ?_ ?_
                      rotate_left
                      · intro w'
                        go_simp
                        with_reducible rfl
                      rotate_left
                      · simp only [Act.put, List.setIfInBounds_toArray, List.set_cons_zero, List.set_cons_succ, i64_w, i32_w]
                        rfl
                      refine pure_ (i := 14) (N := some 59) (v := ?_) (a' := ?_) #[true, true, true, true, true, true, true, true, true, true, true, true, true, true, true, false, false] rfl rfl (zaj HT_.out (by kernel_rfl)) (fun _ _ _ h => h) (Or.inl ⟨by rfl, ?_⟩) ?_ ?_
                      rotate_left
                      · intro w'
                        go_simp
                        with_reducible rfl
                      rotate_left
                      · simp only [Act.put, List.setIfInBounds_toArray, List.set_cons_zero, List.set_cons_succ, i64_w, i32_w]
                        rfl
                      refine last_ (i := 15) (N := none) #[true, true, true, true, true, true, true, true, true, true, true, true, true, true, true, true, false] rfl rfl (one_of HT_.out (by kernel_rfl)) (by decide) (fun K hK => ?_)
                      have hs47 : w45.cell? ⟨gb705, 0, none⟩ = some (.slice Ao43 x706000_12.length co43) := (za7 BK705.out 0).trans rfl
                      have hfs47 := za8 BK705.out 0
                      have hns47_0 := NB696_705.out
                      have hms47_0 := NB705_696.out
                      have hs48 : w45.cell? ⟨gb705, 1, none⟩ = some (.int .i64 x706001_12) := (za7 BK705.out 1).trans rfl
                      have hfs48 := za8 BK705.out 1
                      have hns48_0 := NB696_705.out
                      have hms48_0 := NB705_696.out
                      refine skip_ (w1 := ?_) (by rfl) rfl ?_ ?_
                      rotate_left
                      · go_simp
                        rfl
                      refine hK.out _ _ ?_
                      clear hK K
                      refine pure_ (i := 16) (N := some 9) (v := ?_) (a' := ?_) #[true, true, true, true, true, true, true, true, true, true, true, true, true, true, true, true, true] rfl rfl (zaj HT_.out (by kernel_rfl)) (fun _ _ _ h => h) (Or.inl ⟨by rfl, ?_⟩) ?_ ?_
                      rotate_left
                      · intro w'
                        go_simp
                        with_reducible rfl
                      rotate_left
                      · simp only [Act.put, List.setIfInBounds_toArray, List.set_cons_zero, List.set_cons_succ, i64_w, i32_w]
                        rfl
                      refine done_ (done_of HT_.out (by kernel_rfl)) ?_
                      have hnb49 := NB705_696.out
                      have hnc49 := NB696_705.out
                      have hcz50_0 : w45.cell? ⟨gb705, 0, none⟩ = some (.slice Ao43 x706000_12.length co43) := (za7 BK705.out 0).trans rfl
                      have hcz50_1 : w45.cell? ⟨gb705, 1, none⟩ = some (.int .i64 x706001_12) := (za7 BK705.out 1).trans rfl
                      have hfz50_0 := za8 BK705.out 0
                      have hfz50_1 := za8 BK705.out 1
                      try go_wp2_with (first | ((with_reducible refine zaf (f := 77) rfl ?_); refine zax (some 67) rfl rfl Try.func77 (by kernel_rfl) rfl #[.agg #[.slice Ao46 t714.length co46, .int .i64 t717], .int .i64 1, .int .i64 x7_12, .int .i64 t718] rfl (by (try simp only [List.map_toArray, List.map_cons, List.map_nil]); first | done | rfl | (simp only [List.length_drop, List.length_take]; rfl)) ?_; (with_reducible refine (spec_poAdd.calls _ _ t714 t717 1 x7_12 t718 t719 t722 t723 _ ?side1 ?side2 A40.out).mono ?_); (case side1 => refine (Kd.R_reads' (e := 69) (base := w.heap.size) (ok := fun k_ => ((w.heap.size ≤ k_) ∧ True)) (n := t714.length) (c := co46) ?_).2.2; exact (by (with_reducible repeat (first | apply Kd.zai | apply Kd.zah | apply Kd.zak)); exact (Kd.zay (Kd.R_far (p := ⟨gb705, 1, none⟩) (Kd.R_far (p := ⟨gb705, 0, none⟩) (Kd.zar HO716.out BK705.out (by decide)) (fun _ hk => hk.2) (.slice Ao46 t714.length co46)) (fun _ hk => hk.2) (.int .i64 t717)) (fun _ h_ => h_.1)))); (case side2 => exact (Kd.R_reads' HO716.out).2.1); rintro e w51 ⟨v720, rfl, ho0, hb⟩; refine ⟨_, rfl, ?_⟩; have n0_ := Aside0.mk (Kd.R_below (by (with_reducible repeat (first | apply Kd.zai | apply Kd.zah | apply Kd.zak)); exact (Kd.zay (Kd.R_far (p := ⟨gb705, 1, none⟩) (Kd.R_far (p := ⟨gb705, 0, none⟩) (Kd.zar HO_6.out BK705.out (by decide)) (fun _ hk => hk.2) (.slice Ao46 t714.length co46)) (fun _ hk => hk.2) (.int .i64 t717)) (fun _ h_ => h_.1))) hb); have n1_ := Aside0.mk (Kd.V_elder' (by (with_reducible repeat (first | apply Kd.zb4 | apply Kd.zb5 | apply Kd.V_drew)); exact (Kd.V_mono (Kd.V_far (p := ⟨gb705, 1, none⟩) (Kd.V_far (p := ⟨gb705, 0, none⟩) (Kd.V_mono HO_706000.out (fun k_ hk => (⟨hk, hk.1.2.2.2⟩ : _ ∧ k_ ≠ gb705))) (fun _ hk => hk.2) (.slice Ao46 t714.length co46)) (fun _ hk => hk.2) (.int .i64 t717)) (fun _ h_ => h_.1))) (Kd.R_base ho0) hb); have n2_ := Aside0.mk (Kd.R_elder' (by (with_reducible repeat (first | apply Kd.zai | apply Kd.zah | apply Kd.zak)); exact (Kd.zay (Kd.R_far (p := ⟨gb705, 1, none⟩) (Kd.R_far (p := ⟨gb705, 0, none⟩) (Kd.zar HO716.out BK705.out (by decide)) (fun _ hk => hk.2) (.slice Ao46 t714.length co46)) (fun _ hk => hk.2) (.int .i64 t717)) (fun _ h_ => h_.1))) (Kd.R_base ho0) hb); have n3_ := Aside0.mk (Kd.zb0 (Kd.R_new' (Kd.R_newM (M := fun k_ => (w.heap.size ≤ k_)) ho0 (za9 (by repeat (first | (with_reducible first | exact HB.out | apply za2 | apply za0 | apply za1 | refine za3 ?_ GE696.out | refine za3 ?_ GE705.out) | exact HB.out))) (fun k_ h_ => h_)) (Kd.R_lt (by (with_reducible repeat (first | apply Kd.zai | apply Kd.zah | apply Kd.zak)); exact (Kd.zay (Kd.R_far (p := ⟨gb705, 1, none⟩) (Kd.R_far (p := ⟨gb705, 0, none⟩) (Kd.zar HO716.out BK705.out (by decide)) (fun _ hk => hk.2) (.slice Ao46 t714.length co46)) (fun _ hk => hk.2) (.int .i64 t717)) (fun _ h_ => h_.1))))) (za9 (by repeat (first | (with_reducible first | exact HB.out | apply za2 | apply za0 | apply za1 | refine za3 ?_ GE696.out | refine za3 ?_ GE705.out) | exact HB.out)))); have n4_ := Aside0.mk (zae (g := gb696) (o := .cells #[.slice none 0 0, .int .i64 0] 39 (0, 0)) (by (with_reducible repeat (first | refine za5 ?_ _ | refine za6 ?_ | refine za4 ?_ _)); refine zaw ?_ NB696_705.out _; (with_reducible repeat (first | refine za5 ?_ _ | refine za6 ?_ | refine za4 ?_ _)); refine zaw ?_ NB696_705.out _; (with_reducible repeat (first | refine za5 ?_ _ | refine za6 ?_ | refine za4 ?_ _)); exact BK696.out) hb); have n5_ := Aside0.mk (zae (g := gb705) (o := .cells #[.slice Ao46 t714.length co46, .int .i64 t717] 39 (0, 0)) (by (with_reducible repeat (first | refine za5 ?_ _ | refine za6 ?_ | refine za4 ?_ _)); refine zas (cs := #[.slice Ao46 t714.length co46, .int .i64 x706001_12]) ?_ 1 _ rfl; (with_reducible repeat (first | refine za5 ?_ _ | refine za6 ?_ | refine za4 ?_ _)); refine zas (cs := #[.slice Ao43 x706000_12.length co43, .int .i64 x706001_12]) ?_ 0 _ rfl; (with_reducible repeat (first | refine za5 ?_ _ | refine za6 ?_ | refine za4 ?_ _)); exact BK705.out) hb); have n6_ := Aside0.mk (zab (by repeat (first | (with_reducible first | exact HB.out | apply za2 | apply za0 | apply za1 | refine za3 ?_ GE696.out | refine za3 ?_ GE705.out) | exact HB.out)) hb); clear HO_6; clear HO_706000; clear HO716; clear BK696; clear BK705; clear HB; have HO_6 := n0_; have HO_706000 := n1_; have HO716 := n2_; have HO721 := n3_; have BK696 := n4_; have BK705 := n5_; have HB := n6_; clear n0_ n1_ n2_ n3_ n4_ n5_ n6_; (try clear hb); (try clear hb2); (try clear hk); (try clear hi); (try clear ho0); obtain ⟨Ao52, co52, eo52⟩ := Kd.zaz HO721.out; subst eo52; have hcz53_0 : w51.cell? ⟨gb705, 0, none⟩ = some (.slice Ao46 t714.length co46) := (za7 BK705.out 0).trans rfl; have hcz53_1 : w51.cell? ⟨gb705, 1, none⟩ = some (.int .i64 t717) := (za7 BK705.out 1).trans rfl; have hfz53_0 := za8 BK705.out 0; have hfz53_1 := za8 BK705.out 1))
                      go_roundg kj12
                      case measure => have := HK1.out; have := HJ12.out; omega
                      case rel => exact ⟨(t723), (wrap64 (x8_1 - a1)), (t719), (t722), (.slice Ao52 t719.length co52), (by first | rfl | (simp; done) | (simp [*]; done)), (by first | rfl | (simp; done) | (simp [*]; done)), H', ⟨by have := HK1.out; have := HJ12.out; omega⟩, ⟨by (with_reducible repeat (first | apply Kd.zai | apply Kd.zah | apply Kd.zak)); exact Kd.zay (Kd.R_far (p := ⟨gb705, 1, none⟩) (Kd.R_far (p := ⟨gb705, 0, none⟩) (Kd.zar HO_6.out BK705.out (by decide)) (fun _ hk => hk.2) (.slice Ao52 t719.length co52)) (fun _ hk => hk.2) (.int .i64 t722)) (fun _ hk => hk.1)⟩, ⟨Kd.R_V (by (with_reducible repeat (first | apply Kd.zai | apply Kd.zah | apply Kd.zak)); exact Kd.zay (Kd.R_far (p := ⟨gb705, 1, none⟩) (Kd.R_far (p := ⟨gb705, 0, none⟩) (Kd.zar (Kd.zar (Kd.zar (Kd.R_apart' HO721.out (Kd.R_typed HO_6.out) (by decide)) BK696.out (by decide)) BK705.out (by decide)) BK705.out (by decide)) (fun _ hk => hk.2) (.slice Ao52 t719.length co52)) (fun _ hk => hk.2) (.int .i64 t722)) (fun _ hk => ⟨hk.1.1.1.1.1.1, ⟨hk.1.1.1.2, ⟨hk.1.1.2, hk.1.2⟩⟩⟩))⟩, ⟨by (with_reducible repeat (first | refine za5 ?_ _ | refine za6 ?_ | refine za4 ?_ _)); refine zaw ?_ NB696_705.out _; (with_reducible repeat (first | refine za5 ?_ _ | refine za6 ?_ | refine za4 ?_ _)); refine zaw ?_ NB696_705.out _; (with_reducible repeat (first | refine za5 ?_ _ | refine za6 ?_ | refine za4 ?_ _)); exact BK696.out⟩, ⟨by (with_reducible repeat (first | refine za5 ?_ _ | refine za6 ?_ | refine za4 ?_ _)); refine zas (cs := #[.slice Ao52 t719.length co52, .int .i64 t717]) ?_ 1 _ rfl; (with_reducible repeat (first | refine za5 ?_ _ | refine za6 ?_ | refine za4 ?_ _)); refine zas (cs := #[.slice Ao46 t714.length co46, .int .i64 t717]) ?_ 0 _ rfl; (with_reducible repeat (first | refine za5 ?_ _ | refine za6 ?_ | refine za4 ?_ _)); exact BK705.out⟩, ⟨by repeat (first | (with_reducible first | exact HB.out | apply za2 | apply za0 | apply za1 | refine za3 ?_ GE696.out | refine za3 ?_ GE705.out) | exact HB.out)⟩⟩
                  · rw [if_neg c29] at H
                    exact absurd H (by simp)
                · rw [if_neg c28] at H
                  exact absurd H (by simp)
              · rw [if_neg c27] at H
                exact absurd H (by simp)
        · rw [if_neg c12] at H
          have c12b0 : decide (0 ≤ x8_1) = false := decide_eq_false c12
          clear c12
          simp only [Option.some.injEq, Prod.mk.injEq] at H
          obtain ⟨rfl, rfl⟩ := H
          have hnb54 := NB705_696.out
          have hnc54 := NB696_705.out
          have hcz55_0 : wr.cell? ⟨gb705, 0, none⟩ = some (u706000) := (za7 BK705.out 0).trans rfl
          have hcz55_1 : wr.cell? ⟨gb705, 1, none⟩ = some (.int .i64 x706001_1) := (za7 BK705.out 1).trans rfl
          have hfz55_0 := za8 BK705.out 0
          have hfz55_1 := za8 BK705.out 1
          obtain ⟨Ao56, co56, eo56⟩ := Kd.V_slice HO_706000.out
          subst eo56
          have hcz57_0 : wr.cell? ⟨gb696, 0, none⟩ = some (.slice none 0 0) := (za7 BK696.out 0).trans rfl
          have hcz57_1 : wr.cell? ⟨gb696, 1, none⟩ = some (.int .i64 0) := (za7 BK696.out 1).trans rfl
          have hfz57_0 := za8 BK696.out 0
          have hfz57_1 := za8 BK696.out 1
          go_wp2
          refine bodyPost_ret (results_cell_row rfl _ _ gb696 39 #[.slice Ao56 x706000_1.length co56, .int .i64 x7_1] (0, 0) _ rfl (by (with_reducible repeat (first | refine za5 ?_ _ | refine za6 ?_ | refine za4 ?_ _)); refine zas (cs := #[.slice Ao56 x706000_1.length co56, .int .i64 0]) ?_ 1 _ rfl; (with_reducible repeat (first | refine za5 ?_ _ | refine za6 ?_ | refine za4 ?_ _)); refine zas (cs := #[.slice none 0 0, .int .i64 0]) ?_ 0 _ rfl; (with_reducible repeat (first | refine za5 ?_ _ | refine za6 ?_ | refine za4 ?_ _)); refine zaw ?_ NB696_705.out _; (with_reducible repeat (first | refine za5 ?_ _ | refine za6 ?_ | refine za4 ?_ _)); exact BK696.out) Try.underlying39 rfl (by kernel_rfl)) rfl ?_
          exact ⟨_, by first | rfl | (simp [zad, zac] <;> rfl) | (simp [*, zad, zac] <;> rfl), by (with_reducible repeat (first | apply Kd.zb4 | apply Kd.zb5 | apply Kd.V_drew)); exact Kd.V_mono (Kd.V_far (p := ⟨gb696, 1, none⟩) (Kd.V_far (p := ⟨gb696, 0, none⟩) (Kd.V_far (p := ⟨gb705, 1, none⟩) (Kd.V_mono (Kd.V_mono HO_706000.out (fun k_ hk => (⟨hk, hk.2.2.2⟩ : _ ∧ k_ ≠ gb705))) (fun k_ hk => (⟨hk, hk.1.2.2.1⟩ : _ ∧ k_ ≠ gb696))) (fun _ hk => hk.1.2) (.int .i64 x7_1)) (fun _ hk => hk.2) (.slice Ao56 x706000_1.length co56)) (fun _ hk => hk.2) (.int .i64 x7_1)) (fun _ hk => hk.1.1.1), by repeat (first | (with_reducible first | exact HB.out | apply za2 | apply za0 | apply za1 | refine za3 ?_ GE696.out | refine za3 ?_ GE705.out) | exact HB.out)⟩

/-! ### spec_poProducts: function 60 -/
def spec_poProducts.l0 : Nat → Int → List (S69) → Int → Int → Option (Int)
  | 0, _, _, _, _ => none
  | k + 1, x5, x13, x14, x15 => if x15 < x14 then (if 0 ≤ x15 then (if x15 < (x13.length : Int) then (if ((zaa x13 x15).f0) = 3 then (spec_poProducts.l0 k (wrap64 (x5 + 1)) x13 x14 (wrap64 (x15 + 1))) else (spec_poProducts.l0 k x5 x13 x14 (wrap64 (x15 + 1)))) else (none)) else (none)) else (some x5)
def spec_poProducts.f (k : Nat) (a0 : Int) (a1 : Int) : Option (Int) := if 0 ≤ (wrap64 (a0 + 1)) then (if (wrap64 (a0 + 1) : Int).toNat ≤ 35184372088832 then ((spec_poGiant.f k (List.replicate (wrap64 (a0 + 1) : Int).toNat 0) a1).bind fun bt727 => (spec_poProducts.l0 k 0 bt727.1 (bt727.1.length : Int) 0)) else (none)) else (none)
theorem spec_poProducts.zb1 : ∀ k, (∀ y0 y1 y2 y3, LeO (spec_poProducts.l0 k y0 y1 y2 y3) (spec_poProducts.l0 (k + 1) y0 y1 y2 y3))
  | 0 => fun _ _ _ _ r h => by simp [spec_poProducts.l0] at h
  | k + 1 => by
    have ih0 := spec_poProducts.zb1 k
    · intro y0 y1 y2 y3
      unfold spec_poProducts.l0
      repeat' first
      | (with_reducible exact ih0 _ _ _ _)
      | (with_reducible exact spec_poGiant.mono _ _ _)
      | (with_reducible exact LeO.refl _)
      | (with_reducible exact LeO.none _)
      | (with_reducible refine LeO.ite ?_ ?_)
      | (with_reducible refine LeO.bind ?_ (fun _ => ?_))
      | exact ih0 _ _ _ _
      | exact spec_poGiant.mono _ _ _
      | exact LeO.none _
      | refine LeO.ite ?_ ?_
      | refine LeO.bind ?_ (fun _ => ?_)
theorem spec_poProducts.mono : ∀ a0 a1 k, LeO (spec_poProducts.f k a0 a1) (spec_poProducts.f (k + 1) a0 a1) := by
  intro a0 a1 k
  have ih0 := spec_poProducts.zb1 k
  unfold spec_poProducts.f
  repeat' first
      | (with_reducible exact ih0 _ _ _ _)
      | (with_reducible exact spec_poGiant.mono _ _ _)
      | (with_reducible exact LeO.refl _)
      | (with_reducible exact LeO.none _)
      | (with_reducible refine LeO.ite ?_ ?_)
      | (with_reducible refine LeO.bind ?_ (fun _ => ?_))
      | exact ih0 _ _ _ _
      | exact spec_poGiant.mono _ _ _
      | exact LeO.none _
      | refine LeO.ite ?_ ?_
      | refine LeO.bind ?_ (fun _ => ?_)
set_option maxHeartbeats 8000000 in
set_option maxRecDepth 100000 in
theorem spec_poProducts.calls (k : Nat) (a0 : Int) (a1 : Int) (r : Int) (w : World) (h : spec_poProducts.f k a0 a1 = some r) :
    Calls Try.prog 60 #[.int .i64 a0, .int .i64 a1] w fun e w' => e = .returned (.int .i64 r) ∧ Below w.heap.size w w' := by
  have hu39 := Try.underlying39
  have hu69 := Try.underlying69
  have hfd39_0 : ∀ (x0 x1 : Value) (W : World), (Instr.field 39 (.agg #[x0, x1]) 0).run Try.prog W = .ok x0 W := fun _ _ W => by kernel_rfl
  have HB := Aside0.mk (Below.refl w.heap.size w)
  have H : (if 0 ≤ (wrap64 (a0 + 1)) then (if (wrap64 (a0 + 1) : Int).toNat ≤ 35184372088832 then ((spec_poGiant.f k (List.replicate (wrap64 (a0 + 1) : Int).toNat 0) a1).bind fun bt727 => (spec_poProducts.l0 k 0 bt727.1 (bt727.1.length : Int) 0)) else (none)) else (none)) = some r := h
  clear h
  obtain ⟨ji3, hji3⟩ : ∃ j_ : Int, (wrap64 (a0 + 1)) = j_ := ⟨_, rfl⟩
  replace H : (if 0 ≤ (ji3) then (if (ji3 : Int).toNat ≤ 35184372088832 then ((spec_poGiant.f k (List.replicate (ji3 : Int).toNat 0) a1).bind fun bt727 => (spec_poProducts.l0 k 0 bt727.1 (bt727.1.length : Int) 0)) else (none)) else (none)) = some r := by first | (rw [hji3] at H; exact H) | (simp only [hji3] at H ⊢; exact H)
  have hji3w : (IntKind.i64.wrap (a0 + 1)) = ji3 := (i64_w _).trans hji3
  by_cases c4 : 0 ≤ (ji3)
  · rw [if_pos c4] at H
    have c4b0 := eq_true c4
    have c4b1 : decide (0 ≤ (ji3)) = true := decide_eq_true c4
    clear c4
    by_cases c5 : (ji3 : Int).toNat ≤ 35184372088832
    · rw [if_pos c5] at H
      have c5b0 := eq_true c5
      have c5b1 : decide ((ji3 : Int).toNat ≤ 35184372088832) = true := decide_eq_true c5
      clear c5
      obtain ⟨y724, hy724⟩ : ∃ y_ : List Int, y_ = (List.replicate (ji3 : Int).toNat 0) := ⟨_, rfl⟩
      replace H : ((spec_poGiant.f k y724 a1).bind fun bt727 => (spec_poProducts.l0 k 0 bt727.1 (bt727.1.length : Int) 0)) = some r := by first | (rw [hy724]; with_reducible exact H) | (have H2_ := (Option.bind_some _ _).symm.trans H; rw [hy724]; with_reducible exact H2_) | (have H2_ := (Option.bind_some _ _).symm.trans H; with_reducible exact H2_) | with_reducible exact H | (rw [hy724]; exact H) | exact H
      have Ny724 := Aside0.mk hy724
      clear hy724
      replace H := Option.bind_eq_some_iff.mp H
      obtain ⟨⟨t727, t730⟩, A60, H⟩ := H
      replace H : (spec_poProducts.l0 k 0 t727 (t727.length : Int) 0) = some r := H
      have A6 := Aside0.mk A60
      clear A60
      have H' := Aside0.mk H
      clear H
      go_enter Try.func60, Try.ntmps60
      go_wp2_with (first | ((with_reducible refine zal (N := 10) rfl ?_); refine Kd.R_make (Kd.int .i64) _ 3 rfl (N := 10) rfl 22 _ _ rfl ji3 rfl rfl Try.underlying22 (.int .i64 0) 8 info3 rfl (by decide) (by omega) 0 (ok := fun _ => True) (okp := fun _ => True) rfl (fun _ hk => hk) trivial (of_decide_eq_true (by first | (with_reducible assumption) | assumption)) (Nat.le_trans (Nat.mul_le_mul_right _ (of_decide_eq_true (by first | (with_reducible assumption) | assumption) : ji3.toNat ≤ 35184372088832)) (by omega)) (Below.refl _ _) (Nat.le_refl _) ?_; intro v725 w7 ho8 hb hg_ hnew_; clear hg_ hnew_; (first | rw [← Ny724.out] at ho8 | (simp only [Int.reduceToNat] at ho8; rw [← Ny724.out] at ho8)); have n0_ := Aside0.mk (Kd.zb0 ho8 (za9 (by repeat (first | (with_reducible first | exact HB.out | apply za2 | apply za0 | apply za1) | exact HB.out)))); have n1_ := Aside0.mk (zab (by repeat (first | (with_reducible first | exact HB.out | apply za2 | apply za0 | apply za1) | exact HB.out)) hb); clear HB; have HO726 := n0_; have HB := n1_; clear n0_ n1_; clear hb ho8; obtain ⟨Ao9, co9, eo9⟩ := Kd.zaz HO726.out; subst eo9) | ((with_reducible refine zaf (f := 95) rfl ?_); refine zax (some 12) rfl rfl Try.func95 (by kernel_rfl) rfl #[.slice Ao9 y724.length co9, .int .i64 a1] rfl (by (try simp only [List.map_toArray, List.map_cons, List.map_nil]); first | done | rfl | (simp only [List.length_drop, List.length_take]; rfl)) ?_; (with_reducible refine (spec_poGiant.calls k _ _ y724 a1 t727 t730 _ ?side1 ?side2 A6.out).mono ?_); (case side1 => repeat (first | exact (Kd.R_reads' HO726.out).2.2 | (with_reducible refine Kd.zao ?_ _) | (with_reducible refine Kd.zan ?_ _) | (with_reducible refine Kd.zav ?_))); (case side2 => exact (Kd.R_reads' HO726.out).2.1); rintro e w10 ⟨v728, rfl, ho0, hb⟩; refine ⟨_, rfl, ?_⟩; have n0_ := Aside0.mk (Kd.R_below (by (with_reducible repeat (first | apply Kd.zai | apply Kd.zah | apply Kd.zak)); exact HO726.out) hb); have n1_ := Aside0.mk (Kd.V_lower (Kd.V_mono (ok' := fun k_ => some k_ ≠ (.slice Ao9 y724.length co9 : Value).ownBlock) ho0 (fun k_ hk_ => (Kd.fresh' (Kd.R_lt (by (with_reducible repeat (first | apply Kd.zai | apply Kd.zah | apply Kd.zak)); exact HO726.out)) k_ hk_))) (za9 (by repeat (first | (with_reducible first | exact HB.out | apply za2 | apply za0 | apply za1) | exact HB.out)))); have n2_ := Aside0.mk (zab (by repeat (first | (with_reducible first | exact HB.out | apply za2 | apply za0 | apply za1) | exact HB.out)) hb); clear HO726; clear HB; have HO726 := n0_; have HO729 := n1_; have HB := n2_; clear n0_ n1_ n2_; (try clear hb); (try clear hb2); (try clear hk); (try clear hi); (try clear ho0); obtain ⟨Ao11, co11, eo11⟩ := Kd.V_slice HO729.out; subst eo11))
      go_loopg [5, 15] k (fun kq v5 v15 w' => ∃ (x5_1 : Int) (x15_1 : Int), v5 = .int .i64 x5_1 ∧ v15 = .int .i64 x15_1 ∧ Aside0 (spec_poProducts.l0 kq x5_1 t727 (t727.length : Int) x15_1 = some r) ∧ Aside0 (kq ≤ k) ∧ Aside0 (Kd.V k69 69 w' w.heap.size (fun _ => True) (.slice Ao11 t727.length co11) t727) ∧ Aside0 (Below w.heap.size w w'))
      case atStart => exact ⟨(0), (0), (by first | rfl | (simp; done) | (simp [*]; done)), (by first | rfl | (simp; done) | (simp [*]; done)), H', ⟨Nat.le_refl _⟩, ⟨by (with_reducible repeat (first | apply Kd.zb4 | apply Kd.zb5 | apply Kd.V_drew)); exact Kd.V_mono HO729.out (fun _ hk => trivial)⟩, ⟨by repeat (first | (with_reducible first | exact HB.out | apply za2 | apply za0 | apply za1) | exact HB.out)⟩⟩
      case round =>
        clear H'
        try clear p2
        try clear c4
        try clear c4b0
        try clear c4b1
        try clear c5
        try clear c5b0
        try clear c5b1
        try clear c6
        try clear p6
        try clear c9
        obtain ⟨x5_1, x15_1, rfl, rfl, HA, HK1, HO_13, HB⟩ := hrel
        cases gk with
        | zero => exact absurd HA.out (by simp [spec_poProducts.l0])
        | succ k1 =>
          have H := HA.out
          clear HA
          simp only [spec_poProducts.l0] at H
          by_cases c12 : x15_1 < (t727.length : Int)
          · rw [if_pos c12] at H
            have c12b0 : decide (x15_1 < (t727.length : Int)) = true := decide_eq_true c12
            clear c12
            by_cases c13 : 0 ≤ x15_1
            · rw [if_pos c13] at H
              have c13b0 : decide (0 ≤ x15_1) = true := decide_eq_true c13
              clear c13
              by_cases c14 : x15_1 < (t727.length : Int)
              · rw [if_pos c14] at H
                have c14b0 : decide (x15_1 < (t727.length : Int)) = true := decide_eq_true c14
                clear c14
                by_cases c15 : ((zaa t727 x15_1).f0) = 3
                · rw [if_pos c15] at H
                  have c15b0 : (((zaa t727 x15_1).f0) == 3) = true := beq_iff_eq.mpr c15
                  have c15b1 : (((zaa t727 x15_1).f0) != 3) = false := bne_eq_false_iff_eq.mpr c15
                  clear c15
                  have H' := Aside0.mk H
                  clear H
                  have p731 : 0 ≤ (x15_1 : Int) := of_decide_eq_true (by first | (with_reducible assumption) | assumption)
                  have q731 : x15_1 < (t727.length : Int) := of_decide_eq_true (by first | (with_reducible assumption) | assumption)
                  obtain ⟨ad731, e731, hx731_0, hx731_1, hx731_2⟩ := at_T69 (Kd.V_reads' HO_13.out).2.2 x15_1 p731 q731
                  cases e731
                  replace p731 := eq_true p731
                  replace q731 := eq_true q731
                  go_wp2_with (first | ((with_reducible refine zal (N := 7) rfl ?_); refine zam ?hg (N := 7) ?hd (cs := #[.int .i64 0, .int .i64 0, .int .i64 0]) (t := 69) ?hr ?_; (case hd => rfl); (case hg => rfl); (case hr => first | (go_simp; done) | (go_simp; rfl)); intro gb732 hg w16 hbox hb; have n0_ := Aside0.mk (Kd.V_below (Kd.V_elderB (by (with_reducible repeat (first | apply Kd.zb4 | apply Kd.zb5 | apply Kd.V_drew)); exact HO_13.out) gb732 (Nat.le_of_eq hg.symm)) hb); have n1_ := Aside0.mk (zab (by repeat (first | (with_reducible first | exact HB.out | apply za2 | apply za0 | apply za1) | exact HB.out)) hb); have n2_ := Aside0.mk (hbox); have n3_ := Aside0.mk ((by rw [hg]; exact (za9 (by repeat (first | (with_reducible first | exact HB.out | apply za2 | apply za0 | apply za1) | exact HB.out))) : w.heap.size ≤ gb732)); have n4_ := Aside0.mk ((by rw [hg]; exact (za9 (by repeat (first | (with_reducible first | exact HB.out | apply za2 | apply za0 | apply za1) | exact HB.out))) : w.heap.size ≤ gb732)); clear HO_13; clear HB; have HO_13 := n0_; have HB := n1_; have BK732 := n2_; have GW732 := n3_; have GE732 := n4_; clear n0_ n1_ n2_ n3_ n4_; clear hb hbox hg; have hcz17_0 : w16.cell? ⟨gb732, 0, none⟩ = some (.int .i64 0) := (za7 BK732.out 0).trans rfl; have hcz17_1 : w16.cell? ⟨gb732, 1, none⟩ = some (.int .i64 0) := (za7 BK732.out 1).trans rfl; have hcz17_2 : w16.cell? ⟨gb732, 2, none⟩ = some (.int .i64 0) := (za7 BK732.out 2).trans rfl; have hfz17_0 := za8 BK732.out 0; have hfz17_1 := za8 BK732.out 1; have hfz17_2 := za8 BK732.out 2))
                  go_roundg k1
                  case measure => have := HK1.out; omega
                  case rel => exact ⟨(wrap64 (x5_1 + 1)), (wrap64 (x15_1 + 1)), (by first | rfl | (simp; done) | (simp [*]; done)), (by first | rfl | (simp; done) | (simp [*]; done)), H', ⟨by have := HK1.out; omega⟩, ⟨by (with_reducible repeat (first | apply Kd.zb4 | apply Kd.zb5 | apply Kd.V_drew)); exact Kd.V_mono (Kd.V_far (p := ⟨gb732, 2, none⟩) (Kd.V_far (p := ⟨gb732, 1, none⟩) (Kd.V_far (p := ⟨gb732, 0, none⟩) (Kd.V_mono HO_13.out (fun k_ hk => (⟨hk, hk.2⟩ : _ ∧ k_ ≠ gb732))) (fun _ hk => hk.2) (.int .i64 ((zaa t727 x15_1).f0))) (fun _ hk => hk.2) (.int .i64 ((zaa t727 x15_1).f1))) (fun _ hk => hk.2) (.int .i64 ((zaa t727 x15_1).f2))) (fun _ hk => trivial)⟩, ⟨by repeat (first | (with_reducible first | exact HB.out | apply za2 | apply za0 | apply za1 | refine za3 ?_ GE732.out) | exact HB.out)⟩⟩
                · rw [if_neg c15] at H
                  have c15b0 : (((zaa t727 x15_1).f0) == 3) = false := beq_eq_false_iff_ne.mpr c15
                  have c15b1 : (((zaa t727 x15_1).f0) != 3) = true := bne_iff_ne.mpr c15
                  have H' := Aside0.mk H
                  clear H
                  have p731 : 0 ≤ (x15_1 : Int) := of_decide_eq_true (by first | (with_reducible assumption) | assumption)
                  have q731 : x15_1 < (t727.length : Int) := of_decide_eq_true (by first | (with_reducible assumption) | assumption)
                  obtain ⟨ad731, e731, hx731_0, hx731_1, hx731_2⟩ := at_T69 (Kd.V_reads' HO_13.out).2.2 x15_1 p731 q731
                  cases e731
                  replace p731 := eq_true p731
                  replace q731 := eq_true q731
                  go_wp2_with (first | ((with_reducible refine zal (N := 7) rfl ?_); refine zam ?hg (N := 7) ?hd (cs := #[.int .i64 0, .int .i64 0, .int .i64 0]) (t := 69) ?hr ?_; (case hd => rfl); (case hg => rfl); (case hr => first | (go_simp; done) | (go_simp; rfl)); intro gb732 hg w18 hbox hb; have n0_ := Aside0.mk (Kd.V_below (Kd.V_elderB (by (with_reducible repeat (first | apply Kd.zb4 | apply Kd.zb5 | apply Kd.V_drew)); exact HO_13.out) gb732 (Nat.le_of_eq hg.symm)) hb); have n1_ := Aside0.mk (zab (by repeat (first | (with_reducible first | exact HB.out | apply za2 | apply za0 | apply za1) | exact HB.out)) hb); have n2_ := Aside0.mk (hbox); have n3_ := Aside0.mk ((by rw [hg]; exact (za9 (by repeat (first | (with_reducible first | exact HB.out | apply za2 | apply za0 | apply za1) | exact HB.out))) : w.heap.size ≤ gb732)); have n4_ := Aside0.mk ((by rw [hg]; exact (za9 (by repeat (first | (with_reducible first | exact HB.out | apply za2 | apply za0 | apply za1) | exact HB.out))) : w.heap.size ≤ gb732)); clear HO_13; clear HB; have HO_13 := n0_; have HB := n1_; have BK732 := n2_; have GW732 := n3_; have GE732 := n4_; clear n0_ n1_ n2_ n3_ n4_; clear hb hbox hg; have hcz19_0 : w18.cell? ⟨gb732, 0, none⟩ = some (.int .i64 0) := (za7 BK732.out 0).trans rfl; have hcz19_1 : w18.cell? ⟨gb732, 1, none⟩ = some (.int .i64 0) := (za7 BK732.out 1).trans rfl; have hcz19_2 : w18.cell? ⟨gb732, 2, none⟩ = some (.int .i64 0) := (za7 BK732.out 2).trans rfl; have hfz19_0 := za8 BK732.out 0; have hfz19_1 := za8 BK732.out 1; have hfz19_2 := za8 BK732.out 2))
                  go_roundg k1
                  case measure => have := HK1.out; omega
                  case rel => exact ⟨(x5_1), (wrap64 (x15_1 + 1)), (by first | rfl | (simp; done) | (simp [*]; done)), (by first | rfl | (simp; done) | (simp [*]; done)), H', ⟨by have := HK1.out; omega⟩, ⟨by (with_reducible repeat (first | apply Kd.zb4 | apply Kd.zb5 | apply Kd.V_drew)); exact Kd.V_mono (Kd.V_far (p := ⟨gb732, 2, none⟩) (Kd.V_far (p := ⟨gb732, 1, none⟩) (Kd.V_far (p := ⟨gb732, 0, none⟩) (Kd.V_mono HO_13.out (fun k_ hk => (⟨hk, hk.2⟩ : _ ∧ k_ ≠ gb732))) (fun _ hk => hk.2) (.int .i64 ((zaa t727 x15_1).f0))) (fun _ hk => hk.2) (.int .i64 ((zaa t727 x15_1).f1))) (fun _ hk => hk.2) (.int .i64 ((zaa t727 x15_1).f2))) (fun _ hk => trivial)⟩, ⟨by repeat (first | (with_reducible first | exact HB.out | apply za2 | apply za0 | apply za1 | refine za3 ?_ GE732.out) | exact HB.out)⟩⟩
              · rw [if_neg c14] at H
                exact absurd H (by simp)
            · rw [if_neg c13] at H
              exact absurd H (by simp)
          · rw [if_neg c12] at H
            have c12b0 : decide (x15_1 < (t727.length : Int)) = false := decide_eq_false c12
            clear c12
            obtain rfl := Option.some.inj H
            go_wp2
            go_ret
            exact ⟨by first | rfl | (simp [zad, zac] <;> rfl) | (simp only [← hji3]; first | rfl | (simp [zad, zac] <;> rfl)) | (simp [*, zad, zac] <;> rfl), by repeat (first | (with_reducible first | exact HB.out | apply za2 | apply za0 | apply za1) | exact HB.out)⟩
    · rw [if_neg c5] at H
      exact absurd H (by simp)
  · rw [if_neg c4] at H
    exact absurd H (by simp)

/-! ### impl_degreeOk: function 61 -/
def impl_degreeOk.f (a0 : Int) : Option (Bool) := (impl_in.f a0 0 16).bind fun t736 => (some t736)
set_option maxHeartbeats 8000000 in
set_option maxRecDepth 100000 in
theorem impl_degreeOk.calls (a0 : Int) (r : Bool) (w : World) (h : impl_degreeOk.f a0 = some r) :
    Calls Try.prog 61 #[.int .i64 a0] w fun e w' => e = .returned (.bool r) ∧ Drawn0 w w' := by
  have H : ((impl_in.f a0 0 16).bind fun t736 => (some t736)) = some r := h
  clear h
  replace H := Option.bind_eq_some_iff.mp H
  obtain ⟨t736, A20, H⟩ := H
  replace H : (some t736) = some r := H
  have A2 := Aside0.mk A20
  clear A20
  obtain rfl := Option.some.inj H
  go_enter Try.func61, Try.ntmps61
  go_wp2_with (first | ((with_reducible refine zaf (f := 93) rfl ?_); refine zax (some 4) rfl rfl Try.func93 (by kernel_rfl) rfl #[.int .i64 a0, .int .i64 0, .int .i64 16] rfl (by (try simp only [List.map_toArray, List.map_cons, List.map_nil]); first | done | rfl | (simp only [List.length_drop, List.length_take]; rfl)) ?_; (with_reducible refine (impl_in.calls a0 0 16 t736 _ A2.out).mono ?_); rintro e w' ⟨rfl, ⟨nd, rfl⟩⟩; refine ⟨_, rfl, ?_⟩))
  go_ret
  exact ⟨by first | rfl | (simp; done) | (simp [*]; done), by repeat (first | exact Drawn0.refl _ | apply Drawn0.step)⟩

/-! ### impl_giantProducts: function 63 -/
/-- One group of giant. -/
def giCut (l0 : List Int) (K d : Nat) : List Int := (l0.take (min (d * K + K) l0.length)).drop (d * K)
def giHead (powers : List Int) (K : Nat) (at_ : Int) (m : List SOp) : Int × List SOp := if 0 ≤ at_ then ((m.length : Int) + 1, m ++ [⟨3, at_, rd powers (K : Int)⟩]) else (at_, m)
def giGroup (l0 powers : List Int) (K d : Nat) (m : List SOp) : Int × List SOp := grGo (giCut l0 K d) powers ((giCut l0 K d).length - 1) 0 ((m.length : Int) + 1) (m ++ [⟨0, rd (giCut l0 K d) 0, 0⟩])
def giTail (at_ : Int) (g : Int × List SOp) : Int × List SOp := if 0 ≤ at_ then ((g.2.length : Int) + 1, g.2 ++ [⟨1, at_, g.1⟩]) else g
def giGo (l0 powers : List Int) (K : Nat) : Nat → Int → List SOp → Int × List SOp
  | 0, at_, m => (at_, m)
  | d + 1, at_, m => giGo l0 powers K d (giTail (giHead powers K at_ m).1 (giGroup l0 powers K d (giHead powers K at_ m).2)).1 (giTail (giHead powers K at_ m).1 (giGroup l0 powers K d (giHead powers K at_ m).2)).2
def giPw (l0 : List Int) (K : Nat) : List Int × List SOp := pwGo (min K (l0.length - 1) - 1) [-1, 0] []
def giIn (l0 : List Int) (K : Nat) : Int × List SOp := giGo l0 (giPw l0 K).1 K ((l0.length - 1) / K + 1) (-1) (giPw l0 K).2
theorem grGo_length (coefs powers : List Int) : ∀ (d i : Nat) (at_ : Int) (l : List SOp), (grGo coefs powers d i at_ l).2.length = l.length + 2 * d ∧ (0 ≤ at_ → 0 ≤ (grGo coefs powers d i at_ l).1)
  | 0, i, at_, l => by simp [grGo]
  | d + 1, i, at_, l => by
    have := grGo_length coefs powers d (i + 1) ((l.length : Int) + 2) (l ++ [⟨2, rd powers ((i + 1 : Nat) : Int), rd coefs ((i + 1 : Nat) : Int)⟩] ++ [⟨1, at_, (l.length : Int) + 1⟩])
    simp only [grGo]
    simp at this
    simp
    omega

set_option maxHeartbeats 8000000 in
set_option maxRecDepth 100000 in
theorem giant_calls (A0 : Option Addr) (c0 : Nat) (l0 : List Int) (K : Nat) (w : World) (hr0 : Kd.C (Kd.int .i64) w A0 l0.length l0) (hc0 : l0.length ≤ c0) (h1 : 1 ≤ l0.length) (h2 : l0.length ≤ 17) (h3 : 1 ≤ K) (h4 : K ≤ 17) :
    Calls Try.prog 96 #[.slice A0 l0.length c0, .int .i64 (K : Int)] w fun e w' => ∃ g, e = .returned (.pointer (some ⟨g, 0, none⟩)) ∧ Fr w w (fun _ => False) [wr8 g (giIn l0 K).2] w' := by
  have HC := Aside0.mk hr0
  have HN := Aside0.mk (show l0.length ≤ c0 ∧ 1 ≤ l0.length ∧ l0.length ≤ 17 ∧ 1 ≤ K ∧ K ≤ 17 from ⟨hc0, h1, h2, h3, h4⟩)
  clear hr0 hc0
  obtain ⟨M, hM⟩ : ∃ M, min K (l0.length - 1) = M := ⟨_, rfl⟩
  obtain ⟨Q, hQ⟩ : ∃ Q, (l0.length - 1) / K = Q := ⟨_, rfl⟩
  have hmn : (if (l0.length : Int) - 1 < (K : Int) then (l0.length : Int) - 1 else (K : Int)) = (M : Int) := by
    rw [← hM]; split <;> omega
  have hMl : M ≤ 17 ∧ M ≤ K ∧ M < l0.length := by omega
  have hq : ((l0.length : Int) - 1) / (K : Int) = (Q : Int) := by
    rw [← hQ]; push_cast [show ((l0.length - 1 : Nat) : Int) = (l0.length : Int) - 1 by omega]; rfl
  have HP3 := Aside0.mk (fun (g : Nat) (w3 : World) (H : Fr w w (fun _ => False) [wr8 g []] w3) => powers_fr (i := 0) (M : Int) (M - 1) (by omega) (by omega) H rfl (by simp))
  have HMM := Aside0.mk (show M = min K (l0.length - 1) ∧ M ≤ 17 ∧ M ≤ K ∧ M < l0.length from ⟨hM.symm, hMl⟩)
  go_enter Try.func96, Try.ntmps96
  go_wp2_with (first | ((with_reducible refine zal (N := 11) rfl ?_); refine zam ?hg (N := 11) ?hd (cs := #[.slice none 0 0]) (t := 78) ?hr ?_; (case hd => rfl); (case hg => rfl); (case hr => first | (go_simp; done) | (go_simp; rfl)); intro gw hg_ w1 hbox_ hb_; have H1_ := Aside0.mk ((Fr.start w).box_new hbox_ hb_ hg_); clear hbox_ hb_ hg_; have H1 := Aside0.mk ((H1_.out.row_nil k69 69).obj_close (i := 0) (f := fun v => #[v]) rfl); clear H1_) | (go_at_call 85; refine (HP3.out gw w1 H1.out).mono ?_; clear HP3; rintro e w2 ⟨vp, rfl, k_⟩; have H2 := Aside0.mk k_; simp only [List.set_cons_zero, List.set_cons_succ] at H2; clear k_))
  have hqk : wrap64 ((Q : Int) * (K : Int)) = ((Q * K : Nat) : Int) := by
    have : Q * K ≤ l0.length - 1 := by rw [← hQ]; exact Nat.div_mul_le_self _ _
    have e : ((Q * K : Nat) : Int) = (Q : Int) * (K : Int) := by push_cast; rfl
    rw [← e]; unfold wrap64; omega
  rw [hqk]
  have hpl := pwGo_len (M - 1) [-1, 0] []
  simp only [List.length_cons, List.length_nil] at hpl
  have hgi : giIn l0 K = giGo l0 (pwGo (M - 1) [-1, 0] []).1 K (Q + 1) (-1) (pwGo (M - 1) [-1, 0] []).2 := by unfold giIn giPw; rw [hM, hQ]
  generalize pwGo (M - 1) [-1, 0] [] = pw at *
  have HGI := Aside0.mk hgi
  have HPL := Aside0.mk hpl
  have HQM := Aside0.mk (show 1 ≤ Q → M = K by
    intro hq1
    have : ¬ l0.length - 1 < K := fun h => by rw [Nat.div_eq_of_lt h] at hQ; omega
    omega)
  have HQB := Aside0.mk (show Q ≤ 16 ∧ Q * K ≤ 16 by
    have h5 : Q * K ≤ l0.length - 1 := by rw [← hQ]; exact Nat.div_mul_le_self _ _
    have h6 : Q * 1 ≤ Q * K := Nat.mul_le_mul_left Q h3
    omega)
  have HQD := Aside0.mk (show Q * K < l0.length by
    have h5 : Q * K ≤ l0.length - 1 := by rw [← hQ]; exact Nat.div_mul_le_self _ _
    omega)
  clear hgi hpl hmn hq hqk hMl hM hQ H1
  go_loopg [7, 8] (Q + 1) (fun d v7 v8 w' => ∃ (at_ f : Int) (m : List SOp), v7 = .int .i64 at_ ∧ v8 = .int .i64 f ∧ Aside0 (f = (d : Int) * K - K ∧ d ≤ Q + 1 ∧ (0 ≤ at_ → d ≤ Q) ∧ m.length + 60 * d ≤ 2000) ∧ Aside0 (giGo l0 pw.1 K d at_ m = giGo l0 pw.1 K (Q + 1) (-1) pw.2) ∧ Aside0 (Fr w w (fun _ => False) [row (Kd.int .i64) 3 vp pw.1, wr8 gw m] w'))
  case atStart =>
    refine ⟨-1, _, pw.2, rfl, rfl, ⟨?_, by omega, by omega, ?_⟩, ⟨rfl⟩, H2⟩
    · push_cast
      rw [Int.add_mul]
      omega
    · have := HPL.out
      have := HQB.out
      have := HMM.out
      omega
  case round =>
    obtain ⟨at_, f, m, rfl, rfl, HM, HE, H3⟩ := hrel
    clear H2
    obtain ⟨Ap, cp, rfl, _, hCp⟩ := H3.out.row_reads (i := 0) rfl
    cases gk with
    | zero =>
      have hm := HM.out
      have hf : f < 0 := by omega
      have c1 : decide (0 ≤ f) = false := decide_eq_false (by omega)
      have he : (at_, m) = giGo l0 pw.1 K (Q + 1) (-1) pw.2 := HE.out
      clear hm hCp
      go_wp2
      go_ret
      refine ⟨gw, rfl, ?_⟩
      rw [HGI.out, ← he]
      exact H3.out.drop
    | succ d =>
      have hm := HM.out
      have hn := HN.out
      obtain ⟨F, hF⟩ : ∃ F, d * K = F := ⟨_, rfl⟩
      have hfF : f = (F : Int) := by
        have h5 := hm.1
        rw [← hF]
        push_cast at h5 ⊢
        rw [Int.add_mul] at h5
        omega
      subst hfF
      have hFl : F < l0.length := by
        have := HQD.out
        have h5 : d * K ≤ Q * K := Nat.mul_le_mul_right K (by omega)
        omega
      obtain ⟨H, hH⟩ : ∃ H, min (F + K) l0.length = H := ⟨_, rfl⟩
      obtain ⟨adc, e1, hxc⟩ := Kd.at_int HC.out 0 (by omega) (by omega)
      cases e1
      obtain ⟨ap, e1, _⟩ := Kd.at_int hCp 0 (by have := HPL.out; omega) (by have := HPL.out; omega)
      cases e1
      clear hCp
      have hcs : giCut l0 K d = (l0.take H).drop F := by unfold giCut; rw [hF, hH]
      have hcl : (giCut l0 K d).length = H - F := by rw [hcs, List.length_drop, List.length_take]; omega
      have HCC := Aside0.mk (show Kd.C (Kd.int .i64) w (some (adc.add F)) (giCut l0 K d).length (giCut l0 K d) by
        have := Kd.C_mid HC.out (lo := F) (hi := H) (by omega) (by omega) hn.1
        rw [if_neg (by omega), ← hcs, show F * (Kd.int .i64).sz = F from Nat.mul_one F] at this
        exact this)
      have HGR := Aside0.mk (fun (m1 : List SOp) (w3 : World) (h : Fr w w (fun _ => False) [row (Kd.int .i64) 3 (.slice (some ap) pw.1.length cp) pw.1, wr8 gw m1] w3) (hl : m1.length ≤ 3000) => group_fr (i := 1) (j := 0) (c0 := c0 - F) h rfl rfl (by decide) (fun w' h' => Kd.C_below HCC.out h'.bel) (by omega) (by omega) (by have := HPL.out; have := HMM.out; rw [hcl]; omega) (by omega) (by omega))
      rw [hcl] at HGR
      have HB := Aside0.mk (show (giCut l0 K d).length = H - F ∧ H - F ≤ 17 from ⟨hcl, by omega⟩)
      have c1 : decide (0 ≤ (F : Int)) = true := decide_eq_true (by omega)
      have hmn : (if (l0.length : Int) < (F : Int) + (K : Int) then (l0.length : Int) else (F : Int) + (K : Int)) = (H : Int) := by rw [← hH]; split <;> omega
      have q1 : ((F : Int) ≤ (H : Int)) = True := eq_true (by omega)
      have q2 : ((H : Int) ≤ (c0 : Int)) = True := eq_true (by omega)
      have q3 : (c0 = F) = False := eq_false (by omega)
      have q4 : F ≤ H ∧ H ≤ 17 ∧ F ≤ 17 := by omega
      have q5 : (F ≤ H) = True := eq_true (by omega)
      have q6 : (H ≤ c0) = True := eq_true (by omega)
      have hx_ := hxc
      clear hxc
      have HEE := Aside0.mk (show giGo l0 pw.1 K d (giTail (giHead pw.1 K at_ m).1 (giGroup l0 pw.1 K d (giHead pw.1 K at_ m).2)).1 (giTail (giHead pw.1 K at_ m).1 (giGroup l0 pw.1 K d (giHead pw.1 K at_ m).2)).2 = giGo l0 pw.1 K (Q + 1) (-1) pw.2 from HE.out)
      have HGL := Aside0.mk (fun (m1 : List SOp) => grGo_length (giCut l0 K d) pw.1 (H - F - 1) 0 ((m1.length : Int) + 1) (m1 ++ [⟨0, rd (giCut l0 K d) 0, 0⟩]))
      by_cases hat : 0 ≤ at_
      · have hMK := HQM.out (by have := hm.2.2.1 hat; omega)
        have hpw := HPL.out
        have hx : wr.cell? (ap.add K) = some (.int .i64 (rd pw.1 (K : Int))) := H3.out.int_at (i := 0) rfl K (by omega)
        have c2 : decide (0 ≤ at_) = true := decide_eq_true hat
        have q7 : (K < pw.1.length) = True := eq_true (by omega)
        have hh : giHead pw.1 K at_ m = ((m.length : Int) + 1, m ++ [⟨3, at_, rd pw.1 (K : Int)⟩]) := by unfold giHead; rw [if_pos hat]
        have ht : ∀ g, giTail ((m.length : Int) + 1) g = ((g.2.length : Int) + 1, g.2 ++ [⟨1, (m.length : Int) + 1, g.1⟩]) := fun g => by unfold giTail; rw [if_pos (by omega)]
        have he := HEE.out
        rw [hh] at he
        simp only [ht] at he
        unfold giGroup at he
        rw [HB.out.1] at he
        have HE3 := Aside0.mk he
        have HC1 := Aside0.mk (put_fr (i := 1) 3 at_ (rd pw.1 (K : Int)) H3.out rfl (by omega))
        have c3 : decide (0 ≤ (m.length : Int) + 1) = true := decide_eq_true (by omega)
        have HML := Aside0.mk (show m.length ≤ 2000 by omega)
        have HMX := Aside0.mk (show d * K = F ∧ d ≤ Q ∧ m.length + 60 * (d + 1) ≤ 2000 by omega)
        clear hh ht he HEE HE hm hn hat hcs hcl hpw hMK
        go_wp2_with (first | (go_at_call 80; refine HC1.out.mono ?_; clear HC1; rintro e w4 ⟨rfl, k_⟩; have H4 := Aside0.mk k_; simp only [List.set_cons_zero, List.set_cons_succ] at H4; clear k_; have HC2 := Aside0.mk (HGR.out (m ++ [(⟨3, at_, rd pw.1 (K : Int)⟩ : SOp)]) w4 H4.out (by have := HML.out; simp; omega)); clear HGR; generalize hgr : grGo (giCut l0 K d) pw.1 (H - F - 1) 0 (((m ++ [(⟨3, at_, rd pw.1 (K : Int)⟩ : SOp)]).length : Int) + 1) (m ++ [(⟨3, at_, rd pw.1 (K : Int)⟩ : SOp)] ++ [(⟨0, rd (giCut l0 K d) 0, 0⟩ : SOp)]) = gr at HC2 HE3; have HGQ := Aside0.mk hgr; clear hgr) | (go_at_call 86; refine HC2.out.mono ?_; clear HC2; rintro e w5 ⟨rfl, k_⟩; have H5 := Aside0.mk k_; simp only [List.set_cons_zero, List.set_cons_succ] at H5; clear k_; have HC3 := Aside0.mk (put_fr (i := 1) 1 ((m.length : Int) + 1) gr.1 H5.out rfl (by have := (HGL.out (m ++ [(⟨3, at_, rd pw.1 (K : Int)⟩ : SOp)])).1; rw [HGQ.out] at this; have := HML.out; have := HB.out.2; simp only [List.length_append, List.length_cons, List.length_nil] at *; omega))) | (go_at_call 80; refine HC3.out.mono ?_; clear HC3; rintro e w6 ⟨rfl, k_⟩; have H6 := Aside0.mk k_; simp only [List.set_cons_zero, List.set_cons_succ] at H6; clear k_))
        go_roundg d
        case measure => omega
        case rel =>
          refine ⟨_, (F : Int) - (K : Int), _, rfl, rfl, ⟨?_, by have := HMX.out; omega, fun _ => by have := HMX.out; omega, ?_⟩, HE3, H6⟩
          · rw [← HMX.out.1]; push_cast; rfl
          · have := (HGL.out (m ++ [(⟨3, at_, rd pw.1 (K : Int)⟩ : SOp)])).1
            rw [HGQ.out] at this
            have := HMX.out
            have := HB.out.2
            simp only [List.length_append, List.length_cons, List.length_nil] at *
            omega
      · have c2 : decide (0 ≤ at_) = false := decide_eq_false hat
        have hh : giHead pw.1 K at_ m = (at_, m) := by unfold giHead; rw [if_neg hat]
        have ht : ∀ g, giTail at_ g = g := fun g => by unfold giTail; rw [if_neg hat]
        have he := HEE.out
        rw [hh] at he
        simp only [ht] at he
        unfold giGroup at he
        rw [HB.out.1] at he
        have HE3 := Aside0.mk he
        have HML := Aside0.mk (show m.length ≤ 2000 by omega)
        have HMX := Aside0.mk (show d * K = F ∧ d ≤ Q ∧ m.length + 60 * (d + 1) ≤ 2000 by omega)
        have HC2 := Aside0.mk (HGR.out m wr H3.out (by omega))
        generalize hgr : grGo (giCut l0 K d) pw.1 (H - F - 1) 0 ((m.length : Int) + 1) (m ++ [(⟨0, rd (giCut l0 K d) 0, 0⟩ : SOp)]) = gr at HC2 HE3
        have HGQ := Aside0.mk hgr
        have hne : at_ < 0 := by omega
        clear hh ht he HEE HE hm hn hat hcs hcl hgr HGR
        go_wp2_with (go_at_call 86; refine HC2.out.mono ?_; clear HC2; rintro e w5 ⟨rfl, k_⟩; have H5 := Aside0.mk k_; simp only [List.set_cons_zero, List.set_cons_succ] at H5; clear k_)
        go_roundg d
        case measure => omega
        case rel =>
          refine ⟨_, (F : Int) - (K : Int), _, rfl, rfl, ⟨?_, by have := HMX.out; omega, fun _ => by have := HMX.out; omega, ?_⟩, HE3, H5⟩
          · rw [← HMX.out.1]; push_cast; rfl
          · have := (HGL.out (m)).1
            rw [HGQ.out] at this
            have := HMX.out
            have := HB.out.2
            simp only [List.length_append, List.length_cons, List.length_nil] at *
            omega

def prods (l : List SOp) : Nat := l.countP (fun o => o.f0 == 3)
def gpN (D K : Nat) : Int := (prods (giIn (List.replicate (D + 1) 0) K).2 : Int)
theorem giHead_len (pw : List Int) (K : Nat) (at_ : Int) (m : List SOp) : (giHead pw K at_ m).2.length ≤ m.length + 1 := by
  unfold giHead
  split <;> simp
theorem giTail_len (at_ : Int) (g : Int × List SOp) : (giTail at_ g).2.length ≤ g.2.length + 1 := by
  unfold giTail
  split <;> simp
theorem giCut_len (l0 : List Int) (K d : Nat) : (giCut l0 K d).length ≤ K := by
  unfold giCut
  rw [List.length_drop, List.length_take]
  omega
theorem giGo_len (l0 pw : List Int) (K : Nat) : ∀ (d : Nat) (at_ : Int) (m : List SOp), (giGo l0 pw K d at_ m).2.length ≤ m.length + d * (2 * K + 3)
  | 0, at_, m => by simp [giGo]
  | d + 1, at_, m => by
    have h := giGo_len l0 pw K d (giTail (giHead pw K at_ m).1 (giGroup l0 pw K d (giHead pw K at_ m).2)).1 (giTail (giHead pw K at_ m).1 (giGroup l0 pw K d (giHead pw K at_ m).2)).2
    have h1 := giHead_len pw K at_ m
    have h2 := giTail_len (giHead pw K at_ m).1 (giGroup l0 pw K d (giHead pw K at_ m).2)
    have h3 := (grGo_length (giCut l0 K d) pw ((giCut l0 K d).length - 1) 0 (((giHead pw K at_ m).2.length : Int) + 1) ((giHead pw K at_ m).2 ++ [⟨0, rd (giCut l0 K d) 0, 0⟩])).1
    have h4 := giCut_len l0 K d
    have h5 : (giGroup l0 pw K d (giHead pw K at_ m).2).2.length ≤ (giHead pw K at_ m).2.length + 1 + 2 * K := by
      unfold giGroup
      simp only [List.length_append, List.length_cons, List.length_nil] at h3
      omega
    simp only [giGo]
    rw [Nat.add_mul, Nat.one_mul]
    omega
theorem giIn_len (l0 : List Int) (K : Nat) (h1 : l0.length ≤ 17) (h2 : K ≤ 17) : (giIn l0 K).2.length ≤ 1000 := by
  have h := giGo_len l0 (giPw l0 K).1 K ((l0.length - 1) / K + 1) (-1) (giPw l0 K).2
  have h3 := (pwGo_len (min K (l0.length - 1) - 1) [-1, 0] []).2
  have h4 : (l0.length - 1) / K ≤ l0.length - 1 := Nat.div_le_self _ _
  have h5 : ((l0.length - 1) / K + 1) * (2 * K + 3) ≤ 17 * 37 := Nat.mul_le_mul (by omega) (by omega)
  unfold giIn
  unfold giPw at h ⊢
  simp only [List.length_nil] at h3
  omega
theorem prods_take (l : List SOp) (i : Nat) (hi : i < l.length) : prods (l.take (i + 1)) = prods (l.take i) + if (zaa l (i : Int)).f0 = 3 then 1 else 0 := by
  unfold prods
  rw [List.take_succ_eq_append_getElem hi, List.countP_append]
  have e : zaa l (i : Int) = l[i] := by simp [zaa, List.getD_eq_getElem?_getD, hi]
  rw [e]
  by_cases h : l[i].f0 = 3 <;> simp [h]
set_option maxHeartbeats 8000000 in
set_option maxRecDepth 100000 in
theorem giantProducts_calls (D K : Nat) (w : World) (h1 : D ≤ 16) (h3 : 1 ≤ K) (h4 : K ≤ 17) :
    Calls Try.prog 63 #[.int .i64 (D : Int), .int .i64 (K : Int)] w fun e w' => e = .returned (.int .i64 (gpN D K)) ∧ Below w.heap.size w w' := by
  have hu69 := Try.underlying69
  have HD := Aside0.mk (show D ≤ 16 ∧ 1 ≤ K ∧ K ≤ 17 from ⟨h1, h3, h4⟩)
  have HLEN := Aside0.mk (giIn_len (List.replicate (D + 1) 0) K (by simp; omega) h4)
  unfold gpN
  obtain ⟨z, hz⟩ : ∃ z : List Int, z = List.replicate (D + 1) 0 := ⟨_, rfl⟩
  rw [← hz] at HLEN ⊢
  have NZ := Aside0.mk hz
  clear hz
  generalize hgi : (giIn z K).2 = l at HLEN ⊢
  have HGI := Aside0.mk hgi
  clear hgi
  go_enter Try.func63, Try.ntmps63
  go_wp2_with (first | ((with_reducible refine zal (N := 10) rfl ?_); refine Kd.R_make (w0 := w) (Kd.int .i64) w.heap.size 3 rfl (N := 10) rfl 22 _ _ rfl ((D : Int) + 1) rfl rfl Try.underlying22 (.int .i64 0) 8 info3 rfl (by decide) (by omega) 0 (ok := fun k => w.heap.size ≤ k) (okp := fun k => w.heap.size ≤ k) rfl (fun _ hk => hk) (Nat.le_refl _) (by omega) (by have := HD.out; omega) (Below.refl _ _) (Nat.le_refl _) ?_; intro v1 w1 hr_ hb_ hg_ hn_; rw [show ((D : Int) + 1).toNat = D + 1 by omega, ← NZ.out] at hr_; have H1 := Aside0.mk ((Fr.start w).row_lit hr_ hg_); obtain ⟨A1, c1, rfl, hc_, hC_⟩ := H1.out.row_reads (i := 0) rfl; have HG := Aside0.mk (giant_calls A1 c1 z K w1 hC_ hc_ (by rw [NZ.out]; simp) (by have := HD.out; rw [NZ.out]; simp; omega) HD.out.2.1 HD.out.2.2); clear hr_ hb_ hg_ hn_ hc_ hC_) | (go_at_call 96; refine HG.out.mono ?_; clear HG; rintro e w2 ⟨g, rfl, k_⟩; have H2 := Aside0.mk (H1.out.obj_inner k_); rw [HGI.out] at H2; obtain ⟨v, k2_⟩ := H2.out.obj_open (i := 0) rfl; obtain ⟨A2, c2, rfl, _, _⟩ := k2_.row_reads (i := 0) rfl; have H3 := Aside0.mk k2_; simp only [List.set_cons_zero, List.set_cons_succ] at H3; clear k2_; clear k_ H2; have hg0 : w2.cell? ⟨g, 0, none⟩ = some (.slice A2 l.length c2) := H3.out.box_cell (i := 1) rfl 0 rfl))
  go_loopg [5, 17] l.length (fun d v5 v17 w' => ∃ i : Nat, v5 = .int .i64 (prods (l.take i) : Int) ∧ v17 = .int .i64 (i : Int) ∧ Aside0 (i + d = l.length) ∧ Aside0 (Fr w w (fun _ => False) [row k69 69 (.slice A2 l.length c2) l] w'))
  case atStart =>
    exact ⟨0, by simp [prods], rfl, ⟨by omega⟩, ⟨H3.out.sub (fun i => i) (fun i j e => e) (fun i T hT => by cases i with | zero => simpa using hT | succ i => simp at hT)⟩⟩
  case round =>
    obtain ⟨i, rfl, rfl, HM, H4⟩ := hrel
    clear H3 H1
    cases gk with
    | zero =>
      have hm := HM.out
      have c1 : decide (i < l.length) = false := decide_eq_false (by omega)
      clear hm
      go_wp2
      go_ret
      have e : l.take i = l := List.take_of_length_le (by have := HM.out; omega)
      rw [e]
      exact ⟨rfl, H4.out.bel⟩
    | succ d =>
      have hm := HM.out
      have c1 : decide (i < l.length) = true := decide_eq_true (by omega)
      obtain ⟨ad, e1, hx0, hx1, hx2⟩ := at_T69 (H4.out.row_C (i := 0) rfl).1 (i : Int) (by omega) (by omega)
      cases e1
      rw [Int.toNat_natCast] at hx0 hx1 hx2
      have q1 : (i < l.length) = True := eq_true (by omega)
      have hpt := prods_take l i (by omega)
      have hll := HLEN.out
      have hpl : prods (l.take i) ≤ 1000 := Nat.le_trans List.countP_le_length (by rw [List.length_take]; omega)
      generalize hP : prods (l.take i) = P at *
      have HPT := Aside0.mk hpt
      have hib : i < 1000 := by omega
      clear hP hpt hm
      by_cases h3 : (zaa l (i : Int)).f0 = 3
      · have c2 : ((zaa l (i : Int)).f0 == 3) = true := beq_iff_eq.mpr h3
        have HF := Aside0.mk h3
        clear h3
        go_wp2_with ((with_reducible refine zal (N := 7) rfl ?_); refine zam ?hg (N := 7) ?hd (cs := #[.int .i64 0, .int .i64 0, .int .i64 0]) (t := 69) ?hr ?_; (case hd => rfl); (case hg => rfl); (case hr => first | (go_simp; done) | (go_simp; rfl)); intro gb hg_ w5 hbox_ hb_; have H5 := Aside0.mk ((H4.out).box_new hbox_ hb_ hg_); clear hbox_ hb_ hg_; have hsgb_0 : w5.cell? ⟨gb, 0, none⟩ = some (.int .i64 0) := (H5.out).box_cell (i := 0) rfl 0 rfl; have hfgb_0 := za8 ((H5.out).box_at (i := 0) rfl) 0; have hsgb_1 : w5.cell? ⟨gb, 1, none⟩ = some (.int .i64 0) := (H5.out).box_cell (i := 0) rfl 1 rfl; have hfgb_1 := za8 ((H5.out).box_at (i := 0) rfl) 1; have hsgb_2 : w5.cell? ⟨gb, 2, none⟩ = some (.int .i64 0) := (H5.out).box_cell (i := 0) rfl 2 rfl; have hfgb_2 := za8 ((H5.out).box_at (i := 0) rfl) 2)
        go_roundg d
        case measure => omega
        case rel => exact ⟨i + 1, by have := HPT.out; rw [if_pos HF.out] at this; rw [this]; go_num, by go_num, ⟨by have := HM.out; omega⟩, ⟨(((H5.out.box_set (i := 0) rfl 0 _ rfl).box_set (i := 0) rfl 1 _ rfl).box_set (i := 0) rfl 2 _ rfl).drop⟩⟩
      · have c2 : ((zaa l (i : Int)).f0 == 3) = false := beq_eq_false_iff_ne.mpr h3
        have HF := Aside0.mk h3
        clear h3
        go_wp2_with ((with_reducible refine zal (N := 7) rfl ?_); refine zam ?hg (N := 7) ?hd (cs := #[.int .i64 0, .int .i64 0, .int .i64 0]) (t := 69) ?hr ?_; (case hd => rfl); (case hg => rfl); (case hr => first | (go_simp; done) | (go_simp; rfl)); intro gb hg_ w5 hbox_ hb_; have H5 := Aside0.mk ((H4.out).box_new hbox_ hb_ hg_); clear hbox_ hb_ hg_; have hsgb_0 : w5.cell? ⟨gb, 0, none⟩ = some (.int .i64 0) := (H5.out).box_cell (i := 0) rfl 0 rfl; have hfgb_0 := za8 ((H5.out).box_at (i := 0) rfl) 0; have hsgb_1 : w5.cell? ⟨gb, 1, none⟩ = some (.int .i64 0) := (H5.out).box_cell (i := 0) rfl 1 rfl; have hfgb_1 := za8 ((H5.out).box_at (i := 0) rfl) 1; have hsgb_2 : w5.cell? ⟨gb, 2, none⟩ = some (.int .i64 0) := (H5.out).box_cell (i := 0) rfl 2 rfl; have hfgb_2 := za8 ((H5.out).box_at (i := 0) rfl) 2)
        go_roundg d
        case measure => omega
        case rel => exact ⟨i + 1, by have := HPT.out; rw [if_neg HF.out] at this; rw [this]; rfl, by go_num, ⟨by have := HM.out; omega⟩, ⟨(((H5.out.box_set (i := 0) rfl 0 _ rfl).box_set (i := 0) rfl 1 _ rfl).box_set (i := 0) rfl 2 _ rfl).drop⟩⟩

def impl_giantProducts.f (a0 a1 : Int) : Option Int := if 0 ≤ a0 ∧ a0 ≤ 16 ∧ 1 ≤ a1 ∧ a1 ≤ 17 then some (gpN a0.toNat a1.toNat) else none
theorem impl_giantProducts.calls (a0 a1 r : Int) (w : World) (h : impl_giantProducts.f a0 a1 = some r) :
    Calls Try.prog 63 #[.int .i64 a0, .int .i64 a1] w fun e w' => e = .returned (.int .i64 r) ∧ Below w.heap.size w w' := by
  unfold impl_giantProducts.f at h
  split at h
  · rename_i hc
    obtain rfl := Option.some.inj h
    have := giantProducts_calls a0.toNat a1.toNat w (by omega) (by omega) (by omega)
    rwa [Int.toNat_of_nonneg (by omega), Int.toNat_of_nonneg (by omega)] at this
  · cases h

/-! ### spec_BestGiant: function 22 -/
def spec_BestGiant.l0 : Nat → Int → Int → Int → Option (Int × Bool)
  | 0, _, _, _ => none
  | k + 1, x0, x4, x5 => if x5 ≤ 17 then ((spec_poProducts.f k x0 x5).bind fun t746 => ((spec_poProducts.f k x0 x4).bind fun t747 => (if t746 < t747 then (spec_BestGiant.l0 k x0 x5 (wrap64 (x5 + 1))) else (spec_BestGiant.l0 k x0 x4 (wrap64 (x5 + 1)))))) else (some (x4, true))
def spec_BestGiant.f (k : Nat) (a0 : Int) : Option (Int × Bool) := (spec_l1In.f a0 0 16).bind fun t745 => (if t745 = true then (spec_BestGiant.l0 k a0 1 2) else (some (0, false)))
theorem spec_BestGiant.zb1 : ∀ k, (∀ y0 y1 y2, LeO (spec_BestGiant.l0 k y0 y1 y2) (spec_BestGiant.l0 (k + 1) y0 y1 y2))
  | 0 => fun _ _ _ r h => by simp [spec_BestGiant.l0] at h
  | k + 1 => by
    have ih0 := spec_BestGiant.zb1 k
    · intro y0 y1 y2
      unfold spec_BestGiant.l0
      repeat' first
      | (with_reducible exact ih0 _ _ _)
      | (with_reducible exact spec_poProducts.mono _ _ _)
      | (with_reducible exact LeO.refl _)
      | (with_reducible exact LeO.none _)
      | (with_reducible refine LeO.ite ?_ ?_)
      | (with_reducible refine LeO.bind ?_ (fun _ => ?_))
      | exact ih0 _ _ _
      | exact spec_poProducts.mono _ _ _
      | exact LeO.none _
      | refine LeO.ite ?_ ?_
      | refine LeO.bind ?_ (fun _ => ?_)
theorem spec_BestGiant.mono : ∀ a0 k, LeO (spec_BestGiant.f k a0) (spec_BestGiant.f (k + 1) a0) := by
  intro a0 k
  have ih0 := spec_BestGiant.zb1 k
  unfold spec_BestGiant.f
  repeat' first
      | (with_reducible exact ih0 _ _ _)
      | (with_reducible exact spec_poProducts.mono _ _ _)
      | (with_reducible exact LeO.refl _)
      | (with_reducible exact LeO.none _)
      | (with_reducible refine LeO.ite ?_ ?_)
      | (with_reducible refine LeO.bind ?_ (fun _ => ?_))
      | exact ih0 _ _ _
      | exact spec_poProducts.mono _ _ _
      | exact LeO.none _
      | refine LeO.ite ?_ ?_
      | refine LeO.bind ?_ (fun _ => ?_)
set_option maxHeartbeats 8000000 in
set_option maxRecDepth 100000 in
theorem spec_BestGiant.calls (k : Nat) (a0 : Int) (r1 : Int) (r2 : Bool) (w : World) (h : spec_BestGiant.f k a0 = some (r1, r2)) :
    Calls Try.prog 22 #[.int .i64 a0] w fun e w' => e = .returned (.tuple #[.int .i64 r1, .bool r2]) ∧ Below w.heap.size w w' := by
  have HB := Aside0.mk (Below.refl w.heap.size w)
  have H : ((spec_l1In.f a0 0 16).bind fun t745 => (if t745 = true then (spec_BestGiant.l0 k a0 1 2) else (some (0, false)))) = some (r1, r2) := h
  clear h
  replace H := Option.bind_eq_some_iff.mp H
  obtain ⟨t745, A20, H⟩ := H
  replace H : (if t745 = true then (spec_BestGiant.l0 k a0 1 2) else (some (0, false))) = some (r1, r2) := H
  have A2 := Aside0.mk A20
  clear A20
  by_cases c3 : t745 = true
  · subst c3
    have H1 : (spec_BestGiant.l0 k a0 1 2) = some (r1, r2) := by rw [if_pos rfl] at H; exact H
    clear H
    have H := H1
    clear H1
    have H' := Aside0.mk H
    clear H
    go_enter Try.func22, Try.ntmps22
    go_wp2_with (first | ((with_reducible refine zaf (f := 59) rfl ?_); refine zax (some 7) rfl rfl Try.func59 (by kernel_rfl) rfl #[.int .i64 a0, .int .i64 0, .int .i64 16] rfl (by (try simp only [List.map_toArray, List.map_cons, List.map_nil]); first | done | rfl | (simp only [List.length_drop, List.length_take]; rfl)) ?_; (with_reducible refine (spec_l1In.calls a0 0 16 true _ A2.out).mono ?_); rintro e w' ⟨rfl, ⟨nd, rfl⟩⟩; refine ⟨_, rfl, ?_⟩))
    go_loopg [4, 5] k (fun kq v4 v5 w' => ∃ (x4_1 : Int) (x5_1 : Int), v4 = .int .i64 x4_1 ∧ v5 = .int .i64 x5_1 ∧ Aside0 (spec_BestGiant.l0 kq a0 x4_1 x5_1 = some (r1, r2)) ∧ Aside0 (kq ≤ k) ∧ Aside0 (Below w.heap.size w w'))
    case atStart => exact ⟨(1), (2), (by first | rfl | (simp; done) | (simp [*]; done)), (by first | rfl | (simp; done) | (simp [*]; done)), H', ⟨Nat.le_refl _⟩, ⟨by repeat (first | (with_reducible first | exact HB.out | apply za2 | apply za0 | apply za1) | exact HB.out)⟩⟩
    case round =>
      clear H'
      try clear c2
      try clear p2
      try clear c3
      obtain ⟨x4_1, x5_1, rfl, rfl, HA, HK1, HB⟩ := hrel
      cases gk with
      | zero => exact absurd HA.out (by simp [spec_BestGiant.l0])
      | succ k1 =>
        have H := HA.out
        clear HA
        simp only [spec_BestGiant.l0] at H
        by_cases c4 : x5_1 ≤ 17
        · rw [if_pos c4] at H
          have c4b0 : decide (x5_1 ≤ 17) = true := decide_eq_true c4
          clear c4
          replace H := Option.bind_eq_some_iff.mp H
          obtain ⟨t746, A50, H⟩ := H
          replace H : ((spec_poProducts.f k1 a0 x4_1).bind fun t747 => (if t746 < t747 then (spec_BestGiant.l0 k1 a0 x5_1 (wrap64 (x5_1 + 1))) else (spec_BestGiant.l0 k1 a0 x4_1 (wrap64 (x5_1 + 1))))) = some (r1, r2) := H
          have A5 := Aside0.mk A50
          clear A50
          replace H := Option.bind_eq_some_iff.mp H
          obtain ⟨t747, A60, H⟩ := H
          replace H : (if t746 < t747 then (spec_BestGiant.l0 k1 a0 x5_1 (wrap64 (x5_1 + 1))) else (spec_BestGiant.l0 k1 a0 x4_1 (wrap64 (x5_1 + 1)))) = some (r1, r2) := H
          have A6 := Aside0.mk A60
          clear A60
          by_cases c7 : t746 < t747
          · rw [if_pos c7] at H
            have c7b0 : decide (t746 < t747) = true := decide_eq_true c7
            clear c7
            have H' := Aside0.mk H
            clear H
            go_wp2_with (first | ((with_reducible refine zaf (f := 60) rfl ?_); refine zax (some 15) rfl rfl Try.func60 (by kernel_rfl) rfl #[.int .i64 a0, .int .i64 x5_1] rfl (by (try simp only [List.map_toArray, List.map_cons, List.map_nil]); first | done | rfl | (simp only [List.length_drop, List.length_take]; rfl)) ?_; (with_reducible refine (spec_poProducts.calls k1 a0 x5_1 t746 _ A5.out).mono ?_); rintro e w8 ⟨rfl, hb⟩; refine ⟨_, rfl, ?_⟩; have n0_ := Aside0.mk (zab (by repeat (first | (with_reducible first | exact HB.out | apply za2 | apply za0 | apply za1) | exact HB.out)) hb); clear HB; have HB := n0_; clear n0_; (try clear hb); (try clear hb2); (try clear hk); (try clear hi)) | ((with_reducible refine zaf (f := 60) rfl ?_); refine zax (some 18) rfl rfl Try.func60 (by kernel_rfl) rfl #[.int .i64 a0, .int .i64 x4_1] rfl (by (try simp only [List.map_toArray, List.map_cons, List.map_nil]); first | done | rfl | (simp only [List.length_drop, List.length_take]; rfl)) ?_; (with_reducible refine (spec_poProducts.calls k1 a0 x4_1 t747 _ A6.out).mono ?_); rintro e w9 ⟨rfl, hb⟩; refine ⟨_, rfl, ?_⟩; have n0_ := Aside0.mk (zab (by repeat (first | (with_reducible first | exact HB.out | apply za2 | apply za0 | apply za1) | exact HB.out)) hb); clear HB; have HB := n0_; clear n0_; (try clear hb); (try clear hb2); (try clear hk); (try clear hi)))
            go_roundg k1
            case measure => have := HK1.out; omega
            case rel => exact ⟨(x5_1), (wrap64 (x5_1 + 1)), (by first | rfl | (simp; done) | (simp [*]; done)), (by first | rfl | (simp; done) | (simp [*]; done)), H', ⟨by have := HK1.out; omega⟩, ⟨by repeat (first | (with_reducible first | exact HB.out | apply za2 | apply za0 | apply za1) | exact HB.out)⟩⟩
          · rw [if_neg c7] at H
            have c7b0 : decide (t746 < t747) = false := decide_eq_false c7
            clear c7
            have H' := Aside0.mk H
            clear H
            go_wp2_with (first | ((with_reducible refine zaf (f := 60) rfl ?_); refine zax (some 15) rfl rfl Try.func60 (by kernel_rfl) rfl #[.int .i64 a0, .int .i64 x5_1] rfl (by (try simp only [List.map_toArray, List.map_cons, List.map_nil]); first | done | rfl | (simp only [List.length_drop, List.length_take]; rfl)) ?_; (with_reducible refine (spec_poProducts.calls k1 a0 x5_1 t746 _ A5.out).mono ?_); rintro e w10 ⟨rfl, hb⟩; refine ⟨_, rfl, ?_⟩; have n0_ := Aside0.mk (zab (by repeat (first | (with_reducible first | exact HB.out | apply za2 | apply za0 | apply za1) | exact HB.out)) hb); clear HB; have HB := n0_; clear n0_; (try clear hb); (try clear hb2); (try clear hk); (try clear hi)) | ((with_reducible refine zaf (f := 60) rfl ?_); refine zax (some 18) rfl rfl Try.func60 (by kernel_rfl) rfl #[.int .i64 a0, .int .i64 x4_1] rfl (by (try simp only [List.map_toArray, List.map_cons, List.map_nil]); first | done | rfl | (simp only [List.length_drop, List.length_take]; rfl)) ?_; (with_reducible refine (spec_poProducts.calls k1 a0 x4_1 t747 _ A6.out).mono ?_); rintro e w11 ⟨rfl, hb⟩; refine ⟨_, rfl, ?_⟩; have n0_ := Aside0.mk (zab (by repeat (first | (with_reducible first | exact HB.out | apply za2 | apply za0 | apply za1) | exact HB.out)) hb); clear HB; have HB := n0_; clear n0_; (try clear hb); (try clear hb2); (try clear hk); (try clear hi)))
            go_roundg k1
            case measure => have := HK1.out; omega
            case rel => exact ⟨(x4_1), (wrap64 (x5_1 + 1)), (by first | rfl | (simp; done) | (simp [*]; done)), (by first | rfl | (simp; done) | (simp [*]; done)), H', ⟨by have := HK1.out; omega⟩, ⟨by repeat (first | (with_reducible first | exact HB.out | apply za2 | apply za0 | apply za1) | exact HB.out)⟩⟩
        · rw [if_neg c4] at H
          have c4b0 : decide (x5_1 ≤ 17) = false := decide_eq_false c4
          clear c4
          simp only [Option.some.injEq, Prod.mk.injEq] at H
          obtain ⟨rfl, rfl⟩ := H
          go_wp2
          go_ret2
          exact ⟨by first | rfl | (simp [zad, zac] <;> rfl) | (simp [*, zad, zac] <;> rfl), by repeat (first | (with_reducible first | exact HB.out | apply za2 | apply za0 | apply za1) | exact HB.out)⟩
  · replace c3 := Bool.eq_false_iff.mpr c3
    subst c3
    have H1 : (some (0, false)) = some (r1, r2) := by rw [if_neg (show ¬ (false = true) by decide)] at H; exact H
    clear H
    have H := H1
    clear H1
    simp only [Option.some.injEq, Prod.mk.injEq] at H
    obtain ⟨rfl, rfl⟩ := H
    go_enter Try.func22, Try.ntmps22
    go_wp2_with (first | ((with_reducible refine zaf (f := 59) rfl ?_); refine zax (some 7) rfl rfl Try.func59 (by kernel_rfl) rfl #[.int .i64 a0, .int .i64 0, .int .i64 16] rfl (by (try simp only [List.map_toArray, List.map_cons, List.map_nil]); first | done | rfl | (simp only [List.length_drop, List.length_take]; rfl)) ?_; (with_reducible refine (spec_l1In.calls a0 0 16 false _ A2.out).mono ?_); rintro e w' ⟨rfl, ⟨nd, rfl⟩⟩; refine ⟨_, rfl, ?_⟩))
    go_ret2
    exact ⟨by first | rfl | (simp [zad, zac] <;> rfl) | (simp [*, zad, zac] <;> rfl), by repeat (first | (with_reducible first | exact HB.out | apply za2 | apply za0 | apply za1) | exact HB.out)⟩

/-! ### impl_BestGiant: function 23 -/
def impl_BestGiant.l0 : Nat → Int → Int → Int → Option (Int × Bool)
  | 0, _, _, _ => none
  | k + 1, x0, x4, x5 => if x5 ≤ 17 then ((impl_giantProducts.f x0 x5).bind fun t749 => ((impl_giantProducts.f x0 x4).bind fun t750 => (if t749 < t750 then (impl_BestGiant.l0 k x0 x5 (wrap64 (x5 + 1))) else (impl_BestGiant.l0 k x0 x4 (wrap64 (x5 + 1)))))) else (some (x4, true))
def impl_BestGiant.f (k : Nat) (a0 : Int) : Option (Int × Bool) := (impl_degreeOk.f a0).bind fun t748 => (if t748 = true then (impl_BestGiant.l0 k a0 1 2) else (some (0, false)))
theorem impl_BestGiant.zb1 : ∀ k, (∀ y0 y1 y2, LeO (impl_BestGiant.l0 k y0 y1 y2) (impl_BestGiant.l0 (k + 1) y0 y1 y2))
  | 0 => fun _ _ _ r h => by simp [impl_BestGiant.l0] at h
  | k + 1 => by
    have ih0 := impl_BestGiant.zb1 k
    · intro y0 y1 y2
      unfold impl_BestGiant.l0
      repeat' first
      | (with_reducible exact ih0 _ _ _)
      | (with_reducible exact LeO.refl _)
      | (with_reducible exact LeO.none _)
      | (with_reducible refine LeO.ite ?_ ?_)
      | (with_reducible refine LeO.bind ?_ (fun _ => ?_))
      | exact ih0 _ _ _
      | exact LeO.none _
      | refine LeO.ite ?_ ?_
      | refine LeO.bind ?_ (fun _ => ?_)
theorem impl_BestGiant.mono : ∀ a0 k, LeO (impl_BestGiant.f k a0) (impl_BestGiant.f (k + 1) a0) := by
  intro a0 k
  have ih0 := impl_BestGiant.zb1 k
  unfold impl_BestGiant.f
  repeat' first
      | (with_reducible exact ih0 _ _ _)
      | (with_reducible exact LeO.refl _)
      | (with_reducible exact LeO.none _)
      | (with_reducible refine LeO.ite ?_ ?_)
      | (with_reducible refine LeO.bind ?_ (fun _ => ?_))
      | exact ih0 _ _ _
      | exact LeO.none _
      | refine LeO.ite ?_ ?_
      | refine LeO.bind ?_ (fun _ => ?_)
set_option maxHeartbeats 8000000 in
set_option maxRecDepth 100000 in
theorem impl_BestGiant.calls (k : Nat) (a0 : Int) (r1 : Int) (r2 : Bool) (w : World) (h : impl_BestGiant.f k a0 = some (r1, r2)) :
    Calls Try.prog 23 #[.int .i64 a0] w fun e w' => e = .returned (.tuple #[.int .i64 r1, .bool r2]) ∧ Below w.heap.size w w' := by
  have HB := Aside0.mk (Below.refl w.heap.size w)
  have H : ((impl_degreeOk.f a0).bind fun t748 => (if t748 = true then (impl_BestGiant.l0 k a0 1 2) else (some (0, false)))) = some (r1, r2) := h
  clear h
  replace H := Option.bind_eq_some_iff.mp H
  obtain ⟨t748, A20, H⟩ := H
  replace H : (if t748 = true then (impl_BestGiant.l0 k a0 1 2) else (some (0, false))) = some (r1, r2) := H
  have A2 := Aside0.mk A20
  clear A20
  by_cases c3 : t748 = true
  · subst c3
    have H1 : (impl_BestGiant.l0 k a0 1 2) = some (r1, r2) := by rw [if_pos rfl] at H; exact H
    clear H
    have H := H1
    clear H1
    have H' := Aside0.mk H
    clear H
    go_enter Try.func23, Try.ntmps23
    go_wp2_with (first | ((with_reducible refine zaf (f := 61) rfl ?_); refine zax (some 7) rfl rfl Try.func61 (by kernel_rfl) rfl #[.int .i64 a0] rfl (by (try simp only [List.map_toArray, List.map_cons, List.map_nil]); first | done | rfl | (simp only [List.length_drop, List.length_take]; rfl)) ?_; (with_reducible refine (impl_degreeOk.calls a0 true _ A2.out).mono ?_); rintro e w' ⟨rfl, ⟨nd, rfl⟩⟩; refine ⟨_, rfl, ?_⟩))
    go_loopg [4, 5] k (fun kq v4 v5 w' => ∃ (x4_1 : Int) (x5_1 : Int), v4 = .int .i64 x4_1 ∧ v5 = .int .i64 x5_1 ∧ Aside0 (impl_BestGiant.l0 kq a0 x4_1 x5_1 = some (r1, r2)) ∧ Aside0 (kq ≤ k) ∧ Aside0 (Below w.heap.size w w'))
    case atStart => exact ⟨(1), (2), (by first | rfl | (simp; done) | (simp [*]; done)), (by first | rfl | (simp; done) | (simp [*]; done)), H', ⟨Nat.le_refl _⟩, ⟨by repeat (first | (with_reducible first | exact HB.out | apply za2 | apply za0 | apply za1) | exact HB.out)⟩⟩
    case round =>
      clear H'
      try clear c2
      try clear p2
      try clear c3
      obtain ⟨x4_1, x5_1, rfl, rfl, HA, HK1, HB⟩ := hrel
      cases gk with
      | zero => exact absurd HA.out (by simp [impl_BestGiant.l0])
      | succ k1 =>
        have H := HA.out
        clear HA
        simp only [impl_BestGiant.l0] at H
        by_cases c4 : x5_1 ≤ 17
        · rw [if_pos c4] at H
          have c4b0 : decide (x5_1 ≤ 17) = true := decide_eq_true c4
          clear c4
          replace H := Option.bind_eq_some_iff.mp H
          obtain ⟨t749, A50, H⟩ := H
          replace H : ((impl_giantProducts.f a0 x4_1).bind fun t750 => (if t749 < t750 then (impl_BestGiant.l0 k1 a0 x5_1 (wrap64 (x5_1 + 1))) else (impl_BestGiant.l0 k1 a0 x4_1 (wrap64 (x5_1 + 1))))) = some (r1, r2) := H
          have A5 := Aside0.mk A50
          clear A50
          replace H := Option.bind_eq_some_iff.mp H
          obtain ⟨t750, A60, H⟩ := H
          replace H : (if t749 < t750 then (impl_BestGiant.l0 k1 a0 x5_1 (wrap64 (x5_1 + 1))) else (impl_BestGiant.l0 k1 a0 x4_1 (wrap64 (x5_1 + 1)))) = some (r1, r2) := H
          have A6 := Aside0.mk A60
          clear A60
          by_cases c7 : t749 < t750
          · rw [if_pos c7] at H
            have c7b0 : decide (t749 < t750) = true := decide_eq_true c7
            clear c7
            have H' := Aside0.mk H
            clear H
            go_wp2_with (first | ((with_reducible refine zaf (f := 63) rfl ?_); refine zax (some 15) rfl rfl Try.func63 (by kernel_rfl) rfl #[.int .i64 a0, .int .i64 x5_1] rfl (by (try simp only [List.map_toArray, List.map_cons, List.map_nil]); first | done | rfl | (simp only [List.length_drop, List.length_take]; rfl)) ?_; (with_reducible refine (impl_giantProducts.calls a0 x5_1 t749 _ A5.out).mono ?_); rintro e w8 ⟨rfl, hb⟩; refine ⟨_, rfl, ?_⟩; have n0_ := Aside0.mk (zab (by repeat (first | (with_reducible first | exact HB.out | apply za2 | apply za0 | apply za1) | exact HB.out)) hb); clear HB; have HB := n0_; clear n0_; (try clear hb); (try clear hb2); (try clear hk); (try clear hi)) | ((with_reducible refine zaf (f := 63) rfl ?_); refine zax (some 18) rfl rfl Try.func63 (by kernel_rfl) rfl #[.int .i64 a0, .int .i64 x4_1] rfl (by (try simp only [List.map_toArray, List.map_cons, List.map_nil]); first | done | rfl | (simp only [List.length_drop, List.length_take]; rfl)) ?_; (with_reducible refine (impl_giantProducts.calls a0 x4_1 t750 _ A6.out).mono ?_); rintro e w9 ⟨rfl, hb⟩; refine ⟨_, rfl, ?_⟩; have n0_ := Aside0.mk (zab (by repeat (first | (with_reducible first | exact HB.out | apply za2 | apply za0 | apply za1) | exact HB.out)) hb); clear HB; have HB := n0_; clear n0_; (try clear hb); (try clear hb2); (try clear hk); (try clear hi)))
            go_roundg k1
            case measure => have := HK1.out; omega
            case rel => exact ⟨(x5_1), (wrap64 (x5_1 + 1)), (by first | rfl | (simp; done) | (simp [*]; done)), (by first | rfl | (simp; done) | (simp [*]; done)), H', ⟨by have := HK1.out; omega⟩, ⟨by repeat (first | (with_reducible first | exact HB.out | apply za2 | apply za0 | apply za1) | exact HB.out)⟩⟩
          · rw [if_neg c7] at H
            have c7b0 : decide (t749 < t750) = false := decide_eq_false c7
            clear c7
            have H' := Aside0.mk H
            clear H
            go_wp2_with (first | ((with_reducible refine zaf (f := 63) rfl ?_); refine zax (some 15) rfl rfl Try.func63 (by kernel_rfl) rfl #[.int .i64 a0, .int .i64 x5_1] rfl (by (try simp only [List.map_toArray, List.map_cons, List.map_nil]); first | done | rfl | (simp only [List.length_drop, List.length_take]; rfl)) ?_; (with_reducible refine (impl_giantProducts.calls a0 x5_1 t749 _ A5.out).mono ?_); rintro e w10 ⟨rfl, hb⟩; refine ⟨_, rfl, ?_⟩; have n0_ := Aside0.mk (zab (by repeat (first | (with_reducible first | exact HB.out | apply za2 | apply za0 | apply za1) | exact HB.out)) hb); clear HB; have HB := n0_; clear n0_; (try clear hb); (try clear hb2); (try clear hk); (try clear hi)) | ((with_reducible refine zaf (f := 63) rfl ?_); refine zax (some 18) rfl rfl Try.func63 (by kernel_rfl) rfl #[.int .i64 a0, .int .i64 x4_1] rfl (by (try simp only [List.map_toArray, List.map_cons, List.map_nil]); first | done | rfl | (simp only [List.length_drop, List.length_take]; rfl)) ?_; (with_reducible refine (impl_giantProducts.calls a0 x4_1 t750 _ A6.out).mono ?_); rintro e w11 ⟨rfl, hb⟩; refine ⟨_, rfl, ?_⟩; have n0_ := Aside0.mk (zab (by repeat (first | (with_reducible first | exact HB.out | apply za2 | apply za0 | apply za1) | exact HB.out)) hb); clear HB; have HB := n0_; clear n0_; (try clear hb); (try clear hb2); (try clear hk); (try clear hi)))
            go_roundg k1
            case measure => have := HK1.out; omega
            case rel => exact ⟨(x4_1), (wrap64 (x5_1 + 1)), (by first | rfl | (simp; done) | (simp [*]; done)), (by first | rfl | (simp; done) | (simp [*]; done)), H', ⟨by have := HK1.out; omega⟩, ⟨by repeat (first | (with_reducible first | exact HB.out | apply za2 | apply za0 | apply za1) | exact HB.out)⟩⟩
        · rw [if_neg c4] at H
          have c4b0 : decide (x5_1 ≤ 17) = false := decide_eq_false c4
          clear c4
          simp only [Option.some.injEq, Prod.mk.injEq] at H
          obtain ⟨rfl, rfl⟩ := H
          go_wp2
          go_ret2
          exact ⟨by first | rfl | (simp [zad, zac] <;> rfl) | (simp [*, zad, zac] <;> rfl), by repeat (first | (with_reducible first | exact HB.out | apply za2 | apply za0 | apply za1) | exact HB.out)⟩
  · replace c3 := Bool.eq_false_iff.mpr c3
    subst c3
    have H1 : (some (0, false)) = some (r1, r2) := by rw [if_neg (show ¬ (false = true) by decide)] at H; exact H
    clear H
    have H := H1
    clear H1
    simp only [Option.some.injEq, Prod.mk.injEq] at H
    obtain ⟨rfl, rfl⟩ := H
    go_enter Try.func23, Try.ntmps23
    go_wp2_with (first | ((with_reducible refine zaf (f := 61) rfl ?_); refine zax (some 7) rfl rfl Try.func61 (by kernel_rfl) rfl #[.int .i64 a0] rfl (by (try simp only [List.map_toArray, List.map_cons, List.map_nil]); first | done | rfl | (simp only [List.length_drop, List.length_take]; rfl)) ?_; (with_reducible refine (impl_degreeOk.calls a0 false _ A2.out).mono ?_); rintro e w' ⟨rfl, ⟨nd, rfl⟩⟩; refine ⟨_, rfl, ?_⟩))
    go_ret2
    exact ⟨by first | rfl | (simp [zad, zac] <;> rfl) | (simp [*, zad, zac] <;> rfl), by repeat (first | (with_reducible first | exact HB.out | apply za2 | apply za0 | apply za1) | exact HB.out)⟩

/-! ### laws_FnExactBestGiant: function 5 -/
def laws_FnExactBestGiant.f (k : Nat) (a0 : Int) : Option (Bool) := (spec_BestGiant.f k a0).bind fun bt751 => ((impl_BestGiant.f k a0).bind fun bt753 => (if bt753.1 = bt751.1 then (if (bt753.2 != bt751.2) = true then (some false) else (some true)) else (some false)))
theorem laws_FnExactBestGiant.mono : ∀ a0 k, LeO (laws_FnExactBestGiant.f k a0) (laws_FnExactBestGiant.f (k + 1) a0) := by
  intro a0 k
  unfold laws_FnExactBestGiant.f
  repeat' first
      | (with_reducible exact impl_BestGiant.mono _ _)
      | (with_reducible exact spec_BestGiant.mono _ _)
      | (with_reducible exact LeO.refl _)
      | (with_reducible exact LeO.none _)
      | (with_reducible refine LeO.ite ?_ ?_)
      | (with_reducible refine LeO.bind ?_ (fun _ => ?_))
      | exact impl_BestGiant.mono _ _
      | exact spec_BestGiant.mono _ _
      | exact LeO.none _
      | refine LeO.ite ?_ ?_
      | refine LeO.bind ?_ (fun _ => ?_)
set_option maxHeartbeats 8000000 in
set_option maxRecDepth 100000 in
theorem laws_FnExactBestGiant.calls (k : Nat) (a0 : Int) (r : Bool) (w : World) (h : laws_FnExactBestGiant.f k a0 = some r) :
    Calls Try.prog 5 #[.int .i64 a0] w fun e w' => e = .returned (.bool r) ∧ Below w.heap.size w w' := by
  have HB := Aside0.mk (Below.refl w.heap.size w)
  have H : ((spec_BestGiant.f k a0).bind fun bt751 => ((impl_BestGiant.f k a0).bind fun bt753 => (if bt753.1 = bt751.1 then (if (bt753.2 != bt751.2) = true then (some false) else (some true)) else (some false)))) = some r := h
  clear h
  replace H := Option.bind_eq_some_iff.mp H
  obtain ⟨⟨t751, t752⟩, A20, H⟩ := H
  replace H : ((impl_BestGiant.f k a0).bind fun bt753 => (if bt753.1 = t751 then (if (bt753.2 != t752) = true then (some false) else (some true)) else (some false))) = some r := H
  have A2 := Aside0.mk A20
  clear A20
  replace H := Option.bind_eq_some_iff.mp H
  obtain ⟨⟨t753, t754⟩, A30, H⟩ := H
  replace H : (if t753 = t751 then (if (t754 != t752) = true then (some false) else (some true)) else (some false)) = some r := H
  have A3 := Aside0.mk A30
  clear A30
  by_cases c4 : t753 = t751
  · rw [if_pos c4] at H
    have c4b0 : (t753 == t751) = true := beq_iff_eq.mpr c4
    have c4b1 : (t753 != t751) = false := bne_eq_false_iff_eq.mpr c4
    clear c4
    by_cases c5 : (t754 != t752) = true
    · rw [if_pos c5] at H
      have c5b0 : (t754 != t752) = true := c5
      (try (have c5b1 : decide (t754 = t752) = false := by simpa using c5))
      (try (have c5b2 : (t754 == t752) = false := by simpa using c5))
      (try (have c5b3 : ¬ (t754 = t752) := by simpa using c5))
      clear c5
      obtain rfl := Option.some.inj H
      go_enter Try.func5, Try.ntmps5
      go_wp2_with (first | ((with_reducible refine zaf (f := 22) rfl ?_); refine zax (some 9) rfl rfl Try.func22 (by kernel_rfl) rfl #[.int .i64 a0] rfl (by (try simp only [List.map_toArray, List.map_cons, List.map_nil]); first | done | rfl | (simp only [List.length_drop, List.length_take]; rfl)) ?_; (with_reducible refine (spec_BestGiant.calls k a0 t751 t752 _ A2.out).mono ?_); rintro e w6 ⟨rfl, hb⟩; refine ⟨_, rfl, ?_⟩; have n0_ := Aside0.mk (zab (by repeat (first | (with_reducible first | exact HB.out | apply za2 | apply za0 | apply za1) | exact HB.out)) hb); clear HB; have HB := n0_; clear n0_; (try clear hb); (try clear hb2); (try clear hk); (try clear hi)) | ((with_reducible refine zaf (f := 23) rfl ?_); refine zax (some 14) rfl rfl Try.func23 (by kernel_rfl) rfl #[.int .i64 a0] rfl (by (try simp only [List.map_toArray, List.map_cons, List.map_nil]); first | done | rfl | (simp only [List.length_drop, List.length_take]; rfl)) ?_; (with_reducible refine (impl_BestGiant.calls k a0 t753 t754 _ A3.out).mono ?_); rintro e w7 ⟨rfl, hb⟩; refine ⟨_, rfl, ?_⟩; have n0_ := Aside0.mk (zab (by repeat (first | (with_reducible first | exact HB.out | apply za2 | apply za0 | apply za1) | exact HB.out)) hb); clear HB; have HB := n0_; clear n0_; (try clear hb); (try clear hb2); (try clear hk); (try clear hi)))
      go_ret
      exact ⟨by first | rfl | (simp [zad, zac] <;> rfl) | (simp [*, zad, zac] <;> rfl), by repeat (first | (with_reducible first | exact HB.out | apply za2 | apply za0 | apply za1) | exact HB.out)⟩
    · rw [if_neg c5] at H
      have c5b0 : (t754 != t752) = false := by simpa using c5
      (try (have c5b1 : decide (t754 = t752) = true := by simpa using c5))
      (try (have c5b2 : (t754 == t752) = true := by simpa using c5))
      clear c5
      obtain rfl := Option.some.inj H
      go_enter Try.func5, Try.ntmps5
      go_wp2_with (first | ((with_reducible refine zaf (f := 22) rfl ?_); refine zax (some 9) rfl rfl Try.func22 (by kernel_rfl) rfl #[.int .i64 a0] rfl (by (try simp only [List.map_toArray, List.map_cons, List.map_nil]); first | done | rfl | (simp only [List.length_drop, List.length_take]; rfl)) ?_; (with_reducible refine (spec_BestGiant.calls k a0 t751 t752 _ A2.out).mono ?_); rintro e w8 ⟨rfl, hb⟩; refine ⟨_, rfl, ?_⟩; have n0_ := Aside0.mk (zab (by repeat (first | (with_reducible first | exact HB.out | apply za2 | apply za0 | apply za1) | exact HB.out)) hb); clear HB; have HB := n0_; clear n0_; (try clear hb); (try clear hb2); (try clear hk); (try clear hi)) | ((with_reducible refine zaf (f := 23) rfl ?_); refine zax (some 14) rfl rfl Try.func23 (by kernel_rfl) rfl #[.int .i64 a0] rfl (by (try simp only [List.map_toArray, List.map_cons, List.map_nil]); first | done | rfl | (simp only [List.length_drop, List.length_take]; rfl)) ?_; (with_reducible refine (impl_BestGiant.calls k a0 t753 t754 _ A3.out).mono ?_); rintro e w9 ⟨rfl, hb⟩; refine ⟨_, rfl, ?_⟩; have n0_ := Aside0.mk (zab (by repeat (first | (with_reducible first | exact HB.out | apply za2 | apply za0 | apply za1) | exact HB.out)) hb); clear HB; have HB := n0_; clear n0_; (try clear hb); (try clear hb2); (try clear hk); (try clear hi)))
      go_ret
      exact ⟨by first | rfl | (simp [zad, zac] <;> rfl) | (simp [*, zad, zac] <;> rfl), by repeat (first | (with_reducible first | exact HB.out | apply za2 | apply za0 | apply za1) | exact HB.out)⟩
  · rw [if_neg c4] at H
    have c4b0 : (t753 == t751) = false := beq_eq_false_iff_ne.mpr c4
    have c4b1 : (t753 != t751) = true := bne_iff_ne.mpr c4
    obtain rfl := Option.some.inj H
    go_enter Try.func5, Try.ntmps5
    go_wp2_with (first | ((with_reducible refine zaf (f := 22) rfl ?_); refine zax (some 9) rfl rfl Try.func22 (by kernel_rfl) rfl #[.int .i64 a0] rfl (by (try simp only [List.map_toArray, List.map_cons, List.map_nil]); first | done | rfl | (simp only [List.length_drop, List.length_take]; rfl)) ?_; (with_reducible refine (spec_BestGiant.calls k a0 t751 t752 _ A2.out).mono ?_); rintro e w10 ⟨rfl, hb⟩; refine ⟨_, rfl, ?_⟩; have n0_ := Aside0.mk (zab (by repeat (first | (with_reducible first | exact HB.out | apply za2 | apply za0 | apply za1) | exact HB.out)) hb); clear HB; have HB := n0_; clear n0_; (try clear hb); (try clear hb2); (try clear hk); (try clear hi)) | ((with_reducible refine zaf (f := 23) rfl ?_); refine zax (some 14) rfl rfl Try.func23 (by kernel_rfl) rfl #[.int .i64 a0] rfl (by (try simp only [List.map_toArray, List.map_cons, List.map_nil]); first | done | rfl | (simp only [List.length_drop, List.length_take]; rfl)) ?_; (with_reducible refine (impl_BestGiant.calls k a0 t753 t754 _ A3.out).mono ?_); rintro e w11 ⟨rfl, hb⟩; refine ⟨_, rfl, ?_⟩; have n0_ := Aside0.mk (zab (by repeat (first | (with_reducible first | exact HB.out | apply za2 | apply za0 | apply za1) | exact HB.out)) hb); clear HB; have HB := n0_; clear n0_; (try clear hb); (try clear hb2); (try clear hk); (try clear hi)))
    go_ret
    exact ⟨by first | rfl | (simp [zad, zac] <;> rfl) | (simp [*, zad, zac] <;> rfl), by repeat (first | (with_reducible first | exact HB.out | apply za2 | apply za0 | apply za1) | exact HB.out)⟩

/-- THE ONE PURE STATEMENT of laws_FnExactBestGiant: yours. -/
def laws_FnExactBestGiant.Pure : Prop := ∀ (a0 : Int), (Lit.int .i64 a0).wf = true → ∃ k, laws_FnExactBestGiant.f k a0 = some true
theorem laws_FnExactBestGiant.walk (P : laws_FnExactBestGiant.Pure) (a0 : Int) (w : World) (w0 : (Lit.int .i64 a0).wf = true) :
    Calls Try.prog 5 #[.int .i64 a0] w fun e w' => e = .returned (.bool true) ∧ Below w.heap.size w w' := by
  obtain ⟨k, h⟩ := P a0 w0
  refine (laws_FnExactBestGiant.calls k a0 true w h).mono ?_
  rintro e w' ⟨rfl, hd⟩
  exact ⟨rfl, hd⟩

end Go.Proofs.Ytgglemlhombgkaa.Z
