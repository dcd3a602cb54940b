-- Written by a program of this session (wip/tools/stubprint.py): contracts by hand where the kit's print has none.
import Derived.Test.YtgglemlhombgkaaKFnExactHornerCodeQ0
import Derived.Test.YtgglemlhombgkaaKFnExactHornerCodeQ5
namespace Go.Proofs.Ytgglemlhombgkaa.Z
open Go.RowKit Go.Proofs.YtgglemlhombgkaaW.PrintWords Go.Proofs.YtgglemlhombgkaaW.PrintLast Go.Proofs.YtgglemlhombgkaaW.PrintMore
attribute [local go_sem] max2_int min2_int max_two min_two max_three min_three max_four min_four   -- for this text's walks alone
set_option linter.unusedVariables false
set_option linter.unusedSimpArgs false

/-! ### laws_szCode: function 24 -/
def laws_szCode.f (l0_0 : List (S93)) (a0_1 : Int) (a1 : Int) : Option (Int) := (laws_szOpS.f l0_0 a1).bind fun t571 => (if t571 < 0 then (some (-1)) else (some t571))
set_option maxHeartbeats 8000000 in
set_option maxRecDepth 100000 in
theorem laws_szCode.calls (A0_0 : Option Addr) (c0_0 : Nat) (l0_0 : List (S93)) (a0_1 : Int) (a1 : Int) (r : Int) (w : World) (hr0_0 : Kd.C k93 w A0_0 l0_0.length l0_0) (hc0_0 : l0_0.length ≤ c0_0) (h : laws_szCode.f l0_0 a0_1 a1 = some r) :
    Calls Try.prog 24 #[.agg #[.slice A0_0 l0_0.length c0_0, .int .i64 a0_1], .int .i64 a1] w fun e w' => e = .returned (.int .i64 r) ∧ Below w.heap.size w w' := by
  have hu34 := Try.underlying34
  have HR0_0 := Aside0.mk hr0_0
  have HC0_0 := Aside0.mk hc0_0
  clear hr0_0 hc0_0
  have HB := Aside0.mk (Below.refl w.heap.size w)
  have H : ((laws_szOpS.f l0_0 a1).bind fun t571 => (if t571 < 0 then (some (-1)) else (some t571))) = some r := h
  clear h
  replace H := Option.bind_eq_some_iff.mp H
  obtain ⟨t571, A30, H⟩ := H
  replace H : (if t571 < 0 then (some (-1)) else (some t571)) = some r := H
  have A3 := Aside0.mk A30
  clear A30
  by_cases c4 : t571 < 0
  · rw [if_pos c4] at H
    have c4b0 : decide (t571 < 0) = true := decide_eq_true c4
    clear c4
    obtain rfl := Option.some.inj H
    go_enter Try.func24, Try.ntmps24
    go_wp2_with (first | ((with_reducible refine zak (N := 2) rfl ?_); refine zam ?hg (N := 2) ?hd (cs := #[.slice A0_0 l0_0.length c0_0, .int .i64 a0_1]) (t := 34) ?hr ?_; (case hd => rfl); (case hg => rfl); (case hr => first | (go_simp; done) | (go_simp; rfl)); intro gb570 hg w5 hbox hb; have n0_ := Aside0.mk (zab (by repeat (first | (with_reducible first | exact HB.out | apply za2 | apply za0 | apply za1) | exact HB.out)) hb); have n1_ := Aside0.mk (hbox); have n2_ := Aside0.mk ((by rw [hg]; exact (za9 (by repeat (first | (with_reducible first | exact HB.out | apply za2 | apply za0 | apply za1) | exact HB.out))) : w.heap.size ≤ gb570)); have n3_ := Aside0.mk ((by rw [hg]; exact (za9 (by repeat (first | (with_reducible first | exact HB.out | apply za2 | apply za0 | apply za1) | exact HB.out))) : w.heap.size ≤ gb570)); clear HB; have HB := n0_; have BK570 := n1_; have GW570 := n2_; have GE570 := n3_; clear n0_ n1_ n2_ n3_; clear hb hbox hg; have hcz6_0 : w5.cell? ⟨gb570, 0, none⟩ = some (.slice A0_0 l0_0.length c0_0) := (za8 BK570.out 0).trans rfl; have hcz6_1 : w5.cell? ⟨gb570, 1, none⟩ = some (.int .i64 a0_1) := (za8 BK570.out 1).trans rfl; have hfz6_0 := za7 BK570.out 0; have hfz6_1 := za7 BK570.out 1) | ((with_reducible refine zaj (f := 64) rfl ?_); refine zaz (some 8) rfl rfl Try.func64 (by kernel_rfl) rfl #[.slice A0_0 l0_0.length c0_0, .int .i64 a1] rfl (by (try simp only [List.map_toArray, List.map_cons, List.map_nil]); first | done | rfl | (simp only [List.length_drop, List.length_take]; rfl)) ?_; (with_reducible refine (laws_szOpS.calls _ _ l0_0 a1 t571 _ ?side1 ?side2 A3.out).mono ?_); (case side1 => repeat (first | exact (Kd.zb3 HR0_0.out HB.out) | (with_reducible refine Kd.zao ?_ _) | (with_reducible refine Kd.zaq ?_ _) | (with_reducible refine Kd.zau ?_))); (case side2 => exact HC0_0.out); rintro e w' ⟨rfl, ⟨nd, rfl⟩⟩; refine ⟨_, rfl, ?_⟩))
    go_ret
    exact ⟨by first | rfl | (simp [zae, zad] <;> rfl) | (simp [*, zae, zad] <;> rfl), by repeat (first | (with_reducible first | exact HB.out | apply za2 | apply za0 | apply za1 | refine za3 ?_ GE570.out) | exact HB.out)⟩
  · rw [if_neg c4] at H
    have c4b0 : decide (t571 < 0) = false := decide_eq_false c4
    clear c4
    obtain rfl := Option.some.inj H
    go_enter Try.func24, Try.ntmps24
    go_wp2_with (first | ((with_reducible refine zak (N := 2) rfl ?_); refine zam ?hg (N := 2) ?hd (cs := #[.slice A0_0 l0_0.length c0_0, .int .i64 a0_1]) (t := 34) ?hr ?_; (case hd => rfl); (case hg => rfl); (case hr => first | (go_simp; done) | (go_simp; rfl)); intro gb570 hg w7 hbox hb; have n0_ := Aside0.mk (zab (by repeat (first | (with_reducible first | exact HB.out | apply za2 | apply za0 | apply za1) | exact HB.out)) hb); have n1_ := Aside0.mk (hbox); have n2_ := Aside0.mk ((by rw [hg]; exact (za9 (by repeat (first | (with_reducible first | exact HB.out | apply za2 | apply za0 | apply za1) | exact HB.out))) : w.heap.size ≤ gb570)); have n3_ := Aside0.mk ((by rw [hg]; exact (za9 (by repeat (first | (with_reducible first | exact HB.out | apply za2 | apply za0 | apply za1) | exact HB.out))) : w.heap.size ≤ gb570)); clear HB; have HB := n0_; have BK570 := n1_; have GW570 := n2_; have GE570 := n3_; clear n0_ n1_ n2_ n3_; clear hb hbox hg; have hcz8_0 : w7.cell? ⟨gb570, 0, none⟩ = some (.slice A0_0 l0_0.length c0_0) := (za8 BK570.out 0).trans rfl; have hcz8_1 : w7.cell? ⟨gb570, 1, none⟩ = some (.int .i64 a0_1) := (za8 BK570.out 1).trans rfl; have hfz8_0 := za7 BK570.out 0; have hfz8_1 := za7 BK570.out 1) | ((with_reducible refine zaj (f := 64) rfl ?_); refine zaz (some 8) rfl rfl Try.func64 (by kernel_rfl) rfl #[.slice A0_0 l0_0.length c0_0, .int .i64 a1] rfl (by (try simp only [List.map_toArray, List.map_cons, List.map_nil]); first | done | rfl | (simp only [List.length_drop, List.length_take]; rfl)) ?_; (with_reducible refine (laws_szOpS.calls _ _ l0_0 a1 t571 _ ?side1 ?side2 A3.out).mono ?_); (case side1 => repeat (first | exact (Kd.zb3 HR0_0.out HB.out) | (with_reducible refine Kd.zao ?_ _) | (with_reducible refine Kd.zaq ?_ _) | (with_reducible refine Kd.zau ?_))); (case side2 => exact HC0_0.out); rintro e w' ⟨rfl, ⟨nd, rfl⟩⟩; refine ⟨_, rfl, ?_⟩))
    go_ret
    exact ⟨by first | rfl | (simp [zae, zad] <;> rfl) | (simp [*, zae, zad] <;> rfl), by repeat (first | (with_reducible first | exact HB.out | apply za2 | apply za0 | apply za1 | refine za3 ?_ GE570.out) | exact HB.out)⟩

/-! ### laws_toOp: function 97 -/
def laws_toOp.f (a0_0 : Int) (a0_1 : Int) (a0_2 : Int) : Option (Int × Int × Int) := some (a0_0, a0_1, a0_2)
set_option maxHeartbeats 8000000 in
set_option maxRecDepth 100000 in
theorem laws_toOp.calls (a0_0 : Int) (a0_1 : Int) (a0_2 : Int) (r1 : Int) (r2 : Int) (r3 : Int) (w : World) (h : laws_toOp.f a0_0 a0_1 a0_2 = some (r1, r2, r3)) :
    Calls Try.prog 97 #[.agg #[.int .i64 a0_0, .int .i64 a0_1, .int .i64 a0_2]] w fun e w' => e = .returned (.agg #[.int .i64 r1, .int .i64 r2, .int .i64 r3]) ∧ Below w.heap.size w w' := by
  have hu93 := Try.underlying93
  have hu69 := Try.underlying69
  have HB := Aside0.mk (Below.refl w.heap.size w)
  have H : (some (a0_0, a0_1, a0_2)) = some (r1, r2, r3) := h
  clear h
  simp only [Option.some.injEq, Prod.mk.injEq] at H
  obtain ⟨rfl, rfl, rfl⟩ := H
  go_enter Try.func97, Try.ntmps97
  go_wp2_with (first | ((with_reducible refine zak (N := 1) rfl ?_); refine zam ?hg (N := 1) ?hd (cs := #[.int .i64 a0_0, .int .i64 a0_1, .int .i64 a0_2]) (t := 93) ?hr ?_; (case hd => rfl); (case hg => rfl); (case hr => first | (go_simp; done) | (go_simp; rfl)); intro gb572 hg w2 hbox hb; have n0_ := Aside0.mk (zab (by repeat (first | (with_reducible first | exact HB.out | apply za2 | apply za0 | apply za1) | exact HB.out)) hb); have n1_ := Aside0.mk (hbox); have n2_ := Aside0.mk ((by rw [hg]; exact (za9 (by repeat (first | (with_reducible first | exact HB.out | apply za2 | apply za0 | apply za1) | exact HB.out))) : w.heap.size ≤ gb572)); have n3_ := Aside0.mk ((by rw [hg]; exact (za9 (by repeat (first | (with_reducible first | exact HB.out | apply za2 | apply za0 | apply za1) | exact HB.out))) : w.heap.size ≤ gb572)); clear HB; have HB := n0_; have BK572 := n1_; have GW572 := n2_; have GE572 := n3_; clear n0_ n1_ n2_ n3_; clear hb hbox hg) | ((with_reducible refine zak (N := 2) rfl ?_); refine zam ?hg (N := 2) ?hd (cs := #[.int .i64 0, .int .i64 0, .int .i64 0]) (t := 69) ?hr ?_; (case hd => rfl); (case hg => rfl); (case hr => first | (go_simp; done) | (go_simp; rfl)); intro gb573 hg w3 hbox hb; have n0_ := Aside0.mk (zac (g := gb572) (o := .cells #[.int .i64 a0_0, .int .i64 a0_1, .int .i64 a0_2] 93 (0, 0)) (by (with_reducible repeat (first | refine za4 ?_ _ | refine za6 ?_ | refine za5 ?_ _)); exact BK572.out) hb); have n1_ := Aside0.mk (zab (by repeat (first | (with_reducible first | exact HB.out | apply za2 | apply za0 | apply za1 | refine za3 ?_ GE572.out) | exact HB.out)) hb); have n2_ := Aside0.mk (hbox); have n3_ := Aside0.mk ((by rw [hg]; exact (za9 (by repeat (first | (with_reducible first | exact HB.out | apply za2 | apply za0 | apply za1 | refine za3 ?_ GE572.out) | exact HB.out))) : w.heap.size ≤ gb573)); have n4_ := Aside0.mk ((by rw [hg]; exact (za9 (by repeat (first | (with_reducible first | exact HB.out | apply za2 | apply za0 | apply za1 | refine za3 ?_ GE572.out) | exact HB.out))) : w.heap.size ≤ gb573)); have n5_ := Aside0.mk ((by rw [hg]; exact Nat.ne_of_lt (zax (g := gb572) (o := .cells #[.int .i64 a0_0, .int .i64 a0_1, .int .i64 a0_2] 93 (0, 0)) (by (with_reducible repeat (first | refine za4 ?_ _ | refine za6 ?_ | refine za5 ?_ _)); exact BK572.out)) : gb572 ≠ gb573)); have n6_ := Aside0.mk ((by rw [hg]; exact Nat.ne_of_gt (zax (g := gb572) (o := .cells #[.int .i64 a0_0, .int .i64 a0_1, .int .i64 a0_2] 93 (0, 0)) (by (with_reducible repeat (first | refine za4 ?_ _ | refine za6 ?_ | refine za5 ?_ _)); exact BK572.out)) : gb573 ≠ gb572)); clear BK572; clear HB; have BK572 := n0_; have HB := n1_; have BK573 := n2_; have GW573 := n3_; have GE573 := n4_; have NB572_573 := n5_; have NB573_572 := n6_; clear n0_ n1_ n2_ n3_ n4_ n5_ n6_; clear hb hbox hg) | ((with_reducible refine zak (N := 3) rfl ?_); refine zam ?hg (N := 3) ?hd (cs := #[.int .i64 0, .int .i64 0, .int .i64 0]) (t := 69) ?hr ?_; (case hd => rfl); (case hg => rfl); (case hr => first | (go_simp; done) | (go_simp; rfl)); intro gb574 hg w4 hbox hb; have n0_ := Aside0.mk (zac (g := gb572) (o := .cells #[.int .i64 a0_0, .int .i64 a0_1, .int .i64 a0_2] 93 (0, 0)) (by (with_reducible repeat (first | refine za4 ?_ _ | refine za6 ?_ | refine za5 ?_ _)); exact BK572.out) hb); have n1_ := Aside0.mk (zac (g := gb573) (o := .cells #[.int .i64 0, .int .i64 0, .int .i64 0] 69 (0, 0)) (by (with_reducible repeat (first | refine za4 ?_ _ | refine za6 ?_ | refine za5 ?_ _)); exact BK573.out) hb); have n2_ := Aside0.mk (zab (by repeat (first | (with_reducible first | exact HB.out | apply za2 | apply za0 | apply za1 | refine za3 ?_ GE572.out | refine za3 ?_ GE573.out) | exact HB.out)) hb); have n3_ := Aside0.mk (hbox); have n4_ := Aside0.mk ((by rw [hg]; exact (za9 (by repeat (first | (with_reducible first | exact HB.out | apply za2 | apply za0 | apply za1 | refine za3 ?_ GE572.out | refine za3 ?_ GE573.out) | exact HB.out))) : w.heap.size ≤ gb574)); have n5_ := Aside0.mk ((by rw [hg]; exact (za9 (by repeat (first | (with_reducible first | exact HB.out | apply za2 | apply za0 | apply za1 | refine za3 ?_ GE572.out | refine za3 ?_ GE573.out) | exact HB.out))) : w.heap.size ≤ gb574)); have n6_ := Aside0.mk ((by rw [hg]; exact Nat.ne_of_lt (zax (g := gb572) (o := .cells #[.int .i64 a0_0, .int .i64 a0_1, .int .i64 a0_2] 93 (0, 0)) (by (with_reducible repeat (first | refine za4 ?_ _ | refine za6 ?_ | refine za5 ?_ _)); exact BK572.out)) : gb572 ≠ gb574)); have n7_ := Aside0.mk ((by rw [hg]; exact Nat.ne_of_gt (zax (g := gb572) (o := .cells #[.int .i64 a0_0, .int .i64 a0_1, .int .i64 a0_2] 93 (0, 0)) (by (with_reducible repeat (first | refine za4 ?_ _ | refine za6 ?_ | refine za5 ?_ _)); exact BK572.out)) : gb574 ≠ gb572)); have n8_ := Aside0.mk ((by rw [hg]; exact Nat.ne_of_lt (zax (g := gb573) (o := .cells #[.int .i64 0, .int .i64 0, .int .i64 0] 69 (0, 0)) (by (with_reducible repeat (first | refine za4 ?_ _ | refine za6 ?_ | refine za5 ?_ _)); exact BK573.out)) : gb573 ≠ gb574)); have n9_ := Aside0.mk ((by rw [hg]; exact Nat.ne_of_gt (zax (g := gb573) (o := .cells #[.int .i64 0, .int .i64 0, .int .i64 0] 69 (0, 0)) (by (with_reducible repeat (first | refine za4 ?_ _ | refine za6 ?_ | refine za5 ?_ _)); exact BK573.out)) : gb574 ≠ gb573)); clear BK572; clear BK573; clear HB; have BK572 := n0_; have BK573 := n1_; have HB := n2_; have BK574 := n3_; have GW574 := n4_; have GE574 := n5_; have NB572_574 := n6_; have NB574_572 := n7_; have NB573_574 := n8_; have NB574_573 := n9_; clear n0_ n1_ n2_ n3_ n4_ n5_ n6_ n7_ n8_ n9_; clear hb hbox hg; have hnb5 := NB572_573.out; have hnc5 := NB573_572.out; have hnb6 := NB572_574.out; have hnc6 := NB574_572.out; have hcz7_0 : w4.cell? ⟨gb572, 0, none⟩ = some (.int .i64 a0_0) := (za8 BK572.out 0).trans rfl; have hcz7_1 : w4.cell? ⟨gb572, 1, none⟩ = some (.int .i64 a0_1) := (za8 BK572.out 1).trans rfl; have hcz7_2 : w4.cell? ⟨gb572, 2, none⟩ = some (.int .i64 a0_2) := (za8 BK572.out 2).trans rfl; have hfz7_0 := za7 BK572.out 0; have hfz7_1 := za7 BK572.out 1; have hfz7_2 := za7 BK572.out 2; have hnb8 := NB574_573.out; have hnc8 := NB573_574.out; have hcz9_0 : w4.cell? ⟨gb574, 0, none⟩ = some (.int .i64 0) := (za8 BK574.out 0).trans rfl; have hcz9_1 : w4.cell? ⟨gb574, 1, none⟩ = some (.int .i64 0) := (za8 BK574.out 1).trans rfl; have hcz9_2 : w4.cell? ⟨gb574, 2, none⟩ = some (.int .i64 0) := (za8 BK574.out 2).trans rfl; have hfz9_0 := za7 BK574.out 0; have hfz9_1 := za7 BK574.out 1; have hfz9_2 := za7 BK574.out 2; have hcz10_0 : w4.cell? ⟨gb573, 0, none⟩ = some (.int .i64 0) := (za8 BK573.out 0).trans rfl; have hcz10_1 : w4.cell? ⟨gb573, 1, none⟩ = some (.int .i64 0) := (za8 BK573.out 1).trans rfl; have hcz10_2 : w4.cell? ⟨gb573, 2, none⟩ = some (.int .i64 0) := (za8 BK573.out 2).trans rfl; have hfz10_0 := za7 BK573.out 0; have hfz10_1 := za7 BK573.out 1; have hfz10_2 := za7 BK573.out 2))
  refine bodyPost_ret (results_cell_row rfl _ _ gb573 69 #[.int .i64 a0_0, .int .i64 a0_1, .int .i64 a0_2] (0, 0) _ rfl (by (with_reducible repeat (first | refine za4 ?_ _ | refine za6 ?_ | refine za5 ?_ _)); refine zat (cs := #[.int .i64 a0_0, .int .i64 a0_1, .int .i64 0]) ?_ 2 _ rfl; (with_reducible repeat (first | refine za4 ?_ _ | refine za6 ?_ | refine za5 ?_ _)); refine zat (cs := #[.int .i64 a0_0, .int .i64 0, .int .i64 0]) ?_ 1 _ rfl; (with_reducible repeat (first | refine za4 ?_ _ | refine za6 ?_ | refine za5 ?_ _)); refine zat (cs := #[.int .i64 0, .int .i64 0, .int .i64 0]) ?_ 0 _ rfl; (with_reducible repeat (first | refine za4 ?_ _ | refine za6 ?_ | refine za5 ?_ _)); refine zaw ?_ NB573_574.out _; (with_reducible repeat (first | refine za4 ?_ _ | refine za6 ?_ | refine za5 ?_ _)); refine zaw ?_ NB573_574.out _; (with_reducible repeat (first | refine za4 ?_ _ | refine za6 ?_ | refine za5 ?_ _)); refine zaw ?_ NB573_574.out _; (with_reducible repeat (first | refine za4 ?_ _ | refine za6 ?_ | refine za5 ?_ _)); exact BK573.out) Try.underlying69 rfl (by kernel_rfl)) rfl ?_
  exact ⟨by first | rfl | (simp [zae, zad] <;> rfl) | (simp [*, zae, zad] <;> rfl), by repeat (first | (with_reducible first | exact HB.out | apply za2 | apply za0 | apply za1 | refine za3 ?_ GE572.out | refine za3 ?_ GE573.out | refine za3 ?_ GE574.out) | exact HB.out)⟩

/-! ### laws_toOpS: function 66 -/
def laws_toOpS.l0 : Nat → List (S93) → List (S69) → Int → Option ((List (S69)))
  | 0, _, _, _ => none
  | k + 1, x0, x3, x4 => if x4 < (x0.length : Int) then (if 0 ≤ x4 then ((laws_toOp.f ((rd_T93 x0 x4).f0) ((rd_T93 x0 x4).f1) ((rd_T93 x0 x4).f2)).bind fun bt579 => (if x4 < (x3.length : Int) then (laws_toOpS.l0 k x0 (x3.set (x4 : Int).toNat (⟨bt579.1, bt579.2.1, bt579.2.2⟩ : S69)) (wrap64 (x4 + 1))) else (none))) else (none)) else (some x3)
def laws_toOpS.f (k : Nat) (l0 : List (S93)) : Option ((List (S69))) := if 0 ≤ (l0.length : Int) then (if ((l0.length : Int) : Int).toNat ≤ 11728124029610 then (laws_toOpS.l0 k l0 (List.replicate ((l0.length : Int) : Int).toNat z69) 0) else (none)) else (none)
theorem laws_toOpS.zb2 : ∀ k, (∀ y0 y1 y2, LeO (laws_toOpS.l0 k y0 y1 y2) (laws_toOpS.l0 (k + 1) y0 y1 y2))
  | 0 => fun _ _ _ r h => by simp [laws_toOpS.l0] at h
  | k + 1 => by
    have ih0 := laws_toOpS.zb2 k
    · intro y0 y1 y2
      unfold laws_toOpS.l0
      repeat' first
      | (with_reducible exact ih0 _ _ _)
      | (with_reducible exact LeO.refl _)
      | (with_reducible exact LeO.none _)
      | (with_reducible refine LeO.ite ?_ ?_)
      | (with_reducible refine LeO.bind ?_ (fun _ => ?_))
      | exact ih0 _ _ _
      | exact LeO.none _
      | refine LeO.ite ?_ ?_
      | refine LeO.bind ?_ (fun _ => ?_)
theorem laws_toOpS.mono : ∀ a0 k, LeO (laws_toOpS.f k a0) (laws_toOpS.f (k + 1) a0) := by
  intro a0 k
  have ih0 := laws_toOpS.zb2 k
  unfold laws_toOpS.f
  repeat' first
      | (with_reducible exact ih0 _ _ _)
      | (with_reducible exact LeO.refl _)
      | (with_reducible exact LeO.none _)
      | (with_reducible refine LeO.ite ?_ ?_)
      | (with_reducible refine LeO.bind ?_ (fun _ => ?_))
      | exact ih0 _ _ _
      | exact LeO.none _
      | refine LeO.ite ?_ ?_
      | refine LeO.bind ?_ (fun _ => ?_)
set_option maxHeartbeats 8000000 in
set_option maxRecDepth 100000 in
theorem laws_toOpS.calls (k : Nat) (A0 : Option Addr) (c0 : Nat) (l0 : List (S93)) (r : List (S69)) (w : World) (hr0 : Kd.C k93 w A0 l0.length l0) (hc0 : l0.length ≤ c0) (h : laws_toOpS.f k l0 = some r) :
    Calls Try.prog 66 #[.slice A0 l0.length c0] w fun e w' => ∃ v0_ : Value, e = .returned (v0_) ∧ Kd.R k69 69 w' w.heap.size (fun _ => True) v0_ r ∧ Below w.heap.size w w' := by
  have hu93 := Try.underlying93
  have hu69 := Try.underlying69
  have HR0 := Aside0.mk hr0
  have HC0 := Aside0.mk hc0
  clear hr0 hc0
  have HB := Aside0.mk (Below.refl w.heap.size w)
  have H : (if 0 ≤ (l0.length : Int) then (if ((l0.length : Int) : Int).toNat ≤ 11728124029610 then (laws_toOpS.l0 k l0 (List.replicate ((l0.length : Int) : Int).toNat z69) 0) else (none)) else (none)) = some r := h
  clear h
  by_cases c2 : 0 ≤ (l0.length : Int)
  · rw [if_pos c2] at H
    have c2b0 := eq_true c2
    have c2b1 : decide (0 ≤ (l0.length : Int)) = true := decide_eq_true c2
    clear c2
    by_cases c3 : ((l0.length : Int) : Int).toNat ≤ 11728124029610
    · rw [if_pos c3] at H
      have c3b0 := eq_true c3
      have c3b1 : decide (((l0.length : Int) : Int).toNat ≤ 11728124029610) = true := decide_eq_true c3
      clear c3
      obtain ⟨y575, hy575⟩ : ∃ y_ : List (S69), y_ = (List.replicate ((l0.length : Int) : Int).toNat z69) := ⟨_, rfl⟩
      replace H : (laws_toOpS.l0 k l0 y575 0) = some r := by first | (rw [hy575]; with_reducible exact H) | (have H2_ := (Option.bind_some _ _).symm.trans H; rw [hy575]; with_reducible exact H2_) | (have H2_ := (Option.bind_some _ _).symm.trans H; with_reducible exact H2_) | with_reducible exact H | (rw [hy575]; exact H) | exact H
      have Ny575 := Aside0.mk hy575
      clear hy575
      have H' := Aside0.mk H
      clear H
      go_enter Try.func66, Try.ntmps66
      go_wp2_with (first | ((with_reducible refine zak (N := 7) rfl ?_); refine Kd.R_make k69 _ 69 rfl (N := 7) rfl 37 _ _ rfl (l0.length : Int) rfl rfl Try.underlying37 (.agg #[(.int .i64 0), (.int .i64 0), (.int .i64 0)]) 24 info69 rfl (by decide) (by omega) z69 (ok := fun _ => True) (okp := fun _ => True) (k69_mkM _ _ _ z69 ) (fun _ hk => hk) trivial (of_decide_eq_true (by first | (with_reducible assumption) | assumption)) (Nat.le_trans (Nat.mul_le_mul_right _ (of_decide_eq_true (by first | (with_reducible assumption) | assumption) : (l0.length : Int).toNat ≤ 11728124029610)) (by omega)) (Below.refl _ _) (Nat.le_refl _) ?_; intro v576 w4 ho5 hb hg_ hnew_; clear hg_ hnew_; (first | rw [← Ny575.out] at ho5 | (simp only [Int.reduceToNat] at ho5; rw [← Ny575.out] at ho5)); have n0_ := Aside0.mk (Kd.zb1 ho5 (za9 (by repeat (first | (with_reducible first | exact HB.out | apply za2 | apply za0 | apply za1) | exact HB.out)))); have n1_ := Aside0.mk (zab (by repeat (first | (with_reducible first | exact HB.out | apply za2 | apply za0 | apply za1) | exact HB.out)) hb); clear HB; have HO577 := n0_; have HB := n1_; clear n0_ n1_; clear hb ho5))
      go_loopg [4] k (fun kq v4 w' => ∃ (x3_1 : List (S69)) (x4_1 : Int), v4 = .int .i64 x4_1 ∧ Aside0 (laws_toOpS.l0 kq l0 x3_1 x4_1 = some r) ∧ Aside0 (kq ≤ k) ∧ Aside0 (Kd.R k69 69 w' w.heap.size (fun _ => True) v576 x3_1) ∧ Aside0 (Below w.heap.size w w'))
      case atStart => exact ⟨(y575), (0), (by first | rfl | (simp; done) | (simp [*]; done)), H', ⟨Nat.le_refl _⟩, ⟨by (with_reducible repeat (first | apply Kd.zah | apply Kd.zaf | apply Kd.zai)); exact HO577.out⟩, ⟨by repeat (first | (with_reducible first | exact HB.out | apply za2 | apply za0 | apply za1) | exact HB.out)⟩⟩
      case round =>
        clear H'
        try clear c2
        try clear c2b0
        try clear c2b1
        try clear p2
        try clear c3
        try clear c3b0
        try clear c3b1
        obtain ⟨x3_1, x4_1, rfl, HA, HK1, HO_3, HB⟩ := hrel
        cases gk with
        | zero => exact absurd HA.out (by simp [laws_toOpS.l0])
        | succ k1 =>
          have H := HA.out
          clear HA
          simp only [laws_toOpS.l0] at H
          by_cases c6 : x4_1 < (l0.length : Int)
          · rw [if_pos c6] at H
            have c6b0 : decide (x4_1 < (l0.length : Int)) = true := decide_eq_true c6
            clear c6
            by_cases c7 : 0 ≤ x4_1
            · rw [if_pos c7] at H
              have c7b0 : decide (0 ≤ x4_1) = true := decide_eq_true c7
              clear c7
              replace H := Option.bind_eq_some_iff.mp H
              obtain ⟨⟨t579, t580, t581⟩, A80, H⟩ := H
              replace H : (if x4_1 < (x3_1.length : Int) then (laws_toOpS.l0 k1 l0 (x3_1.set (x4_1 : Int).toNat (⟨t579, t580, t581⟩ : S69)) (wrap64 (x4_1 + 1))) else (none)) = some r := H
              have A8 := Aside0.mk A80
              clear A80
              by_cases c9 : x4_1 < (x3_1.length : Int)
              · rw [if_pos c9] at H
                have c9b0 : decide (x4_1 < (x3_1.length : Int)) = true := decide_eq_true c9
                clear c9
                obtain ⟨y582, hy582⟩ : ∃ y_ : List (S69), y_ = (x3_1.set (x4_1 : Int).toNat (⟨t579, t580, t581⟩ : S69)) := ⟨_, rfl⟩
                replace H : (laws_toOpS.l0 k1 l0 y582 (wrap64 (x4_1 + 1))) = some r := by first | (rw [hy582]; with_reducible exact H) | (have H2_ := (Option.bind_some _ _).symm.trans H; rw [hy582]; with_reducible exact H2_) | (have H2_ := (Option.bind_some _ _).symm.trans H; with_reducible exact H2_) | with_reducible exact H | (rw [hy582]; exact H) | exact H
                have Ny582 := Aside0.mk hy582
                clear hy582
                have H' := Aside0.mk H
                clear H
                have p578 : 0 ≤ (x4_1 : Int) := of_decide_eq_true (by first | (with_reducible assumption) | assumption)
                have q578 : x4_1 < (l0.length : Int) := of_decide_eq_true (by first | (with_reducible assumption) | assumption)
                obtain ⟨ad578, e578, hx578_0, hx578_1, hx578_2⟩ := at_T93 HR0.out x4_1 p578 q578
                cases e578
                replace hx578_0 := (HB.out.cell (World.block_lt_of_cell? w _ hx578_0)).trans hx578_0
                replace hx578_1 := (HB.out.cell (World.block_lt_of_cell? w _ hx578_1)).trans hx578_1
                replace hx578_2 := (HB.out.cell (World.block_lt_of_cell? w _ hx578_2)).trans hx578_2
                replace p578 := eq_true p578
                replace q578 := eq_true q578
                go_wp2_with (first | ((with_reducible refine zaj (f := 97) rfl ?_); refine zaz (some 20) rfl rfl Try.func97 (by kernel_rfl) rfl #[.agg #[.int .i64 ((rd_T93 l0 x4_1).f0), .int .i64 ((rd_T93 l0 x4_1).f1), .int .i64 ((rd_T93 l0 x4_1).f2)]] rfl (by (try simp only [List.map_toArray, List.map_cons, List.map_nil]); first | done | rfl | (simp only [List.length_drop, List.length_take]; rfl)) ?_; (with_reducible refine (laws_toOp.calls ((rd_T93 l0 x4_1).f0) ((rd_T93 l0 x4_1).f1) ((rd_T93 l0 x4_1).f2) t579 t580 t581 _ A8.out).mono ?_); rintro e w11 ⟨rfl, hb⟩; refine ⟨_, rfl, ?_⟩; have n0_ := Aside0.mk (Kd.zan (by (with_reducible repeat (first | apply Kd.zah | apply Kd.zaf | apply Kd.zai)); exact HO_3.out) hb); have n1_ := Aside0.mk (zab (by repeat (first | (with_reducible first | exact HB.out | apply za2 | apply za0 | apply za1) | exact HB.out)) hb); clear HO_3; clear HB; have HO_3 := n0_; have HB := n1_; clear n0_ n1_; (try clear hb); (try clear hb2); (try clear hk); (try clear hi); have p10 : 0 ≤ (x4_1 : Int) := of_decide_eq_true (by first | (with_reducible assumption) | assumption); have q10 : (x4_1 : Int) < ((x3_1.length : Int) : Int) := of_decide_eq_true (by first | (with_reducible assumption) | assumption); obtain ⟨go10, co10, eo10, gb10, gl10, cl10, HG10⟩ := Kd.R_form HO_3.out (by omega); (first | cases eo10 | (injection eo10 with ea_ en_ ec_; (first | subst ea_ | (injection ea_ with ea_; subst ea_)); subst ec_; clear en_)); have GB10 := Aside0.mk gb10; have GG10 := Aside0.mk HG10; clear gb10 gl10 HG10; obtain ⟨ce10, hcl10, hM10, hcc10, hfr10⟩ := Kd.R_elem HO_3.out z69 (x4_1 : Int) p10 q10; obtain rfl := k69_openM hM10; have hx10_0 : w11.cell? ⟨go10, (x4_1 : Int).toNat * 3, none⟩ = some (.int .i64 ((zaa x3_1 x4_1).f0)) := hcc10 0 _ rfl; have hx10_1 : w11.cell? ⟨go10, (x4_1 : Int).toNat * 3 + 1, none⟩ = some (.int .i64 ((zaa x3_1 x4_1).f1)) := hcc10 1 _ rfl; have hx10_2 : w11.cell? ⟨go10, (x4_1 : Int).toNat * 3 + 2, none⟩ = some (.int .i64 ((zaa x3_1 x4_1).f2)) := hcc10 2 _ rfl; have hf10_0 : w11.frozen? ⟨go10, (x4_1 : Int).toNat * 3, none⟩ = false := hfr10 0; have hf10_1 : w11.frozen? ⟨go10, (x4_1 : Int).toNat * 3 + 1, none⟩ = false := hfr10 1; have hf10_2 : w11.frozen? ⟨go10, (x4_1 : Int).toNat * 3 + 2, none⟩ = false := hfr10 2; clear hcl10 hcc10 hfr10 hM10; replace p10 := eq_true p10; replace q10 := eq_true q10; have HX12 := Aside0.mk (show Kd.R k69 69 w11 w.heap.size (fun _ => True) (.slice (some ⟨go10, 0, none⟩) x3_1.length co10) x3_1 from (by (with_reducible repeat (first | apply Kd.zah | apply Kd.zaf | apply Kd.zai)); exact HO_3.out)); obtain ⟨ce12, hcl12, hM12, hcc12, hfr12⟩ := Kd.R_elem HX12.out z69 (x4_1 : Int) (of_decide_eq_true (by first | (with_reducible assumption) | assumption)) (by have h_ : (x4_1 : Int) < ((x3_1.length : Int) : Int) := of_decide_eq_true (by first | (with_reducible assumption) | assumption); first | exact h_ | (have e_ := (Kd.R_reads' HO_3.out).1; omega) | simpa using h_); obtain rfl := k69_openM hM12; have HP12 := Kd.R_seg HX12.out (x4_1 : Int) (of_decide_eq_true (by first | (with_reducible assumption) | assumption)) (by have h_ : (x4_1 : Int) < ((x3_1.length : Int) : Int) := of_decide_eq_true (by first | (with_reducible assumption) | assumption); first | exact h_ | (have e_ := (Kd.R_reads' HO_3.out).1; omega) | simpa using h_) (seg := [.int .i64 t579, .int .i64 t580, .int .i64 t581]) (j := 0) hcl12 hcc12 (show 3 ≤ 3 from by decide) (x' := (⟨t579, t580, t581⟩ : S69)) (k69_mkM _ _ _ (⟨t579, t580, t581⟩ : S69) ) (fun _ hk => hk); have hx12_0 := hcc12 0 _ rfl; (try simp only [show (k69).sz = 3 from rfl, Nat.mul_one, Nat.add_zero] at hx12_0); have hf12_0 := hfr12 0; (try simp only [show (k69).sz = 3 from rfl, Nat.mul_one, Nat.add_zero] at hf12_0); have hx12_1 := hcc12 1 _ rfl; (try simp only [show (k69).sz = 3 from rfl, Nat.mul_one, Nat.add_zero] at hx12_1); have hf12_1 := hfr12 1; (try simp only [show (k69).sz = 3 from rfl, Nat.mul_one, Nat.add_zero] at hf12_1); have hx12_2 := hcc12 2 _ rfl; (try simp only [show (k69).sz = 3 from rfl, Nat.mul_one, Nat.add_zero] at hx12_2); have hf12_2 := hfr12 2; (try simp only [show (k69).sz = 3 from rfl, Nat.mul_one, Nat.add_zero] at hf12_2); clear hcl12 hcc12 hfr12 hM12) | ((with_reducible refine gate_store (t := 69) (p := 21) rfl ?_); refine store_event (t := 69) (p := 21) (v := ?vo_w13) (w1 := (((w11.setCell ⟨go10, (x4_1 : Int).toNat * 3, none⟩ (.int .i64 t579)).setCell ⟨go10, (x4_1 : Int).toNat * 3 + 1, none⟩ (.int .i64 t580)).setCell ⟨go10, (x4_1 : Int).toNat * 3 + 2, none⟩ (.int .i64 t581))) ?hg ?ho ?hn ?hr ?_; (case ho => rfl); (case hg => rfl); (case hn => rfl); (case hr => first | (go_simp; done) | (go_simp; rfl)); intro w13 hw; have hg : w11.grownBy w13 (some go10) := (by rw [hw]; exact HP12.2); have hp_ : Kd.R k69 69 w13 w.heap.size (fun _ => True) (.slice (some ⟨go10, 0, none⟩) x3_1.length co10) y582 := (by rw [hw, Ny582.out]; exact HP12.1); clear HP12; have n0_ := Aside0.mk (hp_); have n1_ := Aside0.mk ((by rw [hw]; exact za3 (za3 (za3 (HB.out) GB10.out) GB10.out) GB10.out : Below w.heap.size w w13)); clear HO_3; clear HB; have HO_3 := n0_; have HB := n1_; clear n0_ n1_; clear hg hw hp_))
                go_roundg k1
                case measure => have := HK1.out; omega
                case rel => exact ⟨(y582), (wrap64 (x4_1 + 1)), (by first | rfl | (simp; done) | (simp [*]; done)), H', ⟨by have := HK1.out; omega⟩, ⟨by (with_reducible repeat (first | apply Kd.zah | apply Kd.zaf | apply Kd.zai)); exact HO_3.out⟩, ⟨by repeat (first | (with_reducible first | exact HB.out | apply za2 | apply za0 | apply za1) | exact HB.out)⟩⟩
              · rw [if_neg c9] at H
                exact absurd H (by simp)
            · rw [if_neg c7] at H
              exact absurd H (by simp)
          · rw [if_neg c6] at H
            have c6b0 : decide (x4_1 < (l0.length : Int)) = false := decide_eq_false c6
            clear c6
            obtain rfl := Option.some.inj H
            go_wp2
            go_ret
            exact ⟨_, by first | rfl | (simp [zae, zad] <;> rfl) | (simp [*, zae, zad] <;> rfl), by (with_reducible repeat (first | apply Kd.zah | apply Kd.zaf | apply Kd.zai)); exact HO_3.out, by repeat (first | (with_reducible first | exact HB.out | apply za2 | apply za0 | apply za1) | exact HB.out)⟩
    · rw [if_neg c3] at H
      exact absurd H (by simp)
  · rw [if_neg c2] at H
    exact absurd H (by simp)

/-! ### laws_toCode: function 26 -/
def laws_toCode.f (k : Nat) (l0_0 : List (S93)) (a0_1 : Int) : Option ((List (S69)) × Int) := (laws_toOpS.f k l0_0).bind fun t586 => (some (t586, a0_1))
theorem laws_toCode.mono : ∀ a0 a1 k, LeO (laws_toCode.f k a0 a1) (laws_toCode.f (k + 1) a0 a1) := by
  intro a0 a1 k
  unfold laws_toCode.f
  repeat' first
      | (with_reducible exact laws_toOpS.mono _ _)
      | (with_reducible exact LeO.refl _)
      | (with_reducible exact LeO.none _)
      | (with_reducible refine LeO.ite ?_ ?_)
      | (with_reducible refine LeO.bind ?_ (fun _ => ?_))
      | exact laws_toOpS.mono _ _
      | exact LeO.none _
      | refine LeO.ite ?_ ?_
      | refine LeO.bind ?_ (fun _ => ?_)
set_option maxHeartbeats 8000000 in
set_option maxRecDepth 100000 in
theorem laws_toCode.calls (k : Nat) (A0_0 : Option Addr) (c0_0 : Nat) (l0_0 : List (S93)) (a0_1 : Int) (r1 : List (S69)) (r2 : Int) (w : World) (hr0_0 : Kd.C k93 w A0_0 l0_0.length l0_0) (hc0_0 : l0_0.length ≤ c0_0) (h : laws_toCode.f k l0_0 a0_1 = some (r1, r2)) :
    Calls Try.prog 26 #[.agg #[.slice A0_0 l0_0.length c0_0, .int .i64 a0_1]] w fun e w' => ∃ v0_ : Value, e = .returned (.agg #[v0_, .int .i64 r2]) ∧ Kd.R k69 69 w' w.heap.size (fun _ => True) v0_ r1 ∧ Below w.heap.size w w' := by
  have hu34 := Try.underlying34
  have hu39 := Try.underlying39
  have HR0_0 := Aside0.mk hr0_0
  have HC0_0 := Aside0.mk hc0_0
  clear hr0_0 hc0_0
  have HB := Aside0.mk (Below.refl w.heap.size w)
  have H : ((laws_toOpS.f k l0_0).bind fun t586 => (some (t586, a0_1))) = some (r1, r2) := h
  clear h
  replace H := Option.bind_eq_some_iff.mp H
  obtain ⟨t586, A20, H⟩ := H
  replace H : (some (t586, a0_1)) = some (r1, r2) := H
  have A2 := Aside0.mk A20
  clear A20
  simp only [Option.some.injEq, Prod.mk.injEq] at H
  obtain ⟨rfl, rfl⟩ := H
  go_enter Try.func26, Try.ntmps26
  go_wp2_with (first | ((with_reducible refine zak (N := 1) rfl ?_); refine zam ?hg (N := 1) ?hd (cs := #[.slice A0_0 l0_0.length c0_0, .int .i64 a0_1]) (t := 34) ?hr ?_; (case hd => rfl); (case hg => rfl); (case hr => first | (go_simp; done) | (go_simp; rfl)); intro gb583 hg w3 hbox hb; have n0_ := Aside0.mk (zab (by repeat (first | (with_reducible first | exact HB.out | apply za2 | apply za0 | apply za1) | exact HB.out)) hb); have n1_ := Aside0.mk (hbox); have n2_ := Aside0.mk ((by rw [hg]; exact (za9 (by repeat (first | (with_reducible first | exact HB.out | apply za2 | apply za0 | apply za1) | exact HB.out))) : w.heap.size ≤ gb583)); have n3_ := Aside0.mk ((by rw [hg]; exact (za9 (by repeat (first | (with_reducible first | exact HB.out | apply za2 | apply za0 | apply za1) | exact HB.out))) : w.heap.size ≤ gb583)); clear HB; have HB := n0_; have BK583 := n1_; have GW583 := n2_; have GE583 := n3_; clear n0_ n1_ n2_ n3_; clear hb hbox hg) | ((with_reducible refine zak (N := 2) rfl ?_); refine zam ?hg (N := 2) ?hd (cs := #[.slice none 0 0, .int .i64 0]) (t := 39) ?hr ?_; (case hd => rfl); (case hg => rfl); (case hr => first | (go_simp; done) | (go_simp; rfl)); intro gb584 hg w4 hbox hb; have n0_ := Aside0.mk (zac (g := gb583) (o := .cells #[.slice A0_0 l0_0.length c0_0, .int .i64 a0_1] 34 (0, 0)) (by (with_reducible repeat (first | refine za4 ?_ _ | refine za6 ?_ | refine za5 ?_ _)); exact BK583.out) hb); have n1_ := Aside0.mk (zab (by repeat (first | (with_reducible first | exact HB.out | apply za2 | apply za0 | apply za1 | refine za3 ?_ GE583.out) | exact HB.out)) hb); have n2_ := Aside0.mk (hbox); have n3_ := Aside0.mk ((by rw [hg]; exact (za9 (by repeat (first | (with_reducible first | exact HB.out | apply za2 | apply za0 | apply za1 | refine za3 ?_ GE583.out) | exact HB.out))) : w.heap.size ≤ gb584)); have n4_ := Aside0.mk ((by rw [hg]; exact (za9 (by repeat (first | (with_reducible first | exact HB.out | apply za2 | apply za0 | apply za1 | refine za3 ?_ GE583.out) | exact HB.out))) : w.heap.size ≤ gb584)); have n5_ := Aside0.mk ((by rw [hg]; exact Nat.ne_of_lt (zax (g := gb583) (o := .cells #[.slice A0_0 l0_0.length c0_0, .int .i64 a0_1] 34 (0, 0)) (by (with_reducible repeat (first | refine za4 ?_ _ | refine za6 ?_ | refine za5 ?_ _)); exact BK583.out)) : gb583 ≠ gb584)); have n6_ := Aside0.mk ((by rw [hg]; exact Nat.ne_of_gt (zax (g := gb583) (o := .cells #[.slice A0_0 l0_0.length c0_0, .int .i64 a0_1] 34 (0, 0)) (by (with_reducible repeat (first | refine za4 ?_ _ | refine za6 ?_ | refine za5 ?_ _)); exact BK583.out)) : gb584 ≠ gb583)); clear BK583; clear HB; have BK583 := n0_; have HB := n1_; have BK584 := n2_; have GW584 := n3_; have GE584 := n4_; have NB583_584 := n5_; have NB584_583 := n6_; clear n0_ n1_ n2_ n3_ n4_ n5_ n6_; clear hb hbox hg) | ((with_reducible refine zak (N := 3) rfl ?_); refine zam ?hg (N := 3) ?hd (cs := #[.slice none 0 0, .int .i64 0]) (t := 39) ?hr ?_; (case hd => rfl); (case hg => rfl); (case hr => first | (go_simp; done) | (go_simp; rfl)); intro gb585 hg w5 hbox hb; have n0_ := Aside0.mk (zac (g := gb583) (o := .cells #[.slice A0_0 l0_0.length c0_0, .int .i64 a0_1] 34 (0, 0)) (by (with_reducible repeat (first | refine za4 ?_ _ | refine za6 ?_ | refine za5 ?_ _)); exact BK583.out) hb); have n1_ := Aside0.mk (zac (g := gb584) (o := .cells #[.slice none 0 0, .int .i64 0] 39 (0, 0)) (by (with_reducible repeat (first | refine za4 ?_ _ | refine za6 ?_ | refine za5 ?_ _)); exact BK584.out) hb); have n2_ := Aside0.mk (zab (by repeat (first | (with_reducible first | exact HB.out | apply za2 | apply za0 | apply za1 | refine za3 ?_ GE583.out | refine za3 ?_ GE584.out) | exact HB.out)) hb); have n3_ := Aside0.mk (hbox); have n4_ := Aside0.mk ((by rw [hg]; exact (za9 (by repeat (first | (with_reducible first | exact HB.out | apply za2 | apply za0 | apply za1 | refine za3 ?_ GE583.out | refine za3 ?_ GE584.out) | exact HB.out))) : w.heap.size ≤ gb585)); have n5_ := Aside0.mk ((by rw [hg]; exact (za9 (by repeat (first | (with_reducible first | exact HB.out | apply za2 | apply za0 | apply za1 | refine za3 ?_ GE583.out | refine za3 ?_ GE584.out) | exact HB.out))) : w.heap.size ≤ gb585)); have n6_ := Aside0.mk ((by rw [hg]; exact Nat.ne_of_lt (zax (g := gb583) (o := .cells #[.slice A0_0 l0_0.length c0_0, .int .i64 a0_1] 34 (0, 0)) (by (with_reducible repeat (first | refine za4 ?_ _ | refine za6 ?_ | refine za5 ?_ _)); exact BK583.out)) : gb583 ≠ gb585)); have n7_ := Aside0.mk ((by rw [hg]; exact Nat.ne_of_gt (zax (g := gb583) (o := .cells #[.slice A0_0 l0_0.length c0_0, .int .i64 a0_1] 34 (0, 0)) (by (with_reducible repeat (first | refine za4 ?_ _ | refine za6 ?_ | refine za5 ?_ _)); exact BK583.out)) : gb585 ≠ gb583)); have n8_ := Aside0.mk ((by rw [hg]; exact Nat.ne_of_lt (zax (g := gb584) (o := .cells #[.slice none 0 0, .int .i64 0] 39 (0, 0)) (by (with_reducible repeat (first | refine za4 ?_ _ | refine za6 ?_ | refine za5 ?_ _)); exact BK584.out)) : gb584 ≠ gb585)); have n9_ := Aside0.mk ((by rw [hg]; exact Nat.ne_of_gt (zax (g := gb584) (o := .cells #[.slice none 0 0, .int .i64 0] 39 (0, 0)) (by (with_reducible repeat (first | refine za4 ?_ _ | refine za6 ?_ | refine za5 ?_ _)); exact BK584.out)) : gb585 ≠ gb584)); clear BK583; clear BK584; clear HB; have BK583 := n0_; have BK584 := n1_; have HB := n2_; have BK585 := n3_; have GW585 := n4_; have GE585 := n5_; have NB583_585 := n6_; have NB585_583 := n7_; have NB584_585 := n8_; have NB585_584 := n9_; clear n0_ n1_ n2_ n3_ n4_ n5_ n6_ n7_ n8_ n9_; clear hb hbox hg; have hnb6 := NB583_584.out; have hnc6 := NB584_583.out; have hnb7 := NB583_585.out; have hnc7 := NB585_583.out; have hcz8_0 : w5.cell? ⟨gb583, 0, none⟩ = some (.slice A0_0 l0_0.length c0_0) := (za8 BK583.out 0).trans rfl; have hcz8_1 : w5.cell? ⟨gb583, 1, none⟩ = some (.int .i64 a0_1) := (za8 BK583.out 1).trans rfl; have hfz8_0 := za7 BK583.out 0; have hfz8_1 := za7 BK583.out 1) | ((with_reducible refine zaj (f := 66) rfl ?_); refine zaz (some 6) rfl rfl Try.func66 (by kernel_rfl) rfl #[.slice A0_0 l0_0.length c0_0] rfl (by (try simp only [List.map_toArray, List.map_cons, List.map_nil]); first | done | rfl | (simp only [List.length_drop, List.length_take]; rfl)) ?_; (with_reducible refine (laws_toOpS.calls k _ _ l0_0 t586 _ ?side1 ?side2 A2.out).mono ?_); (case side1 => repeat (first | exact (Kd.zb3 HR0_0.out HB.out) | (with_reducible refine Kd.zao ?_ _) | (with_reducible refine Kd.zaq ?_ _) | (with_reducible refine Kd.zau ?_))); (case side2 => exact HC0_0.out); rintro e w9 ⟨v587, rfl, ho0, hb⟩; refine ⟨_, rfl, ?_⟩; have n0_ := Aside0.mk (Kd.zb1 ho0 (za9 (by repeat (first | (with_reducible first | exact HB.out | apply za2 | apply za0 | apply za1 | refine za3 ?_ GE583.out | refine za3 ?_ GE584.out | refine za3 ?_ GE585.out) | exact HB.out)))); have n1_ := Aside0.mk (zac (g := gb583) (o := .cells #[.slice A0_0 l0_0.length c0_0, .int .i64 a0_1] 34 (0, 0)) (by (with_reducible repeat (first | refine za4 ?_ _ | refine za6 ?_ | refine za5 ?_ _)); exact BK583.out) hb); have n2_ := Aside0.mk (zac (g := gb584) (o := .cells #[.slice none 0 0, .int .i64 0] 39 (0, 0)) (by (with_reducible repeat (first | refine za4 ?_ _ | refine za6 ?_ | refine za5 ?_ _)); exact BK584.out) hb); have n3_ := Aside0.mk (zac (g := gb585) (o := .cells #[.slice none 0 0, .int .i64 0] 39 (0, 0)) (by (with_reducible repeat (first | refine za4 ?_ _ | refine za6 ?_ | refine za5 ?_ _)); exact BK585.out) hb); have n4_ := Aside0.mk (zab (by repeat (first | (with_reducible first | exact HB.out | apply za2 | apply za0 | apply za1 | refine za3 ?_ GE583.out | refine za3 ?_ GE584.out | refine za3 ?_ GE585.out) | exact HB.out)) hb); clear BK583; clear BK584; clear BK585; clear HB; have HO588 := n0_; have BK583 := n1_; have BK584 := n2_; have BK585 := n3_; have HB := n4_; clear n0_ n1_ n2_ n3_ n4_; (try clear hb); (try clear hb2); (try clear hk); (try clear hi); (try clear ho0); obtain ⟨Ao10, co10, eo10⟩ := Kd.zay HO588.out; subst eo10; have hnb11 := NB585_584.out; have hnc11 := NB584_585.out; have hcz12_0 : w9.cell? ⟨gb585, 0, none⟩ = some (.slice none 0 0) := (za8 BK585.out 0).trans rfl; have hcz12_1 : w9.cell? ⟨gb585, 1, none⟩ = some (.int .i64 0) := (za8 BK585.out 1).trans rfl; have hfz12_0 := za7 BK585.out 0; have hfz12_1 := za7 BK585.out 1; have hcz13_0 : w9.cell? ⟨gb583, 0, none⟩ = some (.slice A0_0 l0_0.length c0_0) := (za8 BK583.out 0).trans rfl; have hcz13_1 : w9.cell? ⟨gb583, 1, none⟩ = some (.int .i64 a0_1) := (za8 BK583.out 1).trans rfl; have hfz13_0 := za7 BK583.out 0; have hfz13_1 := za7 BK583.out 1; have hcz14_0 : w9.cell? ⟨gb584, 0, none⟩ = some (.slice none 0 0) := (za8 BK584.out 0).trans rfl; have hcz14_1 : w9.cell? ⟨gb584, 1, none⟩ = some (.int .i64 0) := (za8 BK584.out 1).trans rfl; have hfz14_0 := za7 BK584.out 0; have hfz14_1 := za7 BK584.out 1))
  refine bodyPost_ret (results_cell_row rfl _ _ gb584 39 #[.slice Ao10 t586.length co10, .int .i64 a0_1] (0, 0) _ rfl (by (with_reducible repeat (first | refine za4 ?_ _ | refine za6 ?_ | refine za5 ?_ _)); refine zat (cs := #[.slice Ao10 t586.length co10, .int .i64 0]) ?_ 1 _ rfl; (with_reducible repeat (first | refine za4 ?_ _ | refine za6 ?_ | refine za5 ?_ _)); refine zat (cs := #[.slice none 0 0, .int .i64 0]) ?_ 0 _ rfl; (with_reducible repeat (first | refine za4 ?_ _ | refine za6 ?_ | refine za5 ?_ _)); refine zaw ?_ NB584_585.out _; (with_reducible repeat (first | refine za4 ?_ _ | refine za6 ?_ | refine za5 ?_ _)); refine zaw ?_ NB584_585.out _; (with_reducible repeat (first | refine za4 ?_ _ | refine za6 ?_ | refine za5 ?_ _)); exact BK584.out) Try.underlying39 rfl (by kernel_rfl)) rfl ?_
  exact ⟨_, by first | rfl | (simp [zae, zad] <;> rfl) | (simp [*, zae, zad] <;> rfl), by (with_reducible repeat (first | apply Kd.zah | apply Kd.zaf | apply Kd.zai)); exact Kd.zas (Kd.R_far (p := ⟨gb584, 1, none⟩) (Kd.R_far (p := ⟨gb584, 0, none⟩) (Kd.R_far (p := ⟨gb585, 1, none⟩) (Kd.R_far (p := ⟨gb585, 0, none⟩) (Kd.zar (Kd.zar HO588.out BK585.out (by decide)) BK584.out (by decide)) (fun _ hk => hk.1.2) (.slice Ao10 t586.length co10)) (fun _ hk => hk.1.2) (.int .i64 a0_1)) (fun _ hk => hk.2) (.slice Ao10 t586.length co10)) (fun _ hk => hk.2) (.int .i64 a0_1)) (fun _ hk => trivial), by repeat (first | (with_reducible first | exact HB.out | apply za2 | apply za0 | apply za1 | refine za3 ?_ GE583.out | refine za3 ?_ GE584.out | refine za3 ?_ GE585.out) | exact HB.out)⟩

end Go.Proofs.Ytgglemlhombgkaa.Z
