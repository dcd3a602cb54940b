-- Written by a program of this session (wip/tools/stubprint.py): contracts by hand where the kit's print has none.
import Derived.Test.YtgglemlhombgkaaKFnExactEstrinCodeQ0
import Derived.Test.YtgglemlhombgkaaKFnExactEstrinCodeQ1
import Derived.Test.YtgglemlhombgkaaKFnExactEstrinCodeQ5
namespace Go.Proofs.Ytgglemlhombgkaa.Z
open Go.RowKit Go.Proofs.YtgglemlhombgkaaW.PrintWords Go.Proofs.YtgglemlhombgkaaW.PrintLast Go.Proofs.YtgglemlhombgkaaW.PrintMore
attribute [local go_sem] max2_int min2_int max_two min_two max_three min_three max_four min_four   -- for this text's walks alone
set_option linter.unusedVariables false
set_option linter.unusedSimpArgs false

/-! ### laws_FnExactEstrinCode: function 15 -/
mutual
def laws_FnExactEstrinCode.j0 : Nat → List Int → Bool → List Int → Bool → Bool → List (S69) → Int → List (S69) → Int → Option (Bool)
 | 0, _, _, _, _, _, _, _, _, _ => none
 | k + 1, x0, x4, x5, x7, x37, x539000, x539001, x548000, x548001 => if x37 = true then (some false) else ((laws_toIntS.f k x0).bind fun t549 => ((laws_eqIntS.f k x5 t549).bind fun t552 => (if t552 = true then ((laws_markIntS.f k x5 1).bind fun bt553 => (if bt553.1 < 0 then (laws_FnExactEstrinCode.j1 k x0 x4 true x539000 x539001 x548000 x548001) else ((laws_eqCode.f k x548000 x548001 x539000 x539001).bind fun t555 => (if t555 = true then (laws_FnExactEstrinCode.j1 k x0 x4 (x7 != x4) x539000 x539001 x548000 x548001) else (laws_FnExactEstrinCode.j1 k x0 x4 true x539000 x539001 x548000 x548001))))) else (some false))))
def laws_FnExactEstrinCode.j1 : Nat → List Int → Bool → Bool → List (S69) → Int → List (S69) → Int → Option (Bool)
 | 0, _, _, _, _, _, _, _ => none
 | k + 1, x0, x4, x58, x539000, x539001, x548000, x548001 => if x58 = true then (some false) else ((laws_markCode.f k x548000 x548001 1).bind fun bt556 => ((laws_heldCode.f k bt556.2 x548001 1).bind fun t558 => (if t558 < 0 then (some false) else (if t558 = bt556.1 then ((laws_toIntS.f k x0).bind fun t559 => ((impl_EstrinCode.f k t559).bind fun bt562 => ((laws_eqCode.f k bt562.1 bt562.2.1 x539000 x539001).bind fun t568 => (if t568 = true then (laws_FnExactEstrinCode.j2 k bt556.1 (bt562.2.2 != x4) bt556.2 x548001) else (laws_FnExactEstrinCode.j2 k bt556.1 true bt556.2 x548001))))) else (some false)))))
def laws_FnExactEstrinCode.j2 : Nat → Int → Bool → List (S69) → Int → Option (Bool)
 | 0, _, _, _, _ => none
 | k + 1, x9, x84, x548000, x548001 => if x84 = true then (some false) else ((laws_heldCode.f k x548000 x548001 1).bind fun t569 => (if t569 < 0 then (some false) else (if t569 = x9 then (some true) else (some false))))
end
def laws_FnExactEstrinCode.f (k : Nat) (l0 : List Int) : Option (Bool) := if (l0.length : Int) > 1048576 then (some true) else ((laws_toIntS.f k l0).bind fun t530 => ((spec_EstrinCode.f k t530).bind fun bt533 => ((laws_toIntS.f k l0).bind fun t539 => ((impl_EstrinCode.f k t539).bind fun bt542 => ((laws_eqCode.f k bt542.1 bt542.2.1 bt533.1 bt533.2.1).bind fun t548 => (if t548 = true then (laws_FnExactEstrinCode.j0 k l0 bt533.2.2 t539 bt542.2.2 (bt542.2.2 != bt533.2.2) bt533.1 bt533.2.1 bt542.1 bt542.2.1) else (laws_FnExactEstrinCode.j0 k l0 bt533.2.2 t539 bt542.2.2 true bt533.1 bt533.2.1 bt542.1 bt542.2.1)))))))
theorem laws_FnExactEstrinCode.zb2 : ∀ k, (∀ y0 y1 y2 y3 y4 y5 y6 y7 y8, LeO (laws_FnExactEstrinCode.j0 k y0 y1 y2 y3 y4 y5 y6 y7 y8) (laws_FnExactEstrinCode.j0 (k + 1) y0 y1 y2 y3 y4 y5 y6 y7 y8)) ∧ (∀ y0 y1 y2 y3 y4 y5 y6, LeO (laws_FnExactEstrinCode.j1 k y0 y1 y2 y3 y4 y5 y6) (laws_FnExactEstrinCode.j1 (k + 1) y0 y1 y2 y3 y4 y5 y6)) ∧ (∀ y0 y1 y2 y3, LeO (laws_FnExactEstrinCode.j2 k y0 y1 y2 y3) (laws_FnExactEstrinCode.j2 (k + 1) y0 y1 y2 y3))
 | 0 => ⟨fun _ _ _ _ _ _ _ _ _ r h => by simp [laws_FnExactEstrinCode.j0] at h, fun _ _ _ _ _ _ _ r h => by simp [laws_FnExactEstrinCode.j1] at h, fun _ _ _ _ r h => by simp [laws_FnExactEstrinCode.j2] at h⟩
 | k + 1 => by
  obtain ⟨ih0, ih1, ih2⟩ := laws_FnExactEstrinCode.zb2 k
  refine ⟨?_, ?_, ?_⟩
  ·intro y0 y1 y2 y3 y4 y5 y6 y7 y8
   unfold laws_FnExactEstrinCode.j0
   repeat' first
   | (with_reducible exact ih0 _ _ _ _ _ _ _ _ _)
   | (with_reducible exact ih1 _ _ _ _ _ _ _)
   | (with_reducible exact ih2 _ _ _ _)
   | (with_reducible exact impl_EstrinCode.mono _ _)
   | (with_reducible exact laws_eqCode.mono _ _ _ _ _)
   | (with_reducible exact laws_eqIntS.mono _ _ _)
   | (with_reducible exact laws_heldCode.mono _ _ _ _)
   | (with_reducible exact laws_markCode.mono _ _ _ _)
   | (with_reducible exact laws_markIntS.mono _ _ _)
   | (with_reducible exact laws_toIntS.mono _ _)
   | (with_reducible exact spec_EstrinCode.mono _ _)
   | (with_reducible exact LeO.refl _)
   | (with_reducible exact LeO.none _)
   | (with_reducible refine LeO.ite ?_ ?_)
   | (with_reducible refine LeO.bind ?_ (fun _ => ?_))
   | exact ih0 _ _ _ _ _ _ _ _ _
   | exact ih1 _ _ _ _ _ _ _
   | exact ih2 _ _ _ _
   | exact impl_EstrinCode.mono _ _
   | exact laws_eqCode.mono _ _ _ _ _
   | exact laws_eqIntS.mono _ _ _
   | exact laws_heldCode.mono _ _ _ _
   | exact laws_markCode.mono _ _ _ _
   | exact laws_markIntS.mono _ _ _
   | exact laws_toIntS.mono _ _
   | exact spec_EstrinCode.mono _ _
   | exact LeO.none _
   | refine LeO.ite ?_ ?_
   | refine LeO.bind ?_ (fun _ => ?_)
  ·intro y0 y1 y2 y3 y4 y5 y6
   unfold laws_FnExactEstrinCode.j1
   repeat' first
   | (with_reducible exact ih0 _ _ _ _ _ _ _ _ _)
   | (with_reducible exact ih1 _ _ _ _ _ _ _)
   | (with_reducible exact ih2 _ _ _ _)
   | (with_reducible exact impl_EstrinCode.mono _ _)
   | (with_reducible exact laws_eqCode.mono _ _ _ _ _)
   | (with_reducible exact laws_eqIntS.mono _ _ _)
   | (with_reducible exact laws_heldCode.mono _ _ _ _)
   | (with_reducible exact laws_markCode.mono _ _ _ _)
   | (with_reducible exact laws_markIntS.mono _ _ _)
   | (with_reducible exact laws_toIntS.mono _ _)
   | (with_reducible exact spec_EstrinCode.mono _ _)
   | (with_reducible exact LeO.refl _)
   | (with_reducible exact LeO.none _)
   | (with_reducible refine LeO.ite ?_ ?_)
   | (with_reducible refine LeO.bind ?_ (fun _ => ?_))
   | exact ih0 _ _ _ _ _ _ _ _ _
   | exact ih1 _ _ _ _ _ _ _
   | exact ih2 _ _ _ _
   | exact impl_EstrinCode.mono _ _
   | exact laws_eqCode.mono _ _ _ _ _
   | exact laws_eqIntS.mono _ _ _
   | exact laws_heldCode.mono _ _ _ _
   | exact laws_markCode.mono _ _ _ _
   | exact laws_markIntS.mono _ _ _
   | exact laws_toIntS.mono _ _
   | exact spec_EstrinCode.mono _ _
   | exact LeO.none _
   | refine LeO.ite ?_ ?_
   | refine LeO.bind ?_ (fun _ => ?_)
  ·intro y0 y1 y2 y3
   unfold laws_FnExactEstrinCode.j2
   repeat' first
   | (with_reducible exact ih0 _ _ _ _ _ _ _ _ _)
   | (with_reducible exact ih1 _ _ _ _ _ _ _)
   | (with_reducible exact ih2 _ _ _ _)
   | (with_reducible exact impl_EstrinCode.mono _ _)
   | (with_reducible exact laws_eqCode.mono _ _ _ _ _)
   | (with_reducible exact laws_eqIntS.mono _ _ _)
   | (with_reducible exact laws_heldCode.mono _ _ _ _)
   | (with_reducible exact laws_markCode.mono _ _ _ _)
   | (with_reducible exact laws_markIntS.mono _ _ _)
   | (with_reducible exact laws_toIntS.mono _ _)
   | (with_reducible exact spec_EstrinCode.mono _ _)
   | (with_reducible exact LeO.refl _)
   | (with_reducible exact LeO.none _)
   | (with_reducible refine LeO.ite ?_ ?_)
   | (with_reducible refine LeO.bind ?_ (fun _ => ?_))
   | exact ih0 _ _ _ _ _ _ _ _ _
   | exact ih1 _ _ _ _ _ _ _
   | exact ih2 _ _ _ _
   | exact impl_EstrinCode.mono _ _
   | exact laws_eqCode.mono _ _ _ _ _
   | exact laws_eqIntS.mono _ _ _
   | exact laws_heldCode.mono _ _ _ _
   | exact laws_markCode.mono _ _ _ _
   | exact laws_markIntS.mono _ _ _
   | exact laws_toIntS.mono _ _
   | exact spec_EstrinCode.mono _ _
   | exact LeO.none _
   | refine LeO.ite ?_ ?_
   | refine LeO.bind ?_ (fun _ => ?_)
theorem laws_FnExactEstrinCode.mono : ∀ a0 k, LeO (laws_FnExactEstrinCode.f k a0) (laws_FnExactEstrinCode.f (k + 1) a0) := by
 intro a0 k
 obtain ⟨ih0, ih1, ih2⟩ := laws_FnExactEstrinCode.zb2 k
 unfold laws_FnExactEstrinCode.f
 repeat' first
   | (with_reducible exact ih0 _ _ _ _ _ _ _ _ _)
   | (with_reducible exact ih1 _ _ _ _ _ _ _)
   | (with_reducible exact ih2 _ _ _ _)
   | (with_reducible exact impl_EstrinCode.mono _ _)
   | (with_reducible exact laws_eqCode.mono _ _ _ _ _)
   | (with_reducible exact laws_eqIntS.mono _ _ _)
   | (with_reducible exact laws_heldCode.mono _ _ _ _)
   | (with_reducible exact laws_markCode.mono _ _ _ _)
   | (with_reducible exact laws_markIntS.mono _ _ _)
   | (with_reducible exact laws_toIntS.mono _ _)
   | (with_reducible exact spec_EstrinCode.mono _ _)
   | (with_reducible exact LeO.refl _)
   | (with_reducible exact LeO.none _)
   | (with_reducible refine LeO.ite ?_ ?_)
   | (with_reducible refine LeO.bind ?_ (fun _ => ?_))
   | exact ih0 _ _ _ _ _ _ _ _ _
   | exact ih1 _ _ _ _ _ _ _
   | exact ih2 _ _ _ _
   | exact impl_EstrinCode.mono _ _
   | exact laws_eqCode.mono _ _ _ _ _
   | exact laws_eqIntS.mono _ _ _
   | exact laws_heldCode.mono _ _ _ _
   | exact laws_markCode.mono _ _ _ _
   | exact laws_markIntS.mono _ _ _
   | exact laws_toIntS.mono _ _
   | exact spec_EstrinCode.mono _ _
   | exact LeO.none _
   | refine LeO.ite ?_ ?_
   | refine LeO.bind ?_ (fun _ => ?_)
set_option maxHeartbeats 8000000 in
set_option maxRecDepth 100000 in
theorem laws_FnExactEstrinCode.calls (k : Nat) (A0 : Option Addr) (c0 : Nat) (l0 : List Int) (r : Bool) (w : World) (hr0 : Kd.C (Kd.int .i64) w A0 l0.length l0) (hc0 : l0.length ≤ c0) (h : laws_FnExactEstrinCode.f k l0 = some r) :
  Calls Try.prog 15 #[.slice A0 l0.length c0] w fun e w' => e = .returned (.bool r) ∧ Below w.heap.size w w' := by
 have hu39 := Try.underlying39
 have HR0 := Aside0.mk hr0
 have HC0 := Aside0.mk hc0
 clear hr0 hc0
 have HB := Aside0.mk (Below.refl w.heap.size w)
 have H : (if (l0.length : Int) > 1048576 then (some true) else ((laws_toIntS.f k l0).bind fun t530 => ((spec_EstrinCode.f k t530).bind fun bt533 => ((laws_toIntS.f k l0).bind fun t539 => ((impl_EstrinCode.f k t539).bind fun bt542 => ((laws_eqCode.f k bt542.1 bt542.2.1 bt533.1 bt533.2.1).bind fun t548 => (if t548 = true then (laws_FnExactEstrinCode.j0 k l0 bt533.2.2 t539 bt542.2.2 (bt542.2.2 != bt533.2.2) bt533.1 bt533.2.1 bt542.1 bt542.2.1) else (laws_FnExactEstrinCode.j0 k l0 bt533.2.2 t539 bt542.2.2 true bt533.1 bt533.2.1 bt542.1 bt542.2.1)))))))) = some r := h
 clear h
 by_cases c2 : (l0.length : Int) > 1048576
 ·rw [if_pos c2] at H
  have c2b0 : decide (1048576 < (l0.length : Int)) = true := decide_eq_true c2
  have c2b1 : decide (1048576 < l0.length) = true := decide_eq_true (by omega)
  clear c2
  obtain rfl := Option.some.inj H
  go_enter Try.func15, Try.ntmps15
  go_wp2
  go_ret
  exact ⟨by first | rfl | (simp [zaf, zah] <;> rfl) | (simp [*, zaf, zah] <;> rfl), by repeat (first | (with_reducible first | exact HB.out | apply za2 | apply za0 | apply za1) | exact HB.out)⟩
 ·rw [if_neg c2] at H
  have c2b0 : decide (1048576 < (l0.length : Int)) = false := decide_eq_false c2
  have c2b1 : decide (1048576 < l0.length) = false := decide_eq_false (by omega)
  clear c2
  replace H := Option.bind_eq_some_iff.mp H
  obtain ⟨t530, A30, H⟩ := H
  replace H : ((spec_EstrinCode.f k t530).bind fun bt533 => ((laws_toIntS.f k l0).bind fun t539 => ((impl_EstrinCode.f k t539).bind fun bt542 => ((laws_eqCode.f k bt542.1 bt542.2.1 bt533.1 bt533.2.1).bind fun t548 => (if t548 = true then (laws_FnExactEstrinCode.j0 k l0 bt533.2.2 t539 bt542.2.2 (bt542.2.2 != bt533.2.2) bt533.1 bt533.2.1 bt542.1 bt542.2.1) else (laws_FnExactEstrinCode.j0 k l0 bt533.2.2 t539 bt542.2.2 true bt533.1 bt533.2.1 bt542.1 bt542.2.1)))))) = some r := H
  have A3 := Aside0.mk A30
  clear A30
  replace H := Option.bind_eq_some_iff.mp H
  obtain ⟨⟨t533, t536, t537⟩, A40, H⟩ := H
  replace H : ((laws_toIntS.f k l0).bind fun t539 => ((impl_EstrinCode.f k t539).bind fun bt542 => ((laws_eqCode.f k bt542.1 bt542.2.1 t533 t536).bind fun t548 => (if t548 = true then (laws_FnExactEstrinCode.j0 k l0 t537 t539 bt542.2.2 (bt542.2.2 != t537) t533 t536 bt542.1 bt542.2.1) else (laws_FnExactEstrinCode.j0 k l0 t537 t539 bt542.2.2 true t533 t536 bt542.1 bt542.2.1))))) = some r := H
  have A4 := Aside0.mk A40
  clear A40
  replace H := Option.bind_eq_some_iff.mp H
  obtain ⟨t539, A50, H⟩ := H
  replace H : ((impl_EstrinCode.f k t539).bind fun bt542 => ((laws_eqCode.f k bt542.1 bt542.2.1 t533 t536).bind fun t548 => (if t548 = true then (laws_FnExactEstrinCode.j0 k l0 t537 t539 bt542.2.2 (bt542.2.2 != t537) t533 t536 bt542.1 bt542.2.1) else (laws_FnExactEstrinCode.j0 k l0 t537 t539 bt542.2.2 true t533 t536 bt542.1 bt542.2.1)))) = some r := H
  have A5 := Aside0.mk A50
  clear A50
  replace H := Option.bind_eq_some_iff.mp H
  obtain ⟨⟨t542, t545, t546⟩, A60, H⟩ := H
  replace H : ((laws_eqCode.f k t542 t545 t533 t536).bind fun t548 => (if t548 = true then (laws_FnExactEstrinCode.j0 k l0 t537 t539 t546 (t546 != t537) t533 t536 t542 t545) else (laws_FnExactEstrinCode.j0 k l0 t537 t539 t546 true t533 t536 t542 t545))) = some r := H
  have A6 := Aside0.mk A60
  clear A60
  have HC7 := Aside0.mk H
  clear H
  go_enter Try.func15, Try.ntmps15
  go_upto_region 6 with (first | ((with_reducible refine zaj (f := 17) rfl ?_); refine zaz (some 18) rfl rfl Try.func17 (by kernel_rfl) rfl #[.slice A0 l0.length c0] rfl (by (try simp only [List.map_toArray, List.map_cons, List.map_nil]); first | done | rfl | (simp only [List.length_drop, List.length_take]; rfl)) ?_; (with_reducible refine (laws_toIntS.calls k _ _ l0 t530 _ ?side1 ?side2 A3.out).mono ?_); (case side1 => repeat (first | exact HR0.out | (with_reducible refine Kd.zar ?_ _) | (with_reducible refine Kd.zas ?_ _) | (with_reducible refine Kd.zav ?_))); (case side2 => exact HC0.out); rintro e w8 ⟨v531, rfl, ho0, hb⟩; refine ⟨_, rfl, ?_⟩; have n0_ := Aside0.mk (Kd.zb1 ho0 (za9 (by repeat (first | (with_reducible first | exact HB.out | apply za2 | apply za0 | apply za1) | exact HB.out)))); have n1_ := Aside0.mk (zad (by repeat (first | (with_reducible first | exact HB.out | apply za2 | apply za0 | apply za1) | exact HB.out)) hb); clear HB; have HO532 := n0_; have HB := n1_; clear n0_ n1_; (try clear hb); (try clear hb2); (try clear hk); (try clear hi); (try clear ho0); obtain ⟨Ao9, co9, eo9⟩ := Kd.zau HO532.out; subst eo9) | ((with_reducible refine zaj (f := 49) rfl ?_); refine zaz (some 19) rfl rfl Try.func49 (by kernel_rfl) rfl #[.slice Ao9 t530.length co9] rfl (by (try simp only [List.map_toArray, List.map_cons, List.map_nil]); first | done | rfl | (simp only [List.length_drop, List.length_take]; rfl)) ?_; (with_reducible refine (spec_EstrinCode.calls k _ _ t530 t533 t536 t537 _ ?side1 ?side2 A4.out).mono ?_); (case side1 => repeat (first | exact (Kd.R_reads' HO532.out).2.2 | (with_reducible refine Kd.zar ?_ _) | (with_reducible refine Kd.zas ?_ _) | (with_reducible refine Kd.zav ?_))); (case side2 => exact (Kd.R_reads' HO532.out).2.1); rintro e w10 ⟨v534, rfl, ho0, hb⟩; refine ⟨_, rfl, ?_⟩; have n0_ := Aside0.mk (Kd.zaq (by (with_reducible repeat (first | apply Kd.zac | apply Kd.zab | apply Kd.zai)); exact HO532.out) hb); have n1_ := Aside0.mk (Kd.zb1 ho0 (za9 (by repeat (first | (with_reducible first | exact HB.out | apply za2 | apply za0 | apply za1) | exact HB.out)))); have n2_ := Aside0.mk (zad (by repeat (first | (with_reducible first | exact HB.out | apply za2 | apply za0 | apply za1) | exact HB.out)) hb); clear HO532; clear HB; have HO532 := n0_; have HO535 := n1_; have HB := n2_; clear n0_ n1_ n2_; (try clear hb); (try clear hb2); (try clear hk); (try clear hi); (try clear ho0)) | ((with_reducible refine zal (N := 3) rfl ?_); refine zan ?hg (N := 3) ?hd (cs := #[.slice none 0 0, .int .i64 0]) (t := 39) ?hr ?_; (case hd => rfl); (case hg => rfl); (case hr => first | (go_simp; done) | (go_simp; rfl)); intro gb538 hg w11 hbox hb; have n0_ := Aside0.mk (Kd.zaq (by (with_reducible repeat (first | apply Kd.zac | apply Kd.zab | apply Kd.zai)); exact HO532.out) hb); have n1_ := Aside0.mk (Kd.zaq (by (with_reducible repeat (first | apply Kd.zac | apply Kd.zab | apply Kd.zai)); exact HO535.out) hb); have n2_ := Aside0.mk (zad (by repeat (first | (with_reducible first | exact HB.out | apply za2 | apply za0 | apply za1) | exact HB.out)) hb); have n3_ := Aside0.mk (hbox); have n4_ := Aside0.mk ((by rw [hg]; exact (za9 (by repeat (first | (with_reducible first | exact HB.out | apply za2 | apply za0 | apply za1) | exact HB.out))) : w.heap.size ≤ gb538)); have n5_ := Aside0.mk ((by rw [hg]; exact (za9 (by repeat (first | (with_reducible first | exact HB.out | apply za2 | apply za0 | apply za1) | exact HB.out))) : w.heap.size ≤ gb538)); clear HO532; clear HO535; clear HB; have HO532 := n0_; have HO535 := n1_; have HB := n2_; have BK538 := n3_; have GW538 := n4_; have GE538 := n5_; clear n0_ n1_ n2_ n3_ n4_ n5_; clear hb hbox hg; obtain ⟨Ao12, co12, eo12⟩ := Kd.zau HO535.out; subst eo12; have hcz13_0 : w11.cell? ⟨gb538, 0, none⟩ = some (.slice none 0 0) := (za8 BK538.out 0).trans rfl; have hcz13_1 : w11.cell? ⟨gb538, 1, none⟩ = some (.int .i64 0) := (za8 BK538.out 1).trans rfl; have hfz13_0 := za7 BK538.out 0; have hfz13_1 := za7 BK538.out 1) | ((with_reducible refine zaj (f := 17) rfl ?_); refine zaz (some 23) rfl rfl Try.func17 (by kernel_rfl) rfl #[.slice A0 l0.length c0] rfl (by (try simp only [List.map_toArray, List.map_cons, List.map_nil]); first | done | rfl | (simp only [List.length_drop, List.length_take]; rfl)) ?_; (with_reducible refine (laws_toIntS.calls k _ _ l0 t539 _ ?side1 ?side2 A5.out).mono ?_); (case side1 => exact Kd.zb4 HR0.out (by repeat (first | (with_reducible first | exact HB.out | apply za2 | apply za0 | apply za1 | refine za3 ?_ GE538.out) | exact HB.out))); (case side2 => exact HC0.out); rintro e w14 ⟨v540, rfl, ho0, hb⟩; refine ⟨_, rfl, ?_⟩; have n0_ := Aside0.mk (Kd.R_elder' (by (with_reducible repeat (first | apply Kd.zac | apply Kd.zab | apply Kd.zai)); exact (Kd.zam (Kd.R_far (p := ⟨gb538, 1, none⟩) (Kd.R_far (p := ⟨gb538, 0, none⟩) (Kd.zao HO532.out BK538.out (by decide)) (fun _ hk => hk.2) (.slice Ao12 t533.length co12)) (fun _ hk => hk.2) (.int .i64 t536)) (fun _ h_ => h_.1))) (Kd.R_base ho0) hb); have n1_ := Aside0.mk (Kd.zaq (by (with_reducible repeat (first | apply Kd.zac | apply Kd.zab | apply Kd.zai)); exact (Kd.zam (Kd.R_far (p := ⟨gb538, 1, none⟩) (Kd.R_far (p := ⟨gb538, 0, none⟩) (Kd.zao HO535.out BK538.out (by decide)) (fun _ hk => hk.2) (.slice Ao12 t533.length co12)) (fun _ hk => hk.2) (.int .i64 t536)) (fun _ h_ => h_.1))) hb); have n2_ := Aside0.mk (Kd.zb1 (Kd.R_new' ho0 (Kd.R_lt (by (with_reducible repeat (first | apply Kd.zac | apply Kd.zab | apply Kd.zai)); exact (Kd.zam (Kd.R_far (p := ⟨gb538, 1, none⟩) (Kd.R_far (p := ⟨gb538, 0, none⟩) (Kd.zao HO532.out BK538.out (by decide)) (fun _ hk => hk.2) (.slice Ao12 t533.length co12)) (fun _ hk => hk.2) (.int .i64 t536)) (fun _ h_ => h_.1))))) (za9 (by repeat (first | (with_reducible first | exact HB.out | apply za2 | apply za0 | apply za1 | refine za3 ?_ GE538.out) | exact HB.out)))); have n3_ := Aside0.mk (zae (g := gb538) (o := .cells #[.slice Ao12 t533.length co12, .int .i64 t536] 39 (0, 0)) (by (with_reducible repeat (first | refine za4 ?_ _ | refine za6 ?_ | refine za5 ?_ _)); refine zat (cs := #[.slice Ao12 t533.length co12, .int .i64 0]) ?_ 1 _ rfl; (with_reducible repeat (first | refine za4 ?_ _ | refine za6 ?_ | refine za5 ?_ _)); refine zat (cs := #[.slice none 0 0, .int .i64 0]) ?_ 0 _ rfl; (with_reducible repeat (first | refine za4 ?_ _ | refine za6 ?_ | refine za5 ?_ _)); exact BK538.out) hb); have n4_ := Aside0.mk (zad (by repeat (first | (with_reducible first | exact HB.out | apply za2 | apply za0 | apply za1 | refine za3 ?_ GE538.out) | exact HB.out)) hb); clear HO532; clear HO535; clear BK538; clear HB; have HO532 := n0_; have HO535 := n1_; have HO541 := n2_; have BK538 := n3_; have HB := n4_; clear n0_ n1_ n2_ n3_ n4_; (try clear hb); (try clear hb2); (try clear hk); (try clear hi); (try clear ho0); obtain ⟨Ao15, co15, eo15⟩ := Kd.zau HO541.out; subst eo15) | ((with_reducible refine zaj (f := 50) rfl ?_); refine zaz (some 26) rfl rfl Try.func50 (by kernel_rfl) rfl #[.slice Ao15 t539.length co15] rfl (by (try simp only [List.map_toArray, List.map_cons, List.map_nil]); first | done | rfl | (simp only [List.length_drop, List.length_take]; rfl)) ?_; (with_reducible refine (impl_EstrinCode.calls k _ _ t539 t542 t545 t546 _ ?side1 ?side2 A6.out).mono ?_); (case side1 => repeat (first | exact (Kd.R_reads' HO541.out).2.2 | (with_reducible refine Kd.zar ?_ _) | (with_reducible refine Kd.zas ?_ _) | (with_reducible refine Kd.zav ?_))); (case side2 => exact (Kd.R_reads' HO541.out).2.1); rintro e w16 ⟨v543, rfl, ho0, hb⟩; refine ⟨_, rfl, ?_⟩; have n0_ := Aside0.mk (Kd.zaq (by (with_reducible repeat (first | apply Kd.zac | apply Kd.zab | apply Kd.zai)); exact HO532.out) hb); have n1_ := Aside0.mk (Kd.R_elder' (by (with_reducible repeat (first | apply Kd.zac | apply Kd.zab | apply Kd.zai)); exact HO535.out) (Kd.R_base ho0) hb); have n2_ := Aside0.mk (Kd.zaq (by (with_reducible repeat (first | apply Kd.zac | apply Kd.zab | apply Kd.zai)); exact HO541.out) hb); have n3_ := Aside0.mk (Kd.zb1 (Kd.R_new' ho0 (Kd.R_lt (by (with_reducible repeat (first | apply Kd.zac | apply Kd.zab | apply Kd.zai)); exact HO535.out))) (za9 (by repeat (first | (with_reducible first | exact HB.out | apply za2 | apply za0 | apply za1 | refine za3 ?_ GE538.out) | exact HB.out)))); have n4_ := Aside0.mk (zae (g := gb538) (o := .cells #[.slice Ao12 t533.length co12, .int .i64 t536] 39 (0, 0)) (by (with_reducible repeat (first | refine za4 ?_ _ | refine za6 ?_ | refine za5 ?_ _)); exact BK538.out) hb); have n5_ := Aside0.mk (zad (by repeat (first | (with_reducible first | exact HB.out | apply za2 | apply za0 | apply za1 | refine za3 ?_ GE538.out) | exact HB.out)) hb); clear HO532; clear HO535; clear HO541; clear BK538; clear HB; have HO532 := n0_; have HO535 := n1_; have HO541 := n2_; have HO544 := n3_; have BK538 := n4_; have HB := n5_; clear n0_ n1_ n2_ n3_ n4_ n5_; (try clear hb); (try clear hb2); (try clear hk); (try clear hi); (try clear ho0)) | ((with_reducible refine zal (N := 6) rfl ?_); refine zan ?hg (N := 6) ?hd (cs := #[.slice none 0 0, .int .i64 0]) (t := 39) ?hr ?_; (case hd => rfl); (case hg => rfl); (case hr => first | (go_simp; done) | (go_simp; rfl)); intro gb547 hg w17 hbox hb; have n0_ := Aside0.mk (Kd.zaq (by (with_reducible repeat (first | apply Kd.zac | apply Kd.zab | apply Kd.zai)); exact HO532.out) hb); have n1_ := Aside0.mk (Kd.zaq (by (with_reducible repeat (first | apply Kd.zac | apply Kd.zab | apply Kd.zai)); exact HO535.out) hb); have n2_ := Aside0.mk (Kd.zaq (by (with_reducible repeat (first | apply Kd.zac | apply Kd.zab | apply Kd.zai)); exact HO541.out) hb); have n3_ := Aside0.mk (Kd.zaq (by (with_reducible repeat (first | apply Kd.zac | apply Kd.zab | apply Kd.zai)); exact HO544.out) hb); have n4_ := Aside0.mk (zae (g := gb538) (o := .cells #[.slice Ao12 t533.length co12, .int .i64 t536] 39 (0, 0)) (by (with_reducible repeat (first | refine za4 ?_ _ | refine za6 ?_ | refine za5 ?_ _)); exact BK538.out) hb); have n5_ := Aside0.mk (zad (by repeat (first | (with_reducible first | exact HB.out | apply za2 | apply za0 | apply za1 | refine za3 ?_ GE538.out) | exact HB.out)) hb); have n6_ := Aside0.mk (hbox); have n7_ := Aside0.mk ((by rw [hg]; exact (za9 (by repeat (first | (with_reducible first | exact HB.out | apply za2 | apply za0 | apply za1 | refine za3 ?_ GE538.out) | exact HB.out))) : w.heap.size ≤ gb547)); have n8_ := Aside0.mk ((by rw [hg]; exact (za9 (by repeat (first | (with_reducible first | exact HB.out | apply za2 | apply za0 | apply za1 | refine za3 ?_ GE538.out) | exact HB.out))) : w.heap.size ≤ gb547)); have n9_ := Aside0.mk ((by rw [hg]; exact Nat.ne_of_lt (zay (g := gb538) (o := .cells #[.slice Ao12 t533.length co12, .int .i64 t536] 39 (0, 0)) (by (with_reducible repeat (first | refine za4 ?_ _ | refine za6 ?_ | refine za5 ?_ _)); exact BK538.out)) : gb538 ≠ gb547)); have n10_ := Aside0.mk ((by rw [hg]; exact Nat.ne_of_gt (zay (g := gb538) (o := .cells #[.slice Ao12 t533.length co12, .int .i64 t536] 39 (0, 0)) (by (with_reducible repeat (first | refine za4 ?_ _ | refine za6 ?_ | refine za5 ?_ _)); exact BK538.out)) : gb547 ≠ gb538)); clear HO532; clear HO535; clear HO541; clear HO544; clear BK538; clear HB; have HO532 := n0_; have HO535 := n1_; have HO541 := n2_; have HO544 := n3_; have BK538 := n4_; have HB := n5_; have BK547 := n6_; have GW547 := n7_; have GE547 := n8_; have NB538_547 := n9_; have NB547_538 := n10_; clear n0_ n1_ n2_ n3_ n4_ n5_ n6_ n7_ n8_ n9_ n10_; clear hb hbox hg; obtain ⟨Ao18, co18, eo18⟩ := Kd.zau HO544.out; subst eo18; have hnb19 := NB547_538.out; have hnc19 := NB538_547.out; have hcz20_0 : w17.cell? ⟨gb547, 0, none⟩ = some (.slice none 0 0) := (za8 BK547.out 0).trans rfl; have hcz20_1 : w17.cell? ⟨gb547, 1, none⟩ = some (.int .i64 0) := (za8 BK547.out 1).trans rfl; have hfz20_0 := za7 BK547.out 0; have hfz20_1 := za7 BK547.out 1))
  (try simp only [Act.put, List.setIfInBounds_toArray, List.set_cons_zero, List.set_cons_succ])
  go_cut [37] (fun v37 wc => ∃ (kq : Nat) (x37_6 : Bool), v37 = .bool x37_6 ∧ Aside0 (laws_FnExactEstrinCode.j0 kq l0 t537 t539 t546 x37_6 t533 t536 t542 t545 = some r) ∧ Aside0 (kq ≤ k) ∧ Aside0 (Kd.R (Kd.int .i64) 3 wc w.heap.size (fun _ => True) (.slice Ao15 t539.length co15) t539) ∧ Aside0 (Kd.R k69 69 wc w.heap.size (fun k_ => some k_ ≠ ((.slice Ao18 t542.length co18) : Value).ownBlock) (.slice Ao12 t533.length co12) t533) ∧ Aside0 (Kd.R k69 69 wc w.heap.size (fun k_ => some k_ ≠ ((.slice Ao12 t533.length co12) : Value).ownBlock) (.slice Ao18 t542.length co18) t542) ∧ Aside0 (wc.heap[gb538]? = some (.cells #[(.slice Ao12 t533.length co12), .int .i64 t536] 39 (0, 0))) ∧ Aside0 (wc.heap[gb547]? = some (.cells #[(.slice Ao18 t542.length co18), .int .i64 t545] 39 (0, 0))) ∧ Aside0 (Below w.heap.size w wc))
  case first =>
   have H := HC7.out
   clear HC7
   replace H := Option.bind_eq_some_iff.mp H
   obtain ⟨t548, A210, H⟩ := H
   replace H : (if t548 = true then (laws_FnExactEstrinCode.j0 k l0 t537 t539 t546 (t546 != t537) t533 t536 t542 t545) else (laws_FnExactEstrinCode.j0 k l0 t537 t539 t546 true t533 t536 t542 t545)) = some r := H
   have A21 := Aside0.mk A210
   clear A210
   by_cases c22 : t548 = true
   ·subst c22
    have H1 : (laws_FnExactEstrinCode.j0 k l0 t537 t539 t546 (t546 != t537) t533 t536 t542 t545) = some r := by rw [if_pos rfl] at H; exact H
    clear H
    have H := H1
    clear H1
    have H' := Aside0.mk H
    clear H
    have hnb23 := NB547_538.out
    have hnc23 := NB538_547.out
    have hcz24_0 : w17.cell? ⟨gb547, 0, none⟩ = some (.slice none 0 0) := (za8 BK547.out 0).trans rfl
    have hcz24_1 : w17.cell? ⟨gb547, 1, none⟩ = some (.int .i64 0) := (za8 BK547.out 1).trans rfl
    have hfz24_0 := za7 BK547.out 0
    have hfz24_1 := za7 BK547.out 1
    have hcz25_0 : w17.cell? ⟨gb538, 0, none⟩ = some (.slice Ao12 t533.length co12) := (za8 BK538.out 0).trans rfl
    have hcz25_1 : w17.cell? ⟨gb538, 1, none⟩ = some (.int .i64 t536) := (za8 BK538.out 1).trans rfl
    have hfz25_0 := za7 BK538.out 0
    have hfz25_1 := za7 BK538.out 1
    go_wp2_with (first | ((with_reducible refine zaj (f := 28) rfl ?_); refine zaz (some 31) rfl rfl Try.func28 (by kernel_rfl) rfl #[.agg #[.slice Ao18 t542.length co18, .int .i64 t545], .agg #[.slice Ao12 t533.length co12, .int .i64 t536]] rfl (by (try simp only [List.map_toArray, List.map_cons, List.map_nil]); first | done | rfl | (simp only [List.length_drop, List.length_take]; rfl)) ?_; (with_reducible refine (laws_eqCode.calls k _ _ t542 t545 _ _ t533 t536 true _ ?side1 ?side2 ?side3 ?side4 A21.out).mono ?_); (case side1 => refine (Kd.R_reads' (e := 69) (base := w.heap.size) (ok := fun k_ => (True ∧ some k_ ≠ (.slice Ao12 t533.length co12 : Value).ownBlock)) (n := t542.length) (c := co18) ?_).2.2; exact (by (with_reducible repeat (first | apply Kd.zac | apply Kd.zab | apply Kd.zai)); exact (Kd.zam (Kd.R_far (p := ⟨gb547, 1, none⟩) (Kd.R_far (p := ⟨gb547, 0, none⟩) (Kd.zao HO544.out BK547.out (by decide)) (fun _ hk => hk.2) (.slice Ao18 t542.length co18)) (fun _ hk => hk.2) (.int .i64 t545)) (fun _ h_ => h_.1)))); (case side2 => exact (Kd.R_reads' HO544.out).2.1); (case side3 => refine (Kd.R_reads' (e := 69) (base := w.heap.size) (ok := fun k_ => (True ∧ some k_ ≠ (.slice Ao18 t542.length co18 : Value).ownBlock)) (n := t533.length) (c := co12) ?_).2.2; exact (by (with_reducible repeat (first | apply Kd.zac | apply Kd.zab | apply Kd.zai)); exact (Kd.zam (Kd.R_far (p := ⟨gb547, 1, none⟩) (Kd.R_far (p := ⟨gb547, 0, none⟩) (Kd.zao HO535.out BK547.out (by decide)) (fun _ hk => hk.2) (.slice Ao18 t542.length co18)) (fun _ hk => hk.2) (.int .i64 t545)) (fun _ h_ => h_.1)))); (case side4 => exact (Kd.R_reads' HO535.out).2.1); rintro e w26 ⟨rfl, hb⟩; refine ⟨_, rfl, ?_⟩; have n0_ := Aside0.mk (Kd.zaq (by (with_reducible repeat (first | apply Kd.zac | apply Kd.zab | apply Kd.zai)); exact (Kd.zam (Kd.R_far (p := ⟨gb547, 1, none⟩) (Kd.R_far (p := ⟨gb547, 0, none⟩) (Kd.zao HO532.out BK547.out (by decide)) (fun _ hk => hk.2) (.slice Ao18 t542.length co18)) (fun _ hk => hk.2) (.int .i64 t545)) (fun _ h_ => h_.1))) hb); have n1_ := Aside0.mk (Kd.zaq (by (with_reducible repeat (first | apply Kd.zac | apply Kd.zab | apply Kd.zai)); exact (Kd.zam (Kd.R_far (p := ⟨gb547, 1, none⟩) (Kd.R_far (p := ⟨gb547, 0, none⟩) (Kd.zao HO535.out BK547.out (by decide)) (fun _ hk => hk.2) (.slice Ao18 t542.length co18)) (fun _ hk => hk.2) (.int .i64 t545)) (fun _ h_ => h_.1))) hb); have n2_ := Aside0.mk (Kd.zaq (by (with_reducible repeat (first | apply Kd.zac | apply Kd.zab | apply Kd.zai)); exact (Kd.zam (Kd.R_far (p := ⟨gb547, 1, none⟩) (Kd.R_far (p := ⟨gb547, 0, none⟩) (Kd.zao HO541.out BK547.out (by decide)) (fun _ hk => hk.2) (.slice Ao18 t542.length co18)) (fun _ hk => hk.2) (.int .i64 t545)) (fun _ h_ => h_.1))) hb); have n3_ := Aside0.mk (Kd.zaq (by (with_reducible repeat (first | apply Kd.zac | apply Kd.zab | apply Kd.zai)); exact (Kd.zam (Kd.R_far (p := ⟨gb547, 1, none⟩) (Kd.R_far (p := ⟨gb547, 0, none⟩) (Kd.zao HO544.out BK547.out (by decide)) (fun _ hk => hk.2) (.slice Ao18 t542.length co18)) (fun _ hk => hk.2) (.int .i64 t545)) (fun _ h_ => h_.1))) hb); have n4_ := Aside0.mk (zae (g := gb538) (o := .cells #[.slice Ao12 t533.length co12, .int .i64 t536] 39 (0, 0)) (by (with_reducible repeat (first | refine za4 ?_ _ | refine za6 ?_ | refine za5 ?_ _)); refine zax ?_ NB538_547.out _; (with_reducible repeat (first | refine za4 ?_ _ | refine za6 ?_ | refine za5 ?_ _)); refine zax ?_ NB538_547.out _; (with_reducible repeat (first | refine za4 ?_ _ | refine za6 ?_ | refine za5 ?_ _)); exact BK538.out) hb); have n5_ := Aside0.mk (zae (g := gb547) (o := .cells #[.slice Ao18 t542.length co18, .int .i64 t545] 39 (0, 0)) (by (with_reducible repeat (first | refine za4 ?_ _ | refine za6 ?_ | refine za5 ?_ _)); refine zat (cs := #[.slice Ao18 t542.length co18, .int .i64 0]) ?_ 1 _ rfl; (with_reducible repeat (first | refine za4 ?_ _ | refine za6 ?_ | refine za5 ?_ _)); refine zat (cs := #[.slice none 0 0, .int .i64 0]) ?_ 0 _ rfl; (with_reducible repeat (first | refine za4 ?_ _ | refine za6 ?_ | refine za5 ?_ _)); exact BK547.out) hb); have n6_ := Aside0.mk (zad (by repeat (first | (with_reducible first | exact HB.out | apply za2 | apply za0 | apply za1 | refine za3 ?_ GE538.out | refine za3 ?_ GE547.out) | exact HB.out)) hb); clear HO532; clear HO535; clear HO541; clear HO544; clear BK538; clear BK547; clear HB; have HO532 := n0_; have HO535 := n1_; have HO541 := n2_; have HO544 := n3_; have BK538 := n4_; have BK547 := n5_; have HB := n6_; clear n0_ n1_ n2_ n3_ n4_ n5_ n6_; (try clear hb); (try clear hb2); (try clear hk); (try clear hi)))
    go_meet
    case rel => exact ⟨_, ((t546 != t537)), (by first | rfl | (simp; done) | (simp [*]; done)), H', ⟨by first | omega | exact Nat.le_refl _⟩, ⟨by (with_reducible repeat (first | apply Kd.zac | apply Kd.zab | apply Kd.zai)); exact Kd.zam HO541.out (fun _ hk => trivial)⟩, ⟨by (with_reducible repeat (first | apply Kd.zac | apply Kd.zab | apply Kd.zai)); exact Kd.zam HO535.out (fun _ hk => hk.2)⟩, ⟨by (with_reducible repeat (first | apply Kd.zac | apply Kd.zab | apply Kd.zai)); exact Kd.zam HO544.out (fun _ hk => hk.2)⟩, ⟨by (with_reducible repeat (first | refine za4 ?_ _ | refine za6 ?_ | refine za5 ?_ _)); exact BK538.out⟩, ⟨by (with_reducible repeat (first | refine za4 ?_ _ | refine za6 ?_ | refine za5 ?_ _)); exact BK547.out⟩, ⟨by repeat (first | (with_reducible first | exact HB.out | apply za2 | apply za0 | apply za1 | refine za3 ?_ GE538.out | refine za3 ?_ GE547.out) | exact HB.out)⟩⟩
   ·replace c22 := Bool.eq_false_iff.mpr c22
    subst c22
    have H1 : (laws_FnExactEstrinCode.j0 k l0 t537 t539 t546 true t533 t536 t542 t545) = some r := by rw [if_neg (show ¬ (false = true) by decide)] at H; exact H
    clear H
    have H := H1
    clear H1
    have H' := Aside0.mk H
    clear H
    have hnb27 := NB547_538.out
    have hnc27 := NB538_547.out
    have hcz28_0 : w17.cell? ⟨gb547, 0, none⟩ = some (.slice none 0 0) := (za8 BK547.out 0).trans rfl
    have hcz28_1 : w17.cell? ⟨gb547, 1, none⟩ = some (.int .i64 0) := (za8 BK547.out 1).trans rfl
    have hfz28_0 := za7 BK547.out 0
    have hfz28_1 := za7 BK547.out 1
    have hcz29_0 : w17.cell? ⟨gb538, 0, none⟩ = some (.slice Ao12 t533.length co12) := (za8 BK538.out 0).trans rfl
    have hcz29_1 : w17.cell? ⟨gb538, 1, none⟩ = some (.int .i64 t536) := (za8 BK538.out 1).trans rfl
    have hfz29_0 := za7 BK538.out 0
    have hfz29_1 := za7 BK538.out 1
    go_wp2_with (first | ((with_reducible refine zaj (f := 28) rfl ?_); refine zaz (some 31) rfl rfl Try.func28 (by kernel_rfl) rfl #[.agg #[.slice Ao18 t542.length co18, .int .i64 t545], .agg #[.slice Ao12 t533.length co12, .int .i64 t536]] rfl (by (try simp only [List.map_toArray, List.map_cons, List.map_nil]); first | done | rfl | (simp only [List.length_drop, List.length_take]; rfl)) ?_; (with_reducible refine (laws_eqCode.calls k _ _ t542 t545 _ _ t533 t536 false _ ?side1 ?side2 ?side3 ?side4 A21.out).mono ?_); (case side1 => refine (Kd.R_reads' (e := 69) (base := w.heap.size) (ok := fun k_ => (True ∧ some k_ ≠ (.slice Ao12 t533.length co12 : Value).ownBlock)) (n := t542.length) (c := co18) ?_).2.2; exact (by (with_reducible repeat (first | apply Kd.zac | apply Kd.zab | apply Kd.zai)); exact (Kd.zam (Kd.R_far (p := ⟨gb547, 1, none⟩) (Kd.R_far (p := ⟨gb547, 0, none⟩) (Kd.zao HO544.out BK547.out (by decide)) (fun _ hk => hk.2) (.slice Ao18 t542.length co18)) (fun _ hk => hk.2) (.int .i64 t545)) (fun _ h_ => h_.1)))); (case side2 => exact (Kd.R_reads' HO544.out).2.1); (case side3 => refine (Kd.R_reads' (e := 69) (base := w.heap.size) (ok := fun k_ => (True ∧ some k_ ≠ (.slice Ao18 t542.length co18 : Value).ownBlock)) (n := t533.length) (c := co12) ?_).2.2; exact (by (with_reducible repeat (first | apply Kd.zac | apply Kd.zab | apply Kd.zai)); exact (Kd.zam (Kd.R_far (p := ⟨gb547, 1, none⟩) (Kd.R_far (p := ⟨gb547, 0, none⟩) (Kd.zao HO535.out BK547.out (by decide)) (fun _ hk => hk.2) (.slice Ao18 t542.length co18)) (fun _ hk => hk.2) (.int .i64 t545)) (fun _ h_ => h_.1)))); (case side4 => exact (Kd.R_reads' HO535.out).2.1); rintro e w30 ⟨rfl, hb⟩; refine ⟨_, rfl, ?_⟩; have n0_ := Aside0.mk (Kd.zaq (by (with_reducible repeat (first | apply Kd.zac | apply Kd.zab | apply Kd.zai)); exact (Kd.zam (Kd.R_far (p := ⟨gb547, 1, none⟩) (Kd.R_far (p := ⟨gb547, 0, none⟩) (Kd.zao HO532.out BK547.out (by decide)) (fun _ hk => hk.2) (.slice Ao18 t542.length co18)) (fun _ hk => hk.2) (.int .i64 t545)) (fun _ h_ => h_.1))) hb); have n1_ := Aside0.mk (Kd.zaq (by (with_reducible repeat (first | apply Kd.zac | apply Kd.zab | apply Kd.zai)); exact (Kd.zam (Kd.R_far (p := ⟨gb547, 1, none⟩) (Kd.R_far (p := ⟨gb547, 0, none⟩) (Kd.zao HO535.out BK547.out (by decide)) (fun _ hk => hk.2) (.slice Ao18 t542.length co18)) (fun _ hk => hk.2) (.int .i64 t545)) (fun _ h_ => h_.1))) hb); have n2_ := Aside0.mk (Kd.zaq (by (with_reducible repeat (first | apply Kd.zac | apply Kd.zab | apply Kd.zai)); exact (Kd.zam (Kd.R_far (p := ⟨gb547, 1, none⟩) (Kd.R_far (p := ⟨gb547, 0, none⟩) (Kd.zao HO541.out BK547.out (by decide)) (fun _ hk => hk.2) (.slice Ao18 t542.length co18)) (fun _ hk => hk.2) (.int .i64 t545)) (fun _ h_ => h_.1))) hb); have n3_ := Aside0.mk (Kd.zaq (by (with_reducible repeat (first | apply Kd.zac | apply Kd.zab | apply Kd.zai)); exact (Kd.zam (Kd.R_far (p := ⟨gb547, 1, none⟩) (Kd.R_far (p := ⟨gb547, 0, none⟩) (Kd.zao HO544.out BK547.out (by decide)) (fun _ hk => hk.2) (.slice Ao18 t542.length co18)) (fun _ hk => hk.2) (.int .i64 t545)) (fun _ h_ => h_.1))) hb); have n4_ := Aside0.mk (zae (g := gb538) (o := .cells #[.slice Ao12 t533.length co12, .int .i64 t536] 39 (0, 0)) (by (with_reducible repeat (first | refine za4 ?_ _ | refine za6 ?_ | refine za5 ?_ _)); refine zax ?_ NB538_547.out _; (with_reducible repeat (first | refine za4 ?_ _ | refine za6 ?_ | refine za5 ?_ _)); refine zax ?_ NB538_547.out _; (with_reducible repeat (first | refine za4 ?_ _ | refine za6 ?_ | refine za5 ?_ _)); exact BK538.out) hb); have n5_ := Aside0.mk (zae (g := gb547) (o := .cells #[.slice Ao18 t542.length co18, .int .i64 t545] 39 (0, 0)) (by (with_reducible repeat (first | refine za4 ?_ _ | refine za6 ?_ | refine za5 ?_ _)); refine zat (cs := #[.slice Ao18 t542.length co18, .int .i64 0]) ?_ 1 _ rfl; (with_reducible repeat (first | refine za4 ?_ _ | refine za6 ?_ | refine za5 ?_ _)); refine zat (cs := #[.slice none 0 0, .int .i64 0]) ?_ 0 _ rfl; (with_reducible repeat (first | refine za4 ?_ _ | refine za6 ?_ | refine za5 ?_ _)); exact BK547.out) hb); have n6_ := Aside0.mk (zad (by repeat (first | (with_reducible first | exact HB.out | apply za2 | apply za0 | apply za1 | refine za3 ?_ GE538.out | refine za3 ?_ GE547.out) | exact HB.out)) hb); clear HO532; clear HO535; clear HO541; clear HO544; clear BK538; clear BK547; clear HB; have HO532 := n0_; have HO535 := n1_; have HO541 := n2_; have HO544 := n3_; have BK538 := n4_; have BK547 := n5_; have HB := n6_; clear n0_ n1_ n2_ n3_ n4_ n5_ n6_; (try clear hb); (try clear hb2); (try clear hk); (try clear hi)))
    go_meet
    case rel => exact ⟨_, (true), (by first | rfl | (simp; done) | (simp [*]; done)), H', ⟨by first | omega | exact Nat.le_refl _⟩, ⟨by (with_reducible repeat (first | apply Kd.zac | apply Kd.zab | apply Kd.zai)); exact Kd.zam HO541.out (fun _ hk => trivial)⟩, ⟨by (with_reducible repeat (first | apply Kd.zac | apply Kd.zab | apply Kd.zai)); exact Kd.zam HO535.out (fun _ hk => hk.2)⟩, ⟨by (with_reducible repeat (first | apply Kd.zac | apply Kd.zab | apply Kd.zai)); exact Kd.zam HO544.out (fun _ hk => hk.2)⟩, ⟨by (with_reducible repeat (first | refine za4 ?_ _ | refine za6 ?_ | refine za5 ?_ _)); exact BK538.out⟩, ⟨by (with_reducible repeat (first | refine za4 ?_ _ | refine za6 ?_ | refine za5 ?_ _)); exact BK547.out⟩, ⟨by repeat (first | (with_reducible first | exact HB.out | apply za2 | apply za0 | apply za1 | refine za3 ?_ GE538.out | refine za3 ?_ GE547.out) | exact HB.out)⟩⟩
  case rest =>
   clear HC7
   try clear c1
   try clear c2
   try clear c2b0
   try clear c2b1
   try clear p2
   try clear c4
   try clear c5
   try clear c15
   try clear c17
   try clear c19
   try clear c22
   try clear c23
   try clear c27
   try clear c28
   try clear hcz13_0
   try clear hcz13_1
   try clear hcz20_0
   try clear hcz20_1
   try clear hcz24_0
   try clear hcz24_1
   try clear hcz25_0
   try clear hcz25_1
   try clear hcz28_0
   try clear hcz28_1
   try clear hcz29_0
   try clear hcz29_1
   try clear hfz13_0
   try clear hfz13_1
   try clear hfz20_0
   try clear hfz20_1
   try clear hfz24_0
   try clear hfz24_1
   try clear hfz25_0
   try clear hfz25_1
   try clear hfz28_0
   try clear hfz28_1
   try clear hfz29_0
   try clear hfz29_1
   obtain ⟨kq, x37_6, rfl, HA, HJ6, HO_5, HO_539000, HO_548000, BK538, BK547, HB⟩ := hcut
   cases kq with
   | zero => exact absurd HA.out (by simp [laws_FnExactEstrinCode.j0])
   | succ kj6 =>
    have H := HA.out
    clear HA
    simp only [laws_FnExactEstrinCode.j0] at H
    by_cases c31 : x37_6 = true
    ·subst c31
     have H1 : (some false) = some r := by rw [if_pos rfl] at H; exact H
     clear H
     have H := H1
     clear H1
     obtain rfl := Option.some.inj H
     go_wp2
     go_ret
     exact ⟨by first | rfl | (simp [zaf, zah] <;> rfl) | (simp [*, zaf, zah] <;> rfl), by repeat (first | (with_reducible first | exact HB.out | apply za2 | apply za0 | apply za1 | refine za3 ?_ GE538.out | refine za3 ?_ GE547.out) | exact HB.out)⟩
    ·replace c31 := Bool.eq_false_iff.mpr c31
     subst c31
     have H1 : ((laws_toIntS.f kj6 l0).bind fun t549 => ((laws_eqIntS.f kj6 t539 t549).bind fun t552 => (if t552 = true then ((laws_markIntS.f kj6 t539 1).bind fun bt553 => (if bt553.1 < 0 then (laws_FnExactEstrinCode.j1 kj6 l0 t537 true t533 t536 t542 t545) else ((laws_eqCode.f kj6 t542 t545 t533 t536).bind fun t555 => (if t555 = true then (laws_FnExactEstrinCode.j1 kj6 l0 t537 (t546 != t537) t533 t536 t542 t545) else (laws_FnExactEstrinCode.j1 kj6 l0 t537 true t533 t536 t542 t545))))) else (some false)))) = some r := by rw [if_neg (show ¬ (false = true) by decide)] at H; exact H
     clear H
     have H := H1
     clear H1
     replace H := Option.bind_eq_some_iff.mp H
     obtain ⟨t549, A320, H⟩ := H
     replace H : ((laws_eqIntS.f kj6 t539 t549).bind fun t552 => (if t552 = true then ((laws_markIntS.f kj6 t539 1).bind fun bt553 => (if bt553.1 < 0 then (laws_FnExactEstrinCode.j1 kj6 l0 t537 true t533 t536 t542 t545) else ((laws_eqCode.f kj6 t542 t545 t533 t536).bind fun t555 => (if t555 = true then (laws_FnExactEstrinCode.j1 kj6 l0 t537 (t546 != t537) t533 t536 t542 t545) else (laws_FnExactEstrinCode.j1 kj6 l0 t537 true t533 t536 t542 t545))))) else (some false))) = some r := H
     have A32 := Aside0.mk A320
     clear A320
     replace H := Option.bind_eq_some_iff.mp H
     obtain ⟨t552, A330, H⟩ := H
     replace H : (if t552 = true then ((laws_markIntS.f kj6 t539 1).bind fun bt553 => (if bt553.1 < 0 then (laws_FnExactEstrinCode.j1 kj6 l0 t537 true t533 t536 t542 t545) else ((laws_eqCode.f kj6 t542 t545 t533 t536).bind fun t555 => (if t555 = true then (laws_FnExactEstrinCode.j1 kj6 l0 t537 (t546 != t537) t533 t536 t542 t545) else (laws_FnExactEstrinCode.j1 kj6 l0 t537 true t533 t536 t542 t545))))) else (some false)) = some r := H
     have A33 := Aside0.mk A330
     clear A330
     by_cases c34 : t552 = true
     ·subst c34
      have H1 : ((laws_markIntS.f kj6 t539 1).bind fun bt553 => (if bt553.1 < 0 then (laws_FnExactEstrinCode.j1 kj6 l0 t537 true t533 t536 t542 t545) else ((laws_eqCode.f kj6 t542 t545 t533 t536).bind fun t555 => (if t555 = true then (laws_FnExactEstrinCode.j1 kj6 l0 t537 (t546 != t537) t533 t536 t542 t545) else (laws_FnExactEstrinCode.j1 kj6 l0 t537 true t533 t536 t542 t545))))) = some r := by rw [if_pos rfl] at H; exact H
      clear H
      have H := H1
      clear H1
      replace H := Option.bind_eq_some_iff.mp H
      obtain ⟨⟨t553, t554⟩, A350, H⟩ := H
      replace H : (if t553 < 0 then (laws_FnExactEstrinCode.j1 kj6 l0 t537 true t533 t536 t542 t545) else ((laws_eqCode.f kj6 t542 t545 t533 t536).bind fun t555 => (if t555 = true then (laws_FnExactEstrinCode.j1 kj6 l0 t537 (t546 != t537) t533 t536 t542 t545) else (laws_FnExactEstrinCode.j1 kj6 l0 t537 true t533 t536 t542 t545)))) = some r := H
      have A35 := Aside0.mk A350
      clear A350
      have HC36 := Aside0.mk H
      clear H
      go_upto_region 12 with (first | ((with_reducible refine zaj (f := 17) rfl ?_); refine zaz (some 40) rfl rfl Try.func17 (by kernel_rfl) rfl #[.slice A0 l0.length c0] rfl (by (try simp only [List.map_toArray, List.map_cons, List.map_nil]); first | done | rfl | (simp only [List.length_drop, List.length_take]; rfl)) ?_; (with_reducible refine (laws_toIntS.calls kj6 _ _ l0 t549 _ ?side1 ?side2 A32.out).mono ?_); (case side1 => repeat (first | exact (Kd.zb4 HR0.out HB.out) | (with_reducible refine Kd.zar ?_ _) | (with_reducible refine Kd.zas ?_ _) | (with_reducible refine Kd.zav ?_))); (case side2 => exact HC0.out); rintro e w37 ⟨v550, rfl, ho0, hb⟩; refine ⟨_, rfl, ?_⟩; have n0_ := Aside0.mk (Kd.R_elder' (by (with_reducible repeat (first | apply Kd.zac | apply Kd.zab | apply Kd.zai)); exact HO_5.out) (Kd.R_base ho0) hb); have n1_ := Aside0.mk (Kd.zaq (by (with_reducible repeat (first | apply Kd.zac | apply Kd.zab | apply Kd.zai)); exact HO_539000.out) hb); have n2_ := Aside0.mk (Kd.zaq (by (with_reducible repeat (first | apply Kd.zac | apply Kd.zab | apply Kd.zai)); exact HO_548000.out) hb); have n3_ := Aside0.mk (Kd.zb1 (Kd.R_new' ho0 (Kd.R_lt (by (with_reducible repeat (first | apply Kd.zac | apply Kd.zab | apply Kd.zai)); exact HO_5.out))) (za9 (by repeat (first | (with_reducible first | exact HB.out | apply za2 | apply za0 | apply za1 | refine za3 ?_ GE538.out | refine za3 ?_ GE547.out) | exact HB.out)))); have n4_ := Aside0.mk (zae (g := gb538) (o := .cells #[.slice Ao12 t533.length co12, .int .i64 t536] 39 (0, 0)) (by (with_reducible repeat (first | refine za4 ?_ _ | refine za6 ?_ | refine za5 ?_ _)); exact BK538.out) hb); have n5_ := Aside0.mk (zae (g := gb547) (o := .cells #[.slice Ao18 t542.length co18, .int .i64 t545] 39 (0, 0)) (by (with_reducible repeat (first | refine za4 ?_ _ | refine za6 ?_ | refine za5 ?_ _)); exact BK547.out) hb); have n6_ := Aside0.mk (zad (by repeat (first | (with_reducible first | exact HB.out | apply za2 | apply za0 | apply za1 | refine za3 ?_ GE538.out | refine za3 ?_ GE547.out) | exact HB.out)) hb); clear HO_5; clear HO_539000; clear HO_548000; clear BK538; clear BK547; clear HB; have HO_5 := n0_; have HO_539000 := n1_; have HO_548000 := n2_; have HO551 := n3_; have BK538 := n4_; have BK547 := n5_; have HB := n6_; clear n0_ n1_ n2_ n3_ n4_ n5_ n6_; (try clear hb); (try clear hb2); (try clear hk); (try clear hi); (try clear ho0); obtain ⟨Ao38, co38, eo38⟩ := Kd.zau HO551.out; subst eo38) | ((with_reducible refine zaj (f := 19) rfl ?_); refine zaz (some 41) rfl rfl Try.func19 (by kernel_rfl) rfl #[.slice Ao15 t539.length co15, .slice Ao38 t549.length co38] rfl (by (try simp only [List.map_toArray, List.map_cons, List.map_nil]); first | done | rfl | (simp only [List.length_drop, List.length_take]; rfl)) ?_; (with_reducible refine (laws_eqIntS.calls kj6 _ _ t539 _ _ t549 true _ ?side1 ?side2 ?side3 ?side4 A33.out).mono ?_); (case side1 => repeat (first | exact (Kd.R_reads' HO_5.out).2.2 | (with_reducible refine Kd.zar ?_ _) | (with_reducible refine Kd.zas ?_ _) | (with_reducible refine Kd.zav ?_))); (case side2 => exact (Kd.R_reads' HO_5.out).2.1); (case side3 => repeat (first | exact (Kd.R_reads' HO551.out).2.2 | (with_reducible refine Kd.zar ?_ _) | (with_reducible refine Kd.zas ?_ _) | (with_reducible refine Kd.zav ?_))); (case side4 => exact (Kd.R_reads' HO551.out).2.1); rintro e w' ⟨rfl, ⟨nd, rfl⟩⟩; refine ⟨_, rfl, ?_⟩) | ((with_reducible refine zaj (f := 38) rfl ?_); refine zaz (some 45) rfl rfl Try.func38 (by kernel_rfl) rfl #[.slice Ao15 t539.length co15, .int .i64 1] rfl (by (try simp only [List.map_toArray, List.map_cons, List.map_nil]); first | done | rfl | (simp only [List.length_drop, List.length_take]; rfl)) ?_; (with_reducible refine (laws_markIntS.calls kj6 (fun k_ => some k_ = (.slice Ao15 t539.length co15 : Value).ownBlock) (.slice Ao15 t539.length co15) t539 1 t553 t554 w _ ?side1 ?side2 A35.out).mono ?_); (case side1 => repeat (first | (with_reducible first | exact HB.out | apply za2 | apply za0 | apply za1 | refine za3 ?_ GE538.out | refine za3 ?_ GE547.out) | exact HB.out)); (case side2 => exact Kd.R_tight rfl HO_5.out); rintro e w39 ⟨rfl, hy0, hb, hkp⟩; refine ⟨_, rfl, ?_⟩; have n0_ := Aside0.mk (Kd.R_reok rfl hy0 (fun k_ e_ => HO_5.out.1 k_ e_)); have n1_ := Aside0.mk (Kd.zam (ok' := fun k_ => some k_ ≠ (.slice Ao18 t542.length co18 : Value).ownBlock) (Kd.R_keptB ((Kd.R_apart' HO_539000.out (Kd.R_typed HO_5.out) (by decide))) hkp (fun k_ hk_ hs_ => (hk_.2) hs_)) (fun k_ hk_ => hk_.1.1)); have n2_ := Aside0.mk (Kd.zam (ok' := fun k_ => some k_ ≠ (.slice Ao12 t533.length co12 : Value).ownBlock) (Kd.R_keptB ((Kd.R_apart' HO_548000.out (Kd.R_typed HO_5.out) (by decide))) hkp (fun k_ hk_ hs_ => (hk_.2) hs_)) (fun k_ hk_ => hk_.1.1)); have n3_ := Aside0.mk (blk_kept (by (with_reducible repeat (first | refine za4 ?_ _ | refine za6 ?_ | refine za5 ?_ _)); exact BK538.out) hkp (fun hs_ => (fun e_ => (Kd.R_ne HO_5.out BK538.out (by decide)) e_) hs_)); have n4_ := Aside0.mk (blk_kept (by (with_reducible repeat (first | refine za4 ?_ _ | refine za6 ?_ | refine za5 ?_ _)); exact BK547.out) hkp (fun hs_ => (fun e_ => (Kd.R_ne HO_5.out BK547.out (by decide)) e_) hs_)); have n5_ := Aside0.mk (Kd.zam (ok' := fun k_ => some k_ ≠ (.slice Ao15 t539.length co15 : Value).ownBlock) (Kd.R_keptB (HO551.out) hkp (fun k_ hk_ hs_ => (hk_.2) hs_)) (fun k_ hk_ => hk_.1.2)); have n6_ := Aside0.mk (hb); clear HO_5; clear HO_539000; clear HO_548000; clear BK538; clear BK547; clear HO551; clear HB; have HO_5 := n0_; have HO_539000 := n1_; have HO_548000 := n2_; have BK538 := n3_; have BK547 := n4_; have HO551 := n5_; have HB := n6_; clear n0_ n1_ n2_ n3_ n4_ n5_ n6_; (try clear hb); (try clear hkp); (try clear hy0)))
      (try simp only [Act.put, List.setIfInBounds_toArray, List.set_cons_zero, List.set_cons_succ])
      go_cut [58] (fun v58 wc => ∃ (kq : Nat) (x58_35 : Bool), v58 = .bool x58_35 ∧ Aside0 (laws_FnExactEstrinCode.j1 kq l0 t537 x58_35 t533 t536 t542 t545 = some r) ∧ Aside0 (kq ≤ kj6) ∧ Aside0 (Kd.R k69 69 wc w.heap.size (fun k_ => some k_ ≠ ((.slice Ao18 t542.length co18) : Value).ownBlock) (.slice Ao12 t533.length co12) t533) ∧ Aside0 (Kd.R k69 69 wc w.heap.size (fun k_ => some k_ ≠ ((.slice Ao12 t533.length co12) : Value).ownBlock) (.slice Ao18 t542.length co18) t542) ∧ Aside0 (wc.heap[gb538]? = some (.cells #[(.slice Ao12 t533.length co12), .int .i64 t536] 39 (0, 0))) ∧ Aside0 (wc.heap[gb547]? = some (.cells #[(.slice Ao18 t542.length co18), .int .i64 t545] 39 (0, 0))) ∧ Aside0 (Below w.heap.size w wc))
      case first =>
       have H := HC36.out
       clear HC36
       by_cases c40 : t553 < 0
       ·rw [if_pos c40] at H
        have c40b0 : decide (t553 < 0) = true := decide_eq_true c40
        clear c40
        (first | rw [c40b0] | (simp only [i64_w, i32_w]; rw [c40b0]) | skip)
        have H' := Aside0.mk H
        clear H
        go_wp2
        go_meet
        case rel => exact ⟨_, (true), (by first | rfl | (simp; done) | (simp [*]; done)), H', ⟨by have := HJ6.out; first | omega | exact Nat.le_refl _⟩, ⟨by (with_reducible repeat (first | apply Kd.zac | apply Kd.zab | apply Kd.zai)); exact HO_539000.out⟩, ⟨by (with_reducible repeat (first | apply Kd.zac | apply Kd.zab | apply Kd.zai)); exact HO_548000.out⟩, ⟨by (with_reducible repeat (first | refine za4 ?_ _ | refine za6 ?_ | refine za5 ?_ _)); exact BK538.out⟩, ⟨by (with_reducible repeat (first | refine za4 ?_ _ | refine za6 ?_ | refine za5 ?_ _)); exact BK547.out⟩, ⟨by repeat (first | (with_reducible first | exact HB.out | apply za2 | apply za0 | apply za1 | refine za3 ?_ GE538.out | refine za3 ?_ GE547.out) | exact HB.out)⟩⟩
       ·rw [if_neg c40] at H
        have c40b0 : decide (t553 < 0) = false := decide_eq_false c40
        clear c40
        (first | rw [c40b0] | (simp only [i64_w, i32_w]; rw [c40b0]) | skip)
        replace H := Option.bind_eq_some_iff.mp H
        obtain ⟨t555, A410, H⟩ := H
        replace H : (if t555 = true then (laws_FnExactEstrinCode.j1 kj6 l0 t537 (t546 != t537) t533 t536 t542 t545) else (laws_FnExactEstrinCode.j1 kj6 l0 t537 true t533 t536 t542 t545)) = some r := H
        have A41 := Aside0.mk A410
        clear A410
        by_cases c42 : t555 = true
        ·subst c42
         have H1 : (laws_FnExactEstrinCode.j1 kj6 l0 t537 (t546 != t537) t533 t536 t542 t545) = some r := by rw [if_pos rfl] at H; exact H
         clear H
         have H := H1
         clear H1
         have H' := Aside0.mk H
         clear H
         have hnb43 := NB547_538.out
         have hnc43 := NB538_547.out
         have hcz44_0 : w39.cell? ⟨gb547, 0, none⟩ = some (.slice Ao18 t542.length co18) := (za8 BK547.out 0).trans rfl
         have hcz44_1 : w39.cell? ⟨gb547, 1, none⟩ = some (.int .i64 t545) := (za8 BK547.out 1).trans rfl
         have hfz44_0 := za7 BK547.out 0
         have hfz44_1 := za7 BK547.out 1
         have hcz45_0 : w39.cell? ⟨gb538, 0, none⟩ = some (.slice Ao12 t533.length co12) := (za8 BK538.out 0).trans rfl
         have hcz45_1 : w39.cell? ⟨gb538, 1, none⟩ = some (.int .i64 t536) := (za8 BK538.out 1).trans rfl
         have hfz45_0 := za7 BK538.out 0
         have hfz45_1 := za7 BK538.out 1
         go_wp2_with (first | (go_at_call 28; (with_reducible refine (laws_eqCode.calls kj6 _ _ t542 t545 _ _ t533 t536 true _ ?side1 ?side2 ?side3 ?side4 A41.out).mono ?_); (case side1 => repeat (first | exact (Kd.R_reads' HO_548000.out).2.2 | (with_reducible refine Kd.zar ?_ _) | (with_reducible refine Kd.zas ?_ _) | (with_reducible refine Kd.zav ?_))); (case side2 => exact (Kd.R_reads' HO_548000.out).2.1); (case side3 => repeat (first | exact (Kd.R_reads' HO_539000.out).2.2 | (with_reducible refine Kd.zar ?_ _) | (with_reducible refine Kd.zas ?_ _) | (with_reducible refine Kd.zav ?_))); (case side4 => exact (Kd.R_reads' HO_539000.out).2.1); rintro e w46 ⟨rfl, hb⟩; have n0_ := Aside0.mk (Kd.zaq (by (with_reducible repeat (first | apply Kd.zac | apply Kd.zab | apply Kd.zai)); exact HO_5.out) hb); have n1_ := Aside0.mk (Kd.zaq (by (with_reducible repeat (first | apply Kd.zac | apply Kd.zab | apply Kd.zai)); exact HO_539000.out) hb); have n2_ := Aside0.mk (Kd.zaq (by (with_reducible repeat (first | apply Kd.zac | apply Kd.zab | apply Kd.zai)); exact HO_548000.out) hb); have n3_ := Aside0.mk (Kd.zaq (by (with_reducible repeat (first | apply Kd.zac | apply Kd.zab | apply Kd.zai)); exact HO551.out) hb); have n4_ := Aside0.mk (zae (g := gb538) (o := .cells #[.slice Ao12 t533.length co12, .int .i64 t536] 39 (0, 0)) (by (with_reducible repeat (first | refine za4 ?_ _ | refine za6 ?_ | refine za5 ?_ _)); exact BK538.out) hb); have n5_ := Aside0.mk (zae (g := gb547) (o := .cells #[.slice Ao18 t542.length co18, .int .i64 t545] 39 (0, 0)) (by (with_reducible repeat (first | refine za4 ?_ _ | refine za6 ?_ | refine za5 ?_ _)); exact BK547.out) hb); have n6_ := Aside0.mk (zad (by repeat (first | (with_reducible first | exact HB.out | apply za2 | apply za0 | apply za1 | refine za3 ?_ GE538.out | refine za3 ?_ GE547.out) | exact HB.out)) hb); clear HO_5; clear HO_539000; clear HO_548000; clear HO551; clear BK538; clear BK547; clear HB; have HO_5 := n0_; have HO_539000 := n1_; have HO_548000 := n2_; have HO551 := n3_; have BK538 := n4_; have BK547 := n5_; have HB := n6_; clear n0_ n1_ n2_ n3_ n4_ n5_ n6_; (try clear hb); (try clear hb2); (try clear hk); (try clear hi)))
         go_meet
         case rel => exact ⟨_, ((t546 != t537)), (by first | rfl | (simp; done) | (simp [*]; done)), H', ⟨by have := HJ6.out; first | omega | exact Nat.le_refl _⟩, ⟨by (with_reducible repeat (first | apply Kd.zac | apply Kd.zab | apply Kd.zai)); exact HO_539000.out⟩, ⟨by (with_reducible repeat (first | apply Kd.zac | apply Kd.zab | apply Kd.zai)); exact HO_548000.out⟩, ⟨by (with_reducible repeat (first | refine za4 ?_ _ | refine za6 ?_ | refine za5 ?_ _)); exact BK538.out⟩, ⟨by (with_reducible repeat (first | refine za4 ?_ _ | refine za6 ?_ | refine za5 ?_ _)); exact BK547.out⟩, ⟨by repeat (first | (with_reducible first | exact HB.out | apply za2 | apply za0 | apply za1 | refine za3 ?_ GE538.out | refine za3 ?_ GE547.out) | exact HB.out)⟩⟩
        ·replace c42 := Bool.eq_false_iff.mpr c42
         subst c42
         have H1 : (laws_FnExactEstrinCode.j1 kj6 l0 t537 true t533 t536 t542 t545) = some r := by rw [if_neg (show ¬ (false = true) by decide)] at H; exact H
         clear H
         have H := H1
         clear H1
         have H' := Aside0.mk H
         clear H
         have hnb47 := NB547_538.out
         have hnc47 := NB538_547.out
         have hcz48_0 : w39.cell? ⟨gb547, 0, none⟩ = some (.slice Ao18 t542.length co18) := (za8 BK547.out 0).trans rfl
         have hcz48_1 : w39.cell? ⟨gb547, 1, none⟩ = some (.int .i64 t545) := (za8 BK547.out 1).trans rfl
         have hfz48_0 := za7 BK547.out 0
         have hfz48_1 := za7 BK547.out 1
         have hcz49_0 : w39.cell? ⟨gb538, 0, none⟩ = some (.slice Ao12 t533.length co12) := (za8 BK538.out 0).trans rfl
         have hcz49_1 : w39.cell? ⟨gb538, 1, none⟩ = some (.int .i64 t536) := (za8 BK538.out 1).trans rfl
         have hfz49_0 := za7 BK538.out 0
         have hfz49_1 := za7 BK538.out 1
         go_wp2_with (first | (go_at_call 28; (with_reducible refine (laws_eqCode.calls kj6 _ _ t542 t545 _ _ t533 t536 false _ ?side1 ?side2 ?side3 ?side4 A41.out).mono ?_); (case side1 => repeat (first | exact (Kd.R_reads' HO_548000.out).2.2 | (with_reducible refine Kd.zar ?_ _) | (with_reducible refine Kd.zas ?_ _) | (with_reducible refine Kd.zav ?_))); (case side2 => exact (Kd.R_reads' HO_548000.out).2.1); (case side3 => repeat (first | exact (Kd.R_reads' HO_539000.out).2.2 | (with_reducible refine Kd.zar ?_ _) | (with_reducible refine Kd.zas ?_ _) | (with_reducible refine Kd.zav ?_))); (case side4 => exact (Kd.R_reads' HO_539000.out).2.1); rintro e w50 ⟨rfl, hb⟩; have n0_ := Aside0.mk (Kd.zaq (by (with_reducible repeat (first | apply Kd.zac | apply Kd.zab | apply Kd.zai)); exact HO_5.out) hb); have n1_ := Aside0.mk (Kd.zaq (by (with_reducible repeat (first | apply Kd.zac | apply Kd.zab | apply Kd.zai)); exact HO_539000.out) hb); have n2_ := Aside0.mk (Kd.zaq (by (with_reducible repeat (first | apply Kd.zac | apply Kd.zab | apply Kd.zai)); exact HO_548000.out) hb); have n3_ := Aside0.mk (Kd.zaq (by (with_reducible repeat (first | apply Kd.zac | apply Kd.zab | apply Kd.zai)); exact HO551.out) hb); have n4_ := Aside0.mk (zae (g := gb538) (o := .cells #[.slice Ao12 t533.length co12, .int .i64 t536] 39 (0, 0)) (by (with_reducible repeat (first | refine za4 ?_ _ | refine za6 ?_ | refine za5 ?_ _)); exact BK538.out) hb); have n5_ := Aside0.mk (zae (g := gb547) (o := .cells #[.slice Ao18 t542.length co18, .int .i64 t545] 39 (0, 0)) (by (with_reducible repeat (first | refine za4 ?_ _ | refine za6 ?_ | refine za5 ?_ _)); exact BK547.out) hb); have n6_ := Aside0.mk (zad (by repeat (first | (with_reducible first | exact HB.out | apply za2 | apply za0 | apply za1 | refine za3 ?_ GE538.out | refine za3 ?_ GE547.out) | exact HB.out)) hb); clear HO_5; clear HO_539000; clear HO_548000; clear HO551; clear BK538; clear BK547; clear HB; have HO_5 := n0_; have HO_539000 := n1_; have HO_548000 := n2_; have HO551 := n3_; have BK538 := n4_; have BK547 := n5_; have HB := n6_; clear n0_ n1_ n2_ n3_ n4_ n5_ n6_; (try clear hb); (try clear hb2); (try clear hk); (try clear hi)))
         go_meet
         case rel => exact ⟨_, (true), (by first | rfl | (simp; done) | (simp [*]; done)), H', ⟨by have := HJ6.out; first | omega | exact Nat.le_refl _⟩, ⟨by (with_reducible repeat (first | apply Kd.zac | apply Kd.zab | apply Kd.zai)); exact HO_539000.out⟩, ⟨by (with_reducible repeat (first | apply Kd.zac | apply Kd.zab | apply Kd.zai)); exact HO_548000.out⟩, ⟨by (with_reducible repeat (first | refine za4 ?_ _ | refine za6 ?_ | refine za5 ?_ _)); exact BK538.out⟩, ⟨by (with_reducible repeat (first | refine za4 ?_ _ | refine za6 ?_ | refine za5 ?_ _)); exact BK547.out⟩, ⟨by repeat (first | (with_reducible first | exact HB.out | apply za2 | apply za0 | apply za1 | refine za3 ?_ GE538.out | refine za3 ?_ GE547.out) | exact HB.out)⟩⟩
      case rest =>
       clear HC36
       try clear c1
       try clear c2
       try clear c2b0
       try clear c2b1
       try clear p2
       try clear c3
       try clear c4
       try clear c5
       try clear c15
       try clear c17
       try clear c19
       try clear c22
       try clear c23
       try clear c27
       try clear c28
       try clear c31
       try clear c34
       try clear c38
       try clear c40
       try clear c40b0
       try clear c42
       try clear c43
       try clear c47
       try clear c49
       try clear c50
       try clear hcz13_0
       try clear hcz13_1
       try clear hcz20_0
       try clear hcz20_1
       try clear hcz24_0
       try clear hcz24_1
       try clear hcz25_0
       try clear hcz25_1
       try clear hcz28_0
       try clear hcz28_1
       try clear hcz29_0
       try clear hcz29_1
       try clear hcz44_0
       try clear hcz44_1
       try clear hcz45_0
       try clear hcz45_1
       try clear hcz48_0
       try clear hcz48_1
       try clear hcz49_0
       try clear hcz49_1
       try clear hfz13_0
       try clear hfz13_1
       try clear hfz20_0
       try clear hfz20_1
       try clear hfz24_0
       try clear hfz24_1
       try clear hfz25_0
       try clear hfz25_1
       try clear hfz28_0
       try clear hfz28_1
       try clear hfz29_0
       try clear hfz29_1
       try clear hfz44_0
       try clear hfz44_1
       try clear hfz45_0
       try clear hfz45_1
       try clear hfz48_0
       try clear hfz48_1
       try clear hfz49_0
       try clear hfz49_1
       try clear p2
       obtain ⟨kq, x58_35, rfl, HA, HJ35, HO_539000, HO_548000, BK538, BK547, HB⟩ := hcut
       cases kq with
       | zero => exact absurd HA.out (by simp [laws_FnExactEstrinCode.j1])
       | succ kj35 =>
        have H := HA.out
        clear HA
        simp only [laws_FnExactEstrinCode.j1] at H
        by_cases c51 : x58_35 = true
        ·subst c51
         have H1 : (some false) = some r := by rw [if_pos rfl] at H; exact H
         clear H
         have H := H1
         clear H1
         obtain rfl := Option.some.inj H
         go_wp2
         go_ret
         exact ⟨by first | rfl | (simp [zaf, zah] <;> rfl) | (simp [*, zaf, zah] <;> rfl), by repeat (first | (with_reducible first | exact HB.out | apply za2 | apply za0 | apply za1 | refine za3 ?_ GE538.out | refine za3 ?_ GE547.out) | exact HB.out)⟩
        ·replace c51 := Bool.eq_false_iff.mpr c51
         subst c51
         have H1 : ((laws_markCode.f kj35 t542 t545 1).bind fun bt556 => ((laws_heldCode.f kj35 bt556.2 t545 1).bind fun t558 => (if t558 < 0 then (some false) else (if t558 = bt556.1 then ((laws_toIntS.f kj35 l0).bind fun t559 => ((impl_EstrinCode.f kj35 t559).bind fun bt562 => ((laws_eqCode.f kj35 bt562.1 bt562.2.1 t533 t536).bind fun t568 => (if t568 = true then (laws_FnExactEstrinCode.j2 kj35 bt556.1 (bt562.2.2 != t537) bt556.2 t545) else (laws_FnExactEstrinCode.j2 kj35 bt556.1 true bt556.2 t545))))) else (some false))))) = some r := by rw [if_neg (show ¬ (false = true) by decide)] at H; exact H
         clear H
         have H := H1
         clear H1
         replace H := Option.bind_eq_some_iff.mp H
         obtain ⟨⟨t556, t557⟩, A520, H⟩ := H
         replace H : ((laws_heldCode.f kj35 t557 t545 1).bind fun t558 => (if t558 < 0 then (some false) else (if t558 = t556 then ((laws_toIntS.f kj35 l0).bind fun t559 => ((impl_EstrinCode.f kj35 t559).bind fun bt562 => ((laws_eqCode.f kj35 bt562.1 bt562.2.1 t533 t536).bind fun t568 => (if t568 = true then (laws_FnExactEstrinCode.j2 kj35 t556 (bt562.2.2 != t537) t557 t545) else (laws_FnExactEstrinCode.j2 kj35 t556 true t557 t545))))) else (some false)))) = some r := H
         have A52 := Aside0.mk A520
         clear A520
         replace H := Option.bind_eq_some_iff.mp H
         obtain ⟨t558, A530, H⟩ := H
         replace H : (if t558 < 0 then (some false) else (if t558 = t556 then ((laws_toIntS.f kj35 l0).bind fun t559 => ((impl_EstrinCode.f kj35 t559).bind fun bt562 => ((laws_eqCode.f kj35 bt562.1 bt562.2.1 t533 t536).bind fun t568 => (if t568 = true then (laws_FnExactEstrinCode.j2 kj35 t556 (bt562.2.2 != t537) t557 t545) else (laws_FnExactEstrinCode.j2 kj35 t556 true t557 t545))))) else (some false))) = some r := H
         have A53 := Aside0.mk A530
         clear A530
         by_cases c54 : t558 < 0
         ·rw [if_pos c54] at H
          have c54b0 : decide (t558 < 0) = true := decide_eq_true c54
          clear c54
          obtain rfl := Option.some.inj H
          have hnb55 := NB547_538.out
          have hnc55 := NB538_547.out
          have hcz56_0 : wc.cell? ⟨gb547, 0, none⟩ = some (.slice Ao18 t542.length co18) := (za8 BK547.out 0).trans rfl
          have hcz56_1 : wc.cell? ⟨gb547, 1, none⟩ = some (.int .i64 t545) := (za8 BK547.out 1).trans rfl
          have hfz56_0 := za7 BK547.out 0
          have hfz56_1 := za7 BK547.out 1
          go_wp2_with (first | ((with_reducible refine zaj (f := 37) rfl ?_); refine zaz (some 61) rfl rfl Try.func37 (by kernel_rfl) rfl #[.agg #[.slice Ao18 t542.length co18, .int .i64 t545], .int .i64 1] rfl (by (try simp only [List.map_toArray, List.map_cons, List.map_nil]); first | done | rfl | (simp only [List.length_drop, List.length_take]; rfl)) ?_; (with_reducible refine (laws_markCode.calls kj35 (fun k_ => some k_ = (.slice Ao18 t542.length co18 : Value).ownBlock) (.slice Ao18 t542.length co18) t542 t545 1 t556 t557 w _ ?side1 ?side2 A52.out).mono ?_); (case side1 => repeat (first | (with_reducible first | exact HB.out | apply za2 | apply za0 | apply za1 | refine za3 ?_ GE538.out | refine za3 ?_ GE547.out) | exact HB.out)); (case side2 => exact Kd.R_tight rfl HO_548000.out); rintro e w57 ⟨rfl, hy0, hb, hkp⟩; refine ⟨_, rfl, ?_⟩; have n0_ := Aside0.mk (Kd.zam (ok' := fun k_ => some k_ ≠ (.slice Ao18 t542.length co18 : Value).ownBlock) (Kd.R_keptB (HO_539000.out) hkp (fun k_ hk_ hs_ => (hk_) hs_)) (fun k_ hk_ => hk_.1)); have n1_ := Aside0.mk (Kd.R_reok rfl hy0 (fun k_ e_ => HO_548000.out.1 k_ e_)); have n2_ := Aside0.mk (blk_kept (by (with_reducible repeat (first | refine za4 ?_ _ | refine za6 ?_ | refine za5 ?_ _)); exact BK538.out) hkp (fun hs_ => (fun e_ => (Kd.R_ne HO_548000.out BK538.out (by decide)) e_) hs_)); have n3_ := Aside0.mk (blk_kept (by (with_reducible repeat (first | refine za4 ?_ _ | refine za6 ?_ | refine za5 ?_ _)); exact BK547.out) hkp (fun hs_ => (fun e_ => (Kd.R_ne HO_548000.out BK547.out (by decide)) e_) hs_)); have n4_ := Aside0.mk (hb); clear HO_539000; clear HO_548000; clear BK538; clear BK547; clear HB; have HO_539000 := n0_; have HO_548000 := n1_; have BK538 := n2_; have BK547 := n3_; have HB := n4_; clear n0_ n1_ n2_ n3_ n4_; (try clear hb); (try clear hkp); (try clear hy0); have hcz58_0 : w57.cell? ⟨gb547, 0, none⟩ = some (.slice Ao18 t542.length co18) := (za8 BK547.out 0).trans rfl; have hcz58_1 : w57.cell? ⟨gb547, 1, none⟩ = some (.int .i64 t545) := (za8 BK547.out 1).trans rfl; have hfz58_0 := za7 BK547.out 0; have hfz58_1 := za7 BK547.out 1) | ((with_reducible refine zaj (f := 44) rfl ?_); refine zaz (some 64) rfl rfl Try.func44 (by kernel_rfl) rfl #[.agg #[.slice Ao18 t557.length co18, .int .i64 t545], .int .i64 1] rfl (by (try simp only [List.map_toArray, List.map_cons, List.map_nil]); first | done | (rw [show t557.length = t542.length from (Kd.R_reads' HO_548000.out).1.symm] <;> rfl) | rfl | (simp only [List.length_drop, List.length_take]; rfl)) ?_; (with_reducible refine (laws_heldCode.calls kj35 _ _ t557 t545 1 t558 _ ?side1 ?side2 A53.out).mono ?_); (case side1 => repeat (first | exact (Kd.R_reads' HO_548000.out).2.2 | (with_reducible refine Kd.zar ?_ _) | (with_reducible refine Kd.zas ?_ _) | (with_reducible refine Kd.zav ?_))); (case side2 => rw [show t557.length = t542.length from (Kd.R_reads' HO_548000.out).1.symm]; exact (Kd.R_reads' HO_548000.out).2.1); rintro e w59 ⟨rfl, hb⟩; refine ⟨_, rfl, ?_⟩; have n0_ := Aside0.mk (Kd.zaq (by (with_reducible repeat (first | apply Kd.zac | apply Kd.zab | apply Kd.zai)); exact HO_539000.out) hb); have n1_ := Aside0.mk (Kd.zaq (by (with_reducible repeat (first | apply Kd.zac | apply Kd.zab | apply Kd.zai)); exact HO_548000.out) hb); have n2_ := Aside0.mk (zae (g := gb538) (o := .cells #[.slice Ao12 t533.length co12, .int .i64 t536] 39 (0, 0)) (by (with_reducible repeat (first | refine za4 ?_ _ | refine za6 ?_ | refine za5 ?_ _)); exact BK538.out) hb); have n3_ := Aside0.mk (zae (g := gb547) (o := .cells #[.slice Ao18 t542.length co18, .int .i64 t545] 39 (0, 0)) (by (with_reducible repeat (first | refine za4 ?_ _ | refine za6 ?_ | refine za5 ?_ _)); exact BK547.out) hb); have n4_ := Aside0.mk (zad (by repeat (first | (with_reducible first | exact HB.out | apply za2 | apply za0 | apply za1 | refine za3 ?_ GE538.out | refine za3 ?_ GE547.out) | exact HB.out)) hb); clear HO_539000; clear HO_548000; clear BK538; clear BK547; clear HB; have HO_539000 := n0_; have HO_548000 := n1_; have BK538 := n2_; have BK547 := n3_; have HB := n4_; clear n0_ n1_ n2_ n3_ n4_; (try clear hb); (try clear hb2); (try clear hk); (try clear hi)))
          go_ret
          exact ⟨by first | rfl | (simp [zaf, zah] <;> rfl) | (simp [*, zaf, zah] <;> rfl), by repeat (first | (with_reducible first | exact HB.out | apply za2 | apply za0 | apply za1 | refine za3 ?_ GE538.out | refine za3 ?_ GE547.out) | exact HB.out)⟩
         ·rw [if_neg c54] at H
          have c54b0 : decide (t558 < 0) = false := decide_eq_false c54
          clear c54
          by_cases c60 : t558 = t556
          ·rw [if_pos c60] at H
           have c60b0 : (t558 == t556) = true := beq_iff_eq.mpr c60
           have c60b1 : (t558 != t556) = false := bne_eq_false_iff_eq.mpr c60
           clear c60
           replace H := Option.bind_eq_some_iff.mp H
           obtain ⟨t559, A610, H⟩ := H
           replace H : ((impl_EstrinCode.f kj35 t559).bind fun bt562 => ((laws_eqCode.f kj35 bt562.1 bt562.2.1 t533 t536).bind fun t568 => (if t568 = true then (laws_FnExactEstrinCode.j2 kj35 t556 (bt562.2.2 != t537) t557 t545) else (laws_FnExactEstrinCode.j2 kj35 t556 true t557 t545)))) = some r := H
           have A61 := Aside0.mk A610
           clear A610
           replace H := Option.bind_eq_some_iff.mp H
           obtain ⟨⟨t562, t565, t566⟩, A620, H⟩ := H
           replace H : ((laws_eqCode.f kj35 t562 t565 t533 t536).bind fun t568 => (if t568 = true then (laws_FnExactEstrinCode.j2 kj35 t556 (t566 != t537) t557 t545) else (laws_FnExactEstrinCode.j2 kj35 t556 true t557 t545))) = some r := H
           have A62 := Aside0.mk A620
           clear A620
           have HC63 := Aside0.mk H
           clear H
           have hnb64 := NB547_538.out
           have hnc64 := NB538_547.out
           have hcz65_0 : wc.cell? ⟨gb547, 0, none⟩ = some (.slice Ao18 t542.length co18) := (za8 BK547.out 0).trans rfl
           have hcz65_1 : wc.cell? ⟨gb547, 1, none⟩ = some (.int .i64 t545) := (za8 BK547.out 1).trans rfl
           have hfz65_0 := za7 BK547.out 0
           have hfz65_1 := za7 BK547.out 1
           go_upto_region 23 with (first | ((with_reducible refine zaj (f := 37) rfl ?_); refine zaz (some 61) rfl rfl Try.func37 (by kernel_rfl) rfl #[.agg #[.slice Ao18 t542.length co18, .int .i64 t545], .int .i64 1] rfl (by (try simp only [List.map_toArray, List.map_cons, List.map_nil]); first | done | rfl | (simp only [List.length_drop, List.length_take]; rfl)) ?_; (with_reducible refine (laws_markCode.calls kj35 (fun k_ => some k_ = (.slice Ao18 t542.length co18 : Value).ownBlock) (.slice Ao18 t542.length co18) t542 t545 1 t556 t557 w _ ?side1 ?side2 A52.out).mono ?_); (case side1 => repeat (first | (with_reducible first | exact HB.out | apply za2 | apply za0 | apply za1 | refine za3 ?_ GE538.out | refine za3 ?_ GE547.out) | exact HB.out)); (case side2 => exact Kd.R_tight rfl HO_548000.out); rintro e w66 ⟨rfl, hy0, hb, hkp⟩; refine ⟨_, rfl, ?_⟩; have n0_ := Aside0.mk (Kd.zam (ok' := fun k_ => some k_ ≠ (.slice Ao18 t542.length co18 : Value).ownBlock) (Kd.R_keptB (HO_539000.out) hkp (fun k_ hk_ hs_ => (hk_) hs_)) (fun k_ hk_ => hk_.1)); have n1_ := Aside0.mk (Kd.R_reok rfl hy0 (fun k_ e_ => HO_548000.out.1 k_ e_)); have n2_ := Aside0.mk (blk_kept (by (with_reducible repeat (first | refine za4 ?_ _ | refine za6 ?_ | refine za5 ?_ _)); exact BK538.out) hkp (fun hs_ => (fun e_ => (Kd.R_ne HO_548000.out BK538.out (by decide)) e_) hs_)); have n3_ := Aside0.mk (blk_kept (by (with_reducible repeat (first | refine za4 ?_ _ | refine za6 ?_ | refine za5 ?_ _)); exact BK547.out) hkp (fun hs_ => (fun e_ => (Kd.R_ne HO_548000.out BK547.out (by decide)) e_) hs_)); have n4_ := Aside0.mk (hb); clear HO_539000; clear HO_548000; clear BK538; clear BK547; clear HB; have HO_539000 := n0_; have HO_548000 := n1_; have BK538 := n2_; have BK547 := n3_; have HB := n4_; clear n0_ n1_ n2_ n3_ n4_; (try clear hb); (try clear hkp); (try clear hy0); have hcz67_0 : w66.cell? ⟨gb547, 0, none⟩ = some (.slice Ao18 t542.length co18) := (za8 BK547.out 0).trans rfl; have hcz67_1 : w66.cell? ⟨gb547, 1, none⟩ = some (.int .i64 t545) := (za8 BK547.out 1).trans rfl; have hfz67_0 := za7 BK547.out 0; have hfz67_1 := za7 BK547.out 1) | ((with_reducible refine zaj (f := 44) rfl ?_); refine zaz (some 64) rfl rfl Try.func44 (by kernel_rfl) rfl #[.agg #[.slice Ao18 t557.length co18, .int .i64 t545], .int .i64 1] rfl (by (try simp only [List.map_toArray, List.map_cons, List.map_nil]); first | done | (rw [show t557.length = t542.length from (Kd.R_reads' HO_548000.out).1.symm] <;> rfl) | rfl | (simp only [List.length_drop, List.length_take]; rfl)) ?_; (with_reducible refine (laws_heldCode.calls kj35 _ _ t557 t545 1 t558 _ ?side1 ?side2 A53.out).mono ?_); (case side1 => repeat (first | exact (Kd.R_reads' HO_548000.out).2.2 | (with_reducible refine Kd.zar ?_ _) | (with_reducible refine Kd.zas ?_ _) | (with_reducible refine Kd.zav ?_))); (case side2 => rw [show t557.length = t542.length from (Kd.R_reads' HO_548000.out).1.symm]; exact (Kd.R_reads' HO_548000.out).2.1); rintro e w68 ⟨rfl, hb⟩; refine ⟨_, rfl, ?_⟩; have n0_ := Aside0.mk (Kd.zaq (by (with_reducible repeat (first | apply Kd.zac | apply Kd.zab | apply Kd.zai)); exact HO_539000.out) hb); have n1_ := Aside0.mk (Kd.zaq (by (with_reducible repeat (first | apply Kd.zac | apply Kd.zab | apply Kd.zai)); exact HO_548000.out) hb); have n2_ := Aside0.mk (zae (g := gb538) (o := .cells #[.slice Ao12 t533.length co12, .int .i64 t536] 39 (0, 0)) (by (with_reducible repeat (first | refine za4 ?_ _ | refine za6 ?_ | refine za5 ?_ _)); exact BK538.out) hb); have n3_ := Aside0.mk (zae (g := gb547) (o := .cells #[.slice Ao18 t542.length co18, .int .i64 t545] 39 (0, 0)) (by (with_reducible repeat (first | refine za4 ?_ _ | refine za6 ?_ | refine za5 ?_ _)); exact BK547.out) hb); have n4_ := Aside0.mk (zad (by repeat (first | (with_reducible first | exact HB.out | apply za2 | apply za0 | apply za1 | refine za3 ?_ GE538.out | refine za3 ?_ GE547.out) | exact HB.out)) hb); clear HO_539000; clear HO_548000; clear BK538; clear BK547; clear HB; have HO_539000 := n0_; have HO_548000 := n1_; have BK538 := n2_; have BK547 := n3_; have HB := n4_; clear n0_ n1_ n2_ n3_ n4_; (try clear hb); (try clear hb2); (try clear hk); (try clear hi)) | ((with_reducible refine zaj (f := 17) rfl ?_); refine zaz (some 72) rfl rfl Try.func17 (by kernel_rfl) rfl #[.slice A0 l0.length c0] rfl (by (try simp only [List.map_toArray, List.map_cons, List.map_nil]); first | done | rfl | (simp only [List.length_drop, List.length_take]; rfl)) ?_; (with_reducible refine (laws_toIntS.calls kj35 _ _ l0 t559 _ ?side1 ?side2 A61.out).mono ?_); (case side1 => repeat (first | exact (Kd.zb4 HR0.out HB.out) | (with_reducible refine Kd.zar ?_ _) | (with_reducible refine Kd.zas ?_ _) | (with_reducible refine Kd.zav ?_))); (case side2 => exact HC0.out); rintro e w69 ⟨v560, rfl, ho0, hb⟩; refine ⟨_, rfl, ?_⟩; have n0_ := Aside0.mk (Kd.zaq (by (with_reducible repeat (first | apply Kd.zac | apply Kd.zab | apply Kd.zai)); exact HO_539000.out) hb); have n1_ := Aside0.mk (Kd.zaq (by (with_reducible repeat (first | apply Kd.zac | apply Kd.zab | apply Kd.zai)); exact HO_548000.out) hb); have n2_ := Aside0.mk (Kd.zb1 ho0 (za9 (by repeat (first | (with_reducible first | exact HB.out | apply za2 | apply za0 | apply za1 | refine za3 ?_ GE538.out | refine za3 ?_ GE547.out) | exact HB.out)))); have n3_ := Aside0.mk (zae (g := gb538) (o := .cells #[.slice Ao12 t533.length co12, .int .i64 t536] 39 (0, 0)) (by (with_reducible repeat (first | refine za4 ?_ _ | refine za6 ?_ | refine za5 ?_ _)); exact BK538.out) hb); have n4_ := Aside0.mk (zae (g := gb547) (o := .cells #[.slice Ao18 t542.length co18, .int .i64 t545] 39 (0, 0)) (by (with_reducible repeat (first | refine za4 ?_ _ | refine za6 ?_ | refine za5 ?_ _)); exact BK547.out) hb); have n5_ := Aside0.mk (zad (by repeat (first | (with_reducible first | exact HB.out | apply za2 | apply za0 | apply za1 | refine za3 ?_ GE538.out | refine za3 ?_ GE547.out) | exact HB.out)) hb); clear HO_539000; clear HO_548000; clear BK538; clear BK547; clear HB; have HO_539000 := n0_; have HO_548000 := n1_; have HO561 := n2_; have BK538 := n3_; have BK547 := n4_; have HB := n5_; clear n0_ n1_ n2_ n3_ n4_ n5_; (try clear hb); (try clear hb2); (try clear hk); (try clear hi); (try clear ho0); obtain ⟨Ao70, co70, eo70⟩ := Kd.zau HO561.out; subst eo70) | ((with_reducible refine zaj (f := 50) rfl ?_); refine zaz (some 73) rfl rfl Try.func50 (by kernel_rfl) rfl #[.slice Ao70 t559.length co70] rfl (by (try simp only [List.map_toArray, List.map_cons, List.map_nil]); first | done | rfl | (simp only [List.length_drop, List.length_take]; rfl)) ?_; (with_reducible refine (impl_EstrinCode.calls kj35 _ _ t559 t562 t565 t566 _ ?side1 ?side2 A62.out).mono ?_); (case side1 => repeat (first | exact (Kd.R_reads' HO561.out).2.2 | (with_reducible refine Kd.zar ?_ _) | (with_reducible refine Kd.zas ?_ _) | (with_reducible refine Kd.zav ?_))); (case side2 => exact (Kd.R_reads' HO561.out).2.1); rintro e w71 ⟨v563, rfl, ho0, hb⟩; refine ⟨_, rfl, ?_⟩; have n0_ := Aside0.mk (Kd.R_elder' (by (with_reducible repeat (first | apply Kd.zac | apply Kd.zab | apply Kd.zai)); exact HO_539000.out) (Kd.R_base ho0) hb); have n1_ := Aside0.mk (Kd.R_elder' (by (with_reducible repeat (first | apply Kd.zac | apply Kd.zab | apply Kd.zai)); exact HO_548000.out) (Kd.R_base ho0) hb); have n2_ := Aside0.mk (Kd.zaq (by (with_reducible repeat (first | apply Kd.zac | apply Kd.zab | apply Kd.zai)); exact HO561.out) hb); have n3_ := Aside0.mk (Kd.zb1 (Kd.R_new' (Kd.R_new' ho0 (Kd.R_lt (by (with_reducible repeat (first | apply Kd.zac | apply Kd.zab | apply Kd.zai)); exact HO_539000.out))) (Kd.R_lt (by (with_reducible repeat (first | apply Kd.zac | apply Kd.zab | apply Kd.zai)); exact HO_548000.out))) (za9 (by repeat (first | (with_reducible first | exact HB.out | apply za2 | apply za0 | apply za1 | refine za3 ?_ GE538.out | refine za3 ?_ GE547.out) | exact HB.out)))); have n4_ := Aside0.mk (zae (g := gb538) (o := .cells #[.slice Ao12 t533.length co12, .int .i64 t536] 39 (0, 0)) (by (with_reducible repeat (first | refine za4 ?_ _ | refine za6 ?_ | refine za5 ?_ _)); exact BK538.out) hb); have n5_ := Aside0.mk (zae (g := gb547) (o := .cells #[.slice Ao18 t542.length co18, .int .i64 t545] 39 (0, 0)) (by (with_reducible repeat (first | refine za4 ?_ _ | refine za6 ?_ | refine za5 ?_ _)); exact BK547.out) hb); have n6_ := Aside0.mk (zad (by repeat (first | (with_reducible first | exact HB.out | apply za2 | apply za0 | apply za1 | refine za3 ?_ GE538.out | refine za3 ?_ GE547.out) | exact HB.out)) hb); clear HO_539000; clear HO_548000; clear HO561; clear BK538; clear BK547; clear HB; have HO_539000 := n0_; have HO_548000 := n1_; have HO561 := n2_; have HO564 := n3_; have BK538 := n4_; have BK547 := n5_; have HB := n6_; clear n0_ n1_ n2_ n3_ n4_ n5_ n6_; (try clear hb); (try clear hb2); (try clear hk); (try clear hi); (try clear ho0)) | ((with_reducible refine zal (N := 11) rfl ?_); refine zan ?hg (N := 11) ?hd (cs := #[.slice none 0 0, .int .i64 0]) (t := 39) ?hr ?_; (case hd => rfl); (case hg => rfl); (case hr => first | (go_simp; done) | (go_simp; rfl)); intro gb567 hg w72 hbox hb; have n0_ := Aside0.mk (Kd.zaq (by (with_reducible repeat (first | apply Kd.zac | apply Kd.zab | apply Kd.zai)); exact HO_539000.out) hb); have n1_ := Aside0.mk (Kd.zaq (by (with_reducible repeat (first | apply Kd.zac | apply Kd.zab | apply Kd.zai)); exact HO_548000.out) hb); have n2_ := Aside0.mk (Kd.zaq (by (with_reducible repeat (first | apply Kd.zac | apply Kd.zab | apply Kd.zai)); exact HO561.out) hb); have n3_ := Aside0.mk (Kd.zaq (by (with_reducible repeat (first | apply Kd.zac | apply Kd.zab | apply Kd.zai)); exact HO564.out) hb); have n4_ := Aside0.mk (zae (g := gb538) (o := .cells #[.slice Ao12 t533.length co12, .int .i64 t536] 39 (0, 0)) (by (with_reducible repeat (first | refine za4 ?_ _ | refine za6 ?_ | refine za5 ?_ _)); exact BK538.out) hb); have n5_ := Aside0.mk (zae (g := gb547) (o := .cells #[.slice Ao18 t542.length co18, .int .i64 t545] 39 (0, 0)) (by (with_reducible repeat (first | refine za4 ?_ _ | refine za6 ?_ | refine za5 ?_ _)); exact BK547.out) hb); have n6_ := Aside0.mk (zad (by repeat (first | (with_reducible first | exact HB.out | apply za2 | apply za0 | apply za1 | refine za3 ?_ GE538.out | refine za3 ?_ GE547.out) | exact HB.out)) hb); have n7_ := Aside0.mk (hbox); have n8_ := Aside0.mk ((by rw [hg]; exact (za9 (by repeat (first | (with_reducible first | exact HB.out | apply za2 | apply za0 | apply za1 | refine za3 ?_ GE538.out | refine za3 ?_ GE547.out) | exact HB.out))) : w.heap.size ≤ gb567)); have n9_ := Aside0.mk ((by rw [hg]; exact (za9 (by repeat (first | (with_reducible first | exact HB.out | apply za2 | apply za0 | apply za1 | refine za3 ?_ GE538.out | refine za3 ?_ GE547.out) | exact HB.out))) : w.heap.size ≤ gb567)); have n10_ := Aside0.mk ((by rw [hg]; exact Nat.ne_of_lt (zay (g := gb538) (o := .cells #[.slice Ao12 t533.length co12, .int .i64 t536] 39 (0, 0)) (by (with_reducible repeat (first | refine za4 ?_ _ | refine za6 ?_ | refine za5 ?_ _)); exact BK538.out)) : gb538 ≠ gb567)); have n11_ := Aside0.mk ((by rw [hg]; exact Nat.ne_of_gt (zay (g := gb538) (o := .cells #[.slice Ao12 t533.length co12, .int .i64 t536] 39 (0, 0)) (by (with_reducible repeat (first | refine za4 ?_ _ | refine za6 ?_ | refine za5 ?_ _)); exact BK538.out)) : gb567 ≠ gb538)); have n12_ := Aside0.mk ((by rw [hg]; exact Nat.ne_of_lt (zay (g := gb547) (o := .cells #[.slice Ao18 t542.length co18, .int .i64 t545] 39 (0, 0)) (by (with_reducible repeat (first | refine za4 ?_ _ | refine za6 ?_ | refine za5 ?_ _)); exact BK547.out)) : gb547 ≠ gb567)); have n13_ := Aside0.mk ((by rw [hg]; exact Nat.ne_of_gt (zay (g := gb547) (o := .cells #[.slice Ao18 t542.length co18, .int .i64 t545] 39 (0, 0)) (by (with_reducible repeat (first | refine za4 ?_ _ | refine za6 ?_ | refine za5 ?_ _)); exact BK547.out)) : gb567 ≠ gb547)); clear HO_539000; clear HO_548000; clear HO561; clear HO564; clear BK538; clear BK547; clear HB; have HO_539000 := n0_; have HO_548000 := n1_; have HO561 := n2_; have HO564 := n3_; have BK538 := n4_; have BK547 := n5_; have HB := n6_; have BK567 := n7_; have GW567 := n8_; have GE567 := n9_; have NB538_567 := n10_; have NB567_538 := n11_; have NB547_567 := n12_; have NB567_547 := n13_; clear n0_ n1_ n2_ n3_ n4_ n5_ n6_ n7_ n8_ n9_ n10_ n11_ n12_ n13_; clear hb hbox hg; obtain ⟨Ao73, co73, eo73⟩ := Kd.zau HO564.out; subst eo73; have hnb74 := NB567_538.out; have hnc74 := NB538_567.out; have hnb75 := NB567_547.out; have hnc75 := NB547_567.out; have hcz76_0 : w72.cell? ⟨gb567, 0, none⟩ = some (.slice none 0 0) := (za8 BK567.out 0).trans rfl; have hcz76_1 : w72.cell? ⟨gb567, 1, none⟩ = some (.int .i64 0) := (za8 BK567.out 1).trans rfl; have hfz76_0 := za7 BK567.out 0; have hfz76_1 := za7 BK567.out 1))
           (try simp only [Act.put, List.setIfInBounds_toArray, List.set_cons_zero, List.set_cons_succ])
           go_cut [84] (fun v84 wc => ∃ (kq : Nat) (x84_62 : Bool), v84 = .bool x84_62 ∧ Aside0 (laws_FnExactEstrinCode.j2 kq t556 x84_62 t557 t545 = some r) ∧ Aside0 (kq ≤ kj35) ∧ Aside0 (Kd.R k69 69 wc w.heap.size (fun k_ => some k_ ≠ ((.slice Ao18 t542.length co18) : Value).ownBlock ∧ some k_ ≠ ((.slice Ao73 t562.length co73) : Value).ownBlock) (.slice Ao12 t533.length co12) t533) ∧ Aside0 (Kd.R k69 69 wc w.heap.size (fun k_ => some k_ ≠ ((.slice Ao12 t533.length co12) : Value).ownBlock ∧ some k_ ≠ ((.slice Ao73 t562.length co73) : Value).ownBlock) (.slice Ao18 t542.length co18) t557) ∧ Aside0 (Kd.R k69 69 wc w.heap.size (fun k_ => some k_ ≠ ((.slice Ao12 t533.length co12) : Value).ownBlock ∧ some k_ ≠ ((.slice Ao18 t542.length co18) : Value).ownBlock) (.slice Ao73 t562.length co73) t562) ∧ Aside0 (wc.heap[gb538]? = some (.cells #[(.slice Ao12 t533.length co12), .int .i64 t536] 39 (0, 0))) ∧ Aside0 (wc.heap[gb547]? = some (.cells #[(.slice Ao18 t542.length co18), .int .i64 t545] 39 (0, 0))) ∧ Aside0 (wc.heap[gb567]? = some (.cells #[(.slice Ao73 t562.length co73), .int .i64 t565] 39 (0, 0))) ∧ Aside0 (Below w.heap.size w wc))
           case first =>
            have H := HC63.out
            clear HC63
            replace H := Option.bind_eq_some_iff.mp H
            obtain ⟨t568, A770, H⟩ := H
            replace H : (if t568 = true then (laws_FnExactEstrinCode.j2 kj35 t556 (t566 != t537) t557 t545) else (laws_FnExactEstrinCode.j2 kj35 t556 true t557 t545)) = some r := H
            have A77 := Aside0.mk A770
            clear A770
            by_cases c78 : t568 = true
            ·subst c78
             have H1 : (laws_FnExactEstrinCode.j2 kj35 t556 (t566 != t537) t557 t545) = some r := by rw [if_pos rfl] at H; exact H
             clear H
             have H := H1
             clear H1
             have H' := Aside0.mk H
             clear H
             have hnb79 := NB567_538.out
             have hnc79 := NB538_567.out
             have hnb80 := NB567_547.out
             have hnc80 := NB547_567.out
             have hcz81_0 : w72.cell? ⟨gb567, 0, none⟩ = some (.slice none 0 0) := (za8 BK567.out 0).trans rfl
             have hcz81_1 : w72.cell? ⟨gb567, 1, none⟩ = some (.int .i64 0) := (za8 BK567.out 1).trans rfl
             have hfz81_0 := za7 BK567.out 0
             have hfz81_1 := za7 BK567.out 1
             have hnb82 := NB538_547.out
             have hnc82 := NB547_538.out
             have hcz83_0 : w72.cell? ⟨gb538, 0, none⟩ = some (.slice Ao12 t533.length co12) := (za8 BK538.out 0).trans rfl
             have hcz83_1 : w72.cell? ⟨gb538, 1, none⟩ = some (.int .i64 t536) := (za8 BK538.out 1).trans rfl
             have hfz83_0 := za7 BK538.out 0
             have hfz83_1 := za7 BK538.out 1
             go_wp2_with (first | ((with_reducible refine zaj (f := 28) rfl ?_); refine zaz (some 78) rfl rfl Try.func28 (by kernel_rfl) rfl #[.agg #[.slice Ao73 t562.length co73, .int .i64 t565], .agg #[.slice Ao12 t533.length co12, .int .i64 t536]] rfl (by (try simp only [List.map_toArray, List.map_cons, List.map_nil]); first | done | rfl | (simp only [List.length_drop, List.length_take]; rfl)) ?_; (with_reducible refine (laws_eqCode.calls kj35 _ _ t562 t565 _ _ t533 t536 true _ ?side1 ?side2 ?side3 ?side4 A77.out).mono ?_); (case side1 => refine (Kd.R_reads' (e := 69) (base := w.heap.size) (ok := fun k_ => ((True ∧ some k_ ≠ (.slice Ao12 t533.length co12 : Value).ownBlock) ∧ some k_ ≠ (.slice Ao18 t542.length co18 : Value).ownBlock)) (n := t562.length) (c := co73) ?_).2.2; exact (by (with_reducible repeat (first | apply Kd.zac | apply Kd.zab | apply Kd.zai)); exact (Kd.zam (Kd.R_far (p := ⟨gb567, 1, none⟩) (Kd.R_far (p := ⟨gb567, 0, none⟩) (Kd.zao HO564.out BK567.out (by decide)) (fun _ hk => hk.2) (.slice Ao73 t562.length co73)) (fun _ hk => hk.2) (.int .i64 t565)) (fun _ h_ => h_.1)))); (case side2 => exact (Kd.R_reads' HO564.out).2.1); (case side3 => refine (Kd.R_reads' (e := 69) (base := w.heap.size) (ok := fun k_ => (some k_ ≠ (.slice Ao18 t542.length co18 : Value).ownBlock ∧ some k_ ≠ (.slice Ao73 t562.length co73 : Value).ownBlock)) (n := t533.length) (c := co12) ?_).2.2; exact (by (with_reducible repeat (first | apply Kd.zac | apply Kd.zab | apply Kd.zai)); exact (Kd.zam (Kd.R_far (p := ⟨gb567, 1, none⟩) (Kd.R_far (p := ⟨gb567, 0, none⟩) (Kd.zao HO_539000.out BK567.out (by decide)) (fun _ hk => hk.2) (.slice Ao73 t562.length co73)) (fun _ hk => hk.2) (.int .i64 t565)) (fun _ h_ => h_.1)))); (case side4 => exact (Kd.R_reads' HO_539000.out).2.1); rintro e w84 ⟨rfl, hb⟩; refine ⟨_, rfl, ?_⟩; have n0_ := Aside0.mk (Kd.zaq (by (with_reducible repeat (first | apply Kd.zac | apply Kd.zab | apply Kd.zai)); exact (Kd.zam (Kd.R_far (p := ⟨gb567, 1, none⟩) (Kd.R_far (p := ⟨gb567, 0, none⟩) (Kd.zao HO_539000.out BK567.out (by decide)) (fun _ hk => hk.2) (.slice Ao73 t562.length co73)) (fun _ hk => hk.2) (.int .i64 t565)) (fun _ h_ => h_.1))) hb); have n1_ := Aside0.mk (Kd.zaq (by (with_reducible repeat (first | apply Kd.zac | apply Kd.zab | apply Kd.zai)); exact (Kd.zam (Kd.R_far (p := ⟨gb567, 1, none⟩) (Kd.R_far (p := ⟨gb567, 0, none⟩) (Kd.zao HO_548000.out BK567.out (by decide)) (fun _ hk => hk.2) (.slice Ao73 t562.length co73)) (fun _ hk => hk.2) (.int .i64 t565)) (fun _ h_ => h_.1))) hb); have n2_ := Aside0.mk (Kd.zaq (by (with_reducible repeat (first | apply Kd.zac | apply Kd.zab | apply Kd.zai)); exact (Kd.zam (Kd.R_far (p := ⟨gb567, 1, none⟩) (Kd.R_far (p := ⟨gb567, 0, none⟩) (Kd.zao HO561.out BK567.out (by decide)) (fun _ hk => hk.2) (.slice Ao73 t562.length co73)) (fun _ hk => hk.2) (.int .i64 t565)) (fun _ h_ => h_.1))) hb); have n3_ := Aside0.mk (Kd.zaq (by (with_reducible repeat (first | apply Kd.zac | apply Kd.zab | apply Kd.zai)); exact (Kd.zam (Kd.R_far (p := ⟨gb567, 1, none⟩) (Kd.R_far (p := ⟨gb567, 0, none⟩) (Kd.zao HO564.out BK567.out (by decide)) (fun _ hk => hk.2) (.slice Ao73 t562.length co73)) (fun _ hk => hk.2) (.int .i64 t565)) (fun _ h_ => h_.1))) hb); have n4_ := Aside0.mk (zae (g := gb538) (o := .cells #[.slice Ao12 t533.length co12, .int .i64 t536] 39 (0, 0)) (by (with_reducible repeat (first | refine za4 ?_ _ | refine za6 ?_ | refine za5 ?_ _)); refine zax ?_ NB538_567.out _; (with_reducible repeat (first | refine za4 ?_ _ | refine za6 ?_ | refine za5 ?_ _)); refine zax ?_ NB538_567.out _; (with_reducible repeat (first | refine za4 ?_ _ | refine za6 ?_ | refine za5 ?_ _)); exact BK538.out) hb); have n5_ := Aside0.mk (zae (g := gb547) (o := .cells #[.slice Ao18 t542.length co18, .int .i64 t545] 39 (0, 0)) (by (with_reducible repeat (first | refine za4 ?_ _ | refine za6 ?_ | refine za5 ?_ _)); refine zax ?_ NB547_567.out _; (with_reducible repeat (first | refine za4 ?_ _ | refine za6 ?_ | refine za5 ?_ _)); refine zax ?_ NB547_567.out _; (with_reducible repeat (first | refine za4 ?_ _ | refine za6 ?_ | refine za5 ?_ _)); exact BK547.out) hb); have n6_ := Aside0.mk (zae (g := gb567) (o := .cells #[.slice Ao73 t562.length co73, .int .i64 t565] 39 (0, 0)) (by (with_reducible repeat (first | refine za4 ?_ _ | refine za6 ?_ | refine za5 ?_ _)); refine zat (cs := #[.slice Ao73 t562.length co73, .int .i64 0]) ?_ 1 _ rfl; (with_reducible repeat (first | refine za4 ?_ _ | refine za6 ?_ | refine za5 ?_ _)); refine zat (cs := #[.slice none 0 0, .int .i64 0]) ?_ 0 _ rfl; (with_reducible repeat (first | refine za4 ?_ _ | refine za6 ?_ | refine za5 ?_ _)); exact BK567.out) hb); have n7_ := Aside0.mk (zad (by repeat (first | (with_reducible first | exact HB.out | apply za2 | apply za0 | apply za1 | refine za3 ?_ GE538.out | refine za3 ?_ GE547.out | refine za3 ?_ GE567.out) | exact HB.out)) hb); clear HO_539000; clear HO_548000; clear HO561; clear HO564; clear BK538; clear BK547; clear BK567; clear HB; have HO_539000 := n0_; have HO_548000 := n1_; have HO561 := n2_; have HO564 := n3_; have BK538 := n4_; have BK547 := n5_; have BK567 := n6_; have HB := n7_; clear n0_ n1_ n2_ n3_ n4_ n5_ n6_ n7_; (try clear hb); (try clear hb2); (try clear hk); (try clear hi)))
             go_meet
             case rel => exact ⟨_, ((t566 != t537)), (by first | rfl | (simp; done) | (simp [*]; done)), H', ⟨by have := HJ6.out; have := HJ35.out; first | omega | exact Nat.le_refl _⟩, ⟨by (with_reducible repeat (first | apply Kd.zac | apply Kd.zab | apply Kd.zai)); exact HO_539000.out⟩, ⟨by (with_reducible repeat (first | apply Kd.zac | apply Kd.zab | apply Kd.zai)); exact HO_548000.out⟩, ⟨by (with_reducible repeat (first | apply Kd.zac | apply Kd.zab | apply Kd.zai)); exact Kd.zam HO564.out (fun _ hk => ⟨hk.1.2, hk.2⟩)⟩, ⟨by (with_reducible repeat (first | refine za4 ?_ _ | refine za6 ?_ | refine za5 ?_ _)); exact BK538.out⟩, ⟨by (with_reducible repeat (first | refine za4 ?_ _ | refine za6 ?_ | refine za5 ?_ _)); exact BK547.out⟩, ⟨by (with_reducible repeat (first | refine za4 ?_ _ | refine za6 ?_ | refine za5 ?_ _)); exact BK567.out⟩, ⟨by repeat (first | (with_reducible first | exact HB.out | apply za2 | apply za0 | apply za1 | refine za3 ?_ GE538.out | refine za3 ?_ GE547.out | refine za3 ?_ GE567.out) | exact HB.out)⟩⟩
            ·replace c78 := Bool.eq_false_iff.mpr c78
             subst c78
             have H1 : (laws_FnExactEstrinCode.j2 kj35 t556 true t557 t545) = some r := by rw [if_neg (show ¬ (false = true) by decide)] at H; exact H
             clear H
             have H := H1
             clear H1
             have H' := Aside0.mk H
             clear H
             have hnb85 := NB567_538.out
             have hnc85 := NB538_567.out
             have hnb86 := NB567_547.out
             have hnc86 := NB547_567.out
             have hcz87_0 : w72.cell? ⟨gb567, 0, none⟩ = some (.slice none 0 0) := (za8 BK567.out 0).trans rfl
             have hcz87_1 : w72.cell? ⟨gb567, 1, none⟩ = some (.int .i64 0) := (za8 BK567.out 1).trans rfl
             have hfz87_0 := za7 BK567.out 0
             have hfz87_1 := za7 BK567.out 1
             have hnb88 := NB538_547.out
             have hnc88 := NB547_538.out
             have hcz89_0 : w72.cell? ⟨gb538, 0, none⟩ = some (.slice Ao12 t533.length co12) := (za8 BK538.out 0).trans rfl
             have hcz89_1 : w72.cell? ⟨gb538, 1, none⟩ = some (.int .i64 t536) := (za8 BK538.out 1).trans rfl
             have hfz89_0 := za7 BK538.out 0
             have hfz89_1 := za7 BK538.out 1
             go_wp2_with (first | ((with_reducible refine zaj (f := 28) rfl ?_); refine zaz (some 78) rfl rfl Try.func28 (by kernel_rfl) rfl #[.agg #[.slice Ao73 t562.length co73, .int .i64 t565], .agg #[.slice Ao12 t533.length co12, .int .i64 t536]] rfl (by (try simp only [List.map_toArray, List.map_cons, List.map_nil]); first | done | rfl | (simp only [List.length_drop, List.length_take]; rfl)) ?_; (with_reducible refine (laws_eqCode.calls kj35 _ _ t562 t565 _ _ t533 t536 false _ ?side1 ?side2 ?side3 ?side4 A77.out).mono ?_); (case side1 => refine (Kd.R_reads' (e := 69) (base := w.heap.size) (ok := fun k_ => ((True ∧ some k_ ≠ (.slice Ao12 t533.length co12 : Value).ownBlock) ∧ some k_ ≠ (.slice Ao18 t542.length co18 : Value).ownBlock)) (n := t562.length) (c := co73) ?_).2.2; exact (by (with_reducible repeat (first | apply Kd.zac | apply Kd.zab | apply Kd.zai)); exact (Kd.zam (Kd.R_far (p := ⟨gb567, 1, none⟩) (Kd.R_far (p := ⟨gb567, 0, none⟩) (Kd.zao HO564.out BK567.out (by decide)) (fun _ hk => hk.2) (.slice Ao73 t562.length co73)) (fun _ hk => hk.2) (.int .i64 t565)) (fun _ h_ => h_.1)))); (case side2 => exact (Kd.R_reads' HO564.out).2.1); (case side3 => refine (Kd.R_reads' (e := 69) (base := w.heap.size) (ok := fun k_ => (some k_ ≠ (.slice Ao18 t542.length co18 : Value).ownBlock ∧ some k_ ≠ (.slice Ao73 t562.length co73 : Value).ownBlock)) (n := t533.length) (c := co12) ?_).2.2; exact (by (with_reducible repeat (first | apply Kd.zac | apply Kd.zab | apply Kd.zai)); exact (Kd.zam (Kd.R_far (p := ⟨gb567, 1, none⟩) (Kd.R_far (p := ⟨gb567, 0, none⟩) (Kd.zao HO_539000.out BK567.out (by decide)) (fun _ hk => hk.2) (.slice Ao73 t562.length co73)) (fun _ hk => hk.2) (.int .i64 t565)) (fun _ h_ => h_.1)))); (case side4 => exact (Kd.R_reads' HO_539000.out).2.1); rintro e w90 ⟨rfl, hb⟩; refine ⟨_, rfl, ?_⟩; have n0_ := Aside0.mk (Kd.zaq (by (with_reducible repeat (first | apply Kd.zac | apply Kd.zab | apply Kd.zai)); exact (Kd.zam (Kd.R_far (p := ⟨gb567, 1, none⟩) (Kd.R_far (p := ⟨gb567, 0, none⟩) (Kd.zao HO_539000.out BK567.out (by decide)) (fun _ hk => hk.2) (.slice Ao73 t562.length co73)) (fun _ hk => hk.2) (.int .i64 t565)) (fun _ h_ => h_.1))) hb); have n1_ := Aside0.mk (Kd.zaq (by (with_reducible repeat (first | apply Kd.zac | apply Kd.zab | apply Kd.zai)); exact (Kd.zam (Kd.R_far (p := ⟨gb567, 1, none⟩) (Kd.R_far (p := ⟨gb567, 0, none⟩) (Kd.zao HO_548000.out BK567.out (by decide)) (fun _ hk => hk.2) (.slice Ao73 t562.length co73)) (fun _ hk => hk.2) (.int .i64 t565)) (fun _ h_ => h_.1))) hb); have n2_ := Aside0.mk (Kd.zaq (by (with_reducible repeat (first | apply Kd.zac | apply Kd.zab | apply Kd.zai)); exact (Kd.zam (Kd.R_far (p := ⟨gb567, 1, none⟩) (Kd.R_far (p := ⟨gb567, 0, none⟩) (Kd.zao HO561.out BK567.out (by decide)) (fun _ hk => hk.2) (.slice Ao73 t562.length co73)) (fun _ hk => hk.2) (.int .i64 t565)) (fun _ h_ => h_.1))) hb); have n3_ := Aside0.mk (Kd.zaq (by (with_reducible repeat (first | apply Kd.zac | apply Kd.zab | apply Kd.zai)); exact (Kd.zam (Kd.R_far (p := ⟨gb567, 1, none⟩) (Kd.R_far (p := ⟨gb567, 0, none⟩) (Kd.zao HO564.out BK567.out (by decide)) (fun _ hk => hk.2) (.slice Ao73 t562.length co73)) (fun _ hk => hk.2) (.int .i64 t565)) (fun _ h_ => h_.1))) hb); have n4_ := Aside0.mk (zae (g := gb538) (o := .cells #[.slice Ao12 t533.length co12, .int .i64 t536] 39 (0, 0)) (by (with_reducible repeat (first | refine za4 ?_ _ | refine za6 ?_ | refine za5 ?_ _)); refine zax ?_ NB538_567.out _; (with_reducible repeat (first | refine za4 ?_ _ | refine za6 ?_ | refine za5 ?_ _)); refine zax ?_ NB538_567.out _; (with_reducible repeat (first | refine za4 ?_ _ | refine za6 ?_ | refine za5 ?_ _)); exact BK538.out) hb); have n5_ := Aside0.mk (zae (g := gb547) (o := .cells #[.slice Ao18 t542.length co18, .int .i64 t545] 39 (0, 0)) (by (with_reducible repeat (first | refine za4 ?_ _ | refine za6 ?_ | refine za5 ?_ _)); refine zax ?_ NB547_567.out _; (with_reducible repeat (first | refine za4 ?_ _ | refine za6 ?_ | refine za5 ?_ _)); refine zax ?_ NB547_567.out _; (with_reducible repeat (first | refine za4 ?_ _ | refine za6 ?_ | refine za5 ?_ _)); exact BK547.out) hb); have n6_ := Aside0.mk (zae (g := gb567) (o := .cells #[.slice Ao73 t562.length co73, .int .i64 t565] 39 (0, 0)) (by (with_reducible repeat (first | refine za4 ?_ _ | refine za6 ?_ | refine za5 ?_ _)); refine zat (cs := #[.slice Ao73 t562.length co73, .int .i64 0]) ?_ 1 _ rfl; (with_reducible repeat (first | refine za4 ?_ _ | refine za6 ?_ | refine za5 ?_ _)); refine zat (cs := #[.slice none 0 0, .int .i64 0]) ?_ 0 _ rfl; (with_reducible repeat (first | refine za4 ?_ _ | refine za6 ?_ | refine za5 ?_ _)); exact BK567.out) hb); have n7_ := Aside0.mk (zad (by repeat (first | (with_reducible first | exact HB.out | apply za2 | apply za0 | apply za1 | refine za3 ?_ GE538.out | refine za3 ?_ GE547.out | refine za3 ?_ GE567.out) | exact HB.out)) hb); clear HO_539000; clear HO_548000; clear HO561; clear HO564; clear BK538; clear BK547; clear BK567; clear HB; have HO_539000 := n0_; have HO_548000 := n1_; have HO561 := n2_; have HO564 := n3_; have BK538 := n4_; have BK547 := n5_; have BK567 := n6_; have HB := n7_; clear n0_ n1_ n2_ n3_ n4_ n5_ n6_ n7_; (try clear hb); (try clear hb2); (try clear hk); (try clear hi)))
             go_meet
             case rel => exact ⟨_, (true), (by first | rfl | (simp; done) | (simp [*]; done)), H', ⟨by have := HJ6.out; have := HJ35.out; first | omega | exact Nat.le_refl _⟩, ⟨by (with_reducible repeat (first | apply Kd.zac | apply Kd.zab | apply Kd.zai)); exact HO_539000.out⟩, ⟨by (with_reducible repeat (first | apply Kd.zac | apply Kd.zab | apply Kd.zai)); exact HO_548000.out⟩, ⟨by (with_reducible repeat (first | apply Kd.zac | apply Kd.zab | apply Kd.zai)); exact Kd.zam HO564.out (fun _ hk => ⟨hk.1.2, hk.2⟩)⟩, ⟨by (with_reducible repeat (first | refine za4 ?_ _ | refine za6 ?_ | refine za5 ?_ _)); exact BK538.out⟩, ⟨by (with_reducible repeat (first | refine za4 ?_ _ | refine za6 ?_ | refine za5 ?_ _)); exact BK547.out⟩, ⟨by (with_reducible repeat (first | refine za4 ?_ _ | refine za6 ?_ | refine za5 ?_ _)); exact BK567.out⟩, ⟨by repeat (first | (with_reducible first | exact HB.out | apply za2 | apply za0 | apply za1 | refine za3 ?_ GE538.out | refine za3 ?_ GE547.out | refine za3 ?_ GE567.out) | exact HB.out)⟩⟩
           case rest =>
            clear HC63
            try clear c1
            try clear c2
            try clear c2b0
            try clear c2b1
            try clear p2
            try clear c3
            try clear c4
            try clear c5
            try clear c6
            try clear c7
            try clear c8
            try clear c15
            try clear c17
            try clear c19
            try clear c22
            try clear c23
            try clear c27
            try clear c28
            try clear c31
            try clear c34
            try clear c37
            try clear c38
            try clear c40
            try clear c40b0
            try clear c42
            try clear c43
            try clear c44
            try clear c47
            try clear c49
            try clear c50
            try clear c51
            try clear c54
            try clear c54b0
            try clear c55
            try clear c60
            try clear c60b0
            try clear c60b1
            try clear c64
            try clear c74
            try clear c75
            try clear c78
            try clear c79
            try clear c80
            try clear c82
            try clear c85
            try clear c86
            try clear c88
            try clear hcz13_0
            try clear hcz13_1
            try clear hcz20_0
            try clear hcz20_1
            try clear hcz24_0
            try clear hcz24_1
            try clear hcz25_0
            try clear hcz25_1
            try clear hcz28_0
            try clear hcz28_1
            try clear hcz29_0
            try clear hcz29_1
            try clear hcz44_0
            try clear hcz44_1
            try clear hcz45_0
            try clear hcz45_1
            try clear hcz48_0
            try clear hcz48_1
            try clear hcz49_0
            try clear hcz49_1
            try clear hcz56_0
            try clear hcz56_1
            try clear hcz58_0
            try clear hcz58_1
            try clear hcz65_0
            try clear hcz65_1
            try clear hcz67_0
            try clear hcz67_1
            try clear hcz76_0
            try clear hcz76_1
            try clear hcz81_0
            try clear hcz81_1
            try clear hcz83_0
            try clear hcz83_1
            try clear hcz87_0
            try clear hcz87_1
            try clear hcz89_0
            try clear hcz89_1
            try clear hfz13_0
            try clear hfz13_1
            try clear hfz20_0
            try clear hfz20_1
            try clear hfz24_0
            try clear hfz24_1
            try clear hfz25_0
            try clear hfz25_1
            try clear hfz28_0
            try clear hfz28_1
            try clear hfz29_0
            try clear hfz29_1
            try clear hfz44_0
            try clear hfz44_1
            try clear hfz45_0
            try clear hfz45_1
            try clear hfz48_0
            try clear hfz48_1
            try clear hfz49_0
            try clear hfz49_1
            try clear hfz56_0
            try clear hfz56_1
            try clear hfz58_0
            try clear hfz58_1
            try clear hfz65_0
            try clear hfz65_1
            try clear hfz67_0
            try clear hfz67_1
            try clear hfz76_0
            try clear hfz76_1
            try clear hfz81_0
            try clear hfz81_1
            try clear hfz83_0
            try clear hfz83_1
            try clear hfz87_0
            try clear hfz87_1
            try clear hfz89_0
            try clear hfz89_1
            try clear p2
            obtain ⟨kq, x84_62, rfl, HA, HJ62, HO_539000, HO_548000, HO_568000, BK538, BK547, BK567, HB⟩ := hcut
            have hl548000_62 := (Kd.R_reads' HO_548000.out).1
            rw [hl548000_62] at HO_548000
            (try simp only [hl548000_62])
            (try simp only [hl548000_62] at BK538)
            (try simp only [hl548000_62] at BK547)
            (try simp only [hl548000_62] at BK567)
            (try simp only [hl548000_62] at HO_539000)
            (try simp only [hl548000_62] at HO_568000)
            cases kq with
            | zero => exact absurd HA.out (by simp [laws_FnExactEstrinCode.j2])
            | succ kj62 =>
             have H := HA.out
             clear HA
             simp only [laws_FnExactEstrinCode.j2] at H
             by_cases c91 : x84_62 = true
             ·subst c91
              have H1 : (some false) = some r := by rw [if_pos rfl] at H; exact H
              clear H
              have H := H1
              clear H1
              obtain rfl := Option.some.inj H
              go_wp2
              go_ret
              exact ⟨by first | rfl | (simp [zaf, zah] <;> rfl) | (simp [*, zaf, zah] <;> rfl), by repeat (first | (with_reducible first | exact HB.out | apply za2 | apply za0 | apply za1 | refine za3 ?_ GE538.out | refine za3 ?_ GE547.out | refine za3 ?_ GE567.out) | exact HB.out)⟩
             ·replace c91 := Bool.eq_false_iff.mpr c91
              subst c91
              have H1 : ((laws_heldCode.f kj62 t557 t545 1).bind fun t569 => (if t569 < 0 then (some false) else (if t569 = t556 then (some true) else (some false)))) = some r := by rw [if_neg (show ¬ (false = true) by decide)] at H; exact H
              clear H
              have H := H1
              clear H1
              replace H := Option.bind_eq_some_iff.mp H
              obtain ⟨t569, A920, H⟩ := H
              replace H : (if t569 < 0 then (some false) else (if t569 = t556 then (some true) else (some false))) = some r := H
              have A92 := Aside0.mk A920
              clear A920
              by_cases c93 : t569 < 0
              ·rw [if_pos c93] at H
               have c93b0 : decide (t569 < 0) = true := decide_eq_true c93
               clear c93
               obtain rfl := Option.some.inj H
               have hnb94 := NB547_538.out
               have hnc94 := NB538_547.out
               have hnb95 := NB547_567.out
               have hnc95 := NB567_547.out
               have hcz96_0 : wc.cell? ⟨gb547, 0, none⟩ = some (.slice Ao18 t557.length co18) := (za8 BK547.out 0).trans rfl
               have hcz96_1 : wc.cell? ⟨gb547, 1, none⟩ = some (.int .i64 t545) := (za8 BK547.out 1).trans rfl
               have hfz96_0 := za7 BK547.out 0
               have hfz96_1 := za7 BK547.out 1
               go_wp2_with (first | ((with_reducible refine zaj (f := 44) rfl ?_); refine zaz (some 87) rfl rfl Try.func44 (by kernel_rfl) rfl #[.agg #[.slice Ao18 t557.length co18, .int .i64 t545], .int .i64 1] rfl (by (try simp only [List.map_toArray, List.map_cons, List.map_nil]); first | done | rfl | (simp only [List.length_drop, List.length_take]; rfl)) ?_; (with_reducible refine (laws_heldCode.calls kj62 _ _ t557 t545 1 t569 _ ?side1 ?side2 A92.out).mono ?_); (case side1 => repeat (first | exact (Kd.R_reads' HO_548000.out).2.2 | (with_reducible refine Kd.zar ?_ _) | (with_reducible refine Kd.zas ?_ _) | (with_reducible refine Kd.zav ?_))); (case side2 => exact (Kd.R_reads' HO_548000.out).2.1); rintro e w97 ⟨rfl, hb⟩; refine ⟨_, rfl, ?_⟩; have n0_ := Aside0.mk (Kd.zaq (by (with_reducible repeat (first | apply Kd.zac | apply Kd.zab | apply Kd.zai)); exact HO_539000.out) hb); have n1_ := Aside0.mk (Kd.zaq (by (with_reducible repeat (first | apply Kd.zac | apply Kd.zab | apply Kd.zai)); exact HO_548000.out) hb); have n2_ := Aside0.mk (Kd.zaq (by (with_reducible repeat (first | apply Kd.zac | apply Kd.zab | apply Kd.zai)); exact HO_568000.out) hb); have n3_ := Aside0.mk (zae (g := gb538) (o := .cells #[.slice Ao12 t533.length co12, .int .i64 t536] 39 (0, 0)) (by (with_reducible repeat (first | refine za4 ?_ _ | refine za6 ?_ | refine za5 ?_ _)); exact BK538.out) hb); have n4_ := Aside0.mk (zae (g := gb547) (o := .cells #[.slice Ao18 t557.length co18, .int .i64 t545] 39 (0, 0)) (by (with_reducible repeat (first | refine za4 ?_ _ | refine za6 ?_ | refine za5 ?_ _)); exact BK547.out) hb); have n5_ := Aside0.mk (zae (g := gb567) (o := .cells #[.slice Ao73 t562.length co73, .int .i64 t565] 39 (0, 0)) (by (with_reducible repeat (first | refine za4 ?_ _ | refine za6 ?_ | refine za5 ?_ _)); exact BK567.out) hb); have n6_ := Aside0.mk (zad (by repeat (first | (with_reducible first | exact HB.out | apply za2 | apply za0 | apply za1 | refine za3 ?_ GE538.out | refine za3 ?_ GE547.out | refine za3 ?_ GE567.out) | exact HB.out)) hb); clear HO_539000; clear HO_548000; clear HO_568000; clear BK538; clear BK547; clear BK567; clear HB; have HO_539000 := n0_; have HO_548000 := n1_; have HO_568000 := n2_; have BK538 := n3_; have BK547 := n4_; have BK567 := n5_; have HB := n6_; clear n0_ n1_ n2_ n3_ n4_ n5_ n6_; (try clear hb); (try clear hb2); (try clear hk); (try clear hi)))
               go_ret
               exact ⟨by first | rfl | (simp [zaf, zah] <;> rfl) | (simp [*, zaf, zah] <;> rfl), by repeat (first | (with_reducible first | exact HB.out | apply za2 | apply za0 | apply za1 | refine za3 ?_ GE538.out | refine za3 ?_ GE547.out | refine za3 ?_ GE567.out) | exact HB.out)⟩
              ·rw [if_neg c93] at H
               have c93b0 : decide (t569 < 0) = false := decide_eq_false c93
               clear c93
               by_cases c98 : t569 = t556
               ·rw [if_pos c98] at H
                have c98b0 : (t569 == t556) = true := beq_iff_eq.mpr c98
                have c98b1 : (t569 != t556) = false := bne_eq_false_iff_eq.mpr c98
                clear c98
                obtain rfl := Option.some.inj H
                have hnb99 := NB547_538.out
                have hnc99 := NB538_547.out
                have hnb100 := NB547_567.out
                have hnc100 := NB567_547.out
                have hcz101_0 : wc.cell? ⟨gb547, 0, none⟩ = some (.slice Ao18 t557.length co18) := (za8 BK547.out 0).trans rfl
                have hcz101_1 : wc.cell? ⟨gb547, 1, none⟩ = some (.int .i64 t545) := (za8 BK547.out 1).trans rfl
                have hfz101_0 := za7 BK547.out 0
                have hfz101_1 := za7 BK547.out 1
                go_wp2_with (first | ((with_reducible refine zaj (f := 44) rfl ?_); refine zaz (some 87) rfl rfl Try.func44 (by kernel_rfl) rfl #[.agg #[.slice Ao18 t557.length co18, .int .i64 t545], .int .i64 1] rfl (by (try simp only [List.map_toArray, List.map_cons, List.map_nil]); first | done | rfl | (simp only [List.length_drop, List.length_take]; rfl)) ?_; (with_reducible refine (laws_heldCode.calls kj62 _ _ t557 t545 1 t569 _ ?side1 ?side2 A92.out).mono ?_); (case side1 => repeat (first | exact (Kd.R_reads' HO_548000.out).2.2 | (with_reducible refine Kd.zar ?_ _) | (with_reducible refine Kd.zas ?_ _) | (with_reducible refine Kd.zav ?_))); (case side2 => exact (Kd.R_reads' HO_548000.out).2.1); rintro e w102 ⟨rfl, hb⟩; refine ⟨_, rfl, ?_⟩; have n0_ := Aside0.mk (Kd.zaq (by (with_reducible repeat (first | apply Kd.zac | apply Kd.zab | apply Kd.zai)); exact HO_539000.out) hb); have n1_ := Aside0.mk (Kd.zaq (by (with_reducible repeat (first | apply Kd.zac | apply Kd.zab | apply Kd.zai)); exact HO_548000.out) hb); have n2_ := Aside0.mk (Kd.zaq (by (with_reducible repeat (first | apply Kd.zac | apply Kd.zab | apply Kd.zai)); exact HO_568000.out) hb); have n3_ := Aside0.mk (zae (g := gb538) (o := .cells #[.slice Ao12 t533.length co12, .int .i64 t536] 39 (0, 0)) (by (with_reducible repeat (first | refine za4 ?_ _ | refine za6 ?_ | refine za5 ?_ _)); exact BK538.out) hb); have n4_ := Aside0.mk (zae (g := gb547) (o := .cells #[.slice Ao18 t557.length co18, .int .i64 t545] 39 (0, 0)) (by (with_reducible repeat (first | refine za4 ?_ _ | refine za6 ?_ | refine za5 ?_ _)); exact BK547.out) hb); have n5_ := Aside0.mk (zae (g := gb567) (o := .cells #[.slice Ao73 t562.length co73, .int .i64 t565] 39 (0, 0)) (by (with_reducible repeat (first | refine za4 ?_ _ | refine za6 ?_ | refine za5 ?_ _)); exact BK567.out) hb); have n6_ := Aside0.mk (zad (by repeat (first | (with_reducible first | exact HB.out | apply za2 | apply za0 | apply za1 | refine za3 ?_ GE538.out | refine za3 ?_ GE547.out | refine za3 ?_ GE567.out) | exact HB.out)) hb); clear HO_539000; clear HO_548000; clear HO_568000; clear BK538; clear BK547; clear BK567; clear HB; have HO_539000 := n0_; have HO_548000 := n1_; have HO_568000 := n2_; have BK538 := n3_; have BK547 := n4_; have BK567 := n5_; have HB := n6_; clear n0_ n1_ n2_ n3_ n4_ n5_ n6_; (try clear hb); (try clear hb2); (try clear hk); (try clear hi)))
                go_ret
                exact ⟨by first | rfl | (simp [zaf, zah] <;> rfl) | (simp [*, zaf, zah] <;> rfl), by repeat (first | (with_reducible first | exact HB.out | apply za2 | apply za0 | apply za1 | refine za3 ?_ GE538.out | refine za3 ?_ GE547.out | refine za3 ?_ GE567.out) | exact HB.out)⟩
               ·rw [if_neg c98] at H
                have c98b0 : (t569 == t556) = false := beq_eq_false_iff_ne.mpr c98
                have c98b1 : (t569 != t556) = true := bne_iff_ne.mpr c98
                obtain rfl := Option.some.inj H
                have hnb103 := NB547_538.out
                have hnc103 := NB538_547.out
                have hnb104 := NB547_567.out
                have hnc104 := NB567_547.out
                have hcz105_0 : wc.cell? ⟨gb547, 0, none⟩ = some (.slice Ao18 t557.length co18) := (za8 BK547.out 0).trans rfl
                have hcz105_1 : wc.cell? ⟨gb547, 1, none⟩ = some (.int .i64 t545) := (za8 BK547.out 1).trans rfl
                have hfz105_0 := za7 BK547.out 0
                have hfz105_1 := za7 BK547.out 1
                go_wp2_with (first | ((with_reducible refine zaj (f := 44) rfl ?_); refine zaz (some 87) rfl rfl Try.func44 (by kernel_rfl) rfl #[.agg #[.slice Ao18 t557.length co18, .int .i64 t545], .int .i64 1] rfl (by (try simp only [List.map_toArray, List.map_cons, List.map_nil]); first | done | rfl | (simp only [List.length_drop, List.length_take]; rfl)) ?_; (with_reducible refine (laws_heldCode.calls kj62 _ _ t557 t545 1 t569 _ ?side1 ?side2 A92.out).mono ?_); (case side1 => repeat (first | exact (Kd.R_reads' HO_548000.out).2.2 | (with_reducible refine Kd.zar ?_ _) | (with_reducible refine Kd.zas ?_ _) | (with_reducible refine Kd.zav ?_))); (case side2 => exact (Kd.R_reads' HO_548000.out).2.1); rintro e w106 ⟨rfl, hb⟩; refine ⟨_, rfl, ?_⟩; have n0_ := Aside0.mk (Kd.zaq (by (with_reducible repeat (first | apply Kd.zac | apply Kd.zab | apply Kd.zai)); exact HO_539000.out) hb); have n1_ := Aside0.mk (Kd.zaq (by (with_reducible repeat (first | apply Kd.zac | apply Kd.zab | apply Kd.zai)); exact HO_548000.out) hb); have n2_ := Aside0.mk (Kd.zaq (by (with_reducible repeat (first | apply Kd.zac | apply Kd.zab | apply Kd.zai)); exact HO_568000.out) hb); have n3_ := Aside0.mk (zae (g := gb538) (o := .cells #[.slice Ao12 t533.length co12, .int .i64 t536] 39 (0, 0)) (by (with_reducible repeat (first | refine za4 ?_ _ | refine za6 ?_ | refine za5 ?_ _)); exact BK538.out) hb); have n4_ := Aside0.mk (zae (g := gb547) (o := .cells #[.slice Ao18 t557.length co18, .int .i64 t545] 39 (0, 0)) (by (with_reducible repeat (first | refine za4 ?_ _ | refine za6 ?_ | refine za5 ?_ _)); exact BK547.out) hb); have n5_ := Aside0.mk (zae (g := gb567) (o := .cells #[.slice Ao73 t562.length co73, .int .i64 t565] 39 (0, 0)) (by (with_reducible repeat (first | refine za4 ?_ _ | refine za6 ?_ | refine za5 ?_ _)); exact BK567.out) hb); have n6_ := Aside0.mk (zad (by repeat (first | (with_reducible first | exact HB.out | apply za2 | apply za0 | apply za1 | refine za3 ?_ GE538.out | refine za3 ?_ GE547.out | refine za3 ?_ GE567.out) | exact HB.out)) hb); clear HO_539000; clear HO_548000; clear HO_568000; clear BK538; clear BK547; clear BK567; clear HB; have HO_539000 := n0_; have HO_548000 := n1_; have HO_568000 := n2_; have BK538 := n3_; have BK547 := n4_; have BK567 := n5_; have HB := n6_; clear n0_ n1_ n2_ n3_ n4_ n5_ n6_; (try clear hb); (try clear hb2); (try clear hk); (try clear hi)))
                go_ret
                exact ⟨by first | rfl | (simp [zaf, zah] <;> rfl) | (simp [*, zaf, zah] <;> rfl), by repeat (first | (with_reducible first | exact HB.out | apply za2 | apply za0 | apply za1 | refine za3 ?_ GE538.out | refine za3 ?_ GE547.out | refine za3 ?_ GE567.out) | exact HB.out)⟩
          ·rw [if_neg c60] at H
           have c60b0 : (t558 == t556) = false := beq_eq_false_iff_ne.mpr c60
           have c60b1 : (t558 != t556) = true := bne_iff_ne.mpr c60
           obtain rfl := Option.some.inj H
           have hnb107 := NB547_538.out
           have hnc107 := NB538_547.out
           have hcz108_0 : wc.cell? ⟨gb547, 0, none⟩ = some (.slice Ao18 t542.length co18) := (za8 BK547.out 0).trans rfl
           have hcz108_1 : wc.cell? ⟨gb547, 1, none⟩ = some (.int .i64 t545) := (za8 BK547.out 1).trans rfl
           have hfz108_0 := za7 BK547.out 0
           have hfz108_1 := za7 BK547.out 1
           go_wp2_with (first | ((with_reducible refine zaj (f := 37) rfl ?_); refine zaz (some 61) rfl rfl Try.func37 (by kernel_rfl) rfl #[.agg #[.slice Ao18 t542.length co18, .int .i64 t545], .int .i64 1] rfl (by (try simp only [List.map_toArray, List.map_cons, List.map_nil]); first | done | rfl | (simp only [List.length_drop, List.length_take]; rfl)) ?_; (with_reducible refine (laws_markCode.calls kj35 (fun k_ => some k_ = (.slice Ao18 t542.length co18 : Value).ownBlock) (.slice Ao18 t542.length co18) t542 t545 1 t556 t557 w _ ?side1 ?side2 A52.out).mono ?_); (case side1 => repeat (first | (with_reducible first | exact HB.out | apply za2 | apply za0 | apply za1 | refine za3 ?_ GE538.out | refine za3 ?_ GE547.out) | exact HB.out)); (case side2 => exact Kd.R_tight rfl HO_548000.out); rintro e w109 ⟨rfl, hy0, hb, hkp⟩; refine ⟨_, rfl, ?_⟩; have n0_ := Aside0.mk (Kd.zam (ok' := fun k_ => some k_ ≠ (.slice Ao18 t542.length co18 : Value).ownBlock) (Kd.R_keptB (HO_539000.out) hkp (fun k_ hk_ hs_ => (hk_) hs_)) (fun k_ hk_ => hk_.1)); have n1_ := Aside0.mk (Kd.R_reok rfl hy0 (fun k_ e_ => HO_548000.out.1 k_ e_)); have n2_ := Aside0.mk (blk_kept (by (with_reducible repeat (first | refine za4 ?_ _ | refine za6 ?_ | refine za5 ?_ _)); exact BK538.out) hkp (fun hs_ => (fun e_ => (Kd.R_ne HO_548000.out BK538.out (by decide)) e_) hs_)); have n3_ := Aside0.mk (blk_kept (by (with_reducible repeat (first | refine za4 ?_ _ | refine za6 ?_ | refine za5 ?_ _)); exact BK547.out) hkp (fun hs_ => (fun e_ => (Kd.R_ne HO_548000.out BK547.out (by decide)) e_) hs_)); have n4_ := Aside0.mk (hb); clear HO_539000; clear HO_548000; clear BK538; clear BK547; clear HB; have HO_539000 := n0_; have HO_548000 := n1_; have BK538 := n2_; have BK547 := n3_; have HB := n4_; clear n0_ n1_ n2_ n3_ n4_; (try clear hb); (try clear hkp); (try clear hy0); have hcz110_0 : w109.cell? ⟨gb547, 0, none⟩ = some (.slice Ao18 t542.length co18) := (za8 BK547.out 0).trans rfl; have hcz110_1 : w109.cell? ⟨gb547, 1, none⟩ = some (.int .i64 t545) := (za8 BK547.out 1).trans rfl; have hfz110_0 := za7 BK547.out 0; have hfz110_1 := za7 BK547.out 1) | ((with_reducible refine zaj (f := 44) rfl ?_); refine zaz (some 64) rfl rfl Try.func44 (by kernel_rfl) rfl #[.agg #[.slice Ao18 t557.length co18, .int .i64 t545], .int .i64 1] rfl (by (try simp only [List.map_toArray, List.map_cons, List.map_nil]); first | done | (rw [show t557.length = t542.length from (Kd.R_reads' HO_548000.out).1.symm] <;> rfl) | rfl | (simp only [List.length_drop, List.length_take]; rfl)) ?_; (with_reducible refine (laws_heldCode.calls kj35 _ _ t557 t545 1 t558 _ ?side1 ?side2 A53.out).mono ?_); (case side1 => repeat (first | exact (Kd.R_reads' HO_548000.out).2.2 | (with_reducible refine Kd.zar ?_ _) | (with_reducible refine Kd.zas ?_ _) | (with_reducible refine Kd.zav ?_))); (case side2 => rw [show t557.length = t542.length from (Kd.R_reads' HO_548000.out).1.symm]; exact (Kd.R_reads' HO_548000.out).2.1); rintro e w111 ⟨rfl, hb⟩; refine ⟨_, rfl, ?_⟩; have n0_ := Aside0.mk (Kd.zaq (by (with_reducible repeat (first | apply Kd.zac | apply Kd.zab | apply Kd.zai)); exact HO_539000.out) hb); have n1_ := Aside0.mk (Kd.zaq (by (with_reducible repeat (first | apply Kd.zac | apply Kd.zab | apply Kd.zai)); exact HO_548000.out) hb); have n2_ := Aside0.mk (zae (g := gb538) (o := .cells #[.slice Ao12 t533.length co12, .int .i64 t536] 39 (0, 0)) (by (with_reducible repeat (first | refine za4 ?_ _ | refine za6 ?_ | refine za5 ?_ _)); exact BK538.out) hb); have n3_ := Aside0.mk (zae (g := gb547) (o := .cells #[.slice Ao18 t542.length co18, .int .i64 t545] 39 (0, 0)) (by (with_reducible repeat (first | refine za4 ?_ _ | refine za6 ?_ | refine za5 ?_ _)); exact BK547.out) hb); have n4_ := Aside0.mk (zad (by repeat (first | (with_reducible first | exact HB.out | apply za2 | apply za0 | apply za1 | refine za3 ?_ GE538.out | refine za3 ?_ GE547.out) | exact HB.out)) hb); clear HO_539000; clear HO_548000; clear BK538; clear BK547; clear HB; have HO_539000 := n0_; have HO_548000 := n1_; have BK538 := n2_; have BK547 := n3_; have HB := n4_; clear n0_ n1_ n2_ n3_ n4_; (try clear hb); (try clear hb2); (try clear hk); (try clear hi)))
           go_ret
           exact ⟨by first | rfl | (simp [zaf, zah] <;> rfl) | (simp [*, zaf, zah] <;> rfl), by repeat (first | (with_reducible first | exact HB.out | apply za2 | apply za0 | apply za1 | refine za3 ?_ GE538.out | refine za3 ?_ GE547.out) | exact HB.out)⟩
     ·replace c34 := Bool.eq_false_iff.mpr c34
      subst c34
      have H1 : (some false) = some r := by rw [if_neg (show ¬ (false = true) by decide)] at H; exact H
      clear H
      have H := H1
      clear H1
      obtain rfl := Option.some.inj H
      go_wp2_with (first | ((with_reducible refine zaj (f := 17) rfl ?_); refine zaz (some 40) rfl rfl Try.func17 (by kernel_rfl) rfl #[.slice A0 l0.length c0] rfl (by (try simp only [List.map_toArray, List.map_cons, List.map_nil]); first | done | rfl | (simp only [List.length_drop, List.length_take]; rfl)) ?_; (with_reducible refine (laws_toIntS.calls kj6 _ _ l0 t549 _ ?side1 ?side2 A32.out).mono ?_); (case side1 => repeat (first | exact (Kd.zb4 HR0.out HB.out) | (with_reducible refine Kd.zar ?_ _) | (with_reducible refine Kd.zas ?_ _) | (with_reducible refine Kd.zav ?_))); (case side2 => exact HC0.out); rintro e w112 ⟨v550, rfl, ho0, hb⟩; refine ⟨_, rfl, ?_⟩; have n0_ := Aside0.mk (Kd.R_elder' (by (with_reducible repeat (first | apply Kd.zac | apply Kd.zab | apply Kd.zai)); exact HO_5.out) (Kd.R_base ho0) hb); have n1_ := Aside0.mk (Kd.zaq (by (with_reducible repeat (first | apply Kd.zac | apply Kd.zab | apply Kd.zai)); exact HO_539000.out) hb); have n2_ := Aside0.mk (Kd.zaq (by (with_reducible repeat (first | apply Kd.zac | apply Kd.zab | apply Kd.zai)); exact HO_548000.out) hb); have n3_ := Aside0.mk (Kd.zb1 (Kd.R_new' ho0 (Kd.R_lt (by (with_reducible repeat (first | apply Kd.zac | apply Kd.zab | apply Kd.zai)); exact HO_5.out))) (za9 (by repeat (first | (with_reducible first | exact HB.out | apply za2 | apply za0 | apply za1 | refine za3 ?_ GE538.out | refine za3 ?_ GE547.out) | exact HB.out)))); have n4_ := Aside0.mk (zae (g := gb538) (o := .cells #[.slice Ao12 t533.length co12, .int .i64 t536] 39 (0, 0)) (by (with_reducible repeat (first | refine za4 ?_ _ | refine za6 ?_ | refine za5 ?_ _)); exact BK538.out) hb); have n5_ := Aside0.mk (zae (g := gb547) (o := .cells #[.slice Ao18 t542.length co18, .int .i64 t545] 39 (0, 0)) (by (with_reducible repeat (first | refine za4 ?_ _ | refine za6 ?_ | refine za5 ?_ _)); exact BK547.out) hb); have n6_ := Aside0.mk (zad (by repeat (first | (with_reducible first | exact HB.out | apply za2 | apply za0 | apply za1 | refine za3 ?_ GE538.out | refine za3 ?_ GE547.out) | exact HB.out)) hb); clear HO_5; clear HO_539000; clear HO_548000; clear BK538; clear BK547; clear HB; have HO_5 := n0_; have HO_539000 := n1_; have HO_548000 := n2_; have HO551 := n3_; have BK538 := n4_; have BK547 := n5_; have HB := n6_; clear n0_ n1_ n2_ n3_ n4_ n5_ n6_; (try clear hb); (try clear hb2); (try clear hk); (try clear hi); (try clear ho0); obtain ⟨Ao113, co113, eo113⟩ := Kd.zau HO551.out; subst eo113) | ((with_reducible refine zaj (f := 19) rfl ?_); refine zaz (some 41) rfl rfl Try.func19 (by kernel_rfl) rfl #[.slice Ao15 t539.length co15, .slice Ao113 t549.length co113] rfl (by (try simp only [List.map_toArray, List.map_cons, List.map_nil]); first | done | rfl | (simp only [List.length_drop, List.length_take]; rfl)) ?_; (with_reducible refine (laws_eqIntS.calls kj6 _ _ t539 _ _ t549 false _ ?side1 ?side2 ?side3 ?side4 A33.out).mono ?_); (case side1 => repeat (first | exact (Kd.R_reads' HO_5.out).2.2 | (with_reducible refine Kd.zar ?_ _) | (with_reducible refine Kd.zas ?_ _) | (with_reducible refine Kd.zav ?_))); (case side2 => exact (Kd.R_reads' HO_5.out).2.1); (case side3 => repeat (first | exact (Kd.R_reads' HO551.out).2.2 | (with_reducible refine Kd.zar ?_ _) | (with_reducible refine Kd.zas ?_ _) | (with_reducible refine Kd.zav ?_))); (case side4 => exact (Kd.R_reads' HO551.out).2.1); rintro e w' ⟨rfl, ⟨nd, rfl⟩⟩; refine ⟨_, rfl, ?_⟩))
      go_ret
      exact ⟨by first | rfl | (simp [zaf, zah] <;> rfl) | (simp [*, zaf, zah] <;> rfl), by repeat (first | (with_reducible first | exact HB.out | apply za2 | apply za0 | apply za1 | refine za3 ?_ GE538.out | refine za3 ?_ GE547.out) | exact HB.out)⟩

/-- THE ONE PURE STATEMENT of laws_FnExactEstrinCode: yours. -/
def laws_FnExactEstrinCode.Pure : Prop := ∀ (l0 : List Int), l0.length ≤ maxLen → l0.length * 8 ≤ 140737488351232 → (∀ x ∈ l0, (Lit.int .i64 x).wf = true) → ∃ k, laws_FnExactEstrinCode.f k l0 = some true
theorem laws_FnExactEstrinCode.walk (P : laws_FnExactEstrinCode.Pure) (a0 : Option Addr) (len0 cap0 : Nat) (z0 : List Int) (w : World) (w0 : (a0 = none ∧ len0 = 0 ∧ cap0 = 0 ∧ z0 = []) ∨ ∃ x, a0 = some x ∧ len0 ≤ cap0 ∧ cap0 ≤ maxLen ∧ z0.length = cap0 ∧ (∀ i, i < z0.length → w.cell? (x.add i) = some (.int .i64 (z0.getD i 0))) ∧ ∀ n ∈ z0, (Lit.int .i64 n).wf = true) (y0 : len0 * 8 ≤ 140737488351232) :
  Calls Try.prog 15 #[.slice a0 len0 cap0] w fun e w' => e = .returned (.bool true) ∧ Below w.heap.size w w' := by
 obtain ⟨l0, rfl, hr0, hm0, hw0, hc0⟩ := ReadsInt.ofRowC w0
 obtain ⟨k, h⟩ := P l0 hm0 y0 hw0
 refine (laws_FnExactEstrinCode.calls k _ _ l0 true w (Kd.C_of_reads (d := (0 : Int)) (h1 := fun _ => rfl) hr0) hc0 h).mono ?_
 rintro e w' ⟨rfl, hd⟩
 exact ⟨rfl, hd⟩

/-! ### laws_szOpS: function 64 -/
def laws_szOpS.f (l0 : List (S93)) (a1 : Int) : Option (Int) := if (wrap64 (a1 - (l0.length : Int))) < 0 then (some (-1)) else (some (wrap64 (a1 - (l0.length : Int))))
set_option maxHeartbeats 8000000 in
set_option maxRecDepth 100000 in
theorem laws_szOpS.calls (A0 : Option Addr) (c0 : Nat) (l0 : List (S93)) (a1 : Int) (r : Int) (w : World) (hr0 : Kd.C k93 w A0 l0.length l0) (hc0 : l0.length ≤ c0) (h : laws_szOpS.f l0 a1 = some r) :
  Calls Try.prog 64 #[.slice A0 l0.length c0, .int .i64 a1] w fun e w' => e = .returned (.int .i64 r) ∧ Drawn0 w w' := by
 have HR0 := Aside0.mk hr0
 have HC0 := Aside0.mk hc0
 clear hr0 hc0
 have H : (if (wrap64 (a1 - (l0.length : Int))) < 0 then (some (-1)) else (some (wrap64 (a1 - (l0.length : Int))))) = some r := h
 clear h
 by_cases c3 : (wrap64 (a1 - (l0.length : Int))) < 0
 ·rw [if_pos c3] at H
  have c3b0 : decide ((wrap64 (a1 - (l0.length : Int))) < 0) = true := decide_eq_true c3
  clear c3
  obtain rfl := Option.some.inj H
  go_enter Try.func64, Try.ntmps64
  go_wp2
  go_ret
  exact ⟨by first | rfl | (simp; done) | (simp [*]; done), by repeat (first | exact Drawn0.refl _ | apply Drawn0.step)⟩
 ·rw [if_neg c3] at H
  have c3b0 : decide ((wrap64 (a1 - (l0.length : Int))) < 0) = false := decide_eq_false c3
  clear c3
  obtain rfl := Option.some.inj H
  go_enter Try.func64, Try.ntmps64
  go_wp2
  go_ret
  exact ⟨by first | rfl | (simp; done) | (simp [*]; done), by repeat (first | exact Drawn0.refl _ | apply Drawn0.step)⟩

/-! ### laws_szCode: function 24 -/
def laws_szCode.f (l0_0 : List (S93)) (a0_1 : Int) (a1 : Int) : Option (Int) := (laws_szOpS.f l0_0 a1).bind fun t571 => (if t571 < 0 then (some (-1)) else (some t571))
set_option maxHeartbeats 8000000 in
set_option maxRecDepth 100000 in
theorem laws_szCode.calls (A0_0 : Option Addr) (c0_0 : Nat) (l0_0 : List (S93)) (a0_1 : Int) (a1 : Int) (r : Int) (w : World) (hr0_0 : Kd.C k93 w A0_0 l0_0.length l0_0) (hc0_0 : l0_0.length ≤ c0_0) (h : laws_szCode.f l0_0 a0_1 a1 = some r) :
  Calls Try.prog 24 #[.agg #[.slice A0_0 l0_0.length c0_0, .int .i64 a0_1], .int .i64 a1] w fun e w' => e = .returned (.int .i64 r) ∧ Below w.heap.size w w' := by
 have hu34 := Try.underlying34
 have HR0_0 := Aside0.mk hr0_0
 have HC0_0 := Aside0.mk hc0_0
 clear hr0_0 hc0_0
 have HB := Aside0.mk (Below.refl w.heap.size w)
 have H : ((laws_szOpS.f l0_0 a1).bind fun t571 => (if t571 < 0 then (some (-1)) else (some t571))) = some r := h
 clear h
 replace H := Option.bind_eq_some_iff.mp H
 obtain ⟨t571, A30, H⟩ := H
 replace H : (if t571 < 0 then (some (-1)) else (some t571)) = some r := H
 have A3 := Aside0.mk A30
 clear A30
 by_cases c4 : t571 < 0
 ·rw [if_pos c4] at H
  have c4b0 : decide (t571 < 0) = true := decide_eq_true c4
  clear c4
  obtain rfl := Option.some.inj H
  go_enter Try.func24, Try.ntmps24
  go_wp2_with (first | ((with_reducible refine zal (N := 2) rfl ?_); refine zan ?hg (N := 2) ?hd (cs := #[.slice A0_0 l0_0.length c0_0, .int .i64 a0_1]) (t := 34) ?hr ?_; (case hd => rfl); (case hg => rfl); (case hr => first | (go_simp; done) | (go_simp; rfl)); intro gb570 hg w5 hbox hb; have n0_ := Aside0.mk (zad (by repeat (first | (with_reducible first | exact HB.out | apply za2 | apply za0 | apply za1) | exact HB.out)) hb); have n1_ := Aside0.mk (hbox); have n2_ := Aside0.mk ((by rw [hg]; exact (za9 (by repeat (first | (with_reducible first | exact HB.out | apply za2 | apply za0 | apply za1) | exact HB.out))) : w.heap.size ≤ gb570)); have n3_ := Aside0.mk ((by rw [hg]; exact (za9 (by repeat (first | (with_reducible first | exact HB.out | apply za2 | apply za0 | apply za1) | exact HB.out))) : w.heap.size ≤ gb570)); clear HB; have HB := n0_; have BK570 := n1_; have GW570 := n2_; have GE570 := n3_; clear n0_ n1_ n2_ n3_; clear hb hbox hg; have hcz6_0 : w5.cell? ⟨gb570, 0, none⟩ = some (.slice A0_0 l0_0.length c0_0) := (za8 BK570.out 0).trans rfl; have hcz6_1 : w5.cell? ⟨gb570, 1, none⟩ = some (.int .i64 a0_1) := (za8 BK570.out 1).trans rfl; have hfz6_0 := za7 BK570.out 0; have hfz6_1 := za7 BK570.out 1) | ((with_reducible refine zaj (f := 64) rfl ?_); refine zaz (some 8) rfl rfl Try.func64 (by kernel_rfl) rfl #[.slice A0_0 l0_0.length c0_0, .int .i64 a1] rfl (by (try simp only [List.map_toArray, List.map_cons, List.map_nil]); first | done | rfl | (simp only [List.length_drop, List.length_take]; rfl)) ?_; (with_reducible refine (laws_szOpS.calls _ _ l0_0 a1 t571 _ ?side1 ?side2 A3.out).mono ?_); (case side1 => repeat (first | exact (Kd.zb4 HR0_0.out HB.out) | (with_reducible refine Kd.zar ?_ _) | (with_reducible refine Kd.zas ?_ _) | (with_reducible refine Kd.zav ?_))); (case side2 => exact HC0_0.out); rintro e w' ⟨rfl, ⟨nd, rfl⟩⟩; refine ⟨_, rfl, ?_⟩))
  go_ret
  exact ⟨by first | rfl | (simp [zaf, zah] <;> rfl) | (simp [*, zaf, zah] <;> rfl), by repeat (first | (with_reducible first | exact HB.out | apply za2 | apply za0 | apply za1 | refine za3 ?_ GE570.out) | exact HB.out)⟩
 ·rw [if_neg c4] at H
  have c4b0 : decide (t571 < 0) = false := decide_eq_false c4
  clear c4
  obtain rfl := Option.some.inj H
  go_enter Try.func24, Try.ntmps24
  go_wp2_with (first | ((with_reducible refine zal (N := 2) rfl ?_); refine zan ?hg (N := 2) ?hd (cs := #[.slice A0_0 l0_0.length c0_0, .int .i64 a0_1]) (t := 34) ?hr ?_; (case hd => rfl); (case hg => rfl); (case hr => first | (go_simp; done) | (go_simp; rfl)); intro gb570 hg w7 hbox hb; have n0_ := Aside0.mk (zad (by repeat (first | (with_reducible first | exact HB.out | apply za2 | apply za0 | apply za1) | exact HB.out)) hb); have n1_ := Aside0.mk (hbox); have n2_ := Aside0.mk ((by rw [hg]; exact (za9 (by repeat (first | (with_reducible first | exact HB.out | apply za2 | apply za0 | apply za1) | exact HB.out))) : w.heap.size ≤ gb570)); have n3_ := Aside0.mk ((by rw [hg]; exact (za9 (by repeat (first | (with_reducible first | exact HB.out | apply za2 | apply za0 | apply za1) | exact HB.out))) : w.heap.size ≤ gb570)); clear HB; have HB := n0_; have BK570 := n1_; have GW570 := n2_; have GE570 := n3_; clear n0_ n1_ n2_ n3_; clear hb hbox hg; have hcz8_0 : w7.cell? ⟨gb570, 0, none⟩ = some (.slice A0_0 l0_0.length c0_0) := (za8 BK570.out 0).trans rfl; have hcz8_1 : w7.cell? ⟨gb570, 1, none⟩ = some (.int .i64 a0_1) := (za8 BK570.out 1).trans rfl; have hfz8_0 := za7 BK570.out 0; have hfz8_1 := za7 BK570.out 1) | ((with_reducible refine zaj (f := 64) rfl ?_); refine zaz (some 8) rfl rfl Try.func64 (by kernel_rfl) rfl #[.slice A0_0 l0_0.length c0_0, .int .i64 a1] rfl (by (try simp only [List.map_toArray, List.map_cons, List.map_nil]); first | done | rfl | (simp only [List.length_drop, List.length_take]; rfl)) ?_; (with_reducible refine (laws_szOpS.calls _ _ l0_0 a1 t571 _ ?side1 ?side2 A3.out).mono ?_); (case side1 => repeat (first | exact (Kd.zb4 HR0_0.out HB.out) | (with_reducible refine Kd.zar ?_ _) | (with_reducible refine Kd.zas ?_ _) | (with_reducible refine Kd.zav ?_))); (case side2 => exact HC0_0.out); rintro e w' ⟨rfl, ⟨nd, rfl⟩⟩; refine ⟨_, rfl, ?_⟩))
  go_ret
  exact ⟨by first | rfl | (simp [zaf, zah] <;> rfl) | (simp [*, zaf, zah] <;> rfl), by repeat (first | (with_reducible first | exact HB.out | apply za2 | apply za0 | apply za1 | refine za3 ?_ GE570.out) | exact HB.out)⟩

/-! ### laws_toOp: function 97 -/
def laws_toOp.f (a0_0 : Int) (a0_1 : Int) (a0_2 : Int) : Option (Int × Int × Int) := some (a0_0, a0_1, a0_2)
set_option maxHeartbeats 8000000 in
set_option maxRecDepth 100000 in
theorem laws_toOp.calls (a0_0 : Int) (a0_1 : Int) (a0_2 : Int) (r1 : Int) (r2 : Int) (r3 : Int) (w : World) (h : laws_toOp.f a0_0 a0_1 a0_2 = some (r1, r2, r3)) :
  Calls Try.prog 97 #[.agg #[.int .i64 a0_0, .int .i64 a0_1, .int .i64 a0_2]] w fun e w' => e = .returned (.agg #[.int .i64 r1, .int .i64 r2, .int .i64 r3]) ∧ Below w.heap.size w w' := by
 have hu93 := Try.underlying93
 have hu69 := Try.underlying69
 have HB := Aside0.mk (Below.refl w.heap.size w)
 have H : (some (a0_0, a0_1, a0_2)) = some (r1, r2, r3) := h
 clear h
 simp only [Option.some.injEq, Prod.mk.injEq] at H
 obtain ⟨rfl, rfl, rfl⟩ := H
 go_enter Try.func97, Try.ntmps97
 go_wp2_with (first | ((with_reducible refine zal (N := 1) rfl ?_); refine zan ?hg (N := 1) ?hd (cs := #[.int .i64 a0_0, .int .i64 a0_1, .int .i64 a0_2]) (t := 93) ?hr ?_; (case hd => rfl); (case hg => rfl); (case hr => first | (go_simp; done) | (go_simp; rfl)); intro gb572 hg w2 hbox hb; have n0_ := Aside0.mk (zad (by repeat (first | (with_reducible first | exact HB.out | apply za2 | apply za0 | apply za1) | exact HB.out)) hb); have n1_ := Aside0.mk (hbox); have n2_ := Aside0.mk ((by rw [hg]; exact (za9 (by repeat (first | (with_reducible first | exact HB.out | apply za2 | apply za0 | apply za1) | exact HB.out))) : w.heap.size ≤ gb572)); have n3_ := Aside0.mk ((by rw [hg]; exact (za9 (by repeat (first | (with_reducible first | exact HB.out | apply za2 | apply za0 | apply za1) | exact HB.out))) : w.heap.size ≤ gb572)); clear HB; have HB := n0_; have BK572 := n1_; have GW572 := n2_; have GE572 := n3_; clear n0_ n1_ n2_ n3_; clear hb hbox hg) | ((with_reducible refine zal (N := 2) rfl ?_); refine zan ?hg (N := 2) ?hd (cs := #[.int .i64 0, .int .i64 0, .int .i64 0]) (t := 69) ?hr ?_; (case hd => rfl); (case hg => rfl); (case hr => first | (go_simp; done) | (go_simp; rfl)); intro gb573 hg w3 hbox hb; have n0_ := Aside0.mk (zae (g := gb572) (o := .cells #[.int .i64 a0_0, .int .i64 a0_1, .int .i64 a0_2] 93 (0, 0)) (by (with_reducible repeat (first | refine za4 ?_ _ | refine za6 ?_ | refine za5 ?_ _)); exact BK572.out) hb); have n1_ := Aside0.mk (zad (by repeat (first | (with_reducible first | exact HB.out | apply za2 | apply za0 | apply za1 | refine za3 ?_ GE572.out) | exact HB.out)) hb); have n2_ := Aside0.mk (hbox); have n3_ := Aside0.mk ((by rw [hg]; exact (za9 (by repeat (first | (with_reducible first | exact HB.out | apply za2 | apply za0 | apply za1 | refine za3 ?_ GE572.out) | exact HB.out))) : w.heap.size ≤ gb573)); have n4_ := Aside0.mk ((by rw [hg]; exact (za9 (by repeat (first | (with_reducible first | exact HB.out | apply za2 | apply za0 | apply za1 | refine za3 ?_ GE572.out) | exact HB.out))) : w.heap.size ≤ gb573)); have n5_ := Aside0.mk ((by rw [hg]; exact Nat.ne_of_lt (zay (g := gb572) (o := .cells #[.int .i64 a0_0, .int .i64 a0_1, .int .i64 a0_2] 93 (0, 0)) (by (with_reducible repeat (first | refine za4 ?_ _ | refine za6 ?_ | refine za5 ?_ _)); exact BK572.out)) : gb572 ≠ gb573)); have n6_ := Aside0.mk ((by rw [hg]; exact Nat.ne_of_gt (zay (g := gb572) (o := .cells #[.int .i64 a0_0, .int .i64 a0_1, .int .i64 a0_2] 93 (0, 0)) (by (with_reducible repeat (first | refine za4 ?_ _ | refine za6 ?_ | refine za5 ?_ _)); exact BK572.out)) : gb573 ≠ gb572)); clear BK572; clear HB; have BK572 := n0_; have HB := n1_; have BK573 := n2_; have GW573 := n3_; have GE573 := n4_; have NB572_573 := n5_; have NB573_572 := n6_; clear n0_ n1_ n2_ n3_ n4_ n5_ n6_; clear hb hbox hg) | ((with_reducible refine zal (N := 3) rfl ?_); refine zan ?hg (N := 3) ?hd (cs := #[.int .i64 0, .int .i64 0, .int .i64 0]) (t := 69) ?hr ?_; (case hd => rfl); (case hg => rfl); (case hr => first | (go_simp; done) | (go_simp; rfl)); intro gb574 hg w4 hbox hb; have n0_ := Aside0.mk (zae (g := gb572) (o := .cells #[.int .i64 a0_0, .int .i64 a0_1, .int .i64 a0_2] 93 (0, 0)) (by (with_reducible repeat (first | refine za4 ?_ _ | refine za6 ?_ | refine za5 ?_ _)); exact BK572.out) hb); have n1_ := Aside0.mk (zae (g := gb573) (o := .cells #[.int .i64 0, .int .i64 0, .int .i64 0] 69 (0, 0)) (by (with_reducible repeat (first | refine za4 ?_ _ | refine za6 ?_ | refine za5 ?_ _)); exact BK573.out) hb); have n2_ := Aside0.mk (zad (by repeat (first | (with_reducible first | exact HB.out | apply za2 | apply za0 | apply za1 | refine za3 ?_ GE572.out | refine za3 ?_ GE573.out) | exact HB.out)) hb); have n3_ := Aside0.mk (hbox); have n4_ := Aside0.mk ((by rw [hg]; exact (za9 (by repeat (first | (with_reducible first | exact HB.out | apply za2 | apply za0 | apply za1 | refine za3 ?_ GE572.out | refine za3 ?_ GE573.out) | exact HB.out))) : w.heap.size ≤ gb574)); have n5_ := Aside0.mk ((by rw [hg]; exact (za9 (by repeat (first | (with_reducible first | exact HB.out | apply za2 | apply za0 | apply za1 | refine za3 ?_ GE572.out | refine za3 ?_ GE573.out) | exact HB.out))) : w.heap.size ≤ gb574)); have n6_ := Aside0.mk ((by rw [hg]; exact Nat.ne_of_lt (zay (g := gb572) (o := .cells #[.int .i64 a0_0, .int .i64 a0_1, .int .i64 a0_2] 93 (0, 0)) (by (with_reducible repeat (first | refine za4 ?_ _ | refine za6 ?_ | refine za5 ?_ _)); exact BK572.out)) : gb572 ≠ gb574)); have n7_ := Aside0.mk ((by rw [hg]; exact Nat.ne_of_gt (zay (g := gb572) (o := .cells #[.int .i64 a0_0, .int .i64 a0_1, .int .i64 a0_2] 93 (0, 0)) (by (with_reducible repeat (first | refine za4 ?_ _ | refine za6 ?_ | refine za5 ?_ _)); exact BK572.out)) : gb574 ≠ gb572)); have n8_ := Aside0.mk ((by rw [hg]; exact Nat.ne_of_lt (zay (g := gb573) (o := .cells #[.int .i64 0, .int .i64 0, .int .i64 0] 69 (0, 0)) (by (with_reducible repeat (first | refine za4 ?_ _ | refine za6 ?_ | refine za5 ?_ _)); exact BK573.out)) : gb573 ≠ gb574)); have n9_ := Aside0.mk ((by rw [hg]; exact Nat.ne_of_gt (zay (g := gb573) (o := .cells #[.int .i64 0, .int .i64 0, .int .i64 0] 69 (0, 0)) (by (with_reducible repeat (first | refine za4 ?_ _ | refine za6 ?_ | refine za5 ?_ _)); exact BK573.out)) : gb574 ≠ gb573)); clear BK572; clear BK573; clear HB; have BK572 := n0_; have BK573 := n1_; have HB := n2_; have BK574 := n3_; have GW574 := n4_; have GE574 := n5_; have NB572_574 := n6_; have NB574_572 := n7_; have NB573_574 := n8_; have NB574_573 := n9_; clear n0_ n1_ n2_ n3_ n4_ n5_ n6_ n7_ n8_ n9_; clear hb hbox hg; have hnb5 := NB572_573.out; have hnc5 := NB573_572.out; have hnb6 := NB572_574.out; have hnc6 := NB574_572.out; have hcz7_0 : w4.cell? ⟨gb572, 0, none⟩ = some (.int .i64 a0_0) := (za8 BK572.out 0).trans rfl; have hcz7_1 : w4.cell? ⟨gb572, 1, none⟩ = some (.int .i64 a0_1) := (za8 BK572.out 1).trans rfl; have hcz7_2 : w4.cell? ⟨gb572, 2, none⟩ = some (.int .i64 a0_2) := (za8 BK572.out 2).trans rfl; have hfz7_0 := za7 BK572.out 0; have hfz7_1 := za7 BK572.out 1; have hfz7_2 := za7 BK572.out 2; have hnb8 := NB574_573.out; have hnc8 := NB573_574.out; have hcz9_0 : w4.cell? ⟨gb574, 0, none⟩ = some (.int .i64 0) := (za8 BK574.out 0).trans rfl; have hcz9_1 : w4.cell? ⟨gb574, 1, none⟩ = some (.int .i64 0) := (za8 BK574.out 1).trans rfl; have hcz9_2 : w4.cell? ⟨gb574, 2, none⟩ = some (.int .i64 0) := (za8 BK574.out 2).trans rfl; have hfz9_0 := za7 BK574.out 0; have hfz9_1 := za7 BK574.out 1; have hfz9_2 := za7 BK574.out 2; have hcz10_0 : w4.cell? ⟨gb573, 0, none⟩ = some (.int .i64 0) := (za8 BK573.out 0).trans rfl; have hcz10_1 : w4.cell? ⟨gb573, 1, none⟩ = some (.int .i64 0) := (za8 BK573.out 1).trans rfl; have hcz10_2 : w4.cell? ⟨gb573, 2, none⟩ = some (.int .i64 0) := (za8 BK573.out 2).trans rfl; have hfz10_0 := za7 BK573.out 0; have hfz10_1 := za7 BK573.out 1; have hfz10_2 := za7 BK573.out 2))
 refine bodyPost_ret (results_cell_row rfl _ _ gb573 69 #[.int .i64 a0_0, .int .i64 a0_1, .int .i64 a0_2] (0, 0) _ rfl (by (with_reducible repeat (first | refine za4 ?_ _ | refine za6 ?_ | refine za5 ?_ _)); refine zat (cs := #[.int .i64 a0_0, .int .i64 a0_1, .int .i64 0]) ?_ 2 _ rfl; (with_reducible repeat (first | refine za4 ?_ _ | refine za6 ?_ | refine za5 ?_ _)); refine zat (cs := #[.int .i64 a0_0, .int .i64 0, .int .i64 0]) ?_ 1 _ rfl; (with_reducible repeat (first | refine za4 ?_ _ | refine za6 ?_ | refine za5 ?_ _)); refine zat (cs := #[.int .i64 0, .int .i64 0, .int .i64 0]) ?_ 0 _ rfl; (with_reducible repeat (first | refine za4 ?_ _ | refine za6 ?_ | refine za5 ?_ _)); refine zax ?_ NB573_574.out _; (with_reducible repeat (first | refine za4 ?_ _ | refine za6 ?_ | refine za5 ?_ _)); refine zax ?_ NB573_574.out _; (with_reducible repeat (first | refine za4 ?_ _ | refine za6 ?_ | refine za5 ?_ _)); refine zax ?_ NB573_574.out _; (with_reducible repeat (first | refine za4 ?_ _ | refine za6 ?_ | refine za5 ?_ _)); exact BK573.out) Try.underlying69 rfl (by kernel_rfl)) rfl ?_
 exact ⟨by first | rfl | (simp [zaf, zah] <;> rfl) | (simp [*, zaf, zah] <;> rfl), by repeat (first | (with_reducible first | exact HB.out | apply za2 | apply za0 | apply za1 | refine za3 ?_ GE572.out | refine za3 ?_ GE573.out | refine za3 ?_ GE574.out) | exact HB.out)⟩

/-! ### laws_toOpS: function 66 -/
def laws_toOpS.l0 : Nat → List (S93) → List (S69) → Int → Option ((List (S69)))
 | 0, _, _, _ => none
 | k + 1, x0, x3, x4 => if x4 < (x0.length : Int) then (if 0 ≤ x4 then ((laws_toOp.f ((rd_T93 x0 x4).f0) ((rd_T93 x0 x4).f1) ((rd_T93 x0 x4).f2)).bind fun bt579 => (if x4 < (x3.length : Int) then (laws_toOpS.l0 k x0 (x3.set (x4 : Int).toNat (⟨bt579.1, bt579.2.1, bt579.2.2⟩ : S69)) (wrap64 (x4 + 1))) else (none))) else (none)) else (some x3)
def laws_toOpS.f (k : Nat) (l0 : List (S93)) : Option ((List (S69))) := if 0 ≤ (l0.length : Int) then (if ((l0.length : Int) : Int).toNat ≤ 11728124029610 then (laws_toOpS.l0 k l0 (List.replicate ((l0.length : Int) : Int).toNat z69) 0) else (none)) else (none)
theorem laws_toOpS.zb2 : ∀ k, (∀ y0 y1 y2, LeO (laws_toOpS.l0 k y0 y1 y2) (laws_toOpS.l0 (k + 1) y0 y1 y2))
 | 0 => fun _ _ _ r h => by simp [laws_toOpS.l0] at h
 | k + 1 => by
  have ih0 := laws_toOpS.zb2 k
  ·intro y0 y1 y2
   unfold laws_toOpS.l0
   repeat' first
   | (with_reducible exact ih0 _ _ _)
   | (with_reducible exact LeO.refl _)
   | (with_reducible exact LeO.none _)
   | (with_reducible refine LeO.ite ?_ ?_)
   | (with_reducible refine LeO.bind ?_ (fun _ => ?_))
   | exact ih0 _ _ _
   | exact LeO.none _
   | refine LeO.ite ?_ ?_
   | refine LeO.bind ?_ (fun _ => ?_)
theorem laws_toOpS.mono : ∀ a0 k, LeO (laws_toOpS.f k a0) (laws_toOpS.f (k + 1) a0) := by
 intro a0 k
 have ih0 := laws_toOpS.zb2 k
 unfold laws_toOpS.f
 repeat' first
   | (with_reducible exact ih0 _ _ _)
   | (with_reducible exact LeO.refl _)
   | (with_reducible exact LeO.none _)
   | (with_reducible refine LeO.ite ?_ ?_)
   | (with_reducible refine LeO.bind ?_ (fun _ => ?_))
   | exact ih0 _ _ _
   | exact LeO.none _
   | refine LeO.ite ?_ ?_
   | refine LeO.bind ?_ (fun _ => ?_)
set_option maxHeartbeats 8000000 in
set_option maxRecDepth 100000 in
theorem laws_toOpS.calls (k : Nat) (A0 : Option Addr) (c0 : Nat) (l0 : List (S93)) (r : List (S69)) (w : World) (hr0 : Kd.C k93 w A0 l0.length l0) (hc0 : l0.length ≤ c0) (h : laws_toOpS.f k l0 = some r) :
  Calls Try.prog 66 #[.slice A0 l0.length c0] w fun e w' => ∃ v0_ : Value, e = .returned (v0_) ∧ Kd.R k69 69 w' w.heap.size (fun _ => True) v0_ r ∧ Below w.heap.size w w' := by
 have hu93 := Try.underlying93
 have hu69 := Try.underlying69
 have HR0 := Aside0.mk hr0
 have HC0 := Aside0.mk hc0
 clear hr0 hc0
 have HB := Aside0.mk (Below.refl w.heap.size w)
 have H : (if 0 ≤ (l0.length : Int) then (if ((l0.length : Int) : Int).toNat ≤ 11728124029610 then (laws_toOpS.l0 k l0 (List.replicate ((l0.length : Int) : Int).toNat z69) 0) else (none)) else (none)) = some r := h
 clear h
 by_cases c2 : 0 ≤ (l0.length : Int)
 ·rw [if_pos c2] at H
  have c2b0 := eq_true c2
  have c2b1 : decide (0 ≤ (l0.length : Int)) = true := decide_eq_true c2
  clear c2
  by_cases c3 : ((l0.length : Int) : Int).toNat ≤ 11728124029610
  ·rw [if_pos c3] at H
   have c3b0 := eq_true c3
   have c3b1 : decide (((l0.length : Int) : Int).toNat ≤ 11728124029610) = true := decide_eq_true c3
   clear c3
   obtain ⟨y575, hy575⟩ : ∃ y_ : List (S69), y_ = (List.replicate ((l0.length : Int) : Int).toNat z69) := ⟨_, rfl⟩
   replace H : (laws_toOpS.l0 k l0 y575 0) = some r := by first | (rw [hy575]; with_reducible exact H) | (have H2_ := (Option.bind_some _ _).symm.trans H; rw [hy575]; with_reducible exact H2_) | (have H2_ := (Option.bind_some _ _).symm.trans H; with_reducible exact H2_) | with_reducible exact H | (rw [hy575]; exact H) | exact H
   have Ny575 := Aside0.mk hy575
   clear hy575
   have H' := Aside0.mk H
   clear H
   go_enter Try.func66, Try.ntmps66
   go_wp2_with (first | ((with_reducible refine zal (N := 7) rfl ?_); refine Kd.R_make k69 _ 69 rfl (N := 7) rfl 37 _ _ rfl (l0.length : Int) rfl rfl Try.underlying37 (.agg #[(.int .i64 0), (.int .i64 0), (.int .i64 0)]) 24 info69 rfl (by decide) (by omega) z69 (ok := fun _ => True) (okp := fun _ => True) (k69_mkM _ _ _ z69 ) (fun _ hk => hk) trivial (of_decide_eq_true (by first | (with_reducible assumption) | assumption)) (Nat.le_trans (Nat.mul_le_mul_right _ (of_decide_eq_true (by first | (with_reducible assumption) | assumption) : (l0.length : Int).toNat ≤ 11728124029610)) (by omega)) (Below.refl _ _) (Nat.le_refl _) ?_; intro v576 w4 ho5 hb hg_ hnew_; clear hg_ hnew_; (first | rw [← Ny575.out] at ho5 | (simp only [Int.reduceToNat] at ho5; rw [← Ny575.out] at ho5)); have n0_ := Aside0.mk (Kd.zb1 ho5 (za9 (by repeat (first | (with_reducible first | exact HB.out | apply za2 | apply za0 | apply za1) | exact HB.out)))); have n1_ := Aside0.mk (zad (by repeat (first | (with_reducible first | exact HB.out | apply za2 | apply za0 | apply za1) | exact HB.out)) hb); clear HB; have HO577 := n0_; have HB := n1_; clear n0_ n1_; clear hb ho5))
   go_loopg [4] k (fun kq v4 w' => ∃ (x3_1 : List (S69)) (x4_1 : Int), v4 = .int .i64 x4_1 ∧ Aside0 (laws_toOpS.l0 kq l0 x3_1 x4_1 = some r) ∧ Aside0 (kq ≤ k) ∧ Aside0 (Kd.R k69 69 w' w.heap.size (fun _ => True) v576 x3_1) ∧ Aside0 (Below w.heap.size w w'))
   case atStart => exact ⟨(y575), (0), (by first | rfl | (simp; done) | (simp [*]; done)), H', ⟨Nat.le_refl _⟩, ⟨by (with_reducible repeat (first | apply Kd.zac | apply Kd.zab | apply Kd.zai)); exact HO577.out⟩, ⟨by repeat (first | (with_reducible first | exact HB.out | apply za2 | apply za0 | apply za1) | exact HB.out)⟩⟩
   case round =>
    clear H'
    try clear c2
    try clear c2b0
    try clear c2b1
    try clear p2
    try clear c3
    try clear c3b0
    try clear c3b1
    obtain ⟨x3_1, x4_1, rfl, HA, HK1, HO_3, HB⟩ := hrel
    cases gk with
    | zero => exact absurd HA.out (by simp [laws_toOpS.l0])
    | succ k1 =>
     have H := HA.out
     clear HA
     simp only [laws_toOpS.l0] at H
     by_cases c6 : x4_1 < (l0.length : Int)
     ·rw [if_pos c6] at H
      have c6b0 : decide (x4_1 < (l0.length : Int)) = true := decide_eq_true c6
      clear c6
      by_cases c7 : 0 ≤ x4_1
      ·rw [if_pos c7] at H
       have c7b0 : decide (0 ≤ x4_1) = true := decide_eq_true c7
       clear c7
       replace H := Option.bind_eq_some_iff.mp H
       obtain ⟨⟨t579, t580, t581⟩, A80, H⟩ := H
       replace H : (if x4_1 < (x3_1.length : Int) then (laws_toOpS.l0 k1 l0 (x3_1.set (x4_1 : Int).toNat (⟨t579, t580, t581⟩ : S69)) (wrap64 (x4_1 + 1))) else (none)) = some r := H
       have A8 := Aside0.mk A80
       clear A80
       by_cases c9 : x4_1 < (x3_1.length : Int)
       ·rw [if_pos c9] at H
        have c9b0 : decide (x4_1 < (x3_1.length : Int)) = true := decide_eq_true c9
        clear c9
        obtain ⟨y582, hy582⟩ : ∃ y_ : List (S69), y_ = (x3_1.set (x4_1 : Int).toNat (⟨t579, t580, t581⟩ : S69)) := ⟨_, rfl⟩
        replace H : (laws_toOpS.l0 k1 l0 y582 (wrap64 (x4_1 + 1))) = some r := by first | (rw [hy582]; with_reducible exact H) | (have H2_ := (Option.bind_some _ _).symm.trans H; rw [hy582]; with_reducible exact H2_) | (have H2_ := (Option.bind_some _ _).symm.trans H; with_reducible exact H2_) | with_reducible exact H | (rw [hy582]; exact H) | exact H
        have Ny582 := Aside0.mk hy582
        clear hy582
        have H' := Aside0.mk H
        clear H
        have p578 : 0 ≤ (x4_1 : Int) := of_decide_eq_true (by first | (with_reducible assumption) | assumption)
        have q578 : x4_1 < (l0.length : Int) := of_decide_eq_true (by first | (with_reducible assumption) | assumption)
        obtain ⟨ad578, e578, hx578_0, hx578_1, hx578_2⟩ := at_T93 HR0.out x4_1 p578 q578
        cases e578
        replace hx578_0 := (HB.out.cell (World.block_lt_of_cell? w _ hx578_0)).trans hx578_0
        replace hx578_1 := (HB.out.cell (World.block_lt_of_cell? w _ hx578_1)).trans hx578_1
        replace hx578_2 := (HB.out.cell (World.block_lt_of_cell? w _ hx578_2)).trans hx578_2
        replace p578 := eq_true p578
        replace q578 := eq_true q578
        go_wp2_with (first | ((with_reducible refine zaj (f := 97) rfl ?_); refine zaz (some 20) rfl rfl Try.func97 (by kernel_rfl) rfl #[.agg #[.int .i64 ((rd_T93 l0 x4_1).f0), .int .i64 ((rd_T93 l0 x4_1).f1), .int .i64 ((rd_T93 l0 x4_1).f2)]] rfl (by (try simp only [List.map_toArray, List.map_cons, List.map_nil]); first | done | rfl | (simp only [List.length_drop, List.length_take]; rfl)) ?_; (with_reducible refine (laws_toOp.calls ((rd_T93 l0 x4_1).f0) ((rd_T93 l0 x4_1).f1) ((rd_T93 l0 x4_1).f2) t579 t580 t581 _ A8.out).mono ?_); rintro e w11 ⟨rfl, hb⟩; refine ⟨_, rfl, ?_⟩; have n0_ := Aside0.mk (Kd.zaq (by (with_reducible repeat (first | apply Kd.zac | apply Kd.zab | apply Kd.zai)); exact HO_3.out) hb); have n1_ := Aside0.mk (zad (by repeat (first | (with_reducible first | exact HB.out | apply za2 | apply za0 | apply za1) | exact HB.out)) hb); clear HO_3; clear HB; have HO_3 := n0_; have HB := n1_; clear n0_ n1_; (try clear hb); (try clear hb2); (try clear hk); (try clear hi); have p10 : 0 ≤ (x4_1 : Int) := of_decide_eq_true (by first | (with_reducible assumption) | assumption); have q10 : (x4_1 : Int) < ((x3_1.length : Int) : Int) := of_decide_eq_true (by first | (with_reducible assumption) | assumption); obtain ⟨go10, co10, eo10, gb10, gl10, cl10, HG10⟩ := Kd.R_form HO_3.out (by omega); (first | cases eo10 | (injection eo10 with ea_ en_ ec_; (first | subst ea_ | (injection ea_ with ea_; subst ea_)); subst ec_; clear en_)); have GB10 := Aside0.mk gb10; have GG10 := Aside0.mk HG10; clear gb10 gl10 HG10; obtain ⟨ce10, hcl10, hM10, hcc10, hfr10⟩ := Kd.R_elem HO_3.out z69 (x4_1 : Int) p10 q10; obtain rfl := k69_openM hM10; have hx10_0 : w11.cell? ⟨go10, (x4_1 : Int).toNat * 3, none⟩ = some (.int .i64 ((zaa x3_1 x4_1).f0)) := hcc10 0 _ rfl; have hx10_1 : w11.cell? ⟨go10, (x4_1 : Int).toNat * 3 + 1, none⟩ = some (.int .i64 ((zaa x3_1 x4_1).f1)) := hcc10 1 _ rfl; have hx10_2 : w11.cell? ⟨go10, (x4_1 : Int).toNat * 3 + 2, none⟩ = some (.int .i64 ((zaa x3_1 x4_1).f2)) := hcc10 2 _ rfl; have hf10_0 : w11.frozen? ⟨go10, (x4_1 : Int).toNat * 3, none⟩ = false := hfr10 0; have hf10_1 : w11.frozen? ⟨go10, (x4_1 : Int).toNat * 3 + 1, none⟩ = false := hfr10 1; have hf10_2 : w11.frozen? ⟨go10, (x4_1 : Int).toNat * 3 + 2, none⟩ = false := hfr10 2; clear hcl10 hcc10 hfr10 hM10; replace p10 := eq_true p10; replace q10 := eq_true q10; have HX12 := Aside0.mk (show Kd.R k69 69 w11 w.heap.size (fun _ => True) (.slice (some ⟨go10, 0, none⟩) x3_1.length co10) x3_1 from (by (with_reducible repeat (first | apply Kd.zac | apply Kd.zab | apply Kd.zai)); exact HO_3.out)); obtain ⟨ce12, hcl12, hM12, hcc12, hfr12⟩ := Kd.R_elem HX12.out z69 (x4_1 : Int) (of_decide_eq_true (by first | (with_reducible assumption) | assumption)) (by have h_ : (x4_1 : Int) < ((x3_1.length : Int) : Int) := of_decide_eq_true (by first | (with_reducible assumption) | assumption); first | exact h_ | (have e_ := (Kd.R_reads' HO_3.out).1; omega) | simpa using h_); obtain rfl := k69_openM hM12; have HP12 := Kd.R_seg HX12.out (x4_1 : Int) (of_decide_eq_true (by first | (with_reducible assumption) | assumption)) (by have h_ : (x4_1 : Int) < ((x3_1.length : Int) : Int) := of_decide_eq_true (by first | (with_reducible assumption) | assumption); first | exact h_ | (have e_ := (Kd.R_reads' HO_3.out).1; omega) | simpa using h_) (seg := [.int .i64 t579, .int .i64 t580, .int .i64 t581]) (j := 0) hcl12 hcc12 (show 3 ≤ 3 from by decide) (x' := (⟨t579, t580, t581⟩ : S69)) (k69_mkM _ _ _ (⟨t579, t580, t581⟩ : S69) ) (fun _ hk => hk); have hx12_0 := hcc12 0 _ rfl; (try simp only [show (k69).sz = 3 from rfl, Nat.mul_one, Nat.add_zero] at hx12_0); have hf12_0 := hfr12 0; (try simp only [show (k69).sz = 3 from rfl, Nat.mul_one, Nat.add_zero] at hf12_0); have hx12_1 := hcc12 1 _ rfl; (try simp only [show (k69).sz = 3 from rfl, Nat.mul_one, Nat.add_zero] at hx12_1); have hf12_1 := hfr12 1; (try simp only [show (k69).sz = 3 from rfl, Nat.mul_one, Nat.add_zero] at hf12_1); have hx12_2 := hcc12 2 _ rfl; (try simp only [show (k69).sz = 3 from rfl, Nat.mul_one, Nat.add_zero] at hx12_2); have hf12_2 := hfr12 2; (try simp only [show (k69).sz = 3 from rfl, Nat.mul_one, Nat.add_zero] at hf12_2); clear hcl12 hcc12 hfr12 hM12) | ((with_reducible refine gate_store (t := 69) (p := 21) rfl ?_); refine store_event (t := 69) (p := 21) (v := ?vo_w13) (w1 := (((w11.setCell ⟨go10, (x4_1 : Int).toNat * 3, none⟩ (.int .i64 t579)).setCell ⟨go10, (x4_1 : Int).toNat * 3 + 1, none⟩ (.int .i64 t580)).setCell ⟨go10, (x4_1 : Int).toNat * 3 + 2, none⟩ (.int .i64 t581))) ?hg ?ho ?hn ?hr ?_; (case ho => rfl); (case hg => rfl); (case hn => rfl); (case hr => first | (go_simp; done) | (go_simp; rfl)); intro w13 hw; have hg : w11.grownBy w13 (some go10) := (by rw [hw]; exact HP12.2); have hp_ : Kd.R k69 69 w13 w.heap.size (fun _ => True) (.slice (some ⟨go10, 0, none⟩) x3_1.length co10) y582 := (by rw [hw, Ny582.out]; exact HP12.1); clear HP12; have n0_ := Aside0.mk (hp_); have n1_ := Aside0.mk ((by rw [hw]; exact za3 (za3 (za3 (HB.out) GB10.out) GB10.out) GB10.out : Below w.heap.size w w13)); clear HO_3; clear HB; have HO_3 := n0_; have HB := n1_; clear n0_ n1_; clear hg hw hp_))
        go_roundg k1
        case measure => have := HK1.out; omega
        case rel => exact ⟨(y582), (wrap64 (x4_1 + 1)), (by first | rfl | (simp; done) | (simp [*]; done)), H', ⟨by have := HK1.out; omega⟩, ⟨by (with_reducible repeat (first | apply Kd.zac | apply Kd.zab | apply Kd.zai)); exact HO_3.out⟩, ⟨by repeat (first | (with_reducible first | exact HB.out | apply za2 | apply za0 | apply za1) | exact HB.out)⟩⟩
       ·rw [if_neg c9] at H
        exact absurd H (by simp)
      ·rw [if_neg c7] at H
       exact absurd H (by simp)
     ·rw [if_neg c6] at H
      have c6b0 : decide (x4_1 < (l0.length : Int)) = false := decide_eq_false c6
      clear c6
      obtain rfl := Option.some.inj H
      go_wp2
      go_ret
      exact ⟨_, by first | rfl | (simp [zaf, zah] <;> rfl) | (simp [*, zaf, zah] <;> rfl), by (with_reducible repeat (first | apply Kd.zac | apply Kd.zab | apply Kd.zai)); exact HO_3.out, by repeat (first | (with_reducible first | exact HB.out | apply za2 | apply za0 | apply za1) | exact HB.out)⟩
  ·rw [if_neg c3] at H
   exact absurd H (by simp)
 ·rw [if_neg c2] at H
  exact absurd H (by simp)

/-! ### laws_toCode: function 26 -/
def laws_toCode.f (k : Nat) (l0_0 : List (S93)) (a0_1 : Int) : Option ((List (S69)) × Int) := (laws_toOpS.f k l0_0).bind fun t586 => (some (t586, a0_1))
theorem laws_toCode.mono : ∀ a0 a1 k, LeO (laws_toCode.f k a0 a1) (laws_toCode.f (k + 1) a0 a1) := by
 intro a0 a1 k
 unfold laws_toCode.f
 repeat' first
   | (with_reducible exact laws_toOpS.mono _ _)
   | (with_reducible exact LeO.refl _)
   | (with_reducible exact LeO.none _)
   | (with_reducible refine LeO.ite ?_ ?_)
   | (with_reducible refine LeO.bind ?_ (fun _ => ?_))
   | exact laws_toOpS.mono _ _
   | exact LeO.none _
   | refine LeO.ite ?_ ?_
   | refine LeO.bind ?_ (fun _ => ?_)
set_option maxHeartbeats 8000000 in
set_option maxRecDepth 100000 in
theorem laws_toCode.calls (k : Nat) (A0_0 : Option Addr) (c0_0 : Nat) (l0_0 : List (S93)) (a0_1 : Int) (r1 : List (S69)) (r2 : Int) (w : World) (hr0_0 : Kd.C k93 w A0_0 l0_0.length l0_0) (hc0_0 : l0_0.length ≤ c0_0) (h : laws_toCode.f k l0_0 a0_1 = some (r1, r2)) :
  Calls Try.prog 26 #[.agg #[.slice A0_0 l0_0.length c0_0, .int .i64 a0_1]] w fun e w' => ∃ v0_ : Value, e = .returned (.agg #[v0_, .int .i64 r2]) ∧ Kd.R k69 69 w' w.heap.size (fun _ => True) v0_ r1 ∧ Below w.heap.size w w' := by
 have hu34 := Try.underlying34
 have hu39 := Try.underlying39
 have HR0_0 := Aside0.mk hr0_0
 have HC0_0 := Aside0.mk hc0_0
 clear hr0_0 hc0_0
 have HB := Aside0.mk (Below.refl w.heap.size w)
 have H : ((laws_toOpS.f k l0_0).bind fun t586 => (some (t586, a0_1))) = some (r1, r2) := h
 clear h
 replace H := Option.bind_eq_some_iff.mp H
 obtain ⟨t586, A20, H⟩ := H
 replace H : (some (t586, a0_1)) = some (r1, r2) := H
 have A2 := Aside0.mk A20
 clear A20
 simp only [Option.some.injEq, Prod.mk.injEq] at H
 obtain ⟨rfl, rfl⟩ := H
 go_enter Try.func26, Try.ntmps26
 go_wp2_with (first | ((with_reducible refine zal (N := 1) rfl ?_); refine zan ?hg (N := 1) ?hd (cs := #[.slice A0_0 l0_0.length c0_0, .int .i64 a0_1]) (t := 34) ?hr ?_; (case hd => rfl); (case hg => rfl); (case hr => first | (go_simp; done) | (go_simp; rfl)); intro gb583 hg w3 hbox hb; have n0_ := Aside0.mk (zad (by repeat (first | (with_reducible first | exact HB.out | apply za2 | apply za0 | apply za1) | exact HB.out)) hb); have n1_ := Aside0.mk (hbox); have n2_ := Aside0.mk ((by rw [hg]; exact (za9 (by repeat (first | (with_reducible first | exact HB.out | apply za2 | apply za0 | apply za1) | exact HB.out))) : w.heap.size ≤ gb583)); have n3_ := Aside0.mk ((by rw [hg]; exact (za9 (by repeat (first | (with_reducible first | exact HB.out | apply za2 | apply za0 | apply za1) | exact HB.out))) : w.heap.size ≤ gb583)); clear HB; have HB := n0_; have BK583 := n1_; have GW583 := n2_; have GE583 := n3_; clear n0_ n1_ n2_ n3_; clear hb hbox hg) | ((with_reducible refine zal (N := 2) rfl ?_); refine zan ?hg (N := 2) ?hd (cs := #[.slice none 0 0, .int .i64 0]) (t := 39) ?hr ?_; (case hd => rfl); (case hg => rfl); (case hr => first | (go_simp; done) | (go_simp; rfl)); intro gb584 hg w4 hbox hb; have n0_ := Aside0.mk (zae (g := gb583) (o := .cells #[.slice A0_0 l0_0.length c0_0, .int .i64 a0_1] 34 (0, 0)) (by (with_reducible repeat (first | refine za4 ?_ _ | refine za6 ?_ | refine za5 ?_ _)); exact BK583.out) hb); have n1_ := Aside0.mk (zad (by repeat (first | (with_reducible first | exact HB.out | apply za2 | apply za0 | apply za1 | refine za3 ?_ GE583.out) | exact HB.out)) hb); have n2_ := Aside0.mk (hbox); have n3_ := Aside0.mk ((by rw [hg]; exact (za9 (by repeat (first | (with_reducible first | exact HB.out | apply za2 | apply za0 | apply za1 | refine za3 ?_ GE583.out) | exact HB.out))) : w.heap.size ≤ gb584)); have n4_ := Aside0.mk ((by rw [hg]; exact (za9 (by repeat (first | (with_reducible first | exact HB.out | apply za2 | apply za0 | apply za1 | refine za3 ?_ GE583.out) | exact HB.out))) : w.heap.size ≤ gb584)); have n5_ := Aside0.mk ((by rw [hg]; exact Nat.ne_of_lt (zay (g := gb583) (o := .cells #[.slice A0_0 l0_0.length c0_0, .int .i64 a0_1] 34 (0, 0)) (by (with_reducible repeat (first | refine za4 ?_ _ | refine za6 ?_ | refine za5 ?_ _)); exact BK583.out)) : gb583 ≠ gb584)); have n6_ := Aside0.mk ((by rw [hg]; exact Nat.ne_of_gt (zay (g := gb583) (o := .cells #[.slice A0_0 l0_0.length c0_0, .int .i64 a0_1] 34 (0, 0)) (by (with_reducible repeat (first | refine za4 ?_ _ | refine za6 ?_ | refine za5 ?_ _)); exact BK583.out)) : gb584 ≠ gb583)); clear BK583; clear HB; have BK583 := n0_; have HB := n1_; have BK584 := n2_; have GW584 := n3_; have GE584 := n4_; have NB583_584 := n5_; have NB584_583 := n6_; clear n0_ n1_ n2_ n3_ n4_ n5_ n6_; clear hb hbox hg) | ((with_reducible refine zal (N := 3) rfl ?_); refine zan ?hg (N := 3) ?hd (cs := #[.slice none 0 0, .int .i64 0]) (t := 39) ?hr ?_; (case hd => rfl); (case hg => rfl); (case hr => first | (go_simp; done) | (go_simp; rfl)); intro gb585 hg w5 hbox hb; have n0_ := Aside0.mk (zae (g := gb583) (o := .cells #[.slice A0_0 l0_0.length c0_0, .int .i64 a0_1] 34 (0, 0)) (by (with_reducible repeat (first | refine za4 ?_ _ | refine za6 ?_ | refine za5 ?_ _)); exact BK583.out) hb); have n1_ := Aside0.mk (zae (g := gb584) (o := .cells #[.slice none 0 0, .int .i64 0] 39 (0, 0)) (by (with_reducible repeat (first | refine za4 ?_ _ | refine za6 ?_ | refine za5 ?_ _)); exact BK584.out) hb); have n2_ := Aside0.mk (zad (by repeat (first | (with_reducible first | exact HB.out | apply za2 | apply za0 | apply za1 | refine za3 ?_ GE583.out | refine za3 ?_ GE584.out) | exact HB.out)) hb); have n3_ := Aside0.mk (hbox); have n4_ := Aside0.mk ((by rw [hg]; exact (za9 (by repeat (first | (with_reducible first | exact HB.out | apply za2 | apply za0 | apply za1 | refine za3 ?_ GE583.out | refine za3 ?_ GE584.out) | exact HB.out))) : w.heap.size ≤ gb585)); have n5_ := Aside0.mk ((by rw [hg]; exact (za9 (by repeat (first | (with_reducible first | exact HB.out | apply za2 | apply za0 | apply za1 | refine za3 ?_ GE583.out | refine za3 ?_ GE584.out) | exact HB.out))) : w.heap.size ≤ gb585)); have n6_ := Aside0.mk ((by rw [hg]; exact Nat.ne_of_lt (zay (g := gb583) (o := .cells #[.slice A0_0 l0_0.length c0_0, .int .i64 a0_1] 34 (0, 0)) (by (with_reducible repeat (first | refine za4 ?_ _ | refine za6 ?_ | refine za5 ?_ _)); exact BK583.out)) : gb583 ≠ gb585)); have n7_ := Aside0.mk ((by rw [hg]; exact Nat.ne_of_gt (zay (g := gb583) (o := .cells #[.slice A0_0 l0_0.length c0_0, .int .i64 a0_1] 34 (0, 0)) (by (with_reducible repeat (first | refine za4 ?_ _ | refine za6 ?_ | refine za5 ?_ _)); exact BK583.out)) : gb585 ≠ gb583)); have n8_ := Aside0.mk ((by rw [hg]; exact Nat.ne_of_lt (zay (g := gb584) (o := .cells #[.slice none 0 0, .int .i64 0] 39 (0, 0)) (by (with_reducible repeat (first | refine za4 ?_ _ | refine za6 ?_ | refine za5 ?_ _)); exact BK584.out)) : gb584 ≠ gb585)); have n9_ := Aside0.mk ((by rw [hg]; exact Nat.ne_of_gt (zay (g := gb584) (o := .cells #[.slice none 0 0, .int .i64 0] 39 (0, 0)) (by (with_reducible repeat (first | refine za4 ?_ _ | refine za6 ?_ | refine za5 ?_ _)); exact BK584.out)) : gb585 ≠ gb584)); clear BK583; clear BK584; clear HB; have BK583 := n0_; have BK584 := n1_; have HB := n2_; have BK585 := n3_; have GW585 := n4_; have GE585 := n5_; have NB583_585 := n6_; have NB585_583 := n7_; have NB584_585 := n8_; have NB585_584 := n9_; clear n0_ n1_ n2_ n3_ n4_ n5_ n6_ n7_ n8_ n9_; clear hb hbox hg; have hnb6 := NB583_584.out; have hnc6 := NB584_583.out; have hnb7 := NB583_585.out; have hnc7 := NB585_583.out; have hcz8_0 : w5.cell? ⟨gb583, 0, none⟩ = some (.slice A0_0 l0_0.length c0_0) := (za8 BK583.out 0).trans rfl; have hcz8_1 : w5.cell? ⟨gb583, 1, none⟩ = some (.int .i64 a0_1) := (za8 BK583.out 1).trans rfl; have hfz8_0 := za7 BK583.out 0; have hfz8_1 := za7 BK583.out 1) | ((with_reducible refine zaj (f := 66) rfl ?_); refine zaz (some 6) rfl rfl Try.func66 (by kernel_rfl) rfl #[.slice A0_0 l0_0.length c0_0] rfl (by (try simp only [List.map_toArray, List.map_cons, List.map_nil]); first | done | rfl | (simp only [List.length_drop, List.length_take]; rfl)) ?_; (with_reducible refine (laws_toOpS.calls k _ _ l0_0 t586 _ ?side1 ?side2 A2.out).mono ?_); (case side1 => repeat (first | exact (Kd.zb4 HR0_0.out HB.out) | (with_reducible refine Kd.zar ?_ _) | (with_reducible refine Kd.zas ?_ _) | (with_reducible refine Kd.zav ?_))); (case side2 => exact HC0_0.out); rintro e w9 ⟨v587, rfl, ho0, hb⟩; refine ⟨_, rfl, ?_⟩; have n0_ := Aside0.mk (Kd.zb1 ho0 (za9 (by repeat (first | (with_reducible first | exact HB.out | apply za2 | apply za0 | apply za1 | refine za3 ?_ GE583.out | refine za3 ?_ GE584.out | refine za3 ?_ GE585.out) | exact HB.out)))); have n1_ := Aside0.mk (zae (g := gb583) (o := .cells #[.slice A0_0 l0_0.length c0_0, .int .i64 a0_1] 34 (0, 0)) (by (with_reducible repeat (first | refine za4 ?_ _ | refine za6 ?_ | refine za5 ?_ _)); exact BK583.out) hb); have n2_ := Aside0.mk (zae (g := gb584) (o := .cells #[.slice none 0 0, .int .i64 0] 39 (0, 0)) (by (with_reducible repeat (first | refine za4 ?_ _ | refine za6 ?_ | refine za5 ?_ _)); exact BK584.out) hb); have n3_ := Aside0.mk (zae (g := gb585) (o := .cells #[.slice none 0 0, .int .i64 0] 39 (0, 0)) (by (with_reducible repeat (first | refine za4 ?_ _ | refine za6 ?_ | refine za5 ?_ _)); exact BK585.out) hb); have n4_ := Aside0.mk (zad (by repeat (first | (with_reducible first | exact HB.out | apply za2 | apply za0 | apply za1 | refine za3 ?_ GE583.out | refine za3 ?_ GE584.out | refine za3 ?_ GE585.out) | exact HB.out)) hb); clear BK583; clear BK584; clear BK585; clear HB; have HO588 := n0_; have BK583 := n1_; have BK584 := n2_; have BK585 := n3_; have HB := n4_; clear n0_ n1_ n2_ n3_ n4_; (try clear hb); (try clear hb2); (try clear hk); (try clear hi); (try clear ho0); obtain ⟨Ao10, co10, eo10⟩ := Kd.zau HO588.out; subst eo10; have hnb11 := NB585_584.out; have hnc11 := NB584_585.out; have hcz12_0 : w9.cell? ⟨gb585, 0, none⟩ = some (.slice none 0 0) := (za8 BK585.out 0).trans rfl; have hcz12_1 : w9.cell? ⟨gb585, 1, none⟩ = some (.int .i64 0) := (za8 BK585.out 1).trans rfl; have hfz12_0 := za7 BK585.out 0; have hfz12_1 := za7 BK585.out 1; have hcz13_0 : w9.cell? ⟨gb583, 0, none⟩ = some (.slice A0_0 l0_0.length c0_0) := (za8 BK583.out 0).trans rfl; have hcz13_1 : w9.cell? ⟨gb583, 1, none⟩ = some (.int .i64 a0_1) := (za8 BK583.out 1).trans rfl; have hfz13_0 := za7 BK583.out 0; have hfz13_1 := za7 BK583.out 1; have hcz14_0 : w9.cell? ⟨gb584, 0, none⟩ = some (.slice none 0 0) := (za8 BK584.out 0).trans rfl; have hcz14_1 : w9.cell? ⟨gb584, 1, none⟩ = some (.int .i64 0) := (za8 BK584.out 1).trans rfl; have hfz14_0 := za7 BK584.out 0; have hfz14_1 := za7 BK584.out 1))
 refine bodyPost_ret (results_cell_row rfl _ _ gb584 39 #[.slice Ao10 t586.length co10, .int .i64 a0_1] (0, 0) _ rfl (by (with_reducible repeat (first | refine za4 ?_ _ | refine za6 ?_ | refine za5 ?_ _)); refine zat (cs := #[.slice Ao10 t586.length co10, .int .i64 0]) ?_ 1 _ rfl; (with_reducible repeat (first | refine za4 ?_ _ | refine za6 ?_ | refine za5 ?_ _)); refine zat (cs := #[.slice none 0 0, .int .i64 0]) ?_ 0 _ rfl; (with_reducible repeat (first | refine za4 ?_ _ | refine za6 ?_ | refine za5 ?_ _)); refine zax ?_ NB584_585.out _; (with_reducible repeat (first | refine za4 ?_ _ | refine za6 ?_ | refine za5 ?_ _)); refine zax ?_ NB584_585.out _; (with_reducible repeat (first | refine za4 ?_ _ | refine za6 ?_ | refine za5 ?_ _)); exact BK584.out) Try.underlying39 rfl (by kernel_rfl)) rfl ?_
 exact ⟨_, by first | rfl | (simp [zaf, zah] <;> rfl) | (simp [*, zaf, zah] <;> rfl), by (with_reducible repeat (first | apply Kd.zac | apply Kd.zab | apply Kd.zai)); exact Kd.zam (Kd.R_far (p := ⟨gb584, 1, none⟩) (Kd.R_far (p := ⟨gb584, 0, none⟩) (Kd.R_far (p := ⟨gb585, 1, none⟩) (Kd.R_far (p := ⟨gb585, 0, none⟩) (Kd.zao (Kd.zao HO588.out BK585.out (by decide)) BK584.out (by decide)) (fun _ hk => hk.1.2) (.slice Ao10 t586.length co10)) (fun _ hk => hk.1.2) (.int .i64 a0_1)) (fun _ hk => hk.2) (.slice Ao10 t586.length co10)) (fun _ hk => hk.2) (.int .i64 a0_1)) (fun _ hk => trivial), by repeat (first | (with_reducible first | exact HB.out | apply za2 | apply za0 | apply za1 | refine za3 ?_ GE583.out | refine za3 ?_ GE584.out | refine za3 ?_ GE585.out) | exact HB.out)⟩

end Go.Proofs.Ytgglemlhombgkaa.Z
