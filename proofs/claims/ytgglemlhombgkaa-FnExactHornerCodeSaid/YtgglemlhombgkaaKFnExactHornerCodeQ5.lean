-- Written by a program of this session (wip/tools/stubprint.py): contracts by hand where the kit's print has none.
import Derived.Test.YtgglemlhombgkaaKFnExactHornerCodeQ0
import Derived.Test.YtgglemlhombgkaaKFnExactHornerCodeQ1
import Derived.Test.YtgglemlhombgkaaKFnExactHornerCodeQ2
import Derived.Test.YtgglemlhombgkaaKFnExactHornerCodeQ3
import Derived.Test.YtgglemlhombgkaaKFnExactHornerCodeQ4
namespace Go.Proofs.Ytgglemlhombgkaa.Z
open Go.RowKit Go.Proofs.YtgglemlhombgkaaW.PrintWords Go.Proofs.YtgglemlhombgkaaW.PrintLast Go.Proofs.YtgglemlhombgkaaW.PrintMore
attribute [local go_sem] max2_int min2_int max_two min_two max_three min_three max_four min_four   -- for this text's walks alone
set_option linter.unusedVariables false
set_option linter.unusedSimpArgs false

/-! ### spec_HornerCode: function 42 -/
def spec_HornerCode.l0 : Nat → List Int → Int → Int → List (S69) → Int → Option ((List (S69)) × Int × Bool)
  | 0, _, _, _, _, _ => none
  | k + 1, x0, x5, x6, x427000, x427001 => if x6 ≥ 0 then ((spec_poAdd.f x427000 x427001 3 x5 0).bind fun bt432 => (if 0 ≤ x6 then (if x6 < (x0.length : Int) then ((spec_poAdd.f bt432.1 bt432.2.1 0 (rd x0 x6) 0).bind fun bt438 => ((spec_poAdd.f bt438.1 bt438.2.1 1 bt432.2.2 bt438.2.2).bind fun bt443 => (spec_HornerCode.l0 k x0 bt443.2.2 (wrap64 (x6 - 1)) bt443.1 bt443.2.1))) else (none)) else (none))) else ((spec_poIf.f k x427000 x5).bind fun bt427 => (some (bt427.1, bt427.2.1, bt427.2.2)))
def spec_HornerCode.f (k : Nat) (l0 : List Int) : Option ((List (S69)) × Int × Bool) := (spec_poCoefs.f k l0).bind fun t419 => (if t419 = true then (if 0 ≤ (wrap64 ((l0.length : Int) - 1)) then (if (wrap64 ((l0.length : Int) - 1)) < (l0.length : Int) then ((spec_poAdd.f ([] : List (S69)) 0 0 (rd l0 (wrap64 ((l0.length : Int) - 1))) 0).bind fun bt421 => (spec_HornerCode.l0 k l0 bt421.2.2 (wrap64 ((l0.length : Int) - 2)) bt421.1 bt421.2.1)) else (none)) else (none)) else (some (([] : List (S69)), 0, false)))
theorem spec_HornerCode.zb2 : ∀ k, (∀ y0 y1 y2 y3 y4, LeO (spec_HornerCode.l0 k y0 y1 y2 y3 y4) (spec_HornerCode.l0 (k + 1) y0 y1 y2 y3 y4))
  | 0 => fun _ _ _ _ _ r h => by simp [spec_HornerCode.l0] at h
  | k + 1 => by
    have ih0 := spec_HornerCode.zb2 k
    · intro y0 y1 y2 y3 y4
      unfold spec_HornerCode.l0
      repeat' first
      | (with_reducible exact ih0 _ _ _ _ _)
      | (with_reducible exact spec_poCoefs.mono _ _)
      | (with_reducible exact spec_poIf.mono _ _ _)
      | (with_reducible exact LeO.refl _)
      | (with_reducible exact LeO.none _)
      | (with_reducible refine LeO.ite ?_ ?_)
      | (with_reducible refine LeO.bind ?_ (fun _ => ?_))
      | exact ih0 _ _ _ _ _
      | exact spec_poCoefs.mono _ _
      | exact spec_poIf.mono _ _ _
      | exact LeO.none _
      | refine LeO.ite ?_ ?_
      | refine LeO.bind ?_ (fun _ => ?_)
theorem spec_HornerCode.mono : ∀ a0 k, LeO (spec_HornerCode.f k a0) (spec_HornerCode.f (k + 1) a0) := by
  intro a0 k
  have ih0 := spec_HornerCode.zb2 k
  unfold spec_HornerCode.f
  repeat' first
      | (with_reducible exact ih0 _ _ _ _ _)
      | (with_reducible exact spec_poCoefs.mono _ _)
      | (with_reducible exact spec_poIf.mono _ _ _)
      | (with_reducible exact LeO.refl _)
      | (with_reducible exact LeO.none _)
      | (with_reducible refine LeO.ite ?_ ?_)
      | (with_reducible refine LeO.bind ?_ (fun _ => ?_))
      | exact ih0 _ _ _ _ _
      | exact spec_poCoefs.mono _ _
      | exact spec_poIf.mono _ _ _
      | exact LeO.none _
      | refine LeO.ite ?_ ?_
      | refine LeO.bind ?_ (fun _ => ?_)
def spec_HornerCode.T9 : Bool × List (List Nat × List Nat) := (true, [([], []), ([], []), ([], []), ([1, 2], [1, 2]), ([3], [3]), ([0, 4], [0, 4]), ([5], [5]), ([6], [6]), ([6], [6]), ([7, 5, 0, 1, 2, 3, 4, 5, 6, 7], [7]), ([8, 9, 0, 1, 2, 3, 4, 5, 6, 7, 8, 9], [8])])
def spec_HornerCode.B9 : List Nat := [0, 0, 0, 6, 14, 31, 63, 127, 127, 255, 1023]
theorem spec_HornerCode.tab9 : rtab .any (opsOf Try.f42 9) = spec_HornerCode.T9 := by kernel_rfl
theorem spec_HornerCode.bits9 : waitsOk spec_HornerCode.T9.2 spec_HornerCode.B9 = true := by kernel_rfl
set_option maxHeartbeats 8000000 in
set_option maxRecDepth 100000 in
theorem spec_HornerCode.calls (k : Nat) (A0 : Option Addr) (c0 : Nat) (l0 : List Int) (r1 : List (S69)) (r2 : Int) (r3 : Bool) (w : World) (hr0 : Kd.C (Kd.int .i64) w A0 l0.length l0) (hc0 : l0.length ≤ c0) (h : spec_HornerCode.f k l0 = some (r1, r2, r3)) :
    Calls Try.prog 42 #[.slice A0 l0.length c0] w fun e w' => ∃ v0_ : Value, e = .returned (.tuple #[.agg #[v0_, .int .i64 r2], .bool r3]) ∧ Kd.R k69 69 w' w.heap.size (fun _ => True) v0_ r1 ∧ Below w.heap.size w w' := by
  have hu39 := Try.underlying39
  have HR0 := Aside0.mk hr0
  have HC0 := Aside0.mk hc0
  clear hr0 hc0
  have HB := Aside0.mk (Below.refl w.heap.size w)
  have H : ((spec_poCoefs.f k l0).bind fun t419 => (if t419 = true then (if 0 ≤ (wrap64 ((l0.length : Int) - 1)) then (if (wrap64 ((l0.length : Int) - 1)) < (l0.length : Int) then ((spec_poAdd.f ([] : List (S69)) 0 0 (rd l0 (wrap64 ((l0.length : Int) - 1))) 0).bind fun bt421 => (spec_HornerCode.l0 k l0 bt421.2.2 (wrap64 ((l0.length : Int) - 2)) bt421.1 bt421.2.1)) else (none)) else (none)) else (some (([] : List (S69)), 0, false)))) = some (r1, r2, r3) := h
  clear h
  replace H := Option.bind_eq_some_iff.mp H
  obtain ⟨t419, A20, H⟩ := H
  replace H : (if t419 = true then (if 0 ≤ (wrap64 ((l0.length : Int) - 1)) then (if (wrap64 ((l0.length : Int) - 1)) < (l0.length : Int) then ((spec_poAdd.f ([] : List (S69)) 0 0 (rd l0 (wrap64 ((l0.length : Int) - 1))) 0).bind fun bt421 => (spec_HornerCode.l0 k l0 bt421.2.2 (wrap64 ((l0.length : Int) - 2)) bt421.1 bt421.2.1)) else (none)) else (none)) else (some (([] : List (S69)), 0, false))) = some (r1, r2, r3) := H
  have A2 := Aside0.mk A20
  clear A20
  by_cases c3 : t419 = true
  · subst c3
    have H1 : (if 0 ≤ (wrap64 ((l0.length : Int) - 1)) then (if (wrap64 ((l0.length : Int) - 1)) < (l0.length : Int) then ((spec_poAdd.f ([] : List (S69)) 0 0 (rd l0 (wrap64 ((l0.length : Int) - 1))) 0).bind fun bt421 => (spec_HornerCode.l0 k l0 bt421.2.2 (wrap64 ((l0.length : Int) - 2)) bt421.1 bt421.2.1)) else (none)) else (none)) = some (r1, r2, r3) := by rw [if_pos rfl] at H; exact H
    clear H
    have H := H1
    clear H1
    obtain ⟨ji4, hji4⟩ : ∃ j_ : Int, (wrap64 ((l0.length : Int) - 1)) = j_ := ⟨_, rfl⟩
    replace H : (if 0 ≤ (ji4) then (if (ji4) < (l0.length : Int) then ((spec_poAdd.f ([] : List (S69)) 0 0 (rd l0 (ji4)) 0).bind fun bt421 => (spec_HornerCode.l0 k l0 bt421.2.2 (wrap64 ((l0.length : Int) - 2)) bt421.1 bt421.2.1)) else (none)) else (none)) = some (r1, r2, r3) := by first | (rw [hji4] at H; exact H) | (simp only [hji4] at H ⊢; exact H)
    (try rw [hji4] at A2)
    have hji4w : (IntKind.i64.wrap ((l0.length : Int) - 1)) = ji4 := (i64_w _).trans hji4
    by_cases c5 : 0 ≤ (ji4)
    · rw [if_pos c5] at H
      have c5b0 : decide (0 ≤ (ji4)) = true := decide_eq_true c5
      clear c5
      by_cases c6 : (ji4) < (l0.length : Int)
      · rw [if_pos c6] at H
        have c6b0 : decide ((ji4) < (l0.length : Int)) = true := decide_eq_true c6
        clear c6
        replace H := Option.bind_eq_some_iff.mp H
        obtain ⟨⟨t421, t424, t425⟩, A70, H⟩ := H
        replace H : (spec_HornerCode.l0 k l0 t425 (wrap64 ((l0.length : Int) - 2)) t421 t424) = some (r1, r2, r3) := H
        have A7 := Aside0.mk A70
        clear A70
        have H' := Aside0.mk H
        clear H
        go_enter Try.func42, Try.ntmps42
        go_wp2_with (first | ((with_reducible refine zak (N := 2) rfl ?_); refine zam ?hg (N := 2) ?hd (cs := #[.slice none 0 0, .int .i64 0]) (t := 39) ?hr ?_; (case hd => rfl); (case hg => rfl); (case hr => first | (go_simp; done) | (go_simp; rfl)); intro gb418 hg w8 hbox hb; have n0_ := Aside0.mk (zab (by repeat (first | (with_reducible first | exact HB.out | apply za2 | apply za0 | apply za1) | exact HB.out)) hb); have n1_ := Aside0.mk (hbox); have n2_ := Aside0.mk ((by rw [hg]; exact (za9 (by repeat (first | (with_reducible first | exact HB.out | apply za2 | apply za0 | apply za1) | exact HB.out))) : w.heap.size ≤ gb418)); have n3_ := Aside0.mk ((by rw [hg]; exact (za9 (by repeat (first | (with_reducible first | exact HB.out | apply za2 | apply za0 | apply za1) | exact HB.out))) : w.heap.size ≤ gb418)); clear HB; have HB := n0_; have BK418 := n1_; have GW418 := n2_; have GE418 := n3_; clear n0_ n1_ n2_ n3_; clear hb hbox hg) | ((with_reducible refine zaj (f := 51) rfl ?_); refine zaz (some 10) rfl rfl Try.func51 (by kernel_rfl) rfl #[.slice A0 l0.length c0] rfl (by (try simp only [List.map_toArray, List.map_cons, List.map_nil]); first | done | rfl | (simp only [List.length_drop, List.length_take]; rfl)) ?_; (with_reducible refine (spec_poCoefs.calls k _ _ l0 true _ ?side1 ?side2 A2.out).mono ?_); (case side1 => repeat (first | exact (Kd.zb3 HR0.out HB.out) | (with_reducible refine Kd.zao ?_ _) | (with_reducible refine Kd.zaq ?_ _) | (with_reducible refine Kd.zau ?_))); (case side2 => exact HC0.out); rintro e w' ⟨rfl, ⟨nd, rfl⟩⟩; refine ⟨_, rfl, ?_⟩; (try (rw [drewN_self w8]; generalize hq_ : World.drewN w8 _ = w8; have n0_ : Aside0 (w8.heap[gb418]? = some (.cells #[.slice none 0 0, .int .i64 0] 39 (0, 0))) := ⟨by rw [← hq_]; exact (by (with_reducible repeat (first | refine za4 ?_ _ | refine za6 ?_ | refine za5 ?_ _)); exact BK418.out)⟩; have n1_ : Aside0 (Below w.heap.size w w8) := ⟨by rw [← hq_]; exact (by repeat (first | (with_reducible first | exact HB.out | apply za2 | apply za0 | apply za1 | refine za3 ?_ GE418.out) | exact HB.out))⟩; clear BK418 HB hq_; have BK418 := n0_; have HB := n1_; clear n0_ n1_)); have p420 : 0 ≤ ((ji4) : Int) := of_decide_eq_true (by first | (with_reducible assumption) | assumption); have q420 : (ji4) < (l0.length : Int) := of_decide_eq_true (by first | (with_reducible assumption) | assumption); obtain ⟨ad420, e420, hx420_0⟩ := Kd.at_int HR0.out (ji4) p420 q420; cases e420; replace hx420_0 := (HB.out.cell (World.block_lt_of_cell? w _ hx420_0)).trans hx420_0; replace p420 := eq_true p420; replace q420 := eq_true q420) | ((with_reducible refine zaj (f := 77) rfl ?_); refine zaz (some 21) rfl rfl Try.func77 (by kernel_rfl) rfl #[.agg #[.slice none 0 0, .int .i64 0], .int .i64 0, .int .i64 (rd l0 (ji4)), .int .i64 0] rfl (by (try simp only [List.map_toArray, List.map_cons, List.map_nil]); first | done | (simp only [hji4]; rfl) | rfl | (simp only [List.length_drop, List.length_take]; rfl)) ?_; (refine (spec_poAdd.calls _ _ ([] : List (S69)) 0 0 (rd l0 (ji4)) 0 t421 t424 t425 _ ?side1 ?side2 A7.out).mono ?_); (case side1 => exact Kd.C_nil _ _); (case side2 => exact Nat.le_refl _); rintro e w9 ⟨v422, rfl, ho0, hb⟩; refine ⟨_, rfl, ?_⟩; have n0_ := Aside0.mk (Kd.zb1 ho0 (za9 (by repeat (first | (with_reducible first | exact HB.out | apply za2 | apply za0 | apply za1 | refine za3 ?_ GE418.out) | exact HB.out)))); have n1_ := Aside0.mk (zac (g := gb418) (o := .cells #[.slice none 0 0, .int .i64 0] 39 (0, 0)) (by (with_reducible repeat (first | refine za4 ?_ _ | refine za6 ?_ | refine za5 ?_ _)); exact BK418.out) hb); have n2_ := Aside0.mk (zab (by repeat (first | (with_reducible first | exact HB.out | apply za2 | apply za0 | apply za1 | refine za3 ?_ GE418.out) | exact HB.out)) hb); clear BK418; clear HB; have HO423 := n0_; have BK418 := n1_; have HB := n2_; clear n0_ n1_ n2_; (try clear hb); (try clear hb2); (try clear hk); (try clear hi); (try clear ho0)) | ((with_reducible refine zak (N := 4) rfl ?_); refine zam ?hg (N := 4) ?hd (cs := #[.slice none 0 0, .int .i64 0]) (t := 39) ?hr ?_; (case hd => rfl); (case hg => rfl); (case hr => first | (go_simp; done) | (go_simp; rfl)); intro gb426 hg w10 hbox hb; have n0_ := Aside0.mk (Kd.zan (by (with_reducible repeat (first | apply Kd.zah | apply Kd.zaf | apply Kd.zai)); exact HO423.out) hb); have n1_ := Aside0.mk (zac (g := gb418) (o := .cells #[.slice none 0 0, .int .i64 0] 39 (0, 0)) (by (with_reducible repeat (first | refine za4 ?_ _ | refine za6 ?_ | refine za5 ?_ _)); exact BK418.out) hb); have n2_ := Aside0.mk (zab (by repeat (first | (with_reducible first | exact HB.out | apply za2 | apply za0 | apply za1 | refine za3 ?_ GE418.out) | exact HB.out)) hb); have n3_ := Aside0.mk (hbox); have n4_ := Aside0.mk ((by rw [hg]; exact (za9 (by repeat (first | (with_reducible first | exact HB.out | apply za2 | apply za0 | apply za1 | refine za3 ?_ GE418.out) | exact HB.out))) : w.heap.size ≤ gb426)); have n5_ := Aside0.mk ((by rw [hg]; exact (za9 (by repeat (first | (with_reducible first | exact HB.out | apply za2 | apply za0 | apply za1 | refine za3 ?_ GE418.out) | exact HB.out))) : w.heap.size ≤ gb426)); have n6_ := Aside0.mk ((by rw [hg]; exact Nat.ne_of_lt (zax (g := gb418) (o := .cells #[.slice none 0 0, .int .i64 0] 39 (0, 0)) (by (with_reducible repeat (first | refine za4 ?_ _ | refine za6 ?_ | refine za5 ?_ _)); exact BK418.out)) : gb418 ≠ gb426)); have n7_ := Aside0.mk ((by rw [hg]; exact Nat.ne_of_gt (zax (g := gb418) (o := .cells #[.slice none 0 0, .int .i64 0] 39 (0, 0)) (by (with_reducible repeat (first | refine za4 ?_ _ | refine za6 ?_ | refine za5 ?_ _)); exact BK418.out)) : gb426 ≠ gb418)); clear HO423; clear BK418; clear HB; have HO423 := n0_; have BK418 := n1_; have HB := n2_; have BK426 := n3_; have GW426 := n4_; have GE426 := n5_; have NB418_426 := n6_; have NB426_418 := n7_; clear n0_ n1_ n2_ n3_ n4_ n5_ n6_ n7_; clear hb hbox hg; obtain ⟨Ao11, co11, eo11⟩ := Kd.zay HO423.out; subst eo11; have hnb12 := NB426_418.out; have hnc12 := NB418_426.out; have hcz13_0 : w10.cell? ⟨gb426, 0, none⟩ = some (.slice none 0 0) := (za8 BK426.out 0).trans rfl; have hcz13_1 : w10.cell? ⟨gb426, 1, none⟩ = some (.int .i64 0) := (za8 BK426.out 1).trans rfl; have hfz13_0 := za7 BK426.out 0; have hfz13_1 := za7 BK426.out 1))
        go_loopg [5, 6] k (fun kq v5 v6 w' => ∃ (x5_1 : Int) (x6_1 : Int) (x427000_1 : List (S69)) (x427001_1 : Int) (u427000 : Value), v5 = .int .i64 x5_1 ∧ v6 = .int .i64 x6_1 ∧ Aside0 (spec_HornerCode.l0 kq l0 x5_1 x6_1 x427000_1 x427001_1 = some (r1, r2, r3)) ∧ Aside0 (kq ≤ k) ∧ Aside0 (Kd.R k69 69 w' w.heap.size (fun _ => True) u427000 x427000_1) ∧ Aside0 (w'.heap[gb418]? = some (.cells #[(.slice none 0 0), .int .i64 0] 39 (0, 0))) ∧ Aside0 (w'.heap[gb426]? = some (.cells #[u427000, .int .i64 x427001_1] 39 (0, 0))) ∧ Aside0 (Below w.heap.size w w'))
        case atStart => exact ⟨(t425), (wrap64 ((l0.length : Int) - 2)), (t421), (t424), (.slice Ao11 t421.length co11), (by first | rfl | (simp; done) | (simp [*]; done)), (by first | rfl | (simp; done) | (simp [*]; done)), H', ⟨Nat.le_refl _⟩, ⟨by (with_reducible repeat (first | apply Kd.zah | apply Kd.zaf | apply Kd.zai)); exact Kd.zas (Kd.R_far (p := ⟨gb426, 1, none⟩) (Kd.R_far (p := ⟨gb426, 0, none⟩) (Kd.zar HO423.out BK426.out (by decide)) (fun _ hk => hk.2) (.slice Ao11 t421.length co11)) (fun _ hk => hk.2) (.int .i64 t424)) (fun _ hk => trivial)⟩, ⟨by (with_reducible repeat (first | refine za4 ?_ _ | refine za6 ?_ | refine za5 ?_ _)); refine zaw ?_ NB418_426.out _; (with_reducible repeat (first | refine za4 ?_ _ | refine za6 ?_ | refine za5 ?_ _)); refine zaw ?_ NB418_426.out _; (with_reducible repeat (first | refine za4 ?_ _ | refine za6 ?_ | refine za5 ?_ _)); exact BK418.out⟩, ⟨by (with_reducible repeat (first | refine za4 ?_ _ | refine za6 ?_ | refine za5 ?_ _)); refine zat (cs := #[.slice Ao11 t421.length co11, .int .i64 0]) ?_ 1 _ rfl; (with_reducible repeat (first | refine za4 ?_ _ | refine za6 ?_ | refine za5 ?_ _)); refine zat (cs := #[.slice none 0 0, .int .i64 0]) ?_ 0 _ rfl; (with_reducible repeat (first | refine za4 ?_ _ | refine za6 ?_ | refine za5 ?_ _)); exact BK426.out⟩, ⟨by repeat (first | (with_reducible first | exact HB.out | apply za2 | apply za0 | apply za1 | refine za3 ?_ GE418.out | refine za3 ?_ GE426.out) | exact HB.out)⟩⟩
        case round =>
          clear H'
          try clear c1
          try clear p2
          try clear c3
          try clear c4
          try clear p4
          try clear q4
          try clear hx4
          try clear c5
          try clear c5b0
          try clear c6
          try clear c6b0
          try clear p6
          try clear c7
          try clear c12
          try clear hcz13_0
          try clear hcz13_1
          try clear hfz13_0
          try clear hfz13_1
          try clear hx420_0
          try clear p420
          try clear q420
          obtain ⟨x5_1, x6_1, x427000_1, x427001_1, u427000, rfl, rfl, HA, HK1, HO_427000, BK418, BK426, HB⟩ := hrel
          cases gk with
          | zero => exact absurd HA.out (by simp [spec_HornerCode.l0])
          | succ k1 =>
            have H := HA.out
            clear HA
            simp only [spec_HornerCode.l0] at H
            by_cases c14 : x6_1 ≥ 0
            · rw [if_pos c14] at H
              have c14b0 : decide (0 ≤ x6_1) = true := decide_eq_true c14
              clear c14
              replace H := Option.bind_eq_some_iff.mp H
              obtain ⟨⟨t432, t435, t436⟩, A150, H⟩ := H
              replace H : (if 0 ≤ x6_1 then (if x6_1 < (l0.length : Int) then ((spec_poAdd.f t432 t435 0 (rd l0 x6_1) 0).bind fun bt438 => ((spec_poAdd.f bt438.1 bt438.2.1 1 t436 bt438.2.2).bind fun bt443 => (spec_HornerCode.l0 k1 l0 bt443.2.2 (wrap64 (x6_1 - 1)) bt443.1 bt443.2.1))) else (none)) else (none)) = some (r1, r2, r3) := H
              have A15 := Aside0.mk A150
              clear A150
              by_cases c16 : 0 ≤ x6_1
              · rw [if_pos c16] at H
                have c16b0 : decide (0 ≤ x6_1) = true := decide_eq_true c16
                clear c16
                by_cases c17 : x6_1 < (l0.length : Int)
                · rw [if_pos c17] at H
                  have c17b0 : decide (x6_1 < (l0.length : Int)) = true := decide_eq_true c17
                  clear c17
                  replace H := Option.bind_eq_some_iff.mp H
                  obtain ⟨⟨t438, t441, t442⟩, A180, H⟩ := H
                  replace H : ((spec_poAdd.f t438 t441 1 t436 t442).bind fun bt443 => (spec_HornerCode.l0 k1 l0 bt443.2.2 (wrap64 (x6_1 - 1)) bt443.1 bt443.2.1)) = some (r1, r2, r3) := H
                  have A18 := Aside0.mk A180
                  clear A180
                  replace H := Option.bind_eq_some_iff.mp H
                  obtain ⟨⟨t443, t446, t447⟩, A190, H⟩ := H
                  replace H : (spec_HornerCode.l0 k1 l0 t447 (wrap64 (x6_1 - 1)) t443 t446) = some (r1, r2, r3) := H
                  have A19 := Aside0.mk A190
                  clear A190
                  have H' := Aside0.mk H
                  clear H
                  have hnb20 := NB426_418.out
                  have hnc20 := NB418_426.out
                  have hcz21_0 : wr.cell? ⟨gb426, 0, none⟩ = some (u427000) := (za8 BK426.out 0).trans rfl
                  have hcz21_1 : wr.cell? ⟨gb426, 1, none⟩ = some (.int .i64 x427001_1) := (za8 BK426.out 1).trans rfl
                  have hfz21_0 := za7 BK426.out 0
                  have hfz21_1 := za7 BK426.out 1
                  obtain ⟨Ao22, co22, eo22⟩ := Kd.zay HO_427000.out
                  subst eo22
                  try go_wp2_with (first | ((with_reducible refine zaj (f := 77) rfl ?_); refine zaz (some 34) rfl rfl Try.func77 (by kernel_rfl) rfl #[.agg #[.slice Ao22 x427000_1.length co22, .int .i64 x427001_1], .int .i64 3, .int .i64 x5_1, .int .i64 0] rfl (by (try simp only [List.map_toArray, List.map_cons, List.map_nil]); first | done | rfl | (simp only [List.length_drop, List.length_take]; rfl)) ?_; (with_reducible refine (spec_poAdd.calls _ _ x427000_1 x427001_1 3 x5_1 0 t432 t435 t436 _ ?side1 ?side2 A15.out).mono ?_); (case side1 => repeat (first | exact (Kd.R_reads' HO_427000.out).2.2 | (with_reducible refine Kd.zao ?_ _) | (with_reducible refine Kd.zaq ?_ _) | (with_reducible refine Kd.zau ?_))); (case side2 => exact (Kd.R_reads' HO_427000.out).2.1); rintro e w23 ⟨v433, rfl, ho0, hb⟩; refine ⟨_, rfl, ?_⟩; have n0_ := Aside0.mk (Kd.R_elder' (by (with_reducible repeat (first | apply Kd.zah | apply Kd.zaf | apply Kd.zai)); exact HO_427000.out) (Kd.R_base ho0) hb); have n1_ := Aside0.mk (Kd.zb1 (Kd.R_new' ho0 (Kd.R_lt (by (with_reducible repeat (first | apply Kd.zah | apply Kd.zaf | apply Kd.zai)); exact HO_427000.out))) (za9 (by repeat (first | (with_reducible first | exact HB.out | apply za2 | apply za0 | apply za1 | refine za3 ?_ GE418.out | refine za3 ?_ GE426.out) | exact HB.out)))); have n2_ := Aside0.mk (zac (g := gb418) (o := .cells #[.slice none 0 0, .int .i64 0] 39 (0, 0)) (by (with_reducible repeat (first | refine za4 ?_ _ | refine za6 ?_ | refine za5 ?_ _)); exact BK418.out) hb); have n3_ := Aside0.mk (zac (g := gb426) (o := .cells #[.slice Ao22 x427000_1.length co22, .int .i64 x427001_1] 39 (0, 0)) (by (with_reducible repeat (first | refine za4 ?_ _ | refine za6 ?_ | refine za5 ?_ _)); exact BK426.out) hb); have n4_ := Aside0.mk (zab (by repeat (first | (with_reducible first | exact HB.out | apply za2 | apply za0 | apply za1 | refine za3 ?_ GE418.out | refine za3 ?_ GE426.out) | exact HB.out)) hb); clear HO_427000; clear BK418; clear BK426; clear HB; have HO_427000 := n0_; have HO434 := n1_; have BK418 := n2_; have BK426 := n3_; have HB := n4_; clear n0_ n1_ n2_ n3_ n4_; (try clear hb); (try clear hb2); (try clear hk); (try clear hi); (try clear ho0); obtain ⟨Ao24, co24, eo24⟩ := Kd.zay HO434.out; subst eo24; have hcz25_0 : w23.cell? ⟨gb426, 0, none⟩ = some (.slice Ao22 x427000_1.length co22) := (za8 BK426.out 0).trans rfl; have hcz25_1 : w23.cell? ⟨gb426, 1, none⟩ = some (.int .i64 x427001_1) := (za8 BK426.out 1).trans rfl; have hfz25_0 := za7 BK426.out 0; have hfz25_1 := za7 BK426.out 1))
                  have n0_ : Aside0 (Kd.R k69 69 ((w23.setCell ⟨gb426, 0, none⟩ (.slice Ao24 t432.length co24)).setCell ⟨gb426, 1, none⟩ (.int .i64 t435)) w.heap.size (fun k_ => some k_ ≠ (.slice Ao24 t432.length co24 : Value).ownBlock) (.slice Ao22 x427000_1.length co22) x427000_1) := ⟨by (with_reducible repeat (first | apply Kd.zah | apply Kd.zaf | apply Kd.zai)); exact Kd.zas (Kd.R_far (p := ⟨gb426, 1, none⟩) (Kd.R_far (p := ⟨gb426, 0, none⟩) (Kd.zar HO_427000.out BK426.out (by decide)) (fun _ hk => hk.2) (.slice Ao24 t432.length co24)) (fun _ hk => hk.2) (.int .i64 t435)) (fun _ hk => hk.1.2)⟩
                  have n1_ : Aside0 (Kd.R k69 69 ((w23.setCell ⟨gb426, 0, none⟩ (.slice Ao24 t432.length co24)).setCell ⟨gb426, 1, none⟩ (.int .i64 t435)) w.heap.size (fun k_ => some k_ ≠ (.slice Ao22 x427000_1.length co22 : Value).ownBlock) (.slice Ao24 t432.length co24) t432) := ⟨by (with_reducible repeat (first | apply Kd.zah | apply Kd.zaf | apply Kd.zai)); exact Kd.zas (Kd.R_far (p := ⟨gb426, 1, none⟩) (Kd.R_far (p := ⟨gb426, 0, none⟩) (Kd.zar HO434.out BK426.out (by decide)) (fun _ hk => hk.2) (.slice Ao24 t432.length co24)) (fun _ hk => hk.2) (.int .i64 t435)) (fun _ hk => hk.1.2)⟩
                  have n2_ : Aside0 (((w23.setCell ⟨gb426, 0, none⟩ (.slice Ao24 t432.length co24)).setCell ⟨gb426, 1, none⟩ (.int .i64 t435)).heap[gb418]? = some (.cells #[.slice none 0 0, .int .i64 0] 39 (0, 0))) := ⟨by (with_reducible repeat (first | refine za4 ?_ _ | refine za6 ?_ | refine za5 ?_ _)); refine zaw ?_ NB418_426.out _; (with_reducible repeat (first | refine za4 ?_ _ | refine za6 ?_ | refine za5 ?_ _)); refine zaw ?_ NB418_426.out _; (with_reducible repeat (first | refine za4 ?_ _ | refine za6 ?_ | refine za5 ?_ _)); exact BK418.out⟩
                  have n3_ : Aside0 (((w23.setCell ⟨gb426, 0, none⟩ (.slice Ao24 t432.length co24)).setCell ⟨gb426, 1, none⟩ (.int .i64 t435)).heap[gb426]? = some (.cells #[.slice Ao24 t432.length co24, .int .i64 t435] 39 (0, 0))) := ⟨by (with_reducible repeat (first | refine za4 ?_ _ | refine za6 ?_ | refine za5 ?_ _)); refine zat (cs := #[.slice Ao24 t432.length co24, .int .i64 x427001_1]) ?_ 1 _ rfl; (with_reducible repeat (first | refine za4 ?_ _ | refine za6 ?_ | refine za5 ?_ _)); refine zat (cs := #[.slice Ao22 x427000_1.length co22, .int .i64 x427001_1]) ?_ 0 _ rfl; (with_reducible repeat (first | refine za4 ?_ _ | refine za6 ?_ | refine za5 ?_ _)); exact BK426.out⟩
                  have n4_ : Aside0 (Below w.heap.size w ((w23.setCell ⟨gb426, 0, none⟩ (.slice Ao24 t432.length co24)).setCell ⟨gb426, 1, none⟩ (.int .i64 t435))) := ⟨by repeat (first | (with_reducible first | exact HB.out | apply za2 | apply za0 | apply za1 | refine za3 ?_ GE418.out | refine za3 ?_ GE426.out) | exact HB.out)⟩
                  (try clear HO_427000)
                  (try clear HO434)
                  (try clear BK418)
                  (try clear BK426)
                  (try clear HB)
                  generalize ((w23.setCell ⟨gb426, 0, none⟩ (.slice Ao24 t432.length co24)).setCell ⟨gb426, 1, none⟩ (.int .i64 t435)) = w26 at n0_ n1_ n2_ n3_ n4_ ⊢
                  have HO_427000 := n0_
                  have HO434 := n1_
                  have BK418 := n2_
                  have BK426 := n3_
                  have HB := n4_
                  clear n0_ n1_ n2_ n3_ n4_
                  have n0_ := Aside0.mk (Kd.zai HO_427000.out)
                  have n1_ := Aside0.mk (Kd.zai HO434.out)
                  have n2_ := Aside0.mk (za6 BK418.out)
                  have n3_ := Aside0.mk (za6 BK426.out)
                  have n4_ := Aside0.mk (za1 HB.out)
                  clear HO_427000
                  clear HO434
                  clear BK418
                  clear BK426
                  clear HB
                  have HO_427000 := n0_
                  have HO434 := n1_
                  have BK418 := n2_
                  have BK426 := n3_
                  have HB := n4_
                  clear n0_ n1_ n2_ n3_ n4_
                  have p437 : 0 ≤ (x6_1 : Int) := of_decide_eq_true (by first | (with_reducible assumption) | assumption)
                  have q437 : x6_1 < (l0.length : Int) := of_decide_eq_true (by first | (with_reducible assumption) | assumption)
                  obtain ⟨ad437, e437, hx437_0⟩ := Kd.at_int HR0.out x6_1 p437 q437
                  have hw437_0 := hx437_0
                  obtain rfl : ad420 = ad437 := (by injection e437)
                  replace hx437_0 := (HB.out.cell (World.block_lt_of_cell? w _ hx437_0)).trans hx437_0
                  replace p437 := eq_true p437
                  replace q437 := eq_true q437
                  refine start_ (n := 11) (S := fun w' => w'.cell? ⟨gb426, 0, none⟩ = some (.slice Ao24 t432.length co24) ∧ w'.cell? ⟨gb426, 1, none⟩ = some (.int .i64 t435) ∧ w'.cell? (ad420.add (x6_1).toNat) = some (.int .i64 (rd l0 x6_1))) (ds := [9]) #[false, false, false, false, false, false, false, false, false, false, false] (by kernel_rfl) rfl rfl ⟨(za8 BK426.out 0).trans rfl, (za8 BK426.out 1).trans rfl, ((HB.out.cell (World.block_lt_of_cell? w _ hw437_0)).trans hw437_0)⟩ (fun hHeld => ?_); refine with_tabW spec_HornerCode.tab9 spec_HornerCode.bits9 (fun HT_ HW_ => ?_)
                  generalize w26.drew = w27 at HO_427000 HO434 BK418 BK426 HB hx437_0 hHeld ⊢
                  refine pure_ (i := 1) (N := some 39) (v := ?_) (a' := ?_) #[false, true, false, false, false, false, false, false, false, false, false] rfl rfl (zal HT_.out (by kernel_rfl)) (fun _ _ _ h => h) (Or.inl ⟨by rfl, ?_⟩) ?_ ?_
                  rotate_left
                  · intro w'
                    go_simp
                    with_reducible rfl
                  rotate_left
                  · simp only [Act.put, List.setIfInBounds_toArray, List.set_cons_zero, List.set_cons_succ, i64_w, i32_w]
                    rfl
                  refine pure_ (i := 2) (N := some 40) (v := ?_) (a' := ?_) #[false, true, true, false, false, false, false, false, false, false, false] rfl rfl (zal HT_.out (by kernel_rfl)) (fun _ _ _ h => h) (Or.inl ⟨by rfl, ?_⟩) ?_ ?_
                  rotate_left
                  · intro w'
                    go_simp
                    with_reducible rfl
                  rotate_left
                  · simp only [Act.put, List.setIfInBounds_toArray, List.set_cons_zero, List.set_cons_succ, i64_w, i32_w]
                    rfl
                  refine pure_ (i := 3) (N := some 41) (v := ?_) (a' := ?_) #[false, true, true, true, false, false, false, false, false, false, false] rfl rfl (zal HT_.out (by kernel_rfl)) (fun _ _ _ h => h) (Or.inl ⟨by rfl, ?_⟩) ?_ ?_
                  rotate_left
                  · intro w'
                    go_simp
                    with_reducible rfl
                  rotate_left
                  · simp only [Act.put, List.setIfInBounds_toArray, List.set_cons_zero, List.set_cons_succ, i64_w, i32_w]
                    rfl
                  refine take_ (i := 0) (N := some 38) (v := ?_) (a' := ?_) #[true, true, true, true, false, false, false, false, false, false, false] rfl rfl (zb0 HT_.out HW_.out (by kernel_rfl)) (fun _ _ _ h => h) (Or.inl ⟨by rfl, ?_⟩) hHeld ?_ ?_
                  rotate_left
                  · rintro w' ⟨s0, s1, s2⟩
                    go_simp
                    with_reducible rfl
                  rotate_left
                  · simp only [Act.put, List.setIfInBounds_toArray, List.set_cons_zero, List.set_cons_succ, i64_w, i32_w]
                    rfl
                  refine take_ (i := 4) (N := some 42) (v := ?_) (a' := ?_) #[true, true, true, true, true, false, false, false, false, false, false] rfl rfl (zb0 HT_.out HW_.out (by kernel_rfl)) (fun _ _ _ h => h) (Or.inl ⟨by rfl, ?_⟩) hHeld ?_ ?_
                  rotate_left
                  · rintro w' ⟨s0, s1, s2⟩
                    go_simp
                    with_reducible rfl
                  rotate_left
                  · simp only [Act.put, List.setIfInBounds_toArray, List.set_cons_zero, List.set_cons_succ, i64_w, i32_w]
                    rfl
                  refine one_ (i := 5) (N := some 43) #[true, true, true, true, true, true, false, false, false, false, false] rfl rfl (one_of HT_.out (by kernel_rfl)) (by decide) (fun K hK => ?_)
                  refine goes_ Try.func77 (by kernel_rfl) rfl #[.agg #[.slice Ao24 t432.length co24, .int .i64 t435], .int .i64 0, .int .i64 (rd l0 x6_1), .int .i64 0] (by rfl) rfl rfl (by (try simp only [List.map_toArray, List.map_cons, List.map_nil]); first | done | rfl | (simp only [List.length_drop, List.length_take]; rfl)) ?_
                  with_reducible refine (spec_poAdd.calls _ _ t432 t435 0 (rd l0 x6_1) 0 t438 t441 t442 _ ?side1 ?side2 A18.out).mono ?_
                  (case side1 => repeat (first | exact (Kd.R_reads' HO434.out).2.2 | (with_reducible refine Kd.zao ?_ _) | (with_reducible refine Kd.zaq ?_ _) | (with_reducible refine Kd.zau ?_)))
                  (case side2 => exact (Kd.R_reads' HO434.out).2.1)
                  rintro e w28 ⟨v439, rfl, ho0, hb⟩
                  refine ⟨_, rfl, ?_⟩
                  have n0_ := Aside0.mk (Kd.R_elder' (by (with_reducible repeat (first | apply Kd.zah | apply Kd.zaf | apply Kd.zai)); exact HO_427000.out) (Kd.R_base ho0) hb)
                  have n1_ := Aside0.mk (Kd.R_elder' (by (with_reducible repeat (first | apply Kd.zah | apply Kd.zaf | apply Kd.zai)); exact HO434.out) (Kd.R_base ho0) hb)
                  have n2_ := Aside0.mk (Kd.zb1 (Kd.R_new' (Kd.R_new' ho0 (Kd.R_lt (by (with_reducible repeat (first | apply Kd.zah | apply Kd.zaf | apply Kd.zai)); exact HO_427000.out))) (Kd.R_lt (by (with_reducible repeat (first | apply Kd.zah | apply Kd.zaf | apply Kd.zai)); exact HO434.out))) (za9 (by repeat (first | (with_reducible first | exact HB.out | apply za2 | apply za0 | apply za1 | refine za3 ?_ GE418.out | refine za3 ?_ GE426.out) | exact HB.out))))
                  have n3_ := Aside0.mk (zac (g := gb418) (o := .cells #[.slice none 0 0, .int .i64 0] 39 (0, 0)) (by (with_reducible repeat (first | refine za4 ?_ _ | refine za6 ?_ | refine za5 ?_ _)); exact BK418.out) hb)
                  have n4_ := Aside0.mk (zac (g := gb426) (o := .cells #[.slice Ao24 t432.length co24, .int .i64 t435] 39 (0, 0)) (by (with_reducible repeat (first | refine za4 ?_ _ | refine za6 ?_ | refine za5 ?_ _)); exact BK426.out) hb)
                  have n5_ := Aside0.mk (zab (by repeat (first | (with_reducible first | exact HB.out | apply za2 | apply za0 | apply za1 | refine za3 ?_ GE418.out | refine za3 ?_ GE426.out) | exact HB.out)) hb)
                  clear HO_427000
                  clear HO434
                  clear BK418
                  clear BK426
                  clear HB
                  have HO_427000 := n0_
                  have HO434 := n1_
                  have HO440 := n2_
                  have BK418 := n3_
                  have BK426 := n4_
                  have HB := n5_
                  clear n0_ n1_ n2_ n3_ n4_ n5_
                  (try clear hb)
                  (try clear hb2)
                  (try clear hk)
                  (try clear hi)
                  (try clear ho0)
                  obtain ⟨Ao29, co29, eo29⟩ := Kd.zay HO440.out
                  (first | subst eo29 | (injection eo29 with f1_ f2_ f3_; have f4_ := f1_.symm; have f5_ := f3_.symm; clear f1_ f2_ f3_; subst f4_; subst f5_))
                  refine hK.out _ _ ⟨(za8 BK426.out 0).trans rfl, (za8 BK426.out 1).trans rfl, ((HB.out.cell (World.block_lt_of_cell? w _ hw437_0)).trans hw437_0)⟩ (fun hHeld => ?_)
                  clear hK K
                  refine norm_ (a' := ?_) ?_ ?_
                  rotate_left
                  · show Act.put _ (some 43) _ = _
                    simp only [Act.put, List.setIfInBounds_toArray, List.set_cons_zero, List.set_cons_succ, i64_w, i32_w]
                    rfl
                  refine pure_ (i := 6) (N := some 37) (v := ?_) (a' := ?_) #[true, true, true, true, true, true, true, false, false, false, false] rfl rfl (zal HT_.out (by kernel_rfl)) (fun _ _ _ h => h) (Or.inl ⟨by rfl, ?_⟩) ?_ ?_
                  rotate_left
                  · intro w'
                    go_simp
                    with_reducible rfl
                  rotate_left
                  · simp only [Act.put, List.setIfInBounds_toArray, List.set_cons_zero, List.set_cons_succ, i64_w, i32_w]
                    rfl
                  refine pure_ (i := 7) (N := some 44) (v := ?_) (a' := ?_) #[true, true, true, true, true, true, true, true, false, false, false] rfl rfl (zal HT_.out (by kernel_rfl)) (fun _ _ _ h => h) (Or.inl ⟨by rfl, ?_⟩) ?_ ?_
                  rotate_left
                  · intro w'
                    go_simp
                    with_reducible rfl
                  rotate_left
                  · simp only [Act.put, List.setIfInBounds_toArray, List.set_cons_zero, List.set_cons_succ, i64_w, i32_w]
                    rfl
                  refine pure_ (i := 8) (N := some 45) (v := ?_) (a' := ?_) #[true, true, true, true, true, true, true, true, true, false, false] rfl rfl (zal HT_.out (by kernel_rfl)) (fun _ _ _ h => h) (Or.inl ⟨by rfl, ?_⟩) ?_ ?_
                  rotate_left
                  · intro w'
                    go_simp
                    with_reducible rfl
                  rotate_left
                  · simp only [Act.put, List.setIfInBounds_toArray, List.set_cons_zero, List.set_cons_succ, i64_w, i32_w]
                    rfl
                  refine last_ (i := 9) (N := none) #[true, true, true, true, true, true, true, true, true, true, false] rfl rfl (one_of HT_.out (by kernel_rfl)) (by decide) (fun K hK => ?_)
                  have hs30 : w28.cell? ⟨gb426, 0, none⟩ = some (.slice Ao24 t432.length co24) := (za8 BK426.out 0).trans rfl
                  have hfs30 := za7 BK426.out 0
                  have hns30_0 := NB418_426.out
                  have hms30_0 := NB426_418.out
                  have hs31 : w28.cell? ⟨gb426, 1, none⟩ = some (.int .i64 t435) := (za8 BK426.out 1).trans rfl
                  have hfs31 := za7 BK426.out 1
                  have hns31_0 := NB418_426.out
                  have hms31_0 := NB426_418.out
                  refine skip_ (w1 := ?_) (by rfl) rfl ?_ ?_
                  rotate_left
                  · go_simp
                    rfl
                  refine hK.out _ _ ?_
                  clear hK K
                  refine pure_ (i := 10) (N := some 8) (v := ?_) (a' := ?_) #[true, true, true, true, true, true, true, true, true, true, true] rfl rfl (zal HT_.out (by kernel_rfl)) (fun _ _ _ h => h) (Or.inl ⟨by rfl, ?_⟩) ?_ ?_
                  rotate_left
                  · intro w'
                    go_simp
                    with_reducible rfl
                  rotate_left
                  · simp only [Act.put, List.setIfInBounds_toArray, List.set_cons_zero, List.set_cons_succ, i64_w, i32_w]
                    rfl
                  refine done_ (done_of HT_.out (by kernel_rfl)) ?_
                  have hcz32_0 : w28.cell? ⟨gb426, 0, none⟩ = some (.slice Ao24 t432.length co24) := (za8 BK426.out 0).trans rfl
                  have hcz32_1 : w28.cell? ⟨gb426, 1, none⟩ = some (.int .i64 t435) := (za8 BK426.out 1).trans rfl
                  have hfz32_0 := za7 BK426.out 0
                  have hfz32_1 := za7 BK426.out 1
                  try go_wp2_with (first | ((with_reducible refine zaj (f := 77) rfl ?_); refine zaz (some 50) rfl rfl Try.func77 (by kernel_rfl) rfl #[.agg #[.slice Ao29 t438.length co29, .int .i64 t441], .int .i64 1, .int .i64 t436, .int .i64 t442] rfl (by (try simp only [List.map_toArray, List.map_cons, List.map_nil]); first | done | rfl | (simp only [List.length_drop, List.length_take]; rfl)) ?_; (with_reducible refine (spec_poAdd.calls _ _ t438 t441 1 t436 t442 t443 t446 t447 _ ?side1 ?side2 A19.out).mono ?_); (case side1 => refine (Kd.R_reads' (e := 69) (base := w.heap.size) (ok := fun k_ => ((True ∧ some k_ ≠ (.slice Ao22 x427000_1.length co22 : Value).ownBlock) ∧ some k_ ≠ (.slice Ao24 t432.length co24 : Value).ownBlock)) (n := t438.length) (c := co29) ?_).2.2; exact (by (with_reducible repeat (first | apply Kd.zah | apply Kd.zaf | apply Kd.zai)); exact (Kd.zas (Kd.R_far (p := ⟨gb426, 1, none⟩) (Kd.R_far (p := ⟨gb426, 0, none⟩) (Kd.zar HO440.out BK426.out (by decide)) (fun _ hk => hk.2) (.slice Ao29 t438.length co29)) (fun _ hk => hk.2) (.int .i64 t441)) (fun _ h_ => h_.1)))); (case side2 => exact (Kd.R_reads' HO440.out).2.1); rintro e w33 ⟨v444, rfl, ho0, hb⟩; refine ⟨_, rfl, ?_⟩; have n0_ := Aside0.mk (Kd.R_elder' (by (with_reducible repeat (first | apply Kd.zah | apply Kd.zaf | apply Kd.zai)); exact (Kd.zas (Kd.R_far (p := ⟨gb426, 1, none⟩) (Kd.R_far (p := ⟨gb426, 0, none⟩) (Kd.zar HO_427000.out BK426.out (by decide)) (fun _ hk => hk.2) (.slice Ao29 t438.length co29)) (fun _ hk => hk.2) (.int .i64 t441)) (fun _ h_ => h_.1))) (Kd.R_base ho0) hb); have n1_ := Aside0.mk (Kd.R_elder' (by (with_reducible repeat (first | apply Kd.zah | apply Kd.zaf | apply Kd.zai)); exact (Kd.zas (Kd.R_far (p := ⟨gb426, 1, none⟩) (Kd.R_far (p := ⟨gb426, 0, none⟩) (Kd.zar HO434.out BK426.out (by decide)) (fun _ hk => hk.2) (.slice Ao29 t438.length co29)) (fun _ hk => hk.2) (.int .i64 t441)) (fun _ h_ => h_.1))) (Kd.R_base ho0) hb); have n2_ := Aside0.mk (Kd.R_elder' (by (with_reducible repeat (first | apply Kd.zah | apply Kd.zaf | apply Kd.zai)); exact (Kd.zas (Kd.R_far (p := ⟨gb426, 1, none⟩) (Kd.R_far (p := ⟨gb426, 0, none⟩) (Kd.zar HO440.out BK426.out (by decide)) (fun _ hk => hk.2) (.slice Ao29 t438.length co29)) (fun _ hk => hk.2) (.int .i64 t441)) (fun _ h_ => h_.1))) (Kd.R_base ho0) hb); have n3_ := Aside0.mk (Kd.zb1 (Kd.R_new' (Kd.R_new' (Kd.R_new' ho0 (Kd.R_lt (by (with_reducible repeat (first | apply Kd.zah | apply Kd.zaf | apply Kd.zai)); exact (Kd.zas (Kd.R_far (p := ⟨gb426, 1, none⟩) (Kd.R_far (p := ⟨gb426, 0, none⟩) (Kd.zar HO_427000.out BK426.out (by decide)) (fun _ hk => hk.2) (.slice Ao29 t438.length co29)) (fun _ hk => hk.2) (.int .i64 t441)) (fun _ h_ => h_.1))))) (Kd.R_lt (by (with_reducible repeat (first | apply Kd.zah | apply Kd.zaf | apply Kd.zai)); exact (Kd.zas (Kd.R_far (p := ⟨gb426, 1, none⟩) (Kd.R_far (p := ⟨gb426, 0, none⟩) (Kd.zar HO434.out BK426.out (by decide)) (fun _ hk => hk.2) (.slice Ao29 t438.length co29)) (fun _ hk => hk.2) (.int .i64 t441)) (fun _ h_ => h_.1))))) (Kd.R_lt (by (with_reducible repeat (first | apply Kd.zah | apply Kd.zaf | apply Kd.zai)); exact (Kd.zas (Kd.R_far (p := ⟨gb426, 1, none⟩) (Kd.R_far (p := ⟨gb426, 0, none⟩) (Kd.zar HO440.out BK426.out (by decide)) (fun _ hk => hk.2) (.slice Ao29 t438.length co29)) (fun _ hk => hk.2) (.int .i64 t441)) (fun _ h_ => h_.1))))) (za9 (by repeat (first | (with_reducible first | exact HB.out | apply za2 | apply za0 | apply za1 | refine za3 ?_ GE418.out | refine za3 ?_ GE426.out) | exact HB.out)))); have n4_ := Aside0.mk (zac (g := gb418) (o := .cells #[.slice none 0 0, .int .i64 0] 39 (0, 0)) (by (with_reducible repeat (first | refine za4 ?_ _ | refine za6 ?_ | refine za5 ?_ _)); refine zaw ?_ NB418_426.out _; (with_reducible repeat (first | refine za4 ?_ _ | refine za6 ?_ | refine za5 ?_ _)); refine zaw ?_ NB418_426.out _; (with_reducible repeat (first | refine za4 ?_ _ | refine za6 ?_ | refine za5 ?_ _)); exact BK418.out) hb); have n5_ := Aside0.mk (zac (g := gb426) (o := .cells #[.slice Ao29 t438.length co29, .int .i64 t441] 39 (0, 0)) (by (with_reducible repeat (first | refine za4 ?_ _ | refine za6 ?_ | refine za5 ?_ _)); refine zat (cs := #[.slice Ao29 t438.length co29, .int .i64 t435]) ?_ 1 _ rfl; (with_reducible repeat (first | refine za4 ?_ _ | refine za6 ?_ | refine za5 ?_ _)); refine zat (cs := #[.slice Ao24 t432.length co24, .int .i64 t435]) ?_ 0 _ rfl; (with_reducible repeat (first | refine za4 ?_ _ | refine za6 ?_ | refine za5 ?_ _)); exact BK426.out) hb); have n6_ := Aside0.mk (zab (by repeat (first | (with_reducible first | exact HB.out | apply za2 | apply za0 | apply za1 | refine za3 ?_ GE418.out | refine za3 ?_ GE426.out) | exact HB.out)) hb); clear HO_427000; clear HO434; clear HO440; clear BK418; clear BK426; clear HB; have HO_427000 := n0_; have HO434 := n1_; have HO440 := n2_; have HO445 := n3_; have BK418 := n4_; have BK426 := n5_; have HB := n6_; clear n0_ n1_ n2_ n3_ n4_ n5_ n6_; (try clear hb); (try clear hb2); (try clear hk); (try clear hi); (try clear ho0); obtain ⟨Ao34, co34, eo34⟩ := Kd.zay HO445.out; subst eo34; have hcz35_0 : w33.cell? ⟨gb426, 0, none⟩ = some (.slice Ao29 t438.length co29) := (za8 BK426.out 0).trans rfl; have hcz35_1 : w33.cell? ⟨gb426, 1, none⟩ = some (.int .i64 t441) := (za8 BK426.out 1).trans rfl; have hfz35_0 := za7 BK426.out 0; have hfz35_1 := za7 BK426.out 1))
                  go_roundg k1
                  case measure => have := HK1.out; omega
                  case rel => exact ⟨(t447), (wrap64 (x6_1 - 1)), (t443), (t446), (.slice Ao34 t443.length co34), (by first | rfl | (simp; done) | (simp [*]; done)), (by first | rfl | (simp; done) | (simp [*]; done)), H', ⟨by have := HK1.out; omega⟩, ⟨by (with_reducible repeat (first | apply Kd.zah | apply Kd.zaf | apply Kd.zai)); exact Kd.zas (Kd.R_far (p := ⟨gb426, 1, none⟩) (Kd.R_far (p := ⟨gb426, 0, none⟩) (Kd.zar HO445.out BK426.out (by decide)) (fun _ hk => hk.2) (.slice Ao34 t443.length co34)) (fun _ hk => hk.2) (.int .i64 t446)) (fun _ hk => trivial)⟩, ⟨by (with_reducible repeat (first | refine za4 ?_ _ | refine za6 ?_ | refine za5 ?_ _)); refine zaw ?_ NB418_426.out _; (with_reducible repeat (first | refine za4 ?_ _ | refine za6 ?_ | refine za5 ?_ _)); refine zaw ?_ NB418_426.out _; (with_reducible repeat (first | refine za4 ?_ _ | refine za6 ?_ | refine za5 ?_ _)); exact BK418.out⟩, ⟨by (with_reducible repeat (first | refine za4 ?_ _ | refine za6 ?_ | refine za5 ?_ _)); refine zat (cs := #[.slice Ao34 t443.length co34, .int .i64 t441]) ?_ 1 _ rfl; (with_reducible repeat (first | refine za4 ?_ _ | refine za6 ?_ | refine za5 ?_ _)); refine zat (cs := #[.slice Ao29 t438.length co29, .int .i64 t441]) ?_ 0 _ rfl; (with_reducible repeat (first | refine za4 ?_ _ | refine za6 ?_ | refine za5 ?_ _)); exact BK426.out⟩, ⟨by repeat (first | (with_reducible first | exact HB.out | apply za2 | apply za0 | apply za1 | refine za3 ?_ GE418.out | refine za3 ?_ GE426.out) | exact HB.out)⟩⟩
                · rw [if_neg c17] at H
                  exact absurd H (by simp)
              · rw [if_neg c16] at H
                exact absurd H (by simp)
            · rw [if_neg c14] at H
              have c14b0 : decide (0 ≤ x6_1) = false := decide_eq_false c14
              clear c14
              replace H := Option.bind_eq_some_iff.mp H
              obtain ⟨⟨t427, t430, t431⟩, A360, H⟩ := H
              replace H : (some (t427, t430, t431)) = some (r1, r2, r3) := H
              have A36 := Aside0.mk A360
              clear A360
              simp only [Option.some.injEq, Prod.mk.injEq] at H
              obtain ⟨rfl, rfl, rfl⟩ := H
              have hnb37 := NB426_418.out
              have hnc37 := NB418_426.out
              have hcz38_0 : wr.cell? ⟨gb426, 0, none⟩ = some (u427000) := (za8 BK426.out 0).trans rfl
              have hcz38_1 : wr.cell? ⟨gb426, 1, none⟩ = some (.int .i64 x427001_1) := (za8 BK426.out 1).trans rfl
              have hfz38_0 := za7 BK426.out 0
              have hfz38_1 := za7 BK426.out 1
              go_wp2_with (first | ((with_reducible refine gate_store (t := 3) (p := 54) rfl ?_); refine store_event (t := 3) (p := 54) (v := ?vo_w39) (w1 := (wr.setCell ⟨gb426, 1, none⟩ (.int .i64 x5_1))) ?hg ?ho ?hn ?hr ?_; (case ho => rfl); (case hg => rfl); (case hn => rfl); (case hr => first | (go_simp; done) | (go_simp; rfl)); intro w39 hw; have n0_ : Aside0 (Kd.R k69 69 w39 w.heap.size (fun _ => True) u427000 x427000_1) := ⟨(by rw [hw]; exact (by (with_reducible repeat (first | apply Kd.zah | apply Kd.zaf | apply Kd.zai)); exact Kd.zas (Kd.R_far (p := ⟨gb426, 1, none⟩) (Kd.zar HO_427000.out BK426.out (by decide)) (fun _ hk => hk.2) (.int .i64 x5_1)) (fun _ hk => trivial)))⟩; have n1_ : Aside0 (w39.heap[gb418]? = some (.cells #[.slice none 0 0, .int .i64 0] 39 (0, 0))) := ⟨(by rw [hw]; exact (by (with_reducible repeat (first | refine za4 ?_ _ | refine za6 ?_ | refine za5 ?_ _)); refine zaw ?_ NB418_426.out _; (with_reducible repeat (first | refine za4 ?_ _ | refine za6 ?_ | refine za5 ?_ _)); exact BK418.out))⟩; have n2_ : Aside0 (w39.heap[gb426]? = some (.cells #[u427000, .int .i64 x5_1] 39 (0, 0))) := ⟨(by rw [hw]; exact (by (with_reducible repeat (first | refine za4 ?_ _ | refine za6 ?_ | refine za5 ?_ _)); refine zat (cs := #[u427000, .int .i64 x427001_1]) ?_ 1 _ rfl; (with_reducible repeat (first | refine za4 ?_ _ | refine za6 ?_ | refine za5 ?_ _)); exact BK426.out))⟩; have n3_ : Aside0 (Below w.heap.size w w39) := ⟨(by rw [hw]; exact (by repeat (first | (with_reducible first | exact HB.out | apply za2 | apply za0 | apply za1 | refine za3 ?_ GE418.out | refine za3 ?_ GE426.out) | exact HB.out)))⟩; clear hw; clear HO_427000; clear BK418; clear BK426; clear HB; have HO_427000 := n0_; have BK418 := n1_; have BK426 := n2_; have HB := n3_; clear n0_ n1_ n2_ n3_; have hcz40_0 : w39.cell? ⟨gb426, 0, none⟩ = some (u427000) := (za8 BK426.out 0).trans rfl; have hcz40_1 : w39.cell? ⟨gb426, 1, none⟩ = some (.int .i64 x5_1) := (za8 BK426.out 1).trans rfl; have hfz40_0 := za7 BK426.out 0; have hfz40_1 := za7 BK426.out 1; obtain ⟨Ao41, co41, eo41⟩ := Kd.zay HO_427000.out; subst eo41) | ((with_reducible refine zaj (f := 78) rfl ?_); refine zaz (some 56) rfl rfl Try.func78 (by kernel_rfl) rfl #[.agg #[.slice Ao41 x427000_1.length co41, .int .i64 x5_1]] rfl (by (try simp only [List.map_toArray, List.map_cons, List.map_nil]); first | done | rfl | (simp only [List.length_drop, List.length_take]; rfl)) ?_; (with_reducible refine (spec_poIf.calls k1 (fun k_ => some k_ = (.slice Ao41 x427000_1.length co41 : Value).ownBlock) (.slice Ao41 x427000_1.length co41) x427000_1 x5_1 t427 t430 t431 w _ ?side1 ?side2 A36.out).mono ?_); (case side1 => repeat (first | (with_reducible first | exact HB.out | apply za2 | apply za0 | apply za1 | refine za3 ?_ GE418.out | refine za3 ?_ GE426.out) | exact HB.out)); (case side2 => exact Kd.R_tight rfl HO_427000.out); rintro e w42 ⟨v428, rfl, ho0, hb, hkp⟩; refine ⟨_, rfl, ?_⟩; have n0_ := Aside0.mk (blk_kept (by (with_reducible repeat (first | refine za4 ?_ _ | refine za6 ?_ | refine za5 ?_ _)); exact BK418.out) hkp (fun hs_ => (fun e_ => (Kd.R_ne HO_427000.out BK418.out (by decide)) e_) hs_)); have n1_ := Aside0.mk (blk_kept (by (with_reducible repeat (first | refine za4 ?_ _ | refine za6 ?_ | refine za5 ?_ _)); exact BK426.out) hkp (fun hs_ => (fun e_ => (Kd.R_ne HO_427000.out BK426.out (by decide)) e_) hs_)); have n2_ := Aside0.mk (Kd.zas (ok' := fun k_ => True) ho0 (fun k_ hk_ => trivial)); have n3_ := Aside0.mk (hb); clear BK418; clear BK426; clear HB; clear HO_427000; have BK418 := n0_; have BK426 := n1_; have HO429 := n2_; have HB := n3_; clear n0_ n1_ n2_ n3_; (try clear hb); (try clear hkp); (try clear ho0); obtain ⟨Ao43, co43, eo43⟩ := Kd.zay HO429.out; subst eo43; have hcz44_0 : w42.cell? ⟨gb418, 0, none⟩ = some (.slice none 0 0) := (za8 BK418.out 0).trans rfl; have hcz44_1 : w42.cell? ⟨gb418, 1, none⟩ = some (.int .i64 0) := (za8 BK418.out 1).trans rfl; have hfz44_0 := za7 BK418.out 0; have hfz44_1 := za7 BK418.out 1))
              refine bodyPost_ret (results_ct rfl _ _ gb418 39 #[.slice Ao43 t427.length co43, .int .i64 t430] (0, 0) _ rfl (by (with_reducible repeat (first | refine za4 ?_ _ | refine za6 ?_ | refine za5 ?_ _)); refine zat (cs := #[.slice Ao43 t427.length co43, .int .i64 0]) ?_ 1 _ rfl; (with_reducible repeat (first | refine za4 ?_ _ | refine za6 ?_ | refine za5 ?_ _)); refine zat (cs := #[.slice none 0 0, .int .i64 0]) ?_ 0 _ rfl; (with_reducible repeat (first | refine za4 ?_ _ | refine za6 ?_ | refine za5 ?_ _)); exact BK418.out) Try.underlying39 rfl (by kernel_rfl)) rfl ?_
              exact ⟨_, by first | rfl | (simp [zae, zad] <;> rfl) | (simp only [← hji4]; first | rfl | (simp [zae, zad] <;> rfl)) | (simp [*, zae, zad] <;> rfl), by (with_reducible repeat (first | apply Kd.zah | apply Kd.zaf | apply Kd.zai)); exact Kd.zas (Kd.R_far (p := ⟨gb418, 1, none⟩) (Kd.R_far (p := ⟨gb418, 0, none⟩) (Kd.zar HO429.out BK418.out (by decide)) (fun _ hk => hk.2) (.slice Ao43 t427.length co43)) (fun _ hk => hk.2) (.int .i64 t430)) (fun _ hk => trivial), by repeat (first | (with_reducible first | exact HB.out | apply za2 | apply za0 | apply za1 | refine za3 ?_ GE418.out | refine za3 ?_ GE426.out) | exact HB.out)⟩
      · rw [if_neg c6] at H
        exact absurd H (by simp)
    · rw [if_neg c5] at H
      exact absurd H (by simp)
  · replace c3 := Bool.eq_false_iff.mpr c3
    subst c3
    have H1 : (some (([] : List (S69)), 0, false)) = some (r1, r2, r3) := by rw [if_neg (show ¬ (false = true) by decide)] at H; exact H
    clear H
    have H := H1
    clear H1
    simp only [Option.some.injEq, Prod.mk.injEq] at H
    obtain ⟨rfl, rfl, rfl⟩ := H
    go_enter Try.func42, Try.ntmps42
    go_wp2_with (first | ((with_reducible refine zak (N := 2) rfl ?_); refine zam ?hg (N := 2) ?hd (cs := #[.slice none 0 0, .int .i64 0]) (t := 39) ?hr ?_; (case hd => rfl); (case hg => rfl); (case hr => first | (go_simp; done) | (go_simp; rfl)); intro gb418 hg w45 hbox hb; have n0_ := Aside0.mk (zab (by repeat (first | (with_reducible first | exact HB.out | apply za2 | apply za0 | apply za1) | exact HB.out)) hb); have n1_ := Aside0.mk (hbox); have n2_ := Aside0.mk ((by rw [hg]; exact (za9 (by repeat (first | (with_reducible first | exact HB.out | apply za2 | apply za0 | apply za1) | exact HB.out))) : w.heap.size ≤ gb418)); have n3_ := Aside0.mk ((by rw [hg]; exact (za9 (by repeat (first | (with_reducible first | exact HB.out | apply za2 | apply za0 | apply za1) | exact HB.out))) : w.heap.size ≤ gb418)); clear HB; have HB := n0_; have BK418 := n1_; have GW418 := n2_; have GE418 := n3_; clear n0_ n1_ n2_ n3_; clear hb hbox hg) | ((with_reducible refine zaj (f := 51) rfl ?_); refine zaz (some 10) rfl rfl Try.func51 (by kernel_rfl) rfl #[.slice A0 l0.length c0] rfl (by (try simp only [List.map_toArray, List.map_cons, List.map_nil]); first | done | rfl | (simp only [List.length_drop, List.length_take]; rfl)) ?_; (with_reducible refine (spec_poCoefs.calls k _ _ l0 false _ ?side1 ?side2 A2.out).mono ?_); (case side1 => repeat (first | exact (Kd.zb3 HR0.out HB.out) | (with_reducible refine Kd.zao ?_ _) | (with_reducible refine Kd.zaq ?_ _) | (with_reducible refine Kd.zau ?_))); (case side2 => exact HC0.out); rintro e w' ⟨rfl, ⟨nd, rfl⟩⟩; refine ⟨_, rfl, ?_⟩; (try (rw [drewN_self w45]; generalize hq_ : World.drewN w45 _ = w45; have n0_ : Aside0 (w45.heap[gb418]? = some (.cells #[.slice none 0 0, .int .i64 0] 39 (0, 0))) := ⟨by rw [← hq_]; exact (by (with_reducible repeat (first | refine za4 ?_ _ | refine za6 ?_ | refine za5 ?_ _)); exact BK418.out)⟩; have n1_ : Aside0 (Below w.heap.size w w45) := ⟨by rw [← hq_]; exact (by repeat (first | (with_reducible first | exact HB.out | apply za2 | apply za0 | apply za1 | refine za3 ?_ GE418.out) | exact HB.out))⟩; clear BK418 HB hq_; have BK418 := n0_; have HB := n1_; clear n0_ n1_)); have hcz46_0 : w45.cell? ⟨gb418, 0, none⟩ = some (.slice none 0 0) := (za8 BK418.out 0).trans rfl; have hcz46_1 : w45.cell? ⟨gb418, 1, none⟩ = some (.int .i64 0) := (za8 BK418.out 1).trans rfl; have hfz46_0 := za7 BK418.out 0; have hfz46_1 := za7 BK418.out 1))
    refine bodyPost_ret (results_ct rfl _ _ gb418 39 #[.slice none 0 0, .int .i64 0] (0, 0) _ rfl (by (with_reducible repeat (first | refine za4 ?_ _ | refine za6 ?_ | refine za5 ?_ _)); refine zat (cs := #[.slice none 0 0, .int .i64 0]) ?_ 1 _ rfl; (with_reducible repeat (first | refine za4 ?_ _ | refine za6 ?_ | refine za5 ?_ _)); refine zat (cs := #[.slice none 0 0, .int .i64 0]) ?_ 0 _ rfl; (with_reducible repeat (first | refine za4 ?_ _ | refine za6 ?_ | refine za5 ?_ _)); exact BK418.out) Try.underlying39 rfl (by kernel_rfl)) rfl ?_
    exact ⟨_, by first | rfl | (simp [zae, zad] <;> rfl) | (simp [*, zae, zad] <;> rfl), by first | exact Kd.R_nil _ _ _ _ _ | exact Kd.N_nil _ _ _ _ _ | exact Kd.V_nil _ _ _ _ _ | exact Kd.Q_nil _ _ _ _ _ | exact Kd.S_nil _ _ _ _ _, by repeat (first | (with_reducible first | exact HB.out | apply za2 | apply za0 | apply za1 | refine za3 ?_ GE418.out) | exact HB.out)⟩

/-! ### slices_Backward_int_int_1: function 94 -/
/-! ### a region that draws, within a round of a range over a function: walked as anywhere -/
section
variable {P : Program} {n : Nat} {l : Nat}
theorem upon_in {o : Oper} {a : Act} {next : Act → World → Prop} {Q : Exit → Act → World → Prop} {r : Result Next} (h : o.upon P a next Q r) : o.uponIn (Fence.wide.inRound l) n P a next Q r := by
  match r, h with
  | .ok (.value v) w', h => exact h
  | .ok .skip w', h => exact h
  | .ok (.defer d) w', h => exact h
  | .ok (.enter f args) w', h =>
    refine ⟨fun hd => by simp [Fence.wide, Fence.inRound] at hd, ?_⟩
    refine CallsIn.inRound l (callsIn_wide.2 (Calls.mono h ?_))
    intro e w'' he
    cases e <;> exact he
  | .ok (.row row args) w', h =>
    exact ⟨fun hd => by simp [Fence.wide, Fence.inRound] at hd, fun c cs _ => let ⟨v, w'', r, s⟩ := h c cs; ⟨v, w'', r, stepsIn_wide.2 s⟩⟩
  | .halt (.panic v) w', h => exact h
variable {ops : Array Oper} {Q : Exit → Act → World → Prop} {md : Region.Mode}
theorem wpOp_in {i : Nat} {K : Act → World → Prop} {a : Act} {w : World} (hnd : ∀ (j : Nat) o c, ops[j]? = some o → o.op ≠ .defer c) (hL : ¬ LetsOut Q) (h : wpOp P ops Q i K a w) : wpOpIn (Fence.wide.inRound l) n P ops Q i K a w := by
  unfold wpOp at h
  unfold wpOpIn
  cases ho : ops[i]? with
  | none => rw [ho] at h; exact h
  | some o =>
    rw [ho] at h
    dsimp only at h ⊢
    split at h
    · rename_i hw
      rw [if_pos hw]
      rcases h with h | ⟨_, h⟩
      · refine ⟨fun _ _ => trivial, ?_⟩
        rw [Oper.semAt_eq _ _ _ (fun c => hnd i o c ho)]
        exact upon_in h
      · exact absurd h hL
    · rename_i hw
      rw [if_neg hw]
      exact ⟨fun _ _ => trivial, h⟩
theorem wpAny_in (hnd : ∀ (j : Nat) o c, ops[j]? = some o → o.op ≠ .defer c) (hL : ¬ LetsOut Q) : ∀ (fuel : Nat) (listed : Array Bool) (a : Act) (w : World), wpAny P md ops Q fuel listed a w → wpAnyIn (Fence.wide.inRound l) n P md ops Q fuel listed a w
  | 0, _, _, _, h => h
  | fuel + 1, listed, a, w, h => ⟨h.1, fun i hi => wpOpIn_mono (fun a w hk => wpAny_in hnd hL fuel _ a w hk) (wpOp_in hnd hL (h.2 i hi))⟩
/-- no statement 'defer' -/
def noDefer (ops : Array Oper) : Bool := ops.toList.all fun o => match o.op with | .defer _ => false | _ => true
theorem noDefer_spec (h : noDefer ops = true) : ∀ (j : Nat) o c, ops[j]? = some o → o.op ≠ .defer c := fun j o c ho hc => by
  have h1 := List.all_eq_true.1 h o (by rw [Array.mem_toList_iff]; exact Array.mem_of_getElem? ho)
  rw [hc] at h1
  cases h1
theorem startR_ {S : World → Prop} {ds : List Nat} {id k : Nat} {a : Act} {w : World} (lb : Array Bool) (hm : P.follows .mixedOrders = true) (hn : ops.size = k) (hl : Array.replicate k false = lb) (hnd : noDefer ops = true) (hL : ¬ LetsOut Q) (hS : S w.drew)
    (h : S w.drew → zav P .any ops Q S ds k lb a w.drew) : (Code.region id ops true).wpIn (Fence.wide.inRound l) n P Q a w := by
  subst hn
  subst hl
  exact wpIn_region_any hm (wpAny_in (noDefer_spec hnd) hL _ _ _ _ (wpAny_of_last _ _ _ _ (h hS)))
end
/-- what has come when k rounds are over, from the back -/
def bwd (zs : List Int) (k : Nat) : List (Int × Int) := (List.range k).map fun j => (((zs.length - 1 - j : Nat) : Int), rd zs ((zs.length - 1 - j : Nat) : Int))
theorem bwd_succ (zs : List Int) (k : Nat) : bwd zs (k + 1) = bwd zs k ++ [(((zs.length - 1 - k : Nat) : Int), rd zs ((zs.length - 1 - k : Nat) : Int))] := by simp [bwd, List.range_succ]
theorem bwd_length (zs : List Int) (k : Nat) : (bwd zs k).length = k := by simp [bwd]
/-- a round leaves what lay below n and the box b -/
def KpB (n b : Nat) (A B : World) : Prop := Below n A B ∧ B.cell? ⟨b, 0, none⟩ = A.cell? ⟨b, 0, none⟩
theorem KpB.t {n b : Nat} {A B C : World} (h : KpB n b A B) (k : KpB n b B C) : KpB n b A C := ⟨h.1.trans k.1, k.2.trans h.2⟩
theorem KpB.b {n b : Nat} {w : World} (hn : n ≤ w.heap.size) (hb : b < w.heap.size) (W : World) (l : Nat) (o o' : Obj) (hl : w.heap.size ≤ l) (h : W.heap[l]? = some o) (hc : o.isCells = false) (hw : o.isWalk = false) : KpB n b W (W.putObj l o') :=
  ⟨belowK_b hn W l o o' hl h hc hw, (belowK_b (n₀ := w.heap.size) (Nat.le_refl _) W l o o' hl h hc hw).cell (p := ⟨b, 0, none⟩) hb⟩

attribute [local go_sem] Oper.semAt_some in
set_option maxRecDepth 100000 in
set_option maxHeartbeats 2000000 in
theorem backward1 (l Bs : Nat) (A : Option Addr) (cap : Nat) (zs : List Int) (w0 : World) (n : Nat) (hn : 1 ≤ n) (hR : Kd.C (Kd.int .i64) w0 A zs.length zs) (J Jx : List (Int × Int) → World → Prop)
    (hY : ∀ pre x W, J pre W → pre.length < zs.length → YieldAt Fence.wide (n - 1) Try.prog l #[.int .i64 x.1, .int .i64 x.2] W fun e W' =>
      (e = .returned (.bool true) ∧ J (pre ++ [x]) W' ∧ KpB w0.heap.size Bs W W') ∨ (e = .returned (.bool false) ∧ Jx (pre ++ [x]) W'))
    (W : World) (hW : Below w0.heap.size w0 W) (hB1 : W.cell? ⟨Bs, 0, none⟩ = some (.slice A zs.length cap)) (h0 : J [] W) :
    CallsIn Fence.wide n Try.prog 94 #[.func (.yield l) #[] #[], .pointer (some ⟨Bs, 0, none⟩)] W fun e W' => (∃ v, e = .returned v) ∧
      ((∃ ys, ys = bwd zs zs.length ∧ J ys W') ∨ (∃ pre, (∃ k, k ≤ zs.length ∧ pre = bwd zs k) ∧ Jx pre W')) := by
  have hm : zs.length ≤ 9223372036854775807 := hR.2.1
  refine callsIn_of_wp Try.func94 rfl trivial ?_ rfl
  simp only [Try.ntmps94, List.size_toArray, List.length_cons, List.length_nil, Nat.reduceAdd, Nat.reduceSub, Array.replicate_succ, Array.replicate_zero, List.push_toArray, List.append_toArray, List.nil_append, List.cons_append]
  gi_wp2
  gi_loopw [3] (fun i wr => ∃ k : Nat, k ≤ zs.length ∧ i = .int .i64 ((zs.length : Int) - 1 - k) ∧ J (bwd zs k) wr ∧ KpB w0.heap.size Bs W wr)
    (fun i _ => ((intOf i) + 1).toNat)
  case atStart => exact ⟨0, Nat.zero_le _, by simp, h0, Below.refl _ _, rfl⟩
  case round =>
    obtain ⟨k, hk, rfl, hJs, hnx⟩ := hrel
    have hB2 := hnx.2.trans hB1
    by_cases hlt : k < zs.length
    · have e1 : ((zs.length : Int) - 1 - k) = ((zs.length - 1 - k : Nat) : Int) := by omega
      obtain ⟨ad, ea, hx⟩ := Kd.at_int (Kd.zb3 hR (hW.trans hnx.1)) ((zs.length - 1 - k : Nat) : Int) (by omega) (by omega)
      cases ea
      rw [Int.toNat_natCast] at hx
      obtain ⟨fn, tmps, assign, body, hy, hR1⟩ := hY _ (((zs.length - 1 - k : Nat) : Int), rd zs ((zs.length - 1 - k : Nat) : Int)) wr hJs (by rw [bwd_length]; exact hlt)
      dsimp only at hy
      have c1 : decide ((0 : Int) ≤ ((zs.length - 1 - k : Nat) : Int)) = true := decide_eq_true (by omega)
      rw [e1]
      gi_wp2
      refine hR1.mono ?_
      rintro e W3 (⟨rfl, hJ3, hk3⟩ | ⟨rfl, hJx3⟩)
      · gi_wp2
        go_roundw
        case rel => exact ⟨k + 1, by omega, by rw [← e1]; go_num, by rw [bwd_succ]; exact hJ3, hnx.t hk3⟩
        case measure => simp [intOf]
      · gi_wp2
        refine bodyPost_ret (results_none rfl _ _ _) rfl ?_
        exact ⟨⟨_, rfl⟩, .inr ⟨_, ⟨k + 1, by omega, (bwd_succ _ _).symm⟩, hJx3⟩⟩
    · obtain rfl : k = zs.length := by omega
      have e1 : ((zs.length : Int) - 1 - (zs.length : Int)) = -1 := by omega
      rw [e1]
      gi_wp2
      go_end0
      exact ⟨⟨_, rfl⟩, .inl ⟨_, rfl, hJs⟩⟩


/-! ### slices_Backward_int_int: function 57 -/
attribute [local go_sem] Oper.semAt_some in
set_option maxHeartbeats 1000000 in
theorem backward_in (n : Nat) (a : Option Addr) (len cap : Nat) (w : World) :
    CallsIn Fence.wide n Try.prog 57 #[.slice a len cap] w fun e w' => e = .returned (.func (.func 94) #[] #[.pointer (some ⟨w.heap.size, 0, none⟩)]) ∧ w' = w.alloc (.cells #[.slice a len cap] 22) := by
  refine callsIn_of_wp Try.func57 rfl trivial ?_ rfl
  simp only [Try.ntmps57, List.size_toArray, List.length_cons, List.length_nil, Nat.reduceAdd, Nat.reduceSub, Array.replicate_succ, Array.replicate_zero, List.push_toArray, List.append_toArray, List.nil_append, List.cons_append]
  gi_wp2
  go_ret
  exact ⟨rfl, rfl⟩

/-- slices.Backward(s) hands back what stops: all from the back, or the first k of them. -/
theorem backward_stops (n : Nat) (hn : 1 ≤ n) (Bs : Nat) (A : Option Addr) (cap : Nat) (zs : List Int) (w0 w : World) (hR : Kd.C (Kd.int .i64) w0 A zs.length zs) (hw : Below w0.heap.size w0 w) (hBs : Bs < w.heap.size)
    (hB : w.cell? ⟨Bs, 0, none⟩ = some (.slice A zs.length cap)) :
    SeqStopsK Fence.wide n Try.prog 94 #[.pointer (some ⟨Bs, 0, none⟩)] (fun x : Int × Int => #[Value.int .i64 x.1, Value.int .i64 x.2]) (KpB w0.heap.size Bs) (fun ys => ys = bwd zs zs.length)
      (fun pre => ∃ k, k ≤ zs.length ∧ pre = bwd zs k) zs.length w := fun l J Jx W hW _ _ hY h0 =>
  backward1 l Bs A cap zs w0 n hn hR J Jx hY W (hw.trans (hW.mono hw.size)) ((hW.cell (p := ⟨Bs, 0, none⟩) hBs).trans hB) h0


/-! ### impl_HornerCode: function 43 -/
def hoStep (s : Int × List SOp) (n : Int) : Int × List SOp := ((s.2.length : Int) + 3, s.2 ++ [⟨3, s.1, 0⟩] ++ [⟨0, n, 0⟩] ++ [⟨1, (s.2.length : Int) + 1, (s.2.length : Int) + 2⟩])
def hoF (last : Int) (pre : List (Int × Int)) : Int × List SOp := pre.foldl (fun s p => hoStep s p.2) (1, [⟨0, last, 0⟩])
theorem hoF_snoc (last : Int) (pre : List (Int × Int)) (p : Int × Int) : hoF last (pre ++ [p]) = hoStep (hoF last pre) p.2 := by simp [hoF]
theorem hoF_length (last : Int) (pre : List (Int × Int)) : (hoF last pre).2.length = 1 + 3 * pre.length := by
  have h : ∀ (pre : List (Int × Int)) (s : Int × List SOp), (pre.foldl (fun s p => hoStep s p.2) s).2.length = s.2.length + 3 * pre.length := by
    intro pre
    induction pre with
    | nil => intro s; simp
    | cons p pre ih => intro s; rw [List.foldl_cons, ih]; simp [hoStep]; omega
  have := h pre (1, [⟨0, last, 0⟩])
  simpa [hoF] using this
def hornerIn (l0 : List Int) : Int × List SOp := hoF (rd l0 ((l0.length : Int) - 1)) (bwd (l0.take (l0.length - 1)) (l0.take (l0.length - 1)).length)
def impl_HornerCode.f (k : Nat) (l0 : List Int) : Option (List SOp × Int × Bool) := (impl_coefsOk.f l0).bind fun b => if b = true then impl_toldCode.f k (hornerIn l0).2 (hornerIn l0).1 else some ([], 0, false)
theorem impl_HornerCode.mono : ∀ a0 k, LeO (impl_HornerCode.f k a0) (impl_HornerCode.f (k + 1) a0) := by
  intro a0 k
  unfold impl_HornerCode.f
  exact LeO.bind (LeO.refl _) (fun b => LeO.ite (impl_toldCode.mono _ _ _) (LeO.refl _))

attribute [local go_sem] Oper.semAt_some in
set_option maxHeartbeats 8000000 in
set_option maxRecDepth 100000 in
theorem impl_HornerCode.calls (k : Nat) (A0 : Option Addr) (c0 : Nat) (l0 : List Int) (r1 : List SOp) (r2 : Int) (r3 : Bool) (w : World) (hr0 : Kd.C (Kd.int .i64) w A0 l0.length l0) (hc0 : l0.length ≤ c0) (h : impl_HornerCode.f k l0 = some (r1, r2, r3)) :
    Calls Try.prog 43 #[.slice A0 l0.length c0] w fun e w' => ∃ v, e = .returned (.tuple #[.agg #[v, .int .i64 r2], .bool r3]) ∧ Kd.R k69 69 w' w.heap.size (fun _ => True) v r1 ∧ Below w.heap.size w w' := by
  have hu39 := Try.underlying39
  have HC := Aside0.mk hr0
  have HN := Aside0.mk hc0
  unfold impl_HornerCode.f at h
  obtain ⟨b, hT, h⟩ := Option.bind_eq_some_iff.1 h
  have HT := Aside0.mk hT
  cases b with
  | false =>
    simp only [Bool.false_eq_true, if_false, Option.some.injEq, Prod.mk.injEq] at h
    obtain ⟨rfl, rfl, rfl⟩ := h
    clear hr0 hc0 hT
    go_enter Try.func43, Try.ntmps43
    go_wp2_with (first | ((with_reducible refine zak (N := 2) rfl ?_); refine zam ?hg (N := 2) ?hd (cs := #[.slice none 0 0, .int .i64 0]) (t := 39) ?hr ?_; (case hd => rfl); (case hg => rfl); (case hr => first | (go_simp; done) | (go_simp; rfl)); intro gr hgr w1 hbox hb; have H1 := Aside0.mk ((Fr.start w).box_new hbox hb hgr); have HA := Aside0.mk (impl_coefsOk.calls A0 c0 l0 _ w1 (Kd.zb3 HC.out hb) HN.out HT.out); clear hbox hb hgr) | (go_at_call 54; refine HA.out.mono ?_; clear HA; rintro e w2 ⟨rfl, hb⟩; have H2 := Aside0.mk (H1.out.below hb); clear hb; have hs0 : w2.cell? ⟨gr, 0, none⟩ = some (.slice none 0 0) := H2.out.zb5 (i := 0) rfl 0 rfl; have hs1 : w2.cell? ⟨gr, 1, none⟩ = some (.int .i64 0) := H2.out.zb5 (i := 0) rfl 1 rfl; have hf0 := za7 (H2.out.box_at (i := 0) rfl) 0; have hf1 := za7 (H2.out.box_at (i := 0) rfl) 1))
    have h4 := (H2.out.box_set (i := 0) rfl 0 (.slice none 0 0) rfl).box_set (i := 0) rfl 1 (.int .i64 0) rfl
    refine bodyPost_ret (results_ct rfl _ _ gr 39 #[.slice none 0 0, .int .i64 0] (0, 0) _ rfl (h4.box_at (i := 0) rfl) Try.underlying39 rfl (by kernel_rfl)) rfl ?_
    exact ⟨_, rfl, Kd.R_nil _ _ _ _ _, h4.bel⟩
  | true =>
    simp only [if_true] at h
    have HF := Aside0.mk h
    have hl := coefsOk_len hT
    have HL := Aside0.mk hl
    have hw1 : wrap64 ((l0.length : Int) - 1) = (l0.length : Int) - 1 := by unfold wrap64; omega
    clear hr0 hc0 hT h hl
    unfold hornerIn at HF
    refine (callsIn_wide (n := 3)).1 ?_
    refine callsIn_of_wp_marks Try.func43 rfl trivial ?_ rfl
    simp only [Try.ntmps43, List.size_toArray, List.length_cons, List.length_nil, Nat.reduceAdd, Nat.reduceSub, Array.replicate_succ, Array.replicate_zero, List.push_toArray, List.append_toArray, List.nil_append, List.cons_append]
    refine wpIn_mono ?_ (fun e a w (h : retOnly _ e a w) => retOnly_imp h)
    refine wpIn_wide.2 ?_
    go_wp2_with (first | ((with_reducible refine zak (N := 2) rfl ?_); refine zam ?hg (N := 2) ?hd (cs := #[.slice none 0 0, .int .i64 0]) (t := 39) ?hr ?_; (case hd => rfl); (case hg => rfl); (case hr => first | (go_simp; done) | (go_simp; rfl)); intro gr hgr w1 hbox hb; have H1 := Aside0.mk ((Fr.start w).box_new hbox hb hgr); have HA := Aside0.mk (impl_coefsOk.calls A0 c0 l0 _ w1 (Kd.zb3 HC.out hb) HN.out HT.out); clear hbox hb hgr) | (go_at_call 54; refine HA.out.mono ?_; clear HA; rintro e w2 ⟨rfl, hb⟩; have H2 := Aside0.mk (H1.out.below hb); clear hb) | ((with_reducible refine zak (N := 13) rfl ?_); refine zam ?hg (N := 13) ?hd (cs := #[.slice none 0 0]) (t := 78) ?hr ?_; (case hd => rfl); (case hg => rfl); (case hr => first | (go_simp; done) | (go_simp; rfl)); intro gw hgw w3 hbox hb; have H3 := Aside0.mk (((H2.out.box_new hbox hb hgw).row_nil k69 69).obj_close (i := 0) (f := fun v => #[v]) rfl); clear hbox hb hgw) | ((with_reducible refine zak (N := 4) rfl ?_); refine zam ?hg (N := 4) ?hd (cs := #[.pointer none]) (t := 76) ?hr ?_; (case hd => rfl); (case hg => rfl); (case hr => first | (go_simp; done) | (go_simp; rfl)); intro gp hgp w4 hbox hb; have H4 := Aside0.mk (H3.out.box_new hbox hb hgp); have hp0 : w4.cell? ⟨gp, 0, none⟩ = some (.pointer none) := H4.out.zb5 (i := 0) rfl 0 rfl; have hpf := za7 (H4.out.box_at (i := 0) rfl) 0; clear hbox hb hgp))
    have h5 := H4.out.box_set (i := 0) rfl 0 (.pointer (some ⟨gw, 0, none⟩)) rfl
    simp only [List.set_cons_zero] at h5
    generalize w4.setCell ⟨gp, 0, none⟩ (.pointer (some ⟨gw, 0, none⟩)) = w5 at h5 ⊢
    have H5 := Aside0.mk (show Fr w w (fun _ => False) [box gp 76 #[.pointer (some ⟨gw, 0, none⟩)], wr8 gw [], box gr 39 #[.slice none 0 0, .int .i64 0]] w5 from h5)
    have hl := HL.out
    obtain ⟨ad, e1, hx⟩ := Kd.at_int HC.out ((l0.length : Int) - 1) (by omega) (by omega)
    cases e1
    have hi : ((l0.length : Int) - 1).toNat = l0.length - 1 := by omega
    rw [hi] at hx
    have h0i : (0 : Int) ≤ (l0.length : Int) - 1 := by omega
    have q1 : (1 ≤ (l0.length : Int)) = True := eq_true (by omega)
    have q2 : ((l0.length : Int) - 1 < (l0.length : Int)) = True := eq_true (by omega)
    have HX := Aside0.mk hx
    clear hx hp0 hpf hl h5 H4 H3 H2 H1 h
    refine start_ (n := 10) (S := fun w' => w'.cell? ⟨gp, 0, none⟩ = some (.pointer (some ⟨gw, 0, none⟩)) ∧ w'.cell? (ad.add (l0.length - 1)) = some (.int .i64 (rd l0 ((l0.length : Int) - 1)))) (ds := [9]) #[false, false, false, false, false, false, false, false, false, false] (by kernel_rfl) rfl rfl ⟨H5.out.zb5 (i := 0) rfl 0 rfl, pw_cell_below H5.out.bel HX.out⟩ (fun hHeld => ?_)
    refine pure_ (i := 1) (N := some 15) (v := ?_) (a' := ?_) #[false, true, false, false, false, false, false, false, false, false] rfl rfl (by kernel_rfl) (fun _ _ _ h => h) (Or.inl ⟨by rfl, ?_⟩) ?_ ?_
    rotate_left
    · intro w'
      go_simp
      with_reducible rfl
    rotate_left
    · simp only [Act.put, List.setIfInBounds_toArray, List.set_cons_zero, List.set_cons_succ, i64_w, i32_w]
      rfl
    refine pure_ (i := 2) (N := some 16) (v := ?_) (a' := ?_) #[false, true, true, false, false, false, false, false, false, false] rfl rfl (by kernel_rfl) (fun _ _ _ h => h) (Or.inl ⟨by rfl, ?_⟩) ?_ ?_
    rotate_left
    · intro w'
      go_simp
      with_reducible rfl
    rotate_left
    · simp only [Act.put, List.setIfInBounds_toArray, List.set_cons_zero, List.set_cons_succ, i64_w, i32_w]
      rfl
    refine pure_ (i := 3) (N := some 17) (v := ?_) (a' := ?_) #[false, true, true, true, false, false, false, false, false, false] rfl rfl (by kernel_rfl) (fun _ _ _ h => h) (Or.inl ⟨by rfl, ?_⟩) ?_ ?_
    rotate_left
    · intro w'
      go_simp
      with_reducible rfl
    rotate_left
    · simp only [Act.put, List.setIfInBounds_toArray, List.set_cons_zero, List.set_cons_succ, i64_w, i32_w]
      rfl
    refine pure_ (i := 4) (N := some 18) (v := ?_) (a' := ?_) #[false, true, true, true, true, false, false, false, false, false] rfl rfl (by kernel_rfl) (fun _ _ _ h => h) (Or.inl ⟨by rfl, ?_⟩) ?_ ?_
    rotate_left
    · intro w'
      go_simp
      with_reducible rfl
    rotate_left
    · simp only [Act.put, List.setIfInBounds_toArray, List.set_cons_zero, List.set_cons_succ, i64_w, i32_w]
      rfl
    refine pure_ (i := 5) (N := some 19) (v := ?_) (a' := ?_) #[false, true, true, true, true, true, false, false, false, false] rfl rfl (by kernel_rfl) (fun _ _ _ h => h) (Or.inl ⟨by rfl, ?_⟩) ?_ ?_
    rotate_left
    · intro w'
      go_simp
      with_reducible rfl
    rotate_left
    · simp only [Act.put, List.setIfInBounds_toArray, List.set_cons_zero, List.set_cons_succ, i64_w, i32_w]
      rfl
    refine take_ (i := 0) (N := some 14) (v := ?_) (a' := ?_) #[true, true, true, true, true, true, false, false, false, false] rfl rfl (by kernel_rfl) (fun _ _ _ h => h) (Or.inl ⟨by rfl, ?_⟩) hHeld ?_ ?_
    rotate_left
    · rintro w' ⟨s0, s1⟩
      go_simp
      with_reducible rfl
    rotate_left
    · simp only [Act.put, List.setIfInBounds_toArray, List.set_cons_zero, List.set_cons_succ, i64_w, i32_w]
      rfl
    refine take_ (i := 6) (N := some 20) (v := ?_) (a' := ?_) #[true, true, true, true, true, true, true, false, false, false] rfl rfl (by kernel_rfl) (fun _ _ _ h => h) (Or.inl ⟨by rfl, ?_⟩) hHeld ?_ ?_
    rotate_left
    · rintro w' ⟨s0, s1⟩
      go_simp
      with_reducible rfl
    rotate_left
    · simp only [Act.put, List.setIfInBounds_toArray, List.set_cons_zero, List.set_cons_succ, i64_w, i32_w]
      rfl
    refine join_ (σ := Nat) 1 #[true, true, true, true, true, true, true, true, true, false] (fun s_ => [(21, .int .i64 1), (5, .pointer (some ⟨s_, 0, none⟩))]) (fun s_ w' => Fr w w (fun _ => False) [box s_ 3 #[.int .i64 0], box gp 76 #[.pointer (some ⟨gw, 0, none⟩)], wr8 gw [⟨0, rd l0 ((l0.length : Int) - 1), 0⟩], box gr 39 #[.slice none 0 0, .int .i64 0]] w') ?_ ?_
    rotate_left
    · intro hCont
      refine two_ (i := 7) (j := 8) (Ni := some 21) (Nj := some 5) #[true, true, true, true, true, true, true, true, false, false] #[true, true, true, true, true, true, true, false, true, false] rfl rfl rfl rfl (by kernel_rfl) (by decide) (by decide) (fun K hK => ?_) (fun K hK => ?_)
      · skip
        refine goes_ Try.func79 (by kernel_rfl) rfl #[.pointer (some ⟨gw, 0, none⟩), .int .i64 (rd l0 ((l0.length : Int) - 1))] (by rfl) rfl rfl (by simp only [List.map_toArray, List.map_cons, List.map_nil]; rfl) ?_
        with_reducible refine (constant_fr0 (i := 1) (rd l0 ((l0.length : Int) - 1)) H5.out.drew rfl).mono ?_
        rintro e w3 ⟨rfl, k1⟩
        refine ⟨_, rfl, ?_⟩
        have H6 := Aside0.mk k1
        simp only [List.set_cons_zero, List.set_cons_succ] at H6
        clear k1
        refine hK.out _ _ ⟨H6.out.zb5 (i := 0) rfl 0 rfl, pw_cell_below H6.out.bel HX.out⟩ (fun hHeld => ?_)
        clear hK K
        refine norm_ (a' := ?_) ?_ ?_
        rotate_left
        · show Act.put _ (some 21) _ = _
          simp only [Act.put, List.setIfInBounds_toArray, List.set_cons_zero, List.set_cons_succ, i64_w, i32_w]
          rfl
        refine one_ (i := 8) (N := some 5) #[true, true, true, true, true, true, true, true, true, false] rfl rfl (by kernel_rfl) (by decide) (fun K hK => ?_)
        refine box_step ?hg (N := 5) ?hd (cs := #[.int .i64 0]) (t := 3) ?hr ?_; (case hd => rfl); (case hg => rfl); (case hr => first | (go_simp; done) | (go_simp; rfl))
        intro g5 hg5 w3 hbox hb
        have H7 := Aside0.mk (H6.out.box_new hbox hb hg5)
        clear hbox hb hg5
        refine hK.out _ _ ⟨H7.out.zb5 (i := 1) rfl 0 rfl, pw_cell_below H7.out.bel HX.out⟩ (fun hHeld => ?_)
        clear hK K
        refine norm_ (a' := ?_) ?_ ?_
        rotate_left
        · show Act.put _ (some 5) _ = _
          simp only [Act.put, List.setIfInBounds_toArray, List.set_cons_zero, List.set_cons_succ, i64_w, i32_w]
          rfl
        exact norm_ (by simp only [putAll, Act.put, List.setIfInBounds_toArray, List.set_cons_zero, List.set_cons_succ]) (hCont g5 _ H7.out)
      · skip
        refine box_step ?hg (N := 5) ?hd (cs := #[.int .i64 0]) (t := 3) ?hr ?_; (case hd => rfl); (case hg => rfl); (case hr => first | (go_simp; done) | (go_simp; rfl))
        intro g5 hg5 w3 hbox hb
        have H6 := Aside0.mk (H5.out.drew.box_new hbox hb hg5)
        clear hbox hb hg5
        refine hK.out _ _ ⟨H6.out.zb5 (i := 1) rfl 0 rfl, pw_cell_below H6.out.bel HX.out⟩ (fun hHeld => ?_)
        clear hK K
        refine norm_ (a' := ?_) ?_ ?_
        rotate_left
        · show Act.put _ (some 5) _ = _
          simp only [Act.put, List.setIfInBounds_toArray, List.set_cons_zero, List.set_cons_succ, i64_w, i32_w]
          rfl
        refine one_ (i := 7) (N := some 21) #[true, true, true, true, true, true, true, true, true, false] rfl rfl (by kernel_rfl) (by decide) (fun K hK => ?_)
        refine goes_ Try.func79 (by kernel_rfl) rfl #[.pointer (some ⟨gw, 0, none⟩), .int .i64 (rd l0 ((l0.length : Int) - 1))] (by rfl) rfl rfl (by simp only [List.map_toArray, List.map_cons, List.map_nil]; rfl) ?_
        with_reducible refine (constant_fr0 (i := 2) (rd l0 ((l0.length : Int) - 1)) H6.out rfl).mono ?_
        rintro e w3 ⟨rfl, k1⟩
        refine ⟨_, rfl, ?_⟩
        have H7 := Aside0.mk k1
        simp only [List.set_cons_zero, List.set_cons_succ] at H7
        clear k1
        refine hK.out _ _ ⟨H7.out.zb5 (i := 1) rfl 0 rfl, pw_cell_below H7.out.bel HX.out⟩ (fun hHeld => ?_)
        clear hK K
        refine norm_ (a' := ?_) ?_ ?_
        rotate_left
        · show Act.put _ (some 21) _ = _
          simp only [Act.put, List.setIfInBounds_toArray, List.set_cons_zero, List.set_cons_succ, i64_w, i32_w]
          rfl
        exact norm_ (by simp only [putAll, Act.put, List.setIfInBounds_toArray, List.set_cons_zero, List.set_cons_succ]) (hCont g5 _ H7.out)
    intro g5 w6 H6
    have hx5 : w6.cell? ⟨g5, 0, none⟩ = some (.int .i64 0) := H6.zb5 (i := 0) rfl 0 rfl
    have hf5 := za7 (H6.box_at (i := 0) rfl) 0
    have H7 := Aside0.mk H6
    clear H6
    refine norm_ (a' := ?_) ?_ ?_
    rotate_left
    · simp only [putAll, Act.put, List.setIfInBounds_toArray, List.set_cons_zero, List.set_cons_succ]
      rfl
    refine last_ (i := 9) (N := none) #[true, true, true, true, true, true, true, true, true, true] rfl rfl (by kernel_rfl) (by decide) (fun K hK => ?_)
    refine skip_ (w1 := ?_) (by rfl) rfl ?_ ?_
    rotate_left
    · go_simp
      rfl
    refine hK.out _ _ ?_
    clear hK K
    refine done_ (by kernel_rfl) ?_

    have h8 := H7.out.box_set (i := 0) rfl 0 (.int .i64 1) rfl
    simp only [List.set_cons_zero] at h8
    generalize w6.setCell ⟨g5, 0, none⟩ (.int .i64 1) = w7 at h8 ⊢
    have H8 := Aside0.mk (show Fr w w (fun _ => False) [box g5 3 #[.int .i64 1], box gp 76 #[.pointer (some ⟨gw, 0, none⟩)], wr8 gw [⟨0, rd l0 ((l0.length : Int) - 1), 0⟩], box gr 39 #[.slice none 0 0, .int .i64 0]] w7 from h8)
    have hn := HN.out
    have hl := HL.out
    have q3 : ((l0.length : Int) - 1 ≤ (c0 : Int)) = True := eq_true (by omega)
    have q4 : (c0 = 0) = False := eq_false (by omega)
    clear hx5 hf5 H7 H5 hHeld h8 hn hl
    go_wp2_with (go_at_call 57; refine (callsIn_wide.1 (backward_in 3 _ _ _ _)).mono ?_; rintro e w8 ⟨rfl, rfl⟩)
    have hn := HN.out
    have hl := HL.out
    have hzl : (l0.take (l0.length - 1)).length = l0.length - 1 := by rw [List.length_take]; omega
    have hR : Kd.C (Kd.int .i64) w (some ad) (l0.take (l0.length - 1)).length (l0.take (l0.length - 1)) := Kd.C_take HC.out (by omega)
    have H9 := Aside0.mk (H8.out.box_alloc #[.slice (some ad) (l0.length - 1) c0] 22)
    generalize hzs : l0.take (l0.length - 1) = zs at *
    obtain ⟨Bs, hBs⟩ : ∃ Bs, w7.heap.size = Bs := ⟨_, rfl⟩
    have hsz : (w7.alloc (.cells #[.slice (some ad) (l0.length - 1) c0] 22)).heap.size = Bs + 1 := by rw [← hBs]; simp
    rw [hBs] at H9 ⊢
    generalize w7.alloc (.cells #[.slice (some ad) (l0.length - 1) c0] 22) = w8 at *
    have hB8 := H9.out.bel
    have hcB := H9.out.zb5 (i := 0) rfl 0 rfl
    rw [← hzl] at hcB
    refine (wpIn_wide (n := 3)).1 ?_
    refine wpIn_rangeFunc_ownF rfl (by omega) (gf := 94) (lb := #[.pointer (some ⟨Bs, 0, none⟩)]) rfl trivial (enters_of Try.func94 (by kernel_rfl) rfl)
      (backward_stops (3 - 1) (by omega) Bs (some ad) c0 zs w w8 hR hB8 (by omega) hcB) KpB.t (KpB.b hB8.size (by omega)) (Below.refl _ _) (fun _ => rfl)
      (fun pre W => Fr w w (fun _ => False) [box Bs 22 #[.slice (some ad) (l0.length - 1) c0], box g5 3 #[.int .i64 (hoF (rd l0 ((l0.length : Int) - 1)) pre).1], box gp 76 #[.pointer (some ⟨gw, 0, none⟩)], wr8 gw (hoF (rd l0 ((l0.length : Int) - 1)) pre).2, box gr 39 #[.slice none 0 0, .int .i64 0]] W)
      (fun _ _ _ => False) (fun s W W' row hs hg hr => hs.grown hg (fun r e => ⟨by have := (hr r e).1; have := hB8.size; omega, by have := (hr r e).1; have := hB8.size; omega, (hr r e).2⟩))
      (fun _ _ _ _ _ hs _ _ => hs) H9.out
      (fun x => { tmps := #[.slice (some ad) l0.length c0, undef, .pointer (some ⟨gr, 0, none⟩), .bool false, .pointer (some ⟨gp, 0, none⟩), .pointer (some ⟨g5, 0, none⟩), undef, .int .i64 x.2, .slice (some ad) l0.length c0, .bool true, .bool false, undef, .agg #[.slice none 0 0], .pointer (some ⟨gw, 0, none⟩), .pointer (some ⟨gw, 0, none⟩), .slice (some ad) l0.length c0, .slice (some ad) l0.length c0, .int .i64 l0.length, .int .i64 ((l0.length : Int) - 1), .pointer (some (ad.add (l0.length - 1))), .int .i64 (rd l0 ((l0.length : Int) - 1)), .int .i64 1, .slice (some ad) l0.length c0, .slice (some ad) l0.length c0, .int .i64 l0.length, .int .i64 ((l0.length : Int) - 1), .slice (some ad) (l0.length - 1) c0, .func (.func 94) #[] #[.pointer (some ⟨Bs, 0, none⟩)], .int .i64 x.1, .int .i64 x.2, undef, undef, undef, undef, undef, undef, undef, undef, undef, undef, undef, undef, undef, undef], defers := [] }) ?assign ?body ?done ?stop
    case assign =>
      intro l x W K hK
      gi_wp2
      exact hK
    case body =>
      rintro l pre x W hI hlen
      have hmx : Try.prog.follows .mixedOrders = true := by kernel_rfl
      obtain ⟨P1, h1, hP1, hback⟩ := hI.rebase
      have hlq := hoF_length (rd l0 ((l0.length : Int) - 1)) pre
      have hsn := hoF_snoc (rd l0 ((l0.length : Int) - 1)) pre x
      generalize hs : hoF (rd l0 ((l0.length : Int) - 1)) pre = s at h1 hlq hsn
      have HSN := Aside0.mk hsn
      have HLQ := Aside0.mk (show s.2.length ≤ 100 by omega)
      have h0 := h1
      have H0 := Aside0.mk h0
      have HP := Aside0.mk hP1
      have HK := Aside0.mk hback
      have x4 : W.cell? ⟨gp, 0, none⟩ = some (.pointer (some ⟨gw, 0, none⟩)) := h1.zb5 (i := 2) rfl 0 rfl
      have x5 : W.cell? ⟨g5, 0, none⟩ = some (.int .i64 s.1) := h1.zb5 (i := 1) rfl 0 rfl
      have f5 := za7 (h1.box_at (i := 1) rfl) 0
      have HC1 := Aside0.mk (put_fr (i := 3) 3 s.1 0 h1 rfl (by omega))
      simp only [List.set_cons_succ, List.set_cons_zero] at HC1
      clear hI h0 h1 hP1 hback hlq hsn hs hlen hcB hB8 HF HT HX H9 H8 hw1 q1 q2 q3 q4 h0i hi hn hl hu39
      gi_wp2_with (refine ⟨trivial, ?_⟩; gi_at_call 80; refine (CallsIn.inRound l (callsIn_wide.2 HC1.out)).mono ?_; clear HC1; rintro e w3 ⟨rfl, k1⟩; have H1 := Aside0.mk k1; have y5 : w3.cell? ⟨g5, 0, none⟩ = some (.int .i64 s.1) := k1.zb5 (i := 1) rfl 0 rfl; have f6 := za7 (k1.box_at (i := 1) rfl) 0; clear k1)
      have h2 := H1.out.box_set (i := 1) rfl 0 (.int .i64 ((s.2.length : Int) + 1)) rfl
      simp only [List.set_cons_zero, List.set_cons_succ] at h2
      generalize w3.setCell ⟨g5, 0, none⟩ (.int .i64 ((s.2.length : Int) + 1)) = w4 at h2 ⊢
      have H2 := Aside0.mk h2
      clear h2 y5 f6 H1 x4 x5 f5
      refine startR_ (k := 7) (S := fun w' => w'.cell? ⟨gp, 0, none⟩ = some (.pointer (some ⟨gw, 0, none⟩)) ∧ w'.cell? ⟨g5, 0, none⟩ = some (.int .i64 ((s.2.length : Int) + 1))) (ds := [6]) #[false, false, false, false, false, false, false] hmx rfl rfl (by kernel_rfl) (fun ⟨_, _, h⟩ => h) ⟨H2.out.zb5 (i := 2) rfl 0 rfl, H2.out.zb5 (i := 1) rfl 0 rfl⟩ (fun hHeld => ?_)
      refine pure_ (i := 3) (N := some 36) (v := ?_) (a' := ?_) #[false, false, false, true, false, false, false] rfl rfl (by kernel_rfl) (fun _ _ _ h => h) (Or.inl ⟨by rfl, ?_⟩) ?_ ?_
      rotate_left
      · intro w'
        go_simp
        with_reducible rfl
      rotate_left
      · simp only [Act.put, List.setIfInBounds_toArray, List.set_cons_zero, List.set_cons_succ, i64_w, i32_w]
        rfl
      refine take_ (i := 0) (N := some 33) (v := ?_) (a' := ?_) #[true, false, false, true, false, false, false] rfl rfl (by kernel_rfl) (fun _ _ _ h => h) (Or.inl ⟨by rfl, ?_⟩) hHeld ?_ ?_
      rotate_left
      · rintro w' ⟨s0, s1⟩
        go_simp
        with_reducible rfl
      rotate_left
      · simp only [Act.put, List.setIfInBounds_toArray, List.set_cons_zero, List.set_cons_succ, i64_w, i32_w]
        rfl
      refine take_ (i := 1) (N := some 34) (v := ?_) (a' := ?_) #[true, true, false, true, false, false, false] rfl rfl (by kernel_rfl) (fun _ _ _ h => h) (Or.inl ⟨by rfl, ?_⟩) hHeld ?_ ?_
      rotate_left
      · rintro w' ⟨s0, s1⟩
        go_simp
        with_reducible rfl
      rotate_left
      · simp only [Act.put, List.setIfInBounds_toArray, List.set_cons_zero, List.set_cons_succ, i64_w, i32_w]
        rfl
      refine take_ (i := 2) (N := some 35) (v := ?_) (a' := ?_) #[true, true, true, true, false, false, false] rfl rfl (by kernel_rfl) (fun _ _ _ h => h) (Or.inl ⟨by rfl, ?_⟩) hHeld ?_ ?_
      rotate_left
      · rintro w' ⟨s0, s1⟩
        go_simp
        with_reducible rfl
      rotate_left
      · simp only [Act.put, List.setIfInBounds_toArray, List.set_cons_zero, List.set_cons_succ, i64_w, i32_w]
        rfl
      refine one_ (i := 4) (N := some 37) #[true, true, true, true, true, false, false] rfl rfl (by kernel_rfl) (by decide) (fun K hK => ?_)
      refine goes_ Try.func79 (by kernel_rfl) rfl #[.pointer (some ⟨gw, 0, none⟩), .int .i64 x.2] (by rfl) rfl rfl (by simp only [List.map_toArray, List.map_cons, List.map_nil]; rfl) ?_
      with_reducible refine (constant_fr (i := 3) x.2 H2.out.drew rfl (by have := HLQ.out; simp; omega)).mono ?_
      rintro e w5 ⟨rfl, k1⟩
      refine ⟨_, rfl, ?_⟩
      have H3 := Aside0.mk k1
      simp only [List.set_cons_zero, List.set_cons_succ] at H3
      clear k1
      refine hK.out _ _ ⟨H3.out.zb5 (i := 2) rfl 0 rfl, H3.out.zb5 (i := 1) rfl 0 rfl⟩ (fun hHeld => ?_)
      clear hK K
      refine norm_ (a' := ?_) ?_ ?_
      rotate_left
      · show Act.put _ (some 37) _ = _
        simp only [Act.put, List.setIfInBounds_toArray, List.set_cons_zero, List.set_cons_succ, i64_w, i32_w]
        rfl
      refine one_ (i := 5) (N := some 38) #[true, true, true, true, true, true, false] rfl rfl (by kernel_rfl) (by decide) (fun K hK => ?_)
      refine goes_ Try.func80 (by kernel_rfl) rfl #[.pointer (some ⟨gw, 0, none⟩), .int .i64 1, .int .i64 ((s.2.length : Int) + 1), .int .i64 (((s.2 ++ [(⟨3, s.1, 0⟩ : SOp)]).length : Int) + 1)] (by rfl) rfl rfl (by simp only [List.map_toArray, List.map_cons, List.map_nil]; rfl) ?_
      with_reducible refine (put_fr (i := 3) 1 ((s.2.length : Int) + 1) (((s.2 ++ [(⟨3, s.1, 0⟩ : SOp)]).length : Int) + 1) H3.out rfl (by have := HLQ.out; simp; omega)).mono ?_
      rintro e w6 ⟨rfl, k1⟩
      refine ⟨_, rfl, ?_⟩
      have H4 := Aside0.mk k1
      simp only [List.set_cons_zero, List.set_cons_succ] at H4
      clear k1
      refine hK.out _ _ ⟨H4.out.zb5 (i := 2) rfl 0 rfl, H4.out.zb5 (i := 1) rfl 0 rfl⟩ (fun hHeld => ?_)
      clear hK K
      refine norm_ (a' := ?_) ?_ ?_
      rotate_left
      · show Act.put _ (some 38) _ = _
        simp only [Act.put, List.setIfInBounds_toArray, List.set_cons_zero, List.set_cons_succ, i64_w, i32_w]
        rfl
      refine last_ (i := 6) (N := none) #[true, true, true, true, true, true, true] rfl rfl (by kernel_rfl) (by decide) (fun K hK => ?_)
      have y5 : w6.cell? ⟨g5, 0, none⟩ = some (.int .i64 ((s.2.length : Int) + 1)) := H4.out.zb5 (i := 1) rfl 0 rfl
      have f6 := za7 (H4.out.box_at (i := 1) rfl) 0
      refine skip_ (w1 := ?_) (by rfl) rfl ?_ ?_
      rotate_left
      · go_simp
        rfl
      refine hK.out _ _ ?_
      clear hK K
      refine done_ (by kernel_rfl) ?_

      gi_wp2
      have h9 := H4.out.box_set (i := 1) rfl 0 (.int .i64 ((s.2.length : Int) + 2 + 1)) rfl
      simp only [List.set_cons_zero, List.set_cons_succ] at h9
      have e : hoStep s x.2 = ((s.2.length : Int) + 2 + 1, s.2 ++ [(⟨3, s.1, 0⟩ : SOp)] ++ [(⟨0, x.2, 0⟩ : SOp)] ++ [(⟨1, (s.2.length : Int) + 1, ((s.2 ++ [(⟨3, s.1, 0⟩ : SOp)]).length : Int) + 1⟩ : SOp)]) := by
        unfold hoStep
        simp only [List.length_append, List.length_cons, List.length_nil]
        rw [show ((s.2.length + (0 + 1) : Nat) : Int) + 1 = (s.2.length : Int) + 2 by omega, show (s.2.length : Int) + 2 + 1 = (s.2.length : Int) + 3 by omega]
      have hb0 := H0.out.bel
      have hb9 := h9.bel
      refine ⟨h9.others HP.out, ⟨⟨hb9.os.trans hb0.os.symm, hb9.tape.trans hb0.tape.symm, hb9.output.trans hb0.output.symm, h9.kept.1, fun i hi => (hb9.block i hi).trans (hb0.block i hi).symm⟩, (h9.zb5 (i := 0) rfl 0 rfl).trans (H0.out.zb5 (i := 0) rfl 0 rfl).symm⟩, ?_⟩
      show Fr w w _ _ _
      rw [HSN.out, e]
      exact HK.out _ _ h9
    case done =>
      rintro D ys W hD rfl hI hK
      obtain ⟨P1, h1, hP1, hback⟩ := hI.rebase
      have H0 := Aside0.mk h1
      have HP := Aside0.mk hP1
      have HBK := Aside0.mk hback
      have HD := Aside0.mk hK
      have HSZ := Aside0.mk (show w.heap.size ≤ D by have := hB8.size; omega)
      have x4 : W.cell? ⟨gp, 0, none⟩ = some (.pointer (some ⟨gw, 0, none⟩)) := h1.zb5 (i := 2) rfl 0 rfl
      have x5 := h1.zb5 (i := 1) rfl 0 rfl
      have HC1 := Aside0.mk (code_fr (i := 3) k h1 rfl HF.out)
      simp only [List.set_cons_succ, List.set_cons_zero] at HC1
      generalize hoF (rd l0 ((l0.length : Int) - 1)) (bwd zs zs.length) = s at *
      clear hI h1 hP1 hback hcB hB8 HF HT HX H9 H8 hw1 q1 q2 q3 q4 h0i hi hn hl hK
      go_wp2_with (go_at_call 81; refine HC1.out.mono ?_; clear HC1; rintro e w9 ⟨v, rfl, k1⟩; have H2 := Aside0.mk k1; obtain ⟨A6, c6, rfl, _, _⟩ := k1.row_reads (i := 0) rfl; have hs0 : w9.cell? ⟨gr, 0, none⟩ = some (.slice none 0 0) := k1.zb5 (i := 5) rfl 0 rfl; have hs1 : w9.cell? ⟨gr, 1, none⟩ = some (.int .i64 0) := k1.zb5 (i := 5) rfl 1 rfl; have hf0 := za7 (k1.box_at (i := 5) rfl) 0; have hf1 := za7 (k1.box_at (i := 5) rfl) 1; clear k1)
      have h4 := (H2.out.box_set (i := 5) rfl 0 (.slice A6 r1.length c6) rfl).box_set (i := 5) rfl 1 (.int .i64 r2) rfl
      simp only [List.set_cons_succ, List.set_cons_zero] at h4
      generalize (w9.setCell ⟨gr, 0, none⟩ (.slice A6 r1.length c6)).setCell ⟨gr, 1, none⟩ (.int .i64 r2) = w10 at h4 ⊢
      have hK' := (h4.others HP.out).same D _ HD.out rfl
      have hlt := (Array.getElem?_eq_some_iff.1 hK').1
      refine ⟨by simp, .inl ⟨_, _, rfl, run_takeDeferred hK', ?_⟩⟩
      have h5 := (HBK.out _ _ h4).grown (grownBy_putObj' w10 D (.deferred none)) (fun r e => by cases e; exact ⟨HSZ.out, HSZ.out, _, hK', rfl⟩)
      exact ⟨_, results_ct rfl _ _ gr 39 #[.slice A6 r1.length c6, .int .i64 r2] (0, 0) _ rfl (h5.box_at (i := 5) rfl) Try.underlying39 rfl (by kernel_rfl), _, rfl, h5.row_R (i := 0) rfl, h5.bel⟩
    case stop =>
      rintro D c pre W _ _ h _
      exact h.elim

/-! ### laws_FnExactHornerCode: function 12 -/
mutual
def laws_FnExactHornerCode.j0 : Nat → List Int → Bool → List Int → Bool → Bool → List (S69) → Int → List (S69) → Int → Option (Bool)
  | 0, _, _, _, _, _, _, _, _, _ => none
  | k + 1, x0, x4, x5, x7, x37, x457000, x457001, x466000, x466001 => if x37 = true then (some false) else ((laws_toIntS.f k x0).bind fun t467 => ((laws_eqIntS.f k x5 t467).bind fun t470 => (if t470 = true then ((laws_markIntS.f k x5 1).bind fun bt471 => (if bt471.1 < 0 then (laws_FnExactHornerCode.j1 k x0 x4 true x457000 x457001 x466000 x466001) else ((laws_eqCode.f k x466000 x466001 x457000 x457001).bind fun t473 => (if t473 = true then (laws_FnExactHornerCode.j1 k x0 x4 (x7 != x4) x457000 x457001 x466000 x466001) else (laws_FnExactHornerCode.j1 k x0 x4 true x457000 x457001 x466000 x466001))))) else (some false))))
def laws_FnExactHornerCode.j1 : Nat → List Int → Bool → Bool → List (S69) → Int → List (S69) → Int → Option (Bool)
  | 0, _, _, _, _, _, _, _ => none
  | k + 1, x0, x4, x58, x457000, x457001, x466000, x466001 => if x58 = true then (some false) else ((laws_markCode.f k x466000 x466001 1).bind fun bt474 => ((laws_heldCode.f k bt474.2 x466001 1).bind fun t476 => (if t476 < 0 then (some false) else (if t476 = bt474.1 then ((laws_toIntS.f k x0).bind fun t477 => ((impl_HornerCode.f k t477).bind fun bt480 => ((laws_eqCode.f k bt480.1 bt480.2.1 x457000 x457001).bind fun t486 => (if t486 = true then (laws_FnExactHornerCode.j2 k bt474.1 (bt480.2.2 != x4) bt474.2 x466001) else (laws_FnExactHornerCode.j2 k bt474.1 true bt474.2 x466001))))) else (some false)))))
def laws_FnExactHornerCode.j2 : Nat → Int → Bool → List (S69) → Int → Option (Bool)
  | 0, _, _, _, _ => none
  | k + 1, x9, x84, x466000, x466001 => if x84 = true then (some false) else ((laws_heldCode.f k x466000 x466001 1).bind fun t487 => (if t487 < 0 then (some false) else (if t487 = x9 then (some true) else (some false))))
end
def laws_FnExactHornerCode.f (k : Nat) (l0 : List Int) : Option (Bool) := if (l0.length : Int) > 1048576 then (some true) else ((laws_toIntS.f k l0).bind fun t448 => ((spec_HornerCode.f k t448).bind fun bt451 => ((laws_toIntS.f k l0).bind fun t457 => ((impl_HornerCode.f k t457).bind fun bt460 => ((laws_eqCode.f k bt460.1 bt460.2.1 bt451.1 bt451.2.1).bind fun t466 => (if t466 = true then (laws_FnExactHornerCode.j0 k l0 bt451.2.2 t457 bt460.2.2 (bt460.2.2 != bt451.2.2) bt451.1 bt451.2.1 bt460.1 bt460.2.1) else (laws_FnExactHornerCode.j0 k l0 bt451.2.2 t457 bt460.2.2 true bt451.1 bt451.2.1 bt460.1 bt460.2.1)))))))
theorem laws_FnExactHornerCode.zb2 : ∀ k, (∀ y0 y1 y2 y3 y4 y5 y6 y7 y8, LeO (laws_FnExactHornerCode.j0 k y0 y1 y2 y3 y4 y5 y6 y7 y8) (laws_FnExactHornerCode.j0 (k + 1) y0 y1 y2 y3 y4 y5 y6 y7 y8)) ∧ (∀ y0 y1 y2 y3 y4 y5 y6, LeO (laws_FnExactHornerCode.j1 k y0 y1 y2 y3 y4 y5 y6) (laws_FnExactHornerCode.j1 (k + 1) y0 y1 y2 y3 y4 y5 y6)) ∧ (∀ y0 y1 y2 y3, LeO (laws_FnExactHornerCode.j2 k y0 y1 y2 y3) (laws_FnExactHornerCode.j2 (k + 1) y0 y1 y2 y3))
  | 0 => ⟨fun _ _ _ _ _ _ _ _ _ r h => by simp [laws_FnExactHornerCode.j0] at h, fun _ _ _ _ _ _ _ r h => by simp [laws_FnExactHornerCode.j1] at h, fun _ _ _ _ r h => by simp [laws_FnExactHornerCode.j2] at h⟩
  | k + 1 => by
    obtain ⟨ih0, ih1, ih2⟩ := laws_FnExactHornerCode.zb2 k
    refine ⟨?_, ?_, ?_⟩
    · intro y0 y1 y2 y3 y4 y5 y6 y7 y8
      unfold laws_FnExactHornerCode.j0
      repeat' first
      | (with_reducible exact ih0 _ _ _ _ _ _ _ _ _)
      | (with_reducible exact ih1 _ _ _ _ _ _ _)
      | (with_reducible exact ih2 _ _ _ _)
      | (with_reducible exact impl_HornerCode.mono _ _)
      | (with_reducible exact laws_eqCode.mono _ _ _ _ _)
      | (with_reducible exact laws_eqIntS.mono _ _ _)
      | (with_reducible exact laws_heldCode.mono _ _ _ _)
      | (with_reducible exact laws_markCode.mono _ _ _ _)
      | (with_reducible exact laws_markIntS.mono _ _ _)
      | (with_reducible exact laws_toIntS.mono _ _)
      | (with_reducible exact spec_HornerCode.mono _ _)
      | (with_reducible exact LeO.refl _)
      | (with_reducible exact LeO.none _)
      | (with_reducible refine LeO.ite ?_ ?_)
      | (with_reducible refine LeO.bind ?_ (fun _ => ?_))
      | exact ih0 _ _ _ _ _ _ _ _ _
      | exact ih1 _ _ _ _ _ _ _
      | exact ih2 _ _ _ _
      | exact impl_HornerCode.mono _ _
      | exact laws_eqCode.mono _ _ _ _ _
      | exact laws_eqIntS.mono _ _ _
      | exact laws_heldCode.mono _ _ _ _
      | exact laws_markCode.mono _ _ _ _
      | exact laws_markIntS.mono _ _ _
      | exact laws_toIntS.mono _ _
      | exact spec_HornerCode.mono _ _
      | exact LeO.none _
      | refine LeO.ite ?_ ?_
      | refine LeO.bind ?_ (fun _ => ?_)
    · intro y0 y1 y2 y3 y4 y5 y6
      unfold laws_FnExactHornerCode.j1
      repeat' first
      | (with_reducible exact ih0 _ _ _ _ _ _ _ _ _)
      | (with_reducible exact ih1 _ _ _ _ _ _ _)
      | (with_reducible exact ih2 _ _ _ _)
      | (with_reducible exact impl_HornerCode.mono _ _)
      | (with_reducible exact laws_eqCode.mono _ _ _ _ _)
      | (with_reducible exact laws_eqIntS.mono _ _ _)
      | (with_reducible exact laws_heldCode.mono _ _ _ _)
      | (with_reducible exact laws_markCode.mono _ _ _ _)
      | (with_reducible exact laws_markIntS.mono _ _ _)
      | (with_reducible exact laws_toIntS.mono _ _)
      | (with_reducible exact spec_HornerCode.mono _ _)
      | (with_reducible exact LeO.refl _)
      | (with_reducible exact LeO.none _)
      | (with_reducible refine LeO.ite ?_ ?_)
      | (with_reducible refine LeO.bind ?_ (fun _ => ?_))
      | exact ih0 _ _ _ _ _ _ _ _ _
      | exact ih1 _ _ _ _ _ _ _
      | exact ih2 _ _ _ _
      | exact impl_HornerCode.mono _ _
      | exact laws_eqCode.mono _ _ _ _ _
      | exact laws_eqIntS.mono _ _ _
      | exact laws_heldCode.mono _ _ _ _
      | exact laws_markCode.mono _ _ _ _
      | exact laws_markIntS.mono _ _ _
      | exact laws_toIntS.mono _ _
      | exact spec_HornerCode.mono _ _
      | exact LeO.none _
      | refine LeO.ite ?_ ?_
      | refine LeO.bind ?_ (fun _ => ?_)
    · intro y0 y1 y2 y3
      unfold laws_FnExactHornerCode.j2
      repeat' first
      | (with_reducible exact ih0 _ _ _ _ _ _ _ _ _)
      | (with_reducible exact ih1 _ _ _ _ _ _ _)
      | (with_reducible exact ih2 _ _ _ _)
      | (with_reducible exact impl_HornerCode.mono _ _)
      | (with_reducible exact laws_eqCode.mono _ _ _ _ _)
      | (with_reducible exact laws_eqIntS.mono _ _ _)
      | (with_reducible exact laws_heldCode.mono _ _ _ _)
      | (with_reducible exact laws_markCode.mono _ _ _ _)
      | (with_reducible exact laws_markIntS.mono _ _ _)
      | (with_reducible exact laws_toIntS.mono _ _)
      | (with_reducible exact spec_HornerCode.mono _ _)
      | (with_reducible exact LeO.refl _)
      | (with_reducible exact LeO.none _)
      | (with_reducible refine LeO.ite ?_ ?_)
      | (with_reducible refine LeO.bind ?_ (fun _ => ?_))
      | exact ih0 _ _ _ _ _ _ _ _ _
      | exact ih1 _ _ _ _ _ _ _
      | exact ih2 _ _ _ _
      | exact impl_HornerCode.mono _ _
      | exact laws_eqCode.mono _ _ _ _ _
      | exact laws_eqIntS.mono _ _ _
      | exact laws_heldCode.mono _ _ _ _
      | exact laws_markCode.mono _ _ _ _
      | exact laws_markIntS.mono _ _ _
      | exact laws_toIntS.mono _ _
      | exact spec_HornerCode.mono _ _
      | exact LeO.none _
      | refine LeO.ite ?_ ?_
      | refine LeO.bind ?_ (fun _ => ?_)
theorem laws_FnExactHornerCode.mono : ∀ a0 k, LeO (laws_FnExactHornerCode.f k a0) (laws_FnExactHornerCode.f (k + 1) a0) := by
  intro a0 k
  obtain ⟨ih0, ih1, ih2⟩ := laws_FnExactHornerCode.zb2 k
  unfold laws_FnExactHornerCode.f
  repeat' first
      | (with_reducible exact ih0 _ _ _ _ _ _ _ _ _)
      | (with_reducible exact ih1 _ _ _ _ _ _ _)
      | (with_reducible exact ih2 _ _ _ _)
      | (with_reducible exact impl_HornerCode.mono _ _)
      | (with_reducible exact laws_eqCode.mono _ _ _ _ _)
      | (with_reducible exact laws_eqIntS.mono _ _ _)
      | (with_reducible exact laws_heldCode.mono _ _ _ _)
      | (with_reducible exact laws_markCode.mono _ _ _ _)
      | (with_reducible exact laws_markIntS.mono _ _ _)
      | (with_reducible exact laws_toIntS.mono _ _)
      | (with_reducible exact spec_HornerCode.mono _ _)
      | (with_reducible exact LeO.refl _)
      | (with_reducible exact LeO.none _)
      | (with_reducible refine LeO.ite ?_ ?_)
      | (with_reducible refine LeO.bind ?_ (fun _ => ?_))
      | exact ih0 _ _ _ _ _ _ _ _ _
      | exact ih1 _ _ _ _ _ _ _
      | exact ih2 _ _ _ _
      | exact impl_HornerCode.mono _ _
      | exact laws_eqCode.mono _ _ _ _ _
      | exact laws_eqIntS.mono _ _ _
      | exact laws_heldCode.mono _ _ _ _
      | exact laws_markCode.mono _ _ _ _
      | exact laws_markIntS.mono _ _ _
      | exact laws_toIntS.mono _ _
      | exact spec_HornerCode.mono _ _
      | exact LeO.none _
      | refine LeO.ite ?_ ?_
      | refine LeO.bind ?_ (fun _ => ?_)
set_option maxHeartbeats 8000000 in
set_option maxRecDepth 100000 in
theorem laws_FnExactHornerCode.calls (k : Nat) (A0 : Option Addr) (c0 : Nat) (l0 : List Int) (r : Bool) (w : World) (hr0 : Kd.C (Kd.int .i64) w A0 l0.length l0) (hc0 : l0.length ≤ c0) (h : laws_FnExactHornerCode.f k l0 = some r) :
    Calls Try.prog 12 #[.slice A0 l0.length c0] w fun e w' => e = .returned (.bool r) ∧ Below w.heap.size w w' := by
  have hu39 := Try.underlying39
  have HR0 := Aside0.mk hr0
  have HC0 := Aside0.mk hc0
  clear hr0 hc0
  have HB := Aside0.mk (Below.refl w.heap.size w)
  have H : (if (l0.length : Int) > 1048576 then (some true) else ((laws_toIntS.f k l0).bind fun t448 => ((spec_HornerCode.f k t448).bind fun bt451 => ((laws_toIntS.f k l0).bind fun t457 => ((impl_HornerCode.f k t457).bind fun bt460 => ((laws_eqCode.f k bt460.1 bt460.2.1 bt451.1 bt451.2.1).bind fun t466 => (if t466 = true then (laws_FnExactHornerCode.j0 k l0 bt451.2.2 t457 bt460.2.2 (bt460.2.2 != bt451.2.2) bt451.1 bt451.2.1 bt460.1 bt460.2.1) else (laws_FnExactHornerCode.j0 k l0 bt451.2.2 t457 bt460.2.2 true bt451.1 bt451.2.1 bt460.1 bt460.2.1)))))))) = some r := h
  clear h
  by_cases c2 : (l0.length : Int) > 1048576
  · rw [if_pos c2] at H
    have c2b0 : decide (1048576 < (l0.length : Int)) = true := decide_eq_true c2
    have c2b1 : decide (1048576 < l0.length) = true := decide_eq_true (by omega)
    clear c2
    obtain rfl := Option.some.inj H
    go_enter Try.func12, Try.ntmps12
    go_wp2
    go_ret
    exact ⟨by first | rfl | (simp [zae, zad] <;> rfl) | (simp [*, zae, zad] <;> rfl), by repeat (first | (with_reducible first | exact HB.out | apply za2 | apply za0 | apply za1) | exact HB.out)⟩
  · rw [if_neg c2] at H
    have c2b0 : decide (1048576 < (l0.length : Int)) = false := decide_eq_false c2
    have c2b1 : decide (1048576 < l0.length) = false := decide_eq_false (by omega)
    clear c2
    replace H := Option.bind_eq_some_iff.mp H
    obtain ⟨t448, A30, H⟩ := H
    replace H : ((spec_HornerCode.f k t448).bind fun bt451 => ((laws_toIntS.f k l0).bind fun t457 => ((impl_HornerCode.f k t457).bind fun bt460 => ((laws_eqCode.f k bt460.1 bt460.2.1 bt451.1 bt451.2.1).bind fun t466 => (if t466 = true then (laws_FnExactHornerCode.j0 k l0 bt451.2.2 t457 bt460.2.2 (bt460.2.2 != bt451.2.2) bt451.1 bt451.2.1 bt460.1 bt460.2.1) else (laws_FnExactHornerCode.j0 k l0 bt451.2.2 t457 bt460.2.2 true bt451.1 bt451.2.1 bt460.1 bt460.2.1)))))) = some r := H
    have A3 := Aside0.mk A30
    clear A30
    replace H := Option.bind_eq_some_iff.mp H
    obtain ⟨⟨t451, t454, t455⟩, A40, H⟩ := H
    replace H : ((laws_toIntS.f k l0).bind fun t457 => ((impl_HornerCode.f k t457).bind fun bt460 => ((laws_eqCode.f k bt460.1 bt460.2.1 t451 t454).bind fun t466 => (if t466 = true then (laws_FnExactHornerCode.j0 k l0 t455 t457 bt460.2.2 (bt460.2.2 != t455) t451 t454 bt460.1 bt460.2.1) else (laws_FnExactHornerCode.j0 k l0 t455 t457 bt460.2.2 true t451 t454 bt460.1 bt460.2.1))))) = some r := H
    have A4 := Aside0.mk A40
    clear A40
    replace H := Option.bind_eq_some_iff.mp H
    obtain ⟨t457, A50, H⟩ := H
    replace H : ((impl_HornerCode.f k t457).bind fun bt460 => ((laws_eqCode.f k bt460.1 bt460.2.1 t451 t454).bind fun t466 => (if t466 = true then (laws_FnExactHornerCode.j0 k l0 t455 t457 bt460.2.2 (bt460.2.2 != t455) t451 t454 bt460.1 bt460.2.1) else (laws_FnExactHornerCode.j0 k l0 t455 t457 bt460.2.2 true t451 t454 bt460.1 bt460.2.1)))) = some r := H
    have A5 := Aside0.mk A50
    clear A50
    replace H := Option.bind_eq_some_iff.mp H
    obtain ⟨⟨t460, t463, t464⟩, A60, H⟩ := H
    replace H : ((laws_eqCode.f k t460 t463 t451 t454).bind fun t466 => (if t466 = true then (laws_FnExactHornerCode.j0 k l0 t455 t457 t464 (t464 != t455) t451 t454 t460 t463) else (laws_FnExactHornerCode.j0 k l0 t455 t457 t464 true t451 t454 t460 t463))) = some r := H
    have A6 := Aside0.mk A60
    clear A60
    have HC7 := Aside0.mk H
    clear H
    go_enter Try.func12, Try.ntmps12
    go_upto_region 6 with (first | ((with_reducible refine zaj (f := 17) rfl ?_); refine zaz (some 18) rfl rfl Try.func17 (by kernel_rfl) rfl #[.slice A0 l0.length c0] rfl (by (try simp only [List.map_toArray, List.map_cons, List.map_nil]); first | done | rfl | (simp only [List.length_drop, List.length_take]; rfl)) ?_; (with_reducible refine (laws_toIntS.calls k _ _ l0 t448 _ ?side1 ?side2 A3.out).mono ?_); (case side1 => repeat (first | exact HR0.out | (with_reducible refine Kd.zao ?_ _) | (with_reducible refine Kd.zaq ?_ _) | (with_reducible refine Kd.zau ?_))); (case side2 => exact HC0.out); rintro e w8 ⟨v449, rfl, ho0, hb⟩; refine ⟨_, rfl, ?_⟩; have n0_ := Aside0.mk (Kd.zb1 ho0 (za9 (by repeat (first | (with_reducible first | exact HB.out | apply za2 | apply za0 | apply za1) | exact HB.out)))); have n1_ := Aside0.mk (zab (by repeat (first | (with_reducible first | exact HB.out | apply za2 | apply za0 | apply za1) | exact HB.out)) hb); clear HB; have HO450 := n0_; have HB := n1_; clear n0_ n1_; (try clear hb); (try clear hb2); (try clear hk); (try clear hi); (try clear ho0); obtain ⟨Ao9, co9, eo9⟩ := Kd.zay HO450.out; subst eo9) | ((with_reducible refine zaj (f := 42) rfl ?_); refine zaz (some 19) rfl rfl Try.func42 (by kernel_rfl) rfl #[.slice Ao9 t448.length co9] rfl (by (try simp only [List.map_toArray, List.map_cons, List.map_nil]); first | done | rfl | (simp only [List.length_drop, List.length_take]; rfl)) ?_; (with_reducible refine (spec_HornerCode.calls k _ _ t448 t451 t454 t455 _ ?side1 ?side2 A4.out).mono ?_); (case side1 => repeat (first | exact (Kd.R_reads' HO450.out).2.2 | (with_reducible refine Kd.zao ?_ _) | (with_reducible refine Kd.zaq ?_ _) | (with_reducible refine Kd.zau ?_))); (case side2 => exact (Kd.R_reads' HO450.out).2.1); rintro e w10 ⟨v452, rfl, ho0, hb⟩; refine ⟨_, rfl, ?_⟩; have n0_ := Aside0.mk (Kd.zan (by (with_reducible repeat (first | apply Kd.zah | apply Kd.zaf | apply Kd.zai)); exact HO450.out) hb); have n1_ := Aside0.mk (Kd.zb1 ho0 (za9 (by repeat (first | (with_reducible first | exact HB.out | apply za2 | apply za0 | apply za1) | exact HB.out)))); have n2_ := Aside0.mk (zab (by repeat (first | (with_reducible first | exact HB.out | apply za2 | apply za0 | apply za1) | exact HB.out)) hb); clear HO450; clear HB; have HO450 := n0_; have HO453 := n1_; have HB := n2_; clear n0_ n1_ n2_; (try clear hb); (try clear hb2); (try clear hk); (try clear hi); (try clear ho0)) | ((with_reducible refine zak (N := 3) rfl ?_); refine zam ?hg (N := 3) ?hd (cs := #[.slice none 0 0, .int .i64 0]) (t := 39) ?hr ?_; (case hd => rfl); (case hg => rfl); (case hr => first | (go_simp; done) | (go_simp; rfl)); intro gb456 hg w11 hbox hb; have n0_ := Aside0.mk (Kd.zan (by (with_reducible repeat (first | apply Kd.zah | apply Kd.zaf | apply Kd.zai)); exact HO450.out) hb); have n1_ := Aside0.mk (Kd.zan (by (with_reducible repeat (first | apply Kd.zah | apply Kd.zaf | apply Kd.zai)); exact HO453.out) hb); have n2_ := Aside0.mk (zab (by repeat (first | (with_reducible first | exact HB.out | apply za2 | apply za0 | apply za1) | exact HB.out)) hb); have n3_ := Aside0.mk (hbox); have n4_ := Aside0.mk ((by rw [hg]; exact (za9 (by repeat (first | (with_reducible first | exact HB.out | apply za2 | apply za0 | apply za1) | exact HB.out))) : w.heap.size ≤ gb456)); have n5_ := Aside0.mk ((by rw [hg]; exact (za9 (by repeat (first | (with_reducible first | exact HB.out | apply za2 | apply za0 | apply za1) | exact HB.out))) : w.heap.size ≤ gb456)); clear HO450; clear HO453; clear HB; have HO450 := n0_; have HO453 := n1_; have HB := n2_; have BK456 := n3_; have GW456 := n4_; have GE456 := n5_; clear n0_ n1_ n2_ n3_ n4_ n5_; clear hb hbox hg; obtain ⟨Ao12, co12, eo12⟩ := Kd.zay HO453.out; subst eo12; have hcz13_0 : w11.cell? ⟨gb456, 0, none⟩ = some (.slice none 0 0) := (za8 BK456.out 0).trans rfl; have hcz13_1 : w11.cell? ⟨gb456, 1, none⟩ = some (.int .i64 0) := (za8 BK456.out 1).trans rfl; have hfz13_0 := za7 BK456.out 0; have hfz13_1 := za7 BK456.out 1) | ((with_reducible refine zaj (f := 17) rfl ?_); refine zaz (some 23) rfl rfl Try.func17 (by kernel_rfl) rfl #[.slice A0 l0.length c0] rfl (by (try simp only [List.map_toArray, List.map_cons, List.map_nil]); first | done | rfl | (simp only [List.length_drop, List.length_take]; rfl)) ?_; (with_reducible refine (laws_toIntS.calls k _ _ l0 t457 _ ?side1 ?side2 A5.out).mono ?_); (case side1 => exact Kd.zb3 HR0.out (by repeat (first | (with_reducible first | exact HB.out | apply za2 | apply za0 | apply za1 | refine za3 ?_ GE456.out) | exact HB.out))); (case side2 => exact HC0.out); rintro e w14 ⟨v458, rfl, ho0, hb⟩; refine ⟨_, rfl, ?_⟩; have n0_ := Aside0.mk (Kd.R_elder' (by (with_reducible repeat (first | apply Kd.zah | apply Kd.zaf | apply Kd.zai)); exact (Kd.zas (Kd.R_far (p := ⟨gb456, 1, none⟩) (Kd.R_far (p := ⟨gb456, 0, none⟩) (Kd.zar HO450.out BK456.out (by decide)) (fun _ hk => hk.2) (.slice Ao12 t451.length co12)) (fun _ hk => hk.2) (.int .i64 t454)) (fun _ h_ => h_.1))) (Kd.R_base ho0) hb); have n1_ := Aside0.mk (Kd.zan (by (with_reducible repeat (first | apply Kd.zah | apply Kd.zaf | apply Kd.zai)); exact (Kd.zas (Kd.R_far (p := ⟨gb456, 1, none⟩) (Kd.R_far (p := ⟨gb456, 0, none⟩) (Kd.zar HO453.out BK456.out (by decide)) (fun _ hk => hk.2) (.slice Ao12 t451.length co12)) (fun _ hk => hk.2) (.int .i64 t454)) (fun _ h_ => h_.1))) hb); have n2_ := Aside0.mk (Kd.zb1 (Kd.R_new' ho0 (Kd.R_lt (by (with_reducible repeat (first | apply Kd.zah | apply Kd.zaf | apply Kd.zai)); exact (Kd.zas (Kd.R_far (p := ⟨gb456, 1, none⟩) (Kd.R_far (p := ⟨gb456, 0, none⟩) (Kd.zar HO450.out BK456.out (by decide)) (fun _ hk => hk.2) (.slice Ao12 t451.length co12)) (fun _ hk => hk.2) (.int .i64 t454)) (fun _ h_ => h_.1))))) (za9 (by repeat (first | (with_reducible first | exact HB.out | apply za2 | apply za0 | apply za1 | refine za3 ?_ GE456.out) | exact HB.out)))); have n3_ := Aside0.mk (zac (g := gb456) (o := .cells #[.slice Ao12 t451.length co12, .int .i64 t454] 39 (0, 0)) (by (with_reducible repeat (first | refine za4 ?_ _ | refine za6 ?_ | refine za5 ?_ _)); refine zat (cs := #[.slice Ao12 t451.length co12, .int .i64 0]) ?_ 1 _ rfl; (with_reducible repeat (first | refine za4 ?_ _ | refine za6 ?_ | refine za5 ?_ _)); refine zat (cs := #[.slice none 0 0, .int .i64 0]) ?_ 0 _ rfl; (with_reducible repeat (first | refine za4 ?_ _ | refine za6 ?_ | refine za5 ?_ _)); exact BK456.out) hb); have n4_ := Aside0.mk (zab (by repeat (first | (with_reducible first | exact HB.out | apply za2 | apply za0 | apply za1 | refine za3 ?_ GE456.out) | exact HB.out)) hb); clear HO450; clear HO453; clear BK456; clear HB; have HO450 := n0_; have HO453 := n1_; have HO459 := n2_; have BK456 := n3_; have HB := n4_; clear n0_ n1_ n2_ n3_ n4_; (try clear hb); (try clear hb2); (try clear hk); (try clear hi); (try clear ho0); obtain ⟨Ao15, co15, eo15⟩ := Kd.zay HO459.out; subst eo15) | ((with_reducible refine zaj (f := 43) rfl ?_); refine zaz (some 26) rfl rfl Try.func43 (by kernel_rfl) rfl #[.slice Ao15 t457.length co15] rfl (by (try simp only [List.map_toArray, List.map_cons, List.map_nil]); first | done | rfl | (simp only [List.length_drop, List.length_take]; rfl)) ?_; (with_reducible refine (impl_HornerCode.calls k _ _ t457 t460 t463 t464 _ ?side1 ?side2 A6.out).mono ?_); (case side1 => repeat (first | exact (Kd.R_reads' HO459.out).2.2 | (with_reducible refine Kd.zao ?_ _) | (with_reducible refine Kd.zaq ?_ _) | (with_reducible refine Kd.zau ?_))); (case side2 => exact (Kd.R_reads' HO459.out).2.1); rintro e w16 ⟨v461, rfl, ho0, hb⟩; refine ⟨_, rfl, ?_⟩; have n0_ := Aside0.mk (Kd.zan (by (with_reducible repeat (first | apply Kd.zah | apply Kd.zaf | apply Kd.zai)); exact HO450.out) hb); have n1_ := Aside0.mk (Kd.R_elder' (by (with_reducible repeat (first | apply Kd.zah | apply Kd.zaf | apply Kd.zai)); exact HO453.out) (Kd.R_base ho0) hb); have n2_ := Aside0.mk (Kd.zan (by (with_reducible repeat (first | apply Kd.zah | apply Kd.zaf | apply Kd.zai)); exact HO459.out) hb); have n3_ := Aside0.mk (Kd.zb1 (Kd.R_new' ho0 (Kd.R_lt (by (with_reducible repeat (first | apply Kd.zah | apply Kd.zaf | apply Kd.zai)); exact HO453.out))) (za9 (by repeat (first | (with_reducible first | exact HB.out | apply za2 | apply za0 | apply za1 | refine za3 ?_ GE456.out) | exact HB.out)))); have n4_ := Aside0.mk (zac (g := gb456) (o := .cells #[.slice Ao12 t451.length co12, .int .i64 t454] 39 (0, 0)) (by (with_reducible repeat (first | refine za4 ?_ _ | refine za6 ?_ | refine za5 ?_ _)); exact BK456.out) hb); have n5_ := Aside0.mk (zab (by repeat (first | (with_reducible first | exact HB.out | apply za2 | apply za0 | apply za1 | refine za3 ?_ GE456.out) | exact HB.out)) hb); clear HO450; clear HO453; clear HO459; clear BK456; clear HB; have HO450 := n0_; have HO453 := n1_; have HO459 := n2_; have HO462 := n3_; have BK456 := n4_; have HB := n5_; clear n0_ n1_ n2_ n3_ n4_ n5_; (try clear hb); (try clear hb2); (try clear hk); (try clear hi); (try clear ho0)) | ((with_reducible refine zak (N := 6) rfl ?_); refine zam ?hg (N := 6) ?hd (cs := #[.slice none 0 0, .int .i64 0]) (t := 39) ?hr ?_; (case hd => rfl); (case hg => rfl); (case hr => first | (go_simp; done) | (go_simp; rfl)); intro gb465 hg w17 hbox hb; have n0_ := Aside0.mk (Kd.zan (by (with_reducible repeat (first | apply Kd.zah | apply Kd.zaf | apply Kd.zai)); exact HO450.out) hb); have n1_ := Aside0.mk (Kd.zan (by (with_reducible repeat (first | apply Kd.zah | apply Kd.zaf | apply Kd.zai)); exact HO453.out) hb); have n2_ := Aside0.mk (Kd.zan (by (with_reducible repeat (first | apply Kd.zah | apply Kd.zaf | apply Kd.zai)); exact HO459.out) hb); have n3_ := Aside0.mk (Kd.zan (by (with_reducible repeat (first | apply Kd.zah | apply Kd.zaf | apply Kd.zai)); exact HO462.out) hb); have n4_ := Aside0.mk (zac (g := gb456) (o := .cells #[.slice Ao12 t451.length co12, .int .i64 t454] 39 (0, 0)) (by (with_reducible repeat (first | refine za4 ?_ _ | refine za6 ?_ | refine za5 ?_ _)); exact BK456.out) hb); have n5_ := Aside0.mk (zab (by repeat (first | (with_reducible first | exact HB.out | apply za2 | apply za0 | apply za1 | refine za3 ?_ GE456.out) | exact HB.out)) hb); have n6_ := Aside0.mk (hbox); have n7_ := Aside0.mk ((by rw [hg]; exact (za9 (by repeat (first | (with_reducible first | exact HB.out | apply za2 | apply za0 | apply za1 | refine za3 ?_ GE456.out) | exact HB.out))) : w.heap.size ≤ gb465)); have n8_ := Aside0.mk ((by rw [hg]; exact (za9 (by repeat (first | (with_reducible first | exact HB.out | apply za2 | apply za0 | apply za1 | refine za3 ?_ GE456.out) | exact HB.out))) : w.heap.size ≤ gb465)); have n9_ := Aside0.mk ((by rw [hg]; exact Nat.ne_of_lt (zax (g := gb456) (o := .cells #[.slice Ao12 t451.length co12, .int .i64 t454] 39 (0, 0)) (by (with_reducible repeat (first | refine za4 ?_ _ | refine za6 ?_ | refine za5 ?_ _)); exact BK456.out)) : gb456 ≠ gb465)); have n10_ := Aside0.mk ((by rw [hg]; exact Nat.ne_of_gt (zax (g := gb456) (o := .cells #[.slice Ao12 t451.length co12, .int .i64 t454] 39 (0, 0)) (by (with_reducible repeat (first | refine za4 ?_ _ | refine za6 ?_ | refine za5 ?_ _)); exact BK456.out)) : gb465 ≠ gb456)); clear HO450; clear HO453; clear HO459; clear HO462; clear BK456; clear HB; have HO450 := n0_; have HO453 := n1_; have HO459 := n2_; have HO462 := n3_; have BK456 := n4_; have HB := n5_; have BK465 := n6_; have GW465 := n7_; have GE465 := n8_; have NB456_465 := n9_; have NB465_456 := n10_; clear n0_ n1_ n2_ n3_ n4_ n5_ n6_ n7_ n8_ n9_ n10_; clear hb hbox hg; obtain ⟨Ao18, co18, eo18⟩ := Kd.zay HO462.out; subst eo18; have hnb19 := NB465_456.out; have hnc19 := NB456_465.out; have hcz20_0 : w17.cell? ⟨gb465, 0, none⟩ = some (.slice none 0 0) := (za8 BK465.out 0).trans rfl; have hcz20_1 : w17.cell? ⟨gb465, 1, none⟩ = some (.int .i64 0) := (za8 BK465.out 1).trans rfl; have hfz20_0 := za7 BK465.out 0; have hfz20_1 := za7 BK465.out 1))
    (try simp only [Act.put, List.setIfInBounds_toArray, List.set_cons_zero, List.set_cons_succ])
    go_cut [37] (fun v37 wc => ∃ (kq : Nat) (x37_6 : Bool), v37 = .bool x37_6 ∧ Aside0 (laws_FnExactHornerCode.j0 kq l0 t455 t457 t464 x37_6 t451 t454 t460 t463 = some r) ∧ Aside0 (kq ≤ k) ∧ Aside0 (Kd.R (Kd.int .i64) 3 wc w.heap.size (fun _ => True) (.slice Ao15 t457.length co15) t457) ∧ Aside0 (Kd.R k69 69 wc w.heap.size (fun k_ => some k_ ≠ ((.slice Ao18 t460.length co18) : Value).ownBlock) (.slice Ao12 t451.length co12) t451) ∧ Aside0 (Kd.R k69 69 wc w.heap.size (fun k_ => some k_ ≠ ((.slice Ao12 t451.length co12) : Value).ownBlock) (.slice Ao18 t460.length co18) t460) ∧ Aside0 (wc.heap[gb456]? = some (.cells #[(.slice Ao12 t451.length co12), .int .i64 t454] 39 (0, 0))) ∧ Aside0 (wc.heap[gb465]? = some (.cells #[(.slice Ao18 t460.length co18), .int .i64 t463] 39 (0, 0))) ∧ Aside0 (Below w.heap.size w wc))
    case first =>
      have H := HC7.out
      clear HC7
      replace H := Option.bind_eq_some_iff.mp H
      obtain ⟨t466, A210, H⟩ := H
      replace H : (if t466 = true then (laws_FnExactHornerCode.j0 k l0 t455 t457 t464 (t464 != t455) t451 t454 t460 t463) else (laws_FnExactHornerCode.j0 k l0 t455 t457 t464 true t451 t454 t460 t463)) = some r := H
      have A21 := Aside0.mk A210
      clear A210
      by_cases c22 : t466 = true
      · subst c22
        have H1 : (laws_FnExactHornerCode.j0 k l0 t455 t457 t464 (t464 != t455) t451 t454 t460 t463) = some r := by rw [if_pos rfl] at H; exact H
        clear H
        have H := H1
        clear H1
        have H' := Aside0.mk H
        clear H
        have hnb23 := NB465_456.out
        have hnc23 := NB456_465.out
        have hcz24_0 : w17.cell? ⟨gb465, 0, none⟩ = some (.slice none 0 0) := (za8 BK465.out 0).trans rfl
        have hcz24_1 : w17.cell? ⟨gb465, 1, none⟩ = some (.int .i64 0) := (za8 BK465.out 1).trans rfl
        have hfz24_0 := za7 BK465.out 0
        have hfz24_1 := za7 BK465.out 1
        have hcz25_0 : w17.cell? ⟨gb456, 0, none⟩ = some (.slice Ao12 t451.length co12) := (za8 BK456.out 0).trans rfl
        have hcz25_1 : w17.cell? ⟨gb456, 1, none⟩ = some (.int .i64 t454) := (za8 BK456.out 1).trans rfl
        have hfz25_0 := za7 BK456.out 0
        have hfz25_1 := za7 BK456.out 1
        go_wp2_with (first | ((with_reducible refine zaj (f := 28) rfl ?_); refine zaz (some 31) rfl rfl Try.func28 (by kernel_rfl) rfl #[.agg #[.slice Ao18 t460.length co18, .int .i64 t463], .agg #[.slice Ao12 t451.length co12, .int .i64 t454]] rfl (by (try simp only [List.map_toArray, List.map_cons, List.map_nil]); first | done | rfl | (simp only [List.length_drop, List.length_take]; rfl)) ?_; (with_reducible refine (laws_eqCode.calls k _ _ t460 t463 _ _ t451 t454 true _ ?side1 ?side2 ?side3 ?side4 A21.out).mono ?_); (case side1 => refine (Kd.R_reads' (e := 69) (base := w.heap.size) (ok := fun k_ => (True ∧ some k_ ≠ (.slice Ao12 t451.length co12 : Value).ownBlock)) (n := t460.length) (c := co18) ?_).2.2; exact (by (with_reducible repeat (first | apply Kd.zah | apply Kd.zaf | apply Kd.zai)); exact (Kd.zas (Kd.R_far (p := ⟨gb465, 1, none⟩) (Kd.R_far (p := ⟨gb465, 0, none⟩) (Kd.zar HO462.out BK465.out (by decide)) (fun _ hk => hk.2) (.slice Ao18 t460.length co18)) (fun _ hk => hk.2) (.int .i64 t463)) (fun _ h_ => h_.1)))); (case side2 => exact (Kd.R_reads' HO462.out).2.1); (case side3 => refine (Kd.R_reads' (e := 69) (base := w.heap.size) (ok := fun k_ => (True ∧ some k_ ≠ (.slice Ao18 t460.length co18 : Value).ownBlock)) (n := t451.length) (c := co12) ?_).2.2; exact (by (with_reducible repeat (first | apply Kd.zah | apply Kd.zaf | apply Kd.zai)); exact (Kd.zas (Kd.R_far (p := ⟨gb465, 1, none⟩) (Kd.R_far (p := ⟨gb465, 0, none⟩) (Kd.zar HO453.out BK465.out (by decide)) (fun _ hk => hk.2) (.slice Ao18 t460.length co18)) (fun _ hk => hk.2) (.int .i64 t463)) (fun _ h_ => h_.1)))); (case side4 => exact (Kd.R_reads' HO453.out).2.1); rintro e w26 ⟨rfl, hb⟩; refine ⟨_, rfl, ?_⟩; have n0_ := Aside0.mk (Kd.zan (by (with_reducible repeat (first | apply Kd.zah | apply Kd.zaf | apply Kd.zai)); exact (Kd.zas (Kd.R_far (p := ⟨gb465, 1, none⟩) (Kd.R_far (p := ⟨gb465, 0, none⟩) (Kd.zar HO450.out BK465.out (by decide)) (fun _ hk => hk.2) (.slice Ao18 t460.length co18)) (fun _ hk => hk.2) (.int .i64 t463)) (fun _ h_ => h_.1))) hb); have n1_ := Aside0.mk (Kd.zan (by (with_reducible repeat (first | apply Kd.zah | apply Kd.zaf | apply Kd.zai)); exact (Kd.zas (Kd.R_far (p := ⟨gb465, 1, none⟩) (Kd.R_far (p := ⟨gb465, 0, none⟩) (Kd.zar HO453.out BK465.out (by decide)) (fun _ hk => hk.2) (.slice Ao18 t460.length co18)) (fun _ hk => hk.2) (.int .i64 t463)) (fun _ h_ => h_.1))) hb); have n2_ := Aside0.mk (Kd.zan (by (with_reducible repeat (first | apply Kd.zah | apply Kd.zaf | apply Kd.zai)); exact (Kd.zas (Kd.R_far (p := ⟨gb465, 1, none⟩) (Kd.R_far (p := ⟨gb465, 0, none⟩) (Kd.zar HO459.out BK465.out (by decide)) (fun _ hk => hk.2) (.slice Ao18 t460.length co18)) (fun _ hk => hk.2) (.int .i64 t463)) (fun _ h_ => h_.1))) hb); have n3_ := Aside0.mk (Kd.zan (by (with_reducible repeat (first | apply Kd.zah | apply Kd.zaf | apply Kd.zai)); exact (Kd.zas (Kd.R_far (p := ⟨gb465, 1, none⟩) (Kd.R_far (p := ⟨gb465, 0, none⟩) (Kd.zar HO462.out BK465.out (by decide)) (fun _ hk => hk.2) (.slice Ao18 t460.length co18)) (fun _ hk => hk.2) (.int .i64 t463)) (fun _ h_ => h_.1))) hb); have n4_ := Aside0.mk (zac (g := gb456) (o := .cells #[.slice Ao12 t451.length co12, .int .i64 t454] 39 (0, 0)) (by (with_reducible repeat (first | refine za4 ?_ _ | refine za6 ?_ | refine za5 ?_ _)); refine zaw ?_ NB456_465.out _; (with_reducible repeat (first | refine za4 ?_ _ | refine za6 ?_ | refine za5 ?_ _)); refine zaw ?_ NB456_465.out _; (with_reducible repeat (first | refine za4 ?_ _ | refine za6 ?_ | refine za5 ?_ _)); exact BK456.out) hb); have n5_ := Aside0.mk (zac (g := gb465) (o := .cells #[.slice Ao18 t460.length co18, .int .i64 t463] 39 (0, 0)) (by (with_reducible repeat (first | refine za4 ?_ _ | refine za6 ?_ | refine za5 ?_ _)); refine zat (cs := #[.slice Ao18 t460.length co18, .int .i64 0]) ?_ 1 _ rfl; (with_reducible repeat (first | refine za4 ?_ _ | refine za6 ?_ | refine za5 ?_ _)); refine zat (cs := #[.slice none 0 0, .int .i64 0]) ?_ 0 _ rfl; (with_reducible repeat (first | refine za4 ?_ _ | refine za6 ?_ | refine za5 ?_ _)); exact BK465.out) hb); have n6_ := Aside0.mk (zab (by repeat (first | (with_reducible first | exact HB.out | apply za2 | apply za0 | apply za1 | refine za3 ?_ GE456.out | refine za3 ?_ GE465.out) | exact HB.out)) hb); clear HO450; clear HO453; clear HO459; clear HO462; clear BK456; clear BK465; clear HB; have HO450 := n0_; have HO453 := n1_; have HO459 := n2_; have HO462 := n3_; have BK456 := n4_; have BK465 := n5_; have HB := n6_; clear n0_ n1_ n2_ n3_ n4_ n5_ n6_; (try clear hb); (try clear hb2); (try clear hk); (try clear hi)))
        go_meet
        case rel => exact ⟨_, ((t464 != t455)), (by first | rfl | (simp; done) | (simp [*]; done)), H', ⟨by first | omega | exact Nat.le_refl _⟩, ⟨by (with_reducible repeat (first | apply Kd.zah | apply Kd.zaf | apply Kd.zai)); exact Kd.zas HO459.out (fun _ hk => trivial)⟩, ⟨by (with_reducible repeat (first | apply Kd.zah | apply Kd.zaf | apply Kd.zai)); exact Kd.zas HO453.out (fun _ hk => hk.2)⟩, ⟨by (with_reducible repeat (first | apply Kd.zah | apply Kd.zaf | apply Kd.zai)); exact Kd.zas HO462.out (fun _ hk => hk.2)⟩, ⟨by (with_reducible repeat (first | refine za4 ?_ _ | refine za6 ?_ | refine za5 ?_ _)); exact BK456.out⟩, ⟨by (with_reducible repeat (first | refine za4 ?_ _ | refine za6 ?_ | refine za5 ?_ _)); exact BK465.out⟩, ⟨by repeat (first | (with_reducible first | exact HB.out | apply za2 | apply za0 | apply za1 | refine za3 ?_ GE456.out | refine za3 ?_ GE465.out) | exact HB.out)⟩⟩
      · replace c22 := Bool.eq_false_iff.mpr c22
        subst c22
        have H1 : (laws_FnExactHornerCode.j0 k l0 t455 t457 t464 true t451 t454 t460 t463) = some r := by rw [if_neg (show ¬ (false = true) by decide)] at H; exact H
        clear H
        have H := H1
        clear H1
        have H' := Aside0.mk H
        clear H
        have hnb27 := NB465_456.out
        have hnc27 := NB456_465.out
        have hcz28_0 : w17.cell? ⟨gb465, 0, none⟩ = some (.slice none 0 0) := (za8 BK465.out 0).trans rfl
        have hcz28_1 : w17.cell? ⟨gb465, 1, none⟩ = some (.int .i64 0) := (za8 BK465.out 1).trans rfl
        have hfz28_0 := za7 BK465.out 0
        have hfz28_1 := za7 BK465.out 1
        have hcz29_0 : w17.cell? ⟨gb456, 0, none⟩ = some (.slice Ao12 t451.length co12) := (za8 BK456.out 0).trans rfl
        have hcz29_1 : w17.cell? ⟨gb456, 1, none⟩ = some (.int .i64 t454) := (za8 BK456.out 1).trans rfl
        have hfz29_0 := za7 BK456.out 0
        have hfz29_1 := za7 BK456.out 1
        go_wp2_with (first | ((with_reducible refine zaj (f := 28) rfl ?_); refine zaz (some 31) rfl rfl Try.func28 (by kernel_rfl) rfl #[.agg #[.slice Ao18 t460.length co18, .int .i64 t463], .agg #[.slice Ao12 t451.length co12, .int .i64 t454]] rfl (by (try simp only [List.map_toArray, List.map_cons, List.map_nil]); first | done | rfl | (simp only [List.length_drop, List.length_take]; rfl)) ?_; (with_reducible refine (laws_eqCode.calls k _ _ t460 t463 _ _ t451 t454 false _ ?side1 ?side2 ?side3 ?side4 A21.out).mono ?_); (case side1 => refine (Kd.R_reads' (e := 69) (base := w.heap.size) (ok := fun k_ => (True ∧ some k_ ≠ (.slice Ao12 t451.length co12 : Value).ownBlock)) (n := t460.length) (c := co18) ?_).2.2; exact (by (with_reducible repeat (first | apply Kd.zah | apply Kd.zaf | apply Kd.zai)); exact (Kd.zas (Kd.R_far (p := ⟨gb465, 1, none⟩) (Kd.R_far (p := ⟨gb465, 0, none⟩) (Kd.zar HO462.out BK465.out (by decide)) (fun _ hk => hk.2) (.slice Ao18 t460.length co18)) (fun _ hk => hk.2) (.int .i64 t463)) (fun _ h_ => h_.1)))); (case side2 => exact (Kd.R_reads' HO462.out).2.1); (case side3 => refine (Kd.R_reads' (e := 69) (base := w.heap.size) (ok := fun k_ => (True ∧ some k_ ≠ (.slice Ao18 t460.length co18 : Value).ownBlock)) (n := t451.length) (c := co12) ?_).2.2; exact (by (with_reducible repeat (first | apply Kd.zah | apply Kd.zaf | apply Kd.zai)); exact (Kd.zas (Kd.R_far (p := ⟨gb465, 1, none⟩) (Kd.R_far (p := ⟨gb465, 0, none⟩) (Kd.zar HO453.out BK465.out (by decide)) (fun _ hk => hk.2) (.slice Ao18 t460.length co18)) (fun _ hk => hk.2) (.int .i64 t463)) (fun _ h_ => h_.1)))); (case side4 => exact (Kd.R_reads' HO453.out).2.1); rintro e w30 ⟨rfl, hb⟩; refine ⟨_, rfl, ?_⟩; have n0_ := Aside0.mk (Kd.zan (by (with_reducible repeat (first | apply Kd.zah | apply Kd.zaf | apply Kd.zai)); exact (Kd.zas (Kd.R_far (p := ⟨gb465, 1, none⟩) (Kd.R_far (p := ⟨gb465, 0, none⟩) (Kd.zar HO450.out BK465.out (by decide)) (fun _ hk => hk.2) (.slice Ao18 t460.length co18)) (fun _ hk => hk.2) (.int .i64 t463)) (fun _ h_ => h_.1))) hb); have n1_ := Aside0.mk (Kd.zan (by (with_reducible repeat (first | apply Kd.zah | apply Kd.zaf | apply Kd.zai)); exact (Kd.zas (Kd.R_far (p := ⟨gb465, 1, none⟩) (Kd.R_far (p := ⟨gb465, 0, none⟩) (Kd.zar HO453.out BK465.out (by decide)) (fun _ hk => hk.2) (.slice Ao18 t460.length co18)) (fun _ hk => hk.2) (.int .i64 t463)) (fun _ h_ => h_.1))) hb); have n2_ := Aside0.mk (Kd.zan (by (with_reducible repeat (first | apply Kd.zah | apply Kd.zaf | apply Kd.zai)); exact (Kd.zas (Kd.R_far (p := ⟨gb465, 1, none⟩) (Kd.R_far (p := ⟨gb465, 0, none⟩) (Kd.zar HO459.out BK465.out (by decide)) (fun _ hk => hk.2) (.slice Ao18 t460.length co18)) (fun _ hk => hk.2) (.int .i64 t463)) (fun _ h_ => h_.1))) hb); have n3_ := Aside0.mk (Kd.zan (by (with_reducible repeat (first | apply Kd.zah | apply Kd.zaf | apply Kd.zai)); exact (Kd.zas (Kd.R_far (p := ⟨gb465, 1, none⟩) (Kd.R_far (p := ⟨gb465, 0, none⟩) (Kd.zar HO462.out BK465.out (by decide)) (fun _ hk => hk.2) (.slice Ao18 t460.length co18)) (fun _ hk => hk.2) (.int .i64 t463)) (fun _ h_ => h_.1))) hb); have n4_ := Aside0.mk (zac (g := gb456) (o := .cells #[.slice Ao12 t451.length co12, .int .i64 t454] 39 (0, 0)) (by (with_reducible repeat (first | refine za4 ?_ _ | refine za6 ?_ | refine za5 ?_ _)); refine zaw ?_ NB456_465.out _; (with_reducible repeat (first | refine za4 ?_ _ | refine za6 ?_ | refine za5 ?_ _)); refine zaw ?_ NB456_465.out _; (with_reducible repeat (first | refine za4 ?_ _ | refine za6 ?_ | refine za5 ?_ _)); exact BK456.out) hb); have n5_ := Aside0.mk (zac (g := gb465) (o := .cells #[.slice Ao18 t460.length co18, .int .i64 t463] 39 (0, 0)) (by (with_reducible repeat (first | refine za4 ?_ _ | refine za6 ?_ | refine za5 ?_ _)); refine zat (cs := #[.slice Ao18 t460.length co18, .int .i64 0]) ?_ 1 _ rfl; (with_reducible repeat (first | refine za4 ?_ _ | refine za6 ?_ | refine za5 ?_ _)); refine zat (cs := #[.slice none 0 0, .int .i64 0]) ?_ 0 _ rfl; (with_reducible repeat (first | refine za4 ?_ _ | refine za6 ?_ | refine za5 ?_ _)); exact BK465.out) hb); have n6_ := Aside0.mk (zab (by repeat (first | (with_reducible first | exact HB.out | apply za2 | apply za0 | apply za1 | refine za3 ?_ GE456.out | refine za3 ?_ GE465.out) | exact HB.out)) hb); clear HO450; clear HO453; clear HO459; clear HO462; clear BK456; clear BK465; clear HB; have HO450 := n0_; have HO453 := n1_; have HO459 := n2_; have HO462 := n3_; have BK456 := n4_; have BK465 := n5_; have HB := n6_; clear n0_ n1_ n2_ n3_ n4_ n5_ n6_; (try clear hb); (try clear hb2); (try clear hk); (try clear hi)))
        go_meet
        case rel => exact ⟨_, (true), (by first | rfl | (simp; done) | (simp [*]; done)), H', ⟨by first | omega | exact Nat.le_refl _⟩, ⟨by (with_reducible repeat (first | apply Kd.zah | apply Kd.zaf | apply Kd.zai)); exact Kd.zas HO459.out (fun _ hk => trivial)⟩, ⟨by (with_reducible repeat (first | apply Kd.zah | apply Kd.zaf | apply Kd.zai)); exact Kd.zas HO453.out (fun _ hk => hk.2)⟩, ⟨by (with_reducible repeat (first | apply Kd.zah | apply Kd.zaf | apply Kd.zai)); exact Kd.zas HO462.out (fun _ hk => hk.2)⟩, ⟨by (with_reducible repeat (first | refine za4 ?_ _ | refine za6 ?_ | refine za5 ?_ _)); exact BK456.out⟩, ⟨by (with_reducible repeat (first | refine za4 ?_ _ | refine za6 ?_ | refine za5 ?_ _)); exact BK465.out⟩, ⟨by repeat (first | (with_reducible first | exact HB.out | apply za2 | apply za0 | apply za1 | refine za3 ?_ GE456.out | refine za3 ?_ GE465.out) | exact HB.out)⟩⟩
    case rest =>
      clear HC7
      try clear c1
      try clear c2
      try clear c2b0
      try clear c2b1
      try clear p2
      try clear c4
      try clear c12
      try clear c17
      try clear c19
      try clear c22
      try clear c23
      try clear c27
      try clear c28
      try clear hcz13_0
      try clear hcz13_1
      try clear hcz20_0
      try clear hcz20_1
      try clear hcz24_0
      try clear hcz24_1
      try clear hcz25_0
      try clear hcz25_1
      try clear hcz28_0
      try clear hcz28_1
      try clear hcz29_0
      try clear hcz29_1
      try clear hfz13_0
      try clear hfz13_1
      try clear hfz20_0
      try clear hfz20_1
      try clear hfz24_0
      try clear hfz24_1
      try clear hfz25_0
      try clear hfz25_1
      try clear hfz28_0
      try clear hfz28_1
      try clear hfz29_0
      try clear hfz29_1
      obtain ⟨kq, x37_6, rfl, HA, HJ6, HO_5, HO_457000, HO_466000, BK456, BK465, HB⟩ := hcut
      cases kq with
      | zero => exact absurd HA.out (by simp [laws_FnExactHornerCode.j0])
      | succ kj6 =>
        have H := HA.out
        clear HA
        simp only [laws_FnExactHornerCode.j0] at H
        by_cases c31 : x37_6 = true
        · subst c31
          have H1 : (some false) = some r := by rw [if_pos rfl] at H; exact H
          clear H
          have H := H1
          clear H1
          obtain rfl := Option.some.inj H
          go_wp2
          go_ret
          exact ⟨by first | rfl | (simp [zae, zad] <;> rfl) | (simp [*, zae, zad] <;> rfl), by repeat (first | (with_reducible first | exact HB.out | apply za2 | apply za0 | apply za1 | refine za3 ?_ GE456.out | refine za3 ?_ GE465.out) | exact HB.out)⟩
        · replace c31 := Bool.eq_false_iff.mpr c31
          subst c31
          have H1 : ((laws_toIntS.f kj6 l0).bind fun t467 => ((laws_eqIntS.f kj6 t457 t467).bind fun t470 => (if t470 = true then ((laws_markIntS.f kj6 t457 1).bind fun bt471 => (if bt471.1 < 0 then (laws_FnExactHornerCode.j1 kj6 l0 t455 true t451 t454 t460 t463) else ((laws_eqCode.f kj6 t460 t463 t451 t454).bind fun t473 => (if t473 = true then (laws_FnExactHornerCode.j1 kj6 l0 t455 (t464 != t455) t451 t454 t460 t463) else (laws_FnExactHornerCode.j1 kj6 l0 t455 true t451 t454 t460 t463))))) else (some false)))) = some r := by rw [if_neg (show ¬ (false = true) by decide)] at H; exact H
          clear H
          have H := H1
          clear H1
          replace H := Option.bind_eq_some_iff.mp H
          obtain ⟨t467, A320, H⟩ := H
          replace H : ((laws_eqIntS.f kj6 t457 t467).bind fun t470 => (if t470 = true then ((laws_markIntS.f kj6 t457 1).bind fun bt471 => (if bt471.1 < 0 then (laws_FnExactHornerCode.j1 kj6 l0 t455 true t451 t454 t460 t463) else ((laws_eqCode.f kj6 t460 t463 t451 t454).bind fun t473 => (if t473 = true then (laws_FnExactHornerCode.j1 kj6 l0 t455 (t464 != t455) t451 t454 t460 t463) else (laws_FnExactHornerCode.j1 kj6 l0 t455 true t451 t454 t460 t463))))) else (some false))) = some r := H
          have A32 := Aside0.mk A320
          clear A320
          replace H := Option.bind_eq_some_iff.mp H
          obtain ⟨t470, A330, H⟩ := H
          replace H : (if t470 = true then ((laws_markIntS.f kj6 t457 1).bind fun bt471 => (if bt471.1 < 0 then (laws_FnExactHornerCode.j1 kj6 l0 t455 true t451 t454 t460 t463) else ((laws_eqCode.f kj6 t460 t463 t451 t454).bind fun t473 => (if t473 = true then (laws_FnExactHornerCode.j1 kj6 l0 t455 (t464 != t455) t451 t454 t460 t463) else (laws_FnExactHornerCode.j1 kj6 l0 t455 true t451 t454 t460 t463))))) else (some false)) = some r := H
          have A33 := Aside0.mk A330
          clear A330
          by_cases c34 : t470 = true
          · subst c34
            have H1 : ((laws_markIntS.f kj6 t457 1).bind fun bt471 => (if bt471.1 < 0 then (laws_FnExactHornerCode.j1 kj6 l0 t455 true t451 t454 t460 t463) else ((laws_eqCode.f kj6 t460 t463 t451 t454).bind fun t473 => (if t473 = true then (laws_FnExactHornerCode.j1 kj6 l0 t455 (t464 != t455) t451 t454 t460 t463) else (laws_FnExactHornerCode.j1 kj6 l0 t455 true t451 t454 t460 t463))))) = some r := by rw [if_pos rfl] at H; exact H
            clear H
            have H := H1
            clear H1
            replace H := Option.bind_eq_some_iff.mp H
            obtain ⟨⟨t471, t472⟩, A350, H⟩ := H
            replace H : (if t471 < 0 then (laws_FnExactHornerCode.j1 kj6 l0 t455 true t451 t454 t460 t463) else ((laws_eqCode.f kj6 t460 t463 t451 t454).bind fun t473 => (if t473 = true then (laws_FnExactHornerCode.j1 kj6 l0 t455 (t464 != t455) t451 t454 t460 t463) else (laws_FnExactHornerCode.j1 kj6 l0 t455 true t451 t454 t460 t463)))) = some r := H
            have A35 := Aside0.mk A350
            clear A350
            have HC36 := Aside0.mk H
            clear H
            go_upto_region 12 with (first | ((with_reducible refine zaj (f := 17) rfl ?_); refine zaz (some 40) rfl rfl Try.func17 (by kernel_rfl) rfl #[.slice A0 l0.length c0] rfl (by (try simp only [List.map_toArray, List.map_cons, List.map_nil]); first | done | rfl | (simp only [List.length_drop, List.length_take]; rfl)) ?_; (with_reducible refine (laws_toIntS.calls kj6 _ _ l0 t467 _ ?side1 ?side2 A32.out).mono ?_); (case side1 => repeat (first | exact (Kd.zb3 HR0.out HB.out) | (with_reducible refine Kd.zao ?_ _) | (with_reducible refine Kd.zaq ?_ _) | (with_reducible refine Kd.zau ?_))); (case side2 => exact HC0.out); rintro e w37 ⟨v468, rfl, ho0, hb⟩; refine ⟨_, rfl, ?_⟩; have n0_ := Aside0.mk (Kd.R_elder' (by (with_reducible repeat (first | apply Kd.zah | apply Kd.zaf | apply Kd.zai)); exact HO_5.out) (Kd.R_base ho0) hb); have n1_ := Aside0.mk (Kd.zan (by (with_reducible repeat (first | apply Kd.zah | apply Kd.zaf | apply Kd.zai)); exact HO_457000.out) hb); have n2_ := Aside0.mk (Kd.zan (by (with_reducible repeat (first | apply Kd.zah | apply Kd.zaf | apply Kd.zai)); exact HO_466000.out) hb); have n3_ := Aside0.mk (Kd.zb1 (Kd.R_new' ho0 (Kd.R_lt (by (with_reducible repeat (first | apply Kd.zah | apply Kd.zaf | apply Kd.zai)); exact HO_5.out))) (za9 (by repeat (first | (with_reducible first | exact HB.out | apply za2 | apply za0 | apply za1 | refine za3 ?_ GE456.out | refine za3 ?_ GE465.out) | exact HB.out)))); have n4_ := Aside0.mk (zac (g := gb456) (o := .cells #[.slice Ao12 t451.length co12, .int .i64 t454] 39 (0, 0)) (by (with_reducible repeat (first | refine za4 ?_ _ | refine za6 ?_ | refine za5 ?_ _)); exact BK456.out) hb); have n5_ := Aside0.mk (zac (g := gb465) (o := .cells #[.slice Ao18 t460.length co18, .int .i64 t463] 39 (0, 0)) (by (with_reducible repeat (first | refine za4 ?_ _ | refine za6 ?_ | refine za5 ?_ _)); exact BK465.out) hb); have n6_ := Aside0.mk (zab (by repeat (first | (with_reducible first | exact HB.out | apply za2 | apply za0 | apply za1 | refine za3 ?_ GE456.out | refine za3 ?_ GE465.out) | exact HB.out)) hb); clear HO_5; clear HO_457000; clear HO_466000; clear BK456; clear BK465; clear HB; have HO_5 := n0_; have HO_457000 := n1_; have HO_466000 := n2_; have HO469 := n3_; have BK456 := n4_; have BK465 := n5_; have HB := n6_; clear n0_ n1_ n2_ n3_ n4_ n5_ n6_; (try clear hb); (try clear hb2); (try clear hk); (try clear hi); (try clear ho0); obtain ⟨Ao38, co38, eo38⟩ := Kd.zay HO469.out; subst eo38) | ((with_reducible refine zaj (f := 19) rfl ?_); refine zaz (some 41) rfl rfl Try.func19 (by kernel_rfl) rfl #[.slice Ao15 t457.length co15, .slice Ao38 t467.length co38] rfl (by (try simp only [List.map_toArray, List.map_cons, List.map_nil]); first | done | rfl | (simp only [List.length_drop, List.length_take]; rfl)) ?_; (with_reducible refine (laws_eqIntS.calls kj6 _ _ t457 _ _ t467 true _ ?side1 ?side2 ?side3 ?side4 A33.out).mono ?_); (case side1 => repeat (first | exact (Kd.R_reads' HO_5.out).2.2 | (with_reducible refine Kd.zao ?_ _) | (with_reducible refine Kd.zaq ?_ _) | (with_reducible refine Kd.zau ?_))); (case side2 => exact (Kd.R_reads' HO_5.out).2.1); (case side3 => repeat (first | exact (Kd.R_reads' HO469.out).2.2 | (with_reducible refine Kd.zao ?_ _) | (with_reducible refine Kd.zaq ?_ _) | (with_reducible refine Kd.zau ?_))); (case side4 => exact (Kd.R_reads' HO469.out).2.1); rintro e w' ⟨rfl, ⟨nd, rfl⟩⟩; refine ⟨_, rfl, ?_⟩) | ((with_reducible refine zaj (f := 38) rfl ?_); refine zaz (some 45) rfl rfl Try.func38 (by kernel_rfl) rfl #[.slice Ao15 t457.length co15, .int .i64 1] rfl (by (try simp only [List.map_toArray, List.map_cons, List.map_nil]); first | done | rfl | (simp only [List.length_drop, List.length_take]; rfl)) ?_; (with_reducible refine (laws_markIntS.calls kj6 (fun k_ => some k_ = (.slice Ao15 t457.length co15 : Value).ownBlock) (.slice Ao15 t457.length co15) t457 1 t471 t472 w _ ?side1 ?side2 A35.out).mono ?_); (case side1 => repeat (first | (with_reducible first | exact HB.out | apply za2 | apply za0 | apply za1 | refine za3 ?_ GE456.out | refine za3 ?_ GE465.out) | exact HB.out)); (case side2 => exact Kd.R_tight rfl HO_5.out); rintro e w39 ⟨rfl, hy0, hb, hkp⟩; refine ⟨_, rfl, ?_⟩; have n0_ := Aside0.mk (Kd.R_reok rfl hy0 (fun k_ e_ => HO_5.out.1 k_ e_)); have n1_ := Aside0.mk (Kd.zas (ok' := fun k_ => some k_ ≠ (.slice Ao18 t460.length co18 : Value).ownBlock) (Kd.R_keptB ((Kd.R_apart' HO_457000.out (Kd.R_typed HO_5.out) (by decide))) hkp (fun k_ hk_ hs_ => (hk_.2) hs_)) (fun k_ hk_ => hk_.1.1)); have n2_ := Aside0.mk (Kd.zas (ok' := fun k_ => some k_ ≠ (.slice Ao12 t451.length co12 : Value).ownBlock) (Kd.R_keptB ((Kd.R_apart' HO_466000.out (Kd.R_typed HO_5.out) (by decide))) hkp (fun k_ hk_ hs_ => (hk_.2) hs_)) (fun k_ hk_ => hk_.1.1)); have n3_ := Aside0.mk (blk_kept (by (with_reducible repeat (first | refine za4 ?_ _ | refine za6 ?_ | refine za5 ?_ _)); exact BK456.out) hkp (fun hs_ => (fun e_ => (Kd.R_ne HO_5.out BK456.out (by decide)) e_) hs_)); have n4_ := Aside0.mk (blk_kept (by (with_reducible repeat (first | refine za4 ?_ _ | refine za6 ?_ | refine za5 ?_ _)); exact BK465.out) hkp (fun hs_ => (fun e_ => (Kd.R_ne HO_5.out BK465.out (by decide)) e_) hs_)); have n5_ := Aside0.mk (Kd.zas (ok' := fun k_ => some k_ ≠ (.slice Ao15 t457.length co15 : Value).ownBlock) (Kd.R_keptB (HO469.out) hkp (fun k_ hk_ hs_ => (hk_.2) hs_)) (fun k_ hk_ => hk_.1.2)); have n6_ := Aside0.mk (hb); clear HO_5; clear HO_457000; clear HO_466000; clear BK456; clear BK465; clear HO469; clear HB; have HO_5 := n0_; have HO_457000 := n1_; have HO_466000 := n2_; have BK456 := n3_; have BK465 := n4_; have HO469 := n5_; have HB := n6_; clear n0_ n1_ n2_ n3_ n4_ n5_ n6_; (try clear hb); (try clear hkp); (try clear hy0)))
            (try simp only [Act.put, List.setIfInBounds_toArray, List.set_cons_zero, List.set_cons_succ])
            go_cut [58] (fun v58 wc => ∃ (kq : Nat) (x58_35 : Bool), v58 = .bool x58_35 ∧ Aside0 (laws_FnExactHornerCode.j1 kq l0 t455 x58_35 t451 t454 t460 t463 = some r) ∧ Aside0 (kq ≤ kj6) ∧ Aside0 (Kd.R k69 69 wc w.heap.size (fun k_ => some k_ ≠ ((.slice Ao18 t460.length co18) : Value).ownBlock) (.slice Ao12 t451.length co12) t451) ∧ Aside0 (Kd.R k69 69 wc w.heap.size (fun k_ => some k_ ≠ ((.slice Ao12 t451.length co12) : Value).ownBlock) (.slice Ao18 t460.length co18) t460) ∧ Aside0 (wc.heap[gb456]? = some (.cells #[(.slice Ao12 t451.length co12), .int .i64 t454] 39 (0, 0))) ∧ Aside0 (wc.heap[gb465]? = some (.cells #[(.slice Ao18 t460.length co18), .int .i64 t463] 39 (0, 0))) ∧ Aside0 (Below w.heap.size w wc))
            case first =>
              have H := HC36.out
              clear HC36
              by_cases c40 : t471 < 0
              · rw [if_pos c40] at H
                have c40b0 : decide (t471 < 0) = true := decide_eq_true c40
                clear c40
                (first | rw [c40b0] | (simp only [i64_w, i32_w]; rw [c40b0]) | skip)
                have H' := Aside0.mk H
                clear H
                go_wp2
                go_meet
                case rel => exact ⟨_, (true), (by first | rfl | (simp; done) | (simp [*]; done)), H', ⟨by have := HJ6.out; first | omega | exact Nat.le_refl _⟩, ⟨by (with_reducible repeat (first | apply Kd.zah | apply Kd.zaf | apply Kd.zai)); exact HO_457000.out⟩, ⟨by (with_reducible repeat (first | apply Kd.zah | apply Kd.zaf | apply Kd.zai)); exact HO_466000.out⟩, ⟨by (with_reducible repeat (first | refine za4 ?_ _ | refine za6 ?_ | refine za5 ?_ _)); exact BK456.out⟩, ⟨by (with_reducible repeat (first | refine za4 ?_ _ | refine za6 ?_ | refine za5 ?_ _)); exact BK465.out⟩, ⟨by repeat (first | (with_reducible first | exact HB.out | apply za2 | apply za0 | apply za1 | refine za3 ?_ GE456.out | refine za3 ?_ GE465.out) | exact HB.out)⟩⟩
              · rw [if_neg c40] at H
                have c40b0 : decide (t471 < 0) = false := decide_eq_false c40
                clear c40
                (first | rw [c40b0] | (simp only [i64_w, i32_w]; rw [c40b0]) | skip)
                replace H := Option.bind_eq_some_iff.mp H
                obtain ⟨t473, A410, H⟩ := H
                replace H : (if t473 = true then (laws_FnExactHornerCode.j1 kj6 l0 t455 (t464 != t455) t451 t454 t460 t463) else (laws_FnExactHornerCode.j1 kj6 l0 t455 true t451 t454 t460 t463)) = some r := H
                have A41 := Aside0.mk A410
                clear A410
                by_cases c42 : t473 = true
                · subst c42
                  have H1 : (laws_FnExactHornerCode.j1 kj6 l0 t455 (t464 != t455) t451 t454 t460 t463) = some r := by rw [if_pos rfl] at H; exact H
                  clear H
                  have H := H1
                  clear H1
                  have H' := Aside0.mk H
                  clear H
                  have hnb43 := NB465_456.out
                  have hnc43 := NB456_465.out
                  have hcz44_0 : w39.cell? ⟨gb465, 0, none⟩ = some (.slice Ao18 t460.length co18) := (za8 BK465.out 0).trans rfl
                  have hcz44_1 : w39.cell? ⟨gb465, 1, none⟩ = some (.int .i64 t463) := (za8 BK465.out 1).trans rfl
                  have hfz44_0 := za7 BK465.out 0
                  have hfz44_1 := za7 BK465.out 1
                  have hcz45_0 : w39.cell? ⟨gb456, 0, none⟩ = some (.slice Ao12 t451.length co12) := (za8 BK456.out 0).trans rfl
                  have hcz45_1 : w39.cell? ⟨gb456, 1, none⟩ = some (.int .i64 t454) := (za8 BK456.out 1).trans rfl
                  have hfz45_0 := za7 BK456.out 0
                  have hfz45_1 := za7 BK456.out 1
                  go_wp2_with (first | (go_at_call 28; (with_reducible refine (laws_eqCode.calls kj6 _ _ t460 t463 _ _ t451 t454 true _ ?side1 ?side2 ?side3 ?side4 A41.out).mono ?_); (case side1 => repeat (first | exact (Kd.R_reads' HO_466000.out).2.2 | (with_reducible refine Kd.zao ?_ _) | (with_reducible refine Kd.zaq ?_ _) | (with_reducible refine Kd.zau ?_))); (case side2 => exact (Kd.R_reads' HO_466000.out).2.1); (case side3 => repeat (first | exact (Kd.R_reads' HO_457000.out).2.2 | (with_reducible refine Kd.zao ?_ _) | (with_reducible refine Kd.zaq ?_ _) | (with_reducible refine Kd.zau ?_))); (case side4 => exact (Kd.R_reads' HO_457000.out).2.1); rintro e w46 ⟨rfl, hb⟩; have n0_ := Aside0.mk (Kd.zan (by (with_reducible repeat (first | apply Kd.zah | apply Kd.zaf | apply Kd.zai)); exact HO_5.out) hb); have n1_ := Aside0.mk (Kd.zan (by (with_reducible repeat (first | apply Kd.zah | apply Kd.zaf | apply Kd.zai)); exact HO_457000.out) hb); have n2_ := Aside0.mk (Kd.zan (by (with_reducible repeat (first | apply Kd.zah | apply Kd.zaf | apply Kd.zai)); exact HO_466000.out) hb); have n3_ := Aside0.mk (Kd.zan (by (with_reducible repeat (first | apply Kd.zah | apply Kd.zaf | apply Kd.zai)); exact HO469.out) hb); have n4_ := Aside0.mk (zac (g := gb456) (o := .cells #[.slice Ao12 t451.length co12, .int .i64 t454] 39 (0, 0)) (by (with_reducible repeat (first | refine za4 ?_ _ | refine za6 ?_ | refine za5 ?_ _)); exact BK456.out) hb); have n5_ := Aside0.mk (zac (g := gb465) (o := .cells #[.slice Ao18 t460.length co18, .int .i64 t463] 39 (0, 0)) (by (with_reducible repeat (first | refine za4 ?_ _ | refine za6 ?_ | refine za5 ?_ _)); exact BK465.out) hb); have n6_ := Aside0.mk (zab (by repeat (first | (with_reducible first | exact HB.out | apply za2 | apply za0 | apply za1 | refine za3 ?_ GE456.out | refine za3 ?_ GE465.out) | exact HB.out)) hb); clear HO_5; clear HO_457000; clear HO_466000; clear HO469; clear BK456; clear BK465; clear HB; have HO_5 := n0_; have HO_457000 := n1_; have HO_466000 := n2_; have HO469 := n3_; have BK456 := n4_; have BK465 := n5_; have HB := n6_; clear n0_ n1_ n2_ n3_ n4_ n5_ n6_; (try clear hb); (try clear hb2); (try clear hk); (try clear hi)))
                  go_meet
                  case rel => exact ⟨_, ((t464 != t455)), (by first | rfl | (simp; done) | (simp [*]; done)), H', ⟨by have := HJ6.out; first | omega | exact Nat.le_refl _⟩, ⟨by (with_reducible repeat (first | apply Kd.zah | apply Kd.zaf | apply Kd.zai)); exact HO_457000.out⟩, ⟨by (with_reducible repeat (first | apply Kd.zah | apply Kd.zaf | apply Kd.zai)); exact HO_466000.out⟩, ⟨by (with_reducible repeat (first | refine za4 ?_ _ | refine za6 ?_ | refine za5 ?_ _)); exact BK456.out⟩, ⟨by (with_reducible repeat (first | refine za4 ?_ _ | refine za6 ?_ | refine za5 ?_ _)); exact BK465.out⟩, ⟨by repeat (first | (with_reducible first | exact HB.out | apply za2 | apply za0 | apply za1 | refine za3 ?_ GE456.out | refine za3 ?_ GE465.out) | exact HB.out)⟩⟩
                · replace c42 := Bool.eq_false_iff.mpr c42
                  subst c42
                  have H1 : (laws_FnExactHornerCode.j1 kj6 l0 t455 true t451 t454 t460 t463) = some r := by rw [if_neg (show ¬ (false = true) by decide)] at H; exact H
                  clear H
                  have H := H1
                  clear H1
                  have H' := Aside0.mk H
                  clear H
                  have hnb47 := NB465_456.out
                  have hnc47 := NB456_465.out
                  have hcz48_0 : w39.cell? ⟨gb465, 0, none⟩ = some (.slice Ao18 t460.length co18) := (za8 BK465.out 0).trans rfl
                  have hcz48_1 : w39.cell? ⟨gb465, 1, none⟩ = some (.int .i64 t463) := (za8 BK465.out 1).trans rfl
                  have hfz48_0 := za7 BK465.out 0
                  have hfz48_1 := za7 BK465.out 1
                  have hcz49_0 : w39.cell? ⟨gb456, 0, none⟩ = some (.slice Ao12 t451.length co12) := (za8 BK456.out 0).trans rfl
                  have hcz49_1 : w39.cell? ⟨gb456, 1, none⟩ = some (.int .i64 t454) := (za8 BK456.out 1).trans rfl
                  have hfz49_0 := za7 BK456.out 0
                  have hfz49_1 := za7 BK456.out 1
                  go_wp2_with (first | (go_at_call 28; (with_reducible refine (laws_eqCode.calls kj6 _ _ t460 t463 _ _ t451 t454 false _ ?side1 ?side2 ?side3 ?side4 A41.out).mono ?_); (case side1 => repeat (first | exact (Kd.R_reads' HO_466000.out).2.2 | (with_reducible refine Kd.zao ?_ _) | (with_reducible refine Kd.zaq ?_ _) | (with_reducible refine Kd.zau ?_))); (case side2 => exact (Kd.R_reads' HO_466000.out).2.1); (case side3 => repeat (first | exact (Kd.R_reads' HO_457000.out).2.2 | (with_reducible refine Kd.zao ?_ _) | (with_reducible refine Kd.zaq ?_ _) | (with_reducible refine Kd.zau ?_))); (case side4 => exact (Kd.R_reads' HO_457000.out).2.1); rintro e w50 ⟨rfl, hb⟩; have n0_ := Aside0.mk (Kd.zan (by (with_reducible repeat (first | apply Kd.zah | apply Kd.zaf | apply Kd.zai)); exact HO_5.out) hb); have n1_ := Aside0.mk (Kd.zan (by (with_reducible repeat (first | apply Kd.zah | apply Kd.zaf | apply Kd.zai)); exact HO_457000.out) hb); have n2_ := Aside0.mk (Kd.zan (by (with_reducible repeat (first | apply Kd.zah | apply Kd.zaf | apply Kd.zai)); exact HO_466000.out) hb); have n3_ := Aside0.mk (Kd.zan (by (with_reducible repeat (first | apply Kd.zah | apply Kd.zaf | apply Kd.zai)); exact HO469.out) hb); have n4_ := Aside0.mk (zac (g := gb456) (o := .cells #[.slice Ao12 t451.length co12, .int .i64 t454] 39 (0, 0)) (by (with_reducible repeat (first | refine za4 ?_ _ | refine za6 ?_ | refine za5 ?_ _)); exact BK456.out) hb); have n5_ := Aside0.mk (zac (g := gb465) (o := .cells #[.slice Ao18 t460.length co18, .int .i64 t463] 39 (0, 0)) (by (with_reducible repeat (first | refine za4 ?_ _ | refine za6 ?_ | refine za5 ?_ _)); exact BK465.out) hb); have n6_ := Aside0.mk (zab (by repeat (first | (with_reducible first | exact HB.out | apply za2 | apply za0 | apply za1 | refine za3 ?_ GE456.out | refine za3 ?_ GE465.out) | exact HB.out)) hb); clear HO_5; clear HO_457000; clear HO_466000; clear HO469; clear BK456; clear BK465; clear HB; have HO_5 := n0_; have HO_457000 := n1_; have HO_466000 := n2_; have HO469 := n3_; have BK456 := n4_; have BK465 := n5_; have HB := n6_; clear n0_ n1_ n2_ n3_ n4_ n5_ n6_; (try clear hb); (try clear hb2); (try clear hk); (try clear hi)))
                  go_meet
                  case rel => exact ⟨_, (true), (by first | rfl | (simp; done) | (simp [*]; done)), H', ⟨by have := HJ6.out; first | omega | exact Nat.le_refl _⟩, ⟨by (with_reducible repeat (first | apply Kd.zah | apply Kd.zaf | apply Kd.zai)); exact HO_457000.out⟩, ⟨by (with_reducible repeat (first | apply Kd.zah | apply Kd.zaf | apply Kd.zai)); exact HO_466000.out⟩, ⟨by (with_reducible repeat (first | refine za4 ?_ _ | refine za6 ?_ | refine za5 ?_ _)); exact BK456.out⟩, ⟨by (with_reducible repeat (first | refine za4 ?_ _ | refine za6 ?_ | refine za5 ?_ _)); exact BK465.out⟩, ⟨by repeat (first | (with_reducible first | exact HB.out | apply za2 | apply za0 | apply za1 | refine za3 ?_ GE456.out | refine za3 ?_ GE465.out) | exact HB.out)⟩⟩
            case rest =>
              clear HC36
              try clear c1
              try clear c2
              try clear c2b0
              try clear c2b1
              try clear p2
              try clear c3
              try clear c4
              try clear c12
              try clear c17
              try clear c19
              try clear c22
              try clear c23
              try clear c27
              try clear c28
              try clear c31
              try clear c34
              try clear c38
              try clear c40
              try clear c40b0
              try clear c42
              try clear c43
              try clear c47
              try clear hcz13_0
              try clear hcz13_1
              try clear hcz20_0
              try clear hcz20_1
              try clear hcz24_0
              try clear hcz24_1
              try clear hcz25_0
              try clear hcz25_1
              try clear hcz28_0
              try clear hcz28_1
              try clear hcz29_0
              try clear hcz29_1
              try clear hcz44_0
              try clear hcz44_1
              try clear hcz45_0
              try clear hcz45_1
              try clear hcz48_0
              try clear hcz48_1
              try clear hcz49_0
              try clear hcz49_1
              try clear hfz13_0
              try clear hfz13_1
              try clear hfz20_0
              try clear hfz20_1
              try clear hfz24_0
              try clear hfz24_1
              try clear hfz25_0
              try clear hfz25_1
              try clear hfz28_0
              try clear hfz28_1
              try clear hfz29_0
              try clear hfz29_1
              try clear hfz44_0
              try clear hfz44_1
              try clear hfz45_0
              try clear hfz45_1
              try clear hfz48_0
              try clear hfz48_1
              try clear hfz49_0
              try clear hfz49_1
              try clear p2
              obtain ⟨kq, x58_35, rfl, HA, HJ35, HO_457000, HO_466000, BK456, BK465, HB⟩ := hcut
              cases kq with
              | zero => exact absurd HA.out (by simp [laws_FnExactHornerCode.j1])
              | succ kj35 =>
                have H := HA.out
                clear HA
                simp only [laws_FnExactHornerCode.j1] at H
                by_cases c51 : x58_35 = true
                · subst c51
                  have H1 : (some false) = some r := by rw [if_pos rfl] at H; exact H
                  clear H
                  have H := H1
                  clear H1
                  obtain rfl := Option.some.inj H
                  go_wp2
                  go_ret
                  exact ⟨by first | rfl | (simp [zae, zad] <;> rfl) | (simp [*, zae, zad] <;> rfl), by repeat (first | (with_reducible first | exact HB.out | apply za2 | apply za0 | apply za1 | refine za3 ?_ GE456.out | refine za3 ?_ GE465.out) | exact HB.out)⟩
                · replace c51 := Bool.eq_false_iff.mpr c51
                  subst c51
                  have H1 : ((laws_markCode.f kj35 t460 t463 1).bind fun bt474 => ((laws_heldCode.f kj35 bt474.2 t463 1).bind fun t476 => (if t476 < 0 then (some false) else (if t476 = bt474.1 then ((laws_toIntS.f kj35 l0).bind fun t477 => ((impl_HornerCode.f kj35 t477).bind fun bt480 => ((laws_eqCode.f kj35 bt480.1 bt480.2.1 t451 t454).bind fun t486 => (if t486 = true then (laws_FnExactHornerCode.j2 kj35 bt474.1 (bt480.2.2 != t455) bt474.2 t463) else (laws_FnExactHornerCode.j2 kj35 bt474.1 true bt474.2 t463))))) else (some false))))) = some r := by rw [if_neg (show ¬ (false = true) by decide)] at H; exact H
                  clear H
                  have H := H1
                  clear H1
                  replace H := Option.bind_eq_some_iff.mp H
                  obtain ⟨⟨t474, t475⟩, A520, H⟩ := H
                  replace H : ((laws_heldCode.f kj35 t475 t463 1).bind fun t476 => (if t476 < 0 then (some false) else (if t476 = t474 then ((laws_toIntS.f kj35 l0).bind fun t477 => ((impl_HornerCode.f kj35 t477).bind fun bt480 => ((laws_eqCode.f kj35 bt480.1 bt480.2.1 t451 t454).bind fun t486 => (if t486 = true then (laws_FnExactHornerCode.j2 kj35 t474 (bt480.2.2 != t455) t475 t463) else (laws_FnExactHornerCode.j2 kj35 t474 true t475 t463))))) else (some false)))) = some r := H
                  have A52 := Aside0.mk A520
                  clear A520
                  replace H := Option.bind_eq_some_iff.mp H
                  obtain ⟨t476, A530, H⟩ := H
                  replace H : (if t476 < 0 then (some false) else (if t476 = t474 then ((laws_toIntS.f kj35 l0).bind fun t477 => ((impl_HornerCode.f kj35 t477).bind fun bt480 => ((laws_eqCode.f kj35 bt480.1 bt480.2.1 t451 t454).bind fun t486 => (if t486 = true then (laws_FnExactHornerCode.j2 kj35 t474 (bt480.2.2 != t455) t475 t463) else (laws_FnExactHornerCode.j2 kj35 t474 true t475 t463))))) else (some false))) = some r := H
                  have A53 := Aside0.mk A530
                  clear A530
                  by_cases c54 : t476 < 0
                  · rw [if_pos c54] at H
                    have c54b0 : decide (t476 < 0) = true := decide_eq_true c54
                    clear c54
                    obtain rfl := Option.some.inj H
                    have hnb55 := NB465_456.out
                    have hnc55 := NB456_465.out
                    have hcz56_0 : wc.cell? ⟨gb465, 0, none⟩ = some (.slice Ao18 t460.length co18) := (za8 BK465.out 0).trans rfl
                    have hcz56_1 : wc.cell? ⟨gb465, 1, none⟩ = some (.int .i64 t463) := (za8 BK465.out 1).trans rfl
                    have hfz56_0 := za7 BK465.out 0
                    have hfz56_1 := za7 BK465.out 1
                    go_wp2_with (first | ((with_reducible refine zaj (f := 37) rfl ?_); refine zaz (some 61) rfl rfl Try.func37 (by kernel_rfl) rfl #[.agg #[.slice Ao18 t460.length co18, .int .i64 t463], .int .i64 1] rfl (by (try simp only [List.map_toArray, List.map_cons, List.map_nil]); first | done | rfl | (simp only [List.length_drop, List.length_take]; rfl)) ?_; (with_reducible refine (laws_markCode.calls kj35 (fun k_ => some k_ = (.slice Ao18 t460.length co18 : Value).ownBlock) (.slice Ao18 t460.length co18) t460 t463 1 t474 t475 w _ ?side1 ?side2 A52.out).mono ?_); (case side1 => repeat (first | (with_reducible first | exact HB.out | apply za2 | apply za0 | apply za1 | refine za3 ?_ GE456.out | refine za3 ?_ GE465.out) | exact HB.out)); (case side2 => exact Kd.R_tight rfl HO_466000.out); rintro e w57 ⟨rfl, hy0, hb, hkp⟩; refine ⟨_, rfl, ?_⟩; have n0_ := Aside0.mk (Kd.zas (ok' := fun k_ => some k_ ≠ (.slice Ao18 t460.length co18 : Value).ownBlock) (Kd.R_keptB (HO_457000.out) hkp (fun k_ hk_ hs_ => (hk_) hs_)) (fun k_ hk_ => hk_.1)); have n1_ := Aside0.mk (Kd.R_reok rfl hy0 (fun k_ e_ => HO_466000.out.1 k_ e_)); have n2_ := Aside0.mk (blk_kept (by (with_reducible repeat (first | refine za4 ?_ _ | refine za6 ?_ | refine za5 ?_ _)); exact BK456.out) hkp (fun hs_ => (fun e_ => (Kd.R_ne HO_466000.out BK456.out (by decide)) e_) hs_)); have n3_ := Aside0.mk (blk_kept (by (with_reducible repeat (first | refine za4 ?_ _ | refine za6 ?_ | refine za5 ?_ _)); exact BK465.out) hkp (fun hs_ => (fun e_ => (Kd.R_ne HO_466000.out BK465.out (by decide)) e_) hs_)); have n4_ := Aside0.mk (hb); clear HO_457000; clear HO_466000; clear BK456; clear BK465; clear HB; have HO_457000 := n0_; have HO_466000 := n1_; have BK456 := n2_; have BK465 := n3_; have HB := n4_; clear n0_ n1_ n2_ n3_ n4_; (try clear hb); (try clear hkp); (try clear hy0); have hcz58_0 : w57.cell? ⟨gb465, 0, none⟩ = some (.slice Ao18 t460.length co18) := (za8 BK465.out 0).trans rfl; have hcz58_1 : w57.cell? ⟨gb465, 1, none⟩ = some (.int .i64 t463) := (za8 BK465.out 1).trans rfl; have hfz58_0 := za7 BK465.out 0; have hfz58_1 := za7 BK465.out 1) | ((with_reducible refine zaj (f := 44) rfl ?_); refine zaz (some 64) rfl rfl Try.func44 (by kernel_rfl) rfl #[.agg #[.slice Ao18 t475.length co18, .int .i64 t463], .int .i64 1] rfl (by (try simp only [List.map_toArray, List.map_cons, List.map_nil]); first | done | (rw [show t475.length = t460.length from (Kd.R_reads' HO_466000.out).1.symm] <;> rfl) | rfl | (simp only [List.length_drop, List.length_take]; rfl)) ?_; (with_reducible refine (laws_heldCode.calls kj35 _ _ t475 t463 1 t476 _ ?side1 ?side2 A53.out).mono ?_); (case side1 => repeat (first | exact (Kd.R_reads' HO_466000.out).2.2 | (with_reducible refine Kd.zao ?_ _) | (with_reducible refine Kd.zaq ?_ _) | (with_reducible refine Kd.zau ?_))); (case side2 => rw [show t475.length = t460.length from (Kd.R_reads' HO_466000.out).1.symm]; exact (Kd.R_reads' HO_466000.out).2.1); rintro e w59 ⟨rfl, hb⟩; refine ⟨_, rfl, ?_⟩; have n0_ := Aside0.mk (Kd.zan (by (with_reducible repeat (first | apply Kd.zah | apply Kd.zaf | apply Kd.zai)); exact HO_457000.out) hb); have n1_ := Aside0.mk (Kd.zan (by (with_reducible repeat (first | apply Kd.zah | apply Kd.zaf | apply Kd.zai)); exact HO_466000.out) hb); have n2_ := Aside0.mk (zac (g := gb456) (o := .cells #[.slice Ao12 t451.length co12, .int .i64 t454] 39 (0, 0)) (by (with_reducible repeat (first | refine za4 ?_ _ | refine za6 ?_ | refine za5 ?_ _)); exact BK456.out) hb); have n3_ := Aside0.mk (zac (g := gb465) (o := .cells #[.slice Ao18 t460.length co18, .int .i64 t463] 39 (0, 0)) (by (with_reducible repeat (first | refine za4 ?_ _ | refine za6 ?_ | refine za5 ?_ _)); exact BK465.out) hb); have n4_ := Aside0.mk (zab (by repeat (first | (with_reducible first | exact HB.out | apply za2 | apply za0 | apply za1 | refine za3 ?_ GE456.out | refine za3 ?_ GE465.out) | exact HB.out)) hb); clear HO_457000; clear HO_466000; clear BK456; clear BK465; clear HB; have HO_457000 := n0_; have HO_466000 := n1_; have BK456 := n2_; have BK465 := n3_; have HB := n4_; clear n0_ n1_ n2_ n3_ n4_; (try clear hb); (try clear hb2); (try clear hk); (try clear hi)))
                    go_ret
                    exact ⟨by first | rfl | (simp [zae, zad] <;> rfl) | (simp [*, zae, zad] <;> rfl), by repeat (first | (with_reducible first | exact HB.out | apply za2 | apply za0 | apply za1 | refine za3 ?_ GE456.out | refine za3 ?_ GE465.out) | exact HB.out)⟩
                  · rw [if_neg c54] at H
                    have c54b0 : decide (t476 < 0) = false := decide_eq_false c54
                    clear c54
                    by_cases c60 : t476 = t474
                    · rw [if_pos c60] at H
                      have c60b0 : (t476 == t474) = true := beq_iff_eq.mpr c60
                      have c60b1 : (t476 != t474) = false := bne_eq_false_iff_eq.mpr c60
                      clear c60
                      replace H := Option.bind_eq_some_iff.mp H
                      obtain ⟨t477, A610, H⟩ := H
                      replace H : ((impl_HornerCode.f kj35 t477).bind fun bt480 => ((laws_eqCode.f kj35 bt480.1 bt480.2.1 t451 t454).bind fun t486 => (if t486 = true then (laws_FnExactHornerCode.j2 kj35 t474 (bt480.2.2 != t455) t475 t463) else (laws_FnExactHornerCode.j2 kj35 t474 true t475 t463)))) = some r := H
                      have A61 := Aside0.mk A610
                      clear A610
                      replace H := Option.bind_eq_some_iff.mp H
                      obtain ⟨⟨t480, t483, t484⟩, A620, H⟩ := H
                      replace H : ((laws_eqCode.f kj35 t480 t483 t451 t454).bind fun t486 => (if t486 = true then (laws_FnExactHornerCode.j2 kj35 t474 (t484 != t455) t475 t463) else (laws_FnExactHornerCode.j2 kj35 t474 true t475 t463))) = some r := H
                      have A62 := Aside0.mk A620
                      clear A620
                      have HC63 := Aside0.mk H
                      clear H
                      have hnb64 := NB465_456.out
                      have hnc64 := NB456_465.out
                      have hcz65_0 : wc.cell? ⟨gb465, 0, none⟩ = some (.slice Ao18 t460.length co18) := (za8 BK465.out 0).trans rfl
                      have hcz65_1 : wc.cell? ⟨gb465, 1, none⟩ = some (.int .i64 t463) := (za8 BK465.out 1).trans rfl
                      have hfz65_0 := za7 BK465.out 0
                      have hfz65_1 := za7 BK465.out 1
                      go_upto_region 23 with (first | ((with_reducible refine zaj (f := 37) rfl ?_); refine zaz (some 61) rfl rfl Try.func37 (by kernel_rfl) rfl #[.agg #[.slice Ao18 t460.length co18, .int .i64 t463], .int .i64 1] rfl (by (try simp only [List.map_toArray, List.map_cons, List.map_nil]); first | done | rfl | (simp only [List.length_drop, List.length_take]; rfl)) ?_; (with_reducible refine (laws_markCode.calls kj35 (fun k_ => some k_ = (.slice Ao18 t460.length co18 : Value).ownBlock) (.slice Ao18 t460.length co18) t460 t463 1 t474 t475 w _ ?side1 ?side2 A52.out).mono ?_); (case side1 => repeat (first | (with_reducible first | exact HB.out | apply za2 | apply za0 | apply za1 | refine za3 ?_ GE456.out | refine za3 ?_ GE465.out) | exact HB.out)); (case side2 => exact Kd.R_tight rfl HO_466000.out); rintro e w66 ⟨rfl, hy0, hb, hkp⟩; refine ⟨_, rfl, ?_⟩; have n0_ := Aside0.mk (Kd.zas (ok' := fun k_ => some k_ ≠ (.slice Ao18 t460.length co18 : Value).ownBlock) (Kd.R_keptB (HO_457000.out) hkp (fun k_ hk_ hs_ => (hk_) hs_)) (fun k_ hk_ => hk_.1)); have n1_ := Aside0.mk (Kd.R_reok rfl hy0 (fun k_ e_ => HO_466000.out.1 k_ e_)); have n2_ := Aside0.mk (blk_kept (by (with_reducible repeat (first | refine za4 ?_ _ | refine za6 ?_ | refine za5 ?_ _)); exact BK456.out) hkp (fun hs_ => (fun e_ => (Kd.R_ne HO_466000.out BK456.out (by decide)) e_) hs_)); have n3_ := Aside0.mk (blk_kept (by (with_reducible repeat (first | refine za4 ?_ _ | refine za6 ?_ | refine za5 ?_ _)); exact BK465.out) hkp (fun hs_ => (fun e_ => (Kd.R_ne HO_466000.out BK465.out (by decide)) e_) hs_)); have n4_ := Aside0.mk (hb); clear HO_457000; clear HO_466000; clear BK456; clear BK465; clear HB; have HO_457000 := n0_; have HO_466000 := n1_; have BK456 := n2_; have BK465 := n3_; have HB := n4_; clear n0_ n1_ n2_ n3_ n4_; (try clear hb); (try clear hkp); (try clear hy0); have hcz67_0 : w66.cell? ⟨gb465, 0, none⟩ = some (.slice Ao18 t460.length co18) := (za8 BK465.out 0).trans rfl; have hcz67_1 : w66.cell? ⟨gb465, 1, none⟩ = some (.int .i64 t463) := (za8 BK465.out 1).trans rfl; have hfz67_0 := za7 BK465.out 0; have hfz67_1 := za7 BK465.out 1) | ((with_reducible refine zaj (f := 44) rfl ?_); refine zaz (some 64) rfl rfl Try.func44 (by kernel_rfl) rfl #[.agg #[.slice Ao18 t475.length co18, .int .i64 t463], .int .i64 1] rfl (by (try simp only [List.map_toArray, List.map_cons, List.map_nil]); first | done | (rw [show t475.length = t460.length from (Kd.R_reads' HO_466000.out).1.symm] <;> rfl) | rfl | (simp only [List.length_drop, List.length_take]; rfl)) ?_; (with_reducible refine (laws_heldCode.calls kj35 _ _ t475 t463 1 t476 _ ?side1 ?side2 A53.out).mono ?_); (case side1 => repeat (first | exact (Kd.R_reads' HO_466000.out).2.2 | (with_reducible refine Kd.zao ?_ _) | (with_reducible refine Kd.zaq ?_ _) | (with_reducible refine Kd.zau ?_))); (case side2 => rw [show t475.length = t460.length from (Kd.R_reads' HO_466000.out).1.symm]; exact (Kd.R_reads' HO_466000.out).2.1); rintro e w68 ⟨rfl, hb⟩; refine ⟨_, rfl, ?_⟩; have n0_ := Aside0.mk (Kd.zan (by (with_reducible repeat (first | apply Kd.zah | apply Kd.zaf | apply Kd.zai)); exact HO_457000.out) hb); have n1_ := Aside0.mk (Kd.zan (by (with_reducible repeat (first | apply Kd.zah | apply Kd.zaf | apply Kd.zai)); exact HO_466000.out) hb); have n2_ := Aside0.mk (zac (g := gb456) (o := .cells #[.slice Ao12 t451.length co12, .int .i64 t454] 39 (0, 0)) (by (with_reducible repeat (first | refine za4 ?_ _ | refine za6 ?_ | refine za5 ?_ _)); exact BK456.out) hb); have n3_ := Aside0.mk (zac (g := gb465) (o := .cells #[.slice Ao18 t460.length co18, .int .i64 t463] 39 (0, 0)) (by (with_reducible repeat (first | refine za4 ?_ _ | refine za6 ?_ | refine za5 ?_ _)); exact BK465.out) hb); have n4_ := Aside0.mk (zab (by repeat (first | (with_reducible first | exact HB.out | apply za2 | apply za0 | apply za1 | refine za3 ?_ GE456.out | refine za3 ?_ GE465.out) | exact HB.out)) hb); clear HO_457000; clear HO_466000; clear BK456; clear BK465; clear HB; have HO_457000 := n0_; have HO_466000 := n1_; have BK456 := n2_; have BK465 := n3_; have HB := n4_; clear n0_ n1_ n2_ n3_ n4_; (try clear hb); (try clear hb2); (try clear hk); (try clear hi)) | ((with_reducible refine zaj (f := 17) rfl ?_); refine zaz (some 72) rfl rfl Try.func17 (by kernel_rfl) rfl #[.slice A0 l0.length c0] rfl (by (try simp only [List.map_toArray, List.map_cons, List.map_nil]); first | done | rfl | (simp only [List.length_drop, List.length_take]; rfl)) ?_; (with_reducible refine (laws_toIntS.calls kj35 _ _ l0 t477 _ ?side1 ?side2 A61.out).mono ?_); (case side1 => repeat (first | exact (Kd.zb3 HR0.out HB.out) | (with_reducible refine Kd.zao ?_ _) | (with_reducible refine Kd.zaq ?_ _) | (with_reducible refine Kd.zau ?_))); (case side2 => exact HC0.out); rintro e w69 ⟨v478, rfl, ho0, hb⟩; refine ⟨_, rfl, ?_⟩; have n0_ := Aside0.mk (Kd.zan (by (with_reducible repeat (first | apply Kd.zah | apply Kd.zaf | apply Kd.zai)); exact HO_457000.out) hb); have n1_ := Aside0.mk (Kd.zan (by (with_reducible repeat (first | apply Kd.zah | apply Kd.zaf | apply Kd.zai)); exact HO_466000.out) hb); have n2_ := Aside0.mk (Kd.zb1 ho0 (za9 (by repeat (first | (with_reducible first | exact HB.out | apply za2 | apply za0 | apply za1 | refine za3 ?_ GE456.out | refine za3 ?_ GE465.out) | exact HB.out)))); have n3_ := Aside0.mk (zac (g := gb456) (o := .cells #[.slice Ao12 t451.length co12, .int .i64 t454] 39 (0, 0)) (by (with_reducible repeat (first | refine za4 ?_ _ | refine za6 ?_ | refine za5 ?_ _)); exact BK456.out) hb); have n4_ := Aside0.mk (zac (g := gb465) (o := .cells #[.slice Ao18 t460.length co18, .int .i64 t463] 39 (0, 0)) (by (with_reducible repeat (first | refine za4 ?_ _ | refine za6 ?_ | refine za5 ?_ _)); exact BK465.out) hb); have n5_ := Aside0.mk (zab (by repeat (first | (with_reducible first | exact HB.out | apply za2 | apply za0 | apply za1 | refine za3 ?_ GE456.out | refine za3 ?_ GE465.out) | exact HB.out)) hb); clear HO_457000; clear HO_466000; clear BK456; clear BK465; clear HB; have HO_457000 := n0_; have HO_466000 := n1_; have HO479 := n2_; have BK456 := n3_; have BK465 := n4_; have HB := n5_; clear n0_ n1_ n2_ n3_ n4_ n5_; (try clear hb); (try clear hb2); (try clear hk); (try clear hi); (try clear ho0); obtain ⟨Ao70, co70, eo70⟩ := Kd.zay HO479.out; subst eo70) | ((with_reducible refine zaj (f := 43) rfl ?_); refine zaz (some 73) rfl rfl Try.func43 (by kernel_rfl) rfl #[.slice Ao70 t477.length co70] rfl (by (try simp only [List.map_toArray, List.map_cons, List.map_nil]); first | done | rfl | (simp only [List.length_drop, List.length_take]; rfl)) ?_; (with_reducible refine (impl_HornerCode.calls kj35 _ _ t477 t480 t483 t484 _ ?side1 ?side2 A62.out).mono ?_); (case side1 => repeat (first | exact (Kd.R_reads' HO479.out).2.2 | (with_reducible refine Kd.zao ?_ _) | (with_reducible refine Kd.zaq ?_ _) | (with_reducible refine Kd.zau ?_))); (case side2 => exact (Kd.R_reads' HO479.out).2.1); rintro e w71 ⟨v481, rfl, ho0, hb⟩; refine ⟨_, rfl, ?_⟩; have n0_ := Aside0.mk (Kd.R_elder' (by (with_reducible repeat (first | apply Kd.zah | apply Kd.zaf | apply Kd.zai)); exact HO_457000.out) (Kd.R_base ho0) hb); have n1_ := Aside0.mk (Kd.R_elder' (by (with_reducible repeat (first | apply Kd.zah | apply Kd.zaf | apply Kd.zai)); exact HO_466000.out) (Kd.R_base ho0) hb); have n2_ := Aside0.mk (Kd.zan (by (with_reducible repeat (first | apply Kd.zah | apply Kd.zaf | apply Kd.zai)); exact HO479.out) hb); have n3_ := Aside0.mk (Kd.zb1 (Kd.R_new' (Kd.R_new' ho0 (Kd.R_lt (by (with_reducible repeat (first | apply Kd.zah | apply Kd.zaf | apply Kd.zai)); exact HO_457000.out))) (Kd.R_lt (by (with_reducible repeat (first | apply Kd.zah | apply Kd.zaf | apply Kd.zai)); exact HO_466000.out))) (za9 (by repeat (first | (with_reducible first | exact HB.out | apply za2 | apply za0 | apply za1 | refine za3 ?_ GE456.out | refine za3 ?_ GE465.out) | exact HB.out)))); have n4_ := Aside0.mk (zac (g := gb456) (o := .cells #[.slice Ao12 t451.length co12, .int .i64 t454] 39 (0, 0)) (by (with_reducible repeat (first | refine za4 ?_ _ | refine za6 ?_ | refine za5 ?_ _)); exact BK456.out) hb); have n5_ := Aside0.mk (zac (g := gb465) (o := .cells #[.slice Ao18 t460.length co18, .int .i64 t463] 39 (0, 0)) (by (with_reducible repeat (first | refine za4 ?_ _ | refine za6 ?_ | refine za5 ?_ _)); exact BK465.out) hb); have n6_ := Aside0.mk (zab (by repeat (first | (with_reducible first | exact HB.out | apply za2 | apply za0 | apply za1 | refine za3 ?_ GE456.out | refine za3 ?_ GE465.out) | exact HB.out)) hb); clear HO_457000; clear HO_466000; clear HO479; clear BK456; clear BK465; clear HB; have HO_457000 := n0_; have HO_466000 := n1_; have HO479 := n2_; have HO482 := n3_; have BK456 := n4_; have BK465 := n5_; have HB := n6_; clear n0_ n1_ n2_ n3_ n4_ n5_ n6_; (try clear hb); (try clear hb2); (try clear hk); (try clear hi); (try clear ho0)) | ((with_reducible refine zak (N := 11) rfl ?_); refine zam ?hg (N := 11) ?hd (cs := #[.slice none 0 0, .int .i64 0]) (t := 39) ?hr ?_; (case hd => rfl); (case hg => rfl); (case hr => first | (go_simp; done) | (go_simp; rfl)); intro gb485 hg w72 hbox hb; have n0_ := Aside0.mk (Kd.zan (by (with_reducible repeat (first | apply Kd.zah | apply Kd.zaf | apply Kd.zai)); exact HO_457000.out) hb); have n1_ := Aside0.mk (Kd.zan (by (with_reducible repeat (first | apply Kd.zah | apply Kd.zaf | apply Kd.zai)); exact HO_466000.out) hb); have n2_ := Aside0.mk (Kd.zan (by (with_reducible repeat (first | apply Kd.zah | apply Kd.zaf | apply Kd.zai)); exact HO479.out) hb); have n3_ := Aside0.mk (Kd.zan (by (with_reducible repeat (first | apply Kd.zah | apply Kd.zaf | apply Kd.zai)); exact HO482.out) hb); have n4_ := Aside0.mk (zac (g := gb456) (o := .cells #[.slice Ao12 t451.length co12, .int .i64 t454] 39 (0, 0)) (by (with_reducible repeat (first | refine za4 ?_ _ | refine za6 ?_ | refine za5 ?_ _)); exact BK456.out) hb); have n5_ := Aside0.mk (zac (g := gb465) (o := .cells #[.slice Ao18 t460.length co18, .int .i64 t463] 39 (0, 0)) (by (with_reducible repeat (first | refine za4 ?_ _ | refine za6 ?_ | refine za5 ?_ _)); exact BK465.out) hb); have n6_ := Aside0.mk (zab (by repeat (first | (with_reducible first | exact HB.out | apply za2 | apply za0 | apply za1 | refine za3 ?_ GE456.out | refine za3 ?_ GE465.out) | exact HB.out)) hb); have n7_ := Aside0.mk (hbox); have n8_ := Aside0.mk ((by rw [hg]; exact (za9 (by repeat (first | (with_reducible first | exact HB.out | apply za2 | apply za0 | apply za1 | refine za3 ?_ GE456.out | refine za3 ?_ GE465.out) | exact HB.out))) : w.heap.size ≤ gb485)); have n9_ := Aside0.mk ((by rw [hg]; exact (za9 (by repeat (first | (with_reducible first | exact HB.out | apply za2 | apply za0 | apply za1 | refine za3 ?_ GE456.out | refine za3 ?_ GE465.out) | exact HB.out))) : w.heap.size ≤ gb485)); have n10_ := Aside0.mk ((by rw [hg]; exact Nat.ne_of_lt (zax (g := gb456) (o := .cells #[.slice Ao12 t451.length co12, .int .i64 t454] 39 (0, 0)) (by (with_reducible repeat (first | refine za4 ?_ _ | refine za6 ?_ | refine za5 ?_ _)); exact BK456.out)) : gb456 ≠ gb485)); have n11_ := Aside0.mk ((by rw [hg]; exact Nat.ne_of_gt (zax (g := gb456) (o := .cells #[.slice Ao12 t451.length co12, .int .i64 t454] 39 (0, 0)) (by (with_reducible repeat (first | refine za4 ?_ _ | refine za6 ?_ | refine za5 ?_ _)); exact BK456.out)) : gb485 ≠ gb456)); have n12_ := Aside0.mk ((by rw [hg]; exact Nat.ne_of_lt (zax (g := gb465) (o := .cells #[.slice Ao18 t460.length co18, .int .i64 t463] 39 (0, 0)) (by (with_reducible repeat (first | refine za4 ?_ _ | refine za6 ?_ | refine za5 ?_ _)); exact BK465.out)) : gb465 ≠ gb485)); have n13_ := Aside0.mk ((by rw [hg]; exact Nat.ne_of_gt (zax (g := gb465) (o := .cells #[.slice Ao18 t460.length co18, .int .i64 t463] 39 (0, 0)) (by (with_reducible repeat (first | refine za4 ?_ _ | refine za6 ?_ | refine za5 ?_ _)); exact BK465.out)) : gb485 ≠ gb465)); clear HO_457000; clear HO_466000; clear HO479; clear HO482; clear BK456; clear BK465; clear HB; have HO_457000 := n0_; have HO_466000 := n1_; have HO479 := n2_; have HO482 := n3_; have BK456 := n4_; have BK465 := n5_; have HB := n6_; have BK485 := n7_; have GW485 := n8_; have GE485 := n9_; have NB456_485 := n10_; have NB485_456 := n11_; have NB465_485 := n12_; have NB485_465 := n13_; clear n0_ n1_ n2_ n3_ n4_ n5_ n6_ n7_ n8_ n9_ n10_ n11_ n12_ n13_; clear hb hbox hg; obtain ⟨Ao73, co73, eo73⟩ := Kd.zay HO482.out; subst eo73; have hnb74 := NB485_456.out; have hnc74 := NB456_485.out; have hnb75 := NB485_465.out; have hnc75 := NB465_485.out; have hcz76_0 : w72.cell? ⟨gb485, 0, none⟩ = some (.slice none 0 0) := (za8 BK485.out 0).trans rfl; have hcz76_1 : w72.cell? ⟨gb485, 1, none⟩ = some (.int .i64 0) := (za8 BK485.out 1).trans rfl; have hfz76_0 := za7 BK485.out 0; have hfz76_1 := za7 BK485.out 1))
                      (try simp only [Act.put, List.setIfInBounds_toArray, List.set_cons_zero, List.set_cons_succ])
                      go_cut [84] (fun v84 wc => ∃ (kq : Nat) (x84_62 : Bool), v84 = .bool x84_62 ∧ Aside0 (laws_FnExactHornerCode.j2 kq t474 x84_62 t475 t463 = some r) ∧ Aside0 (kq ≤ kj35) ∧ Aside0 (Kd.R k69 69 wc w.heap.size (fun k_ => some k_ ≠ ((.slice Ao18 t460.length co18) : Value).ownBlock ∧ some k_ ≠ ((.slice Ao73 t480.length co73) : Value).ownBlock) (.slice Ao12 t451.length co12) t451) ∧ Aside0 (Kd.R k69 69 wc w.heap.size (fun k_ => some k_ ≠ ((.slice Ao12 t451.length co12) : Value).ownBlock ∧ some k_ ≠ ((.slice Ao73 t480.length co73) : Value).ownBlock) (.slice Ao18 t460.length co18) t475) ∧ Aside0 (Kd.R k69 69 wc w.heap.size (fun k_ => some k_ ≠ ((.slice Ao12 t451.length co12) : Value).ownBlock ∧ some k_ ≠ ((.slice Ao18 t460.length co18) : Value).ownBlock) (.slice Ao73 t480.length co73) t480) ∧ Aside0 (wc.heap[gb456]? = some (.cells #[(.slice Ao12 t451.length co12), .int .i64 t454] 39 (0, 0))) ∧ Aside0 (wc.heap[gb465]? = some (.cells #[(.slice Ao18 t460.length co18), .int .i64 t463] 39 (0, 0))) ∧ Aside0 (wc.heap[gb485]? = some (.cells #[(.slice Ao73 t480.length co73), .int .i64 t483] 39 (0, 0))) ∧ Aside0 (Below w.heap.size w wc))
                      case first =>
                        have H := HC63.out
                        clear HC63
                        replace H := Option.bind_eq_some_iff.mp H
                        obtain ⟨t486, A770, H⟩ := H
                        replace H : (if t486 = true then (laws_FnExactHornerCode.j2 kj35 t474 (t484 != t455) t475 t463) else (laws_FnExactHornerCode.j2 kj35 t474 true t475 t463)) = some r := H
                        have A77 := Aside0.mk A770
                        clear A770
                        by_cases c78 : t486 = true
                        · subst c78
                          have H1 : (laws_FnExactHornerCode.j2 kj35 t474 (t484 != t455) t475 t463) = some r := by rw [if_pos rfl] at H; exact H
                          clear H
                          have H := H1
                          clear H1
                          have H' := Aside0.mk H
                          clear H
                          have hnb79 := NB485_456.out
                          have hnc79 := NB456_485.out
                          have hnb80 := NB485_465.out
                          have hnc80 := NB465_485.out
                          have hcz81_0 : w72.cell? ⟨gb485, 0, none⟩ = some (.slice none 0 0) := (za8 BK485.out 0).trans rfl
                          have hcz81_1 : w72.cell? ⟨gb485, 1, none⟩ = some (.int .i64 0) := (za8 BK485.out 1).trans rfl
                          have hfz81_0 := za7 BK485.out 0
                          have hfz81_1 := za7 BK485.out 1
                          have hnb82 := NB456_465.out
                          have hnc82 := NB465_456.out
                          have hcz83_0 : w72.cell? ⟨gb456, 0, none⟩ = some (.slice Ao12 t451.length co12) := (za8 BK456.out 0).trans rfl
                          have hcz83_1 : w72.cell? ⟨gb456, 1, none⟩ = some (.int .i64 t454) := (za8 BK456.out 1).trans rfl
                          have hfz83_0 := za7 BK456.out 0
                          have hfz83_1 := za7 BK456.out 1
                          go_wp2_with (first | ((with_reducible refine zaj (f := 28) rfl ?_); refine zaz (some 78) rfl rfl Try.func28 (by kernel_rfl) rfl #[.agg #[.slice Ao73 t480.length co73, .int .i64 t483], .agg #[.slice Ao12 t451.length co12, .int .i64 t454]] rfl (by (try simp only [List.map_toArray, List.map_cons, List.map_nil]); first | done | rfl | (simp only [List.length_drop, List.length_take]; rfl)) ?_; (with_reducible refine (laws_eqCode.calls kj35 _ _ t480 t483 _ _ t451 t454 true _ ?side1 ?side2 ?side3 ?side4 A77.out).mono ?_); (case side1 => refine (Kd.R_reads' (e := 69) (base := w.heap.size) (ok := fun k_ => ((True ∧ some k_ ≠ (.slice Ao12 t451.length co12 : Value).ownBlock) ∧ some k_ ≠ (.slice Ao18 t460.length co18 : Value).ownBlock)) (n := t480.length) (c := co73) ?_).2.2; exact (by (with_reducible repeat (first | apply Kd.zah | apply Kd.zaf | apply Kd.zai)); exact (Kd.zas (Kd.R_far (p := ⟨gb485, 1, none⟩) (Kd.R_far (p := ⟨gb485, 0, none⟩) (Kd.zar HO482.out BK485.out (by decide)) (fun _ hk => hk.2) (.slice Ao73 t480.length co73)) (fun _ hk => hk.2) (.int .i64 t483)) (fun _ h_ => h_.1)))); (case side2 => exact (Kd.R_reads' HO482.out).2.1); (case side3 => refine (Kd.R_reads' (e := 69) (base := w.heap.size) (ok := fun k_ => (some k_ ≠ (.slice Ao18 t460.length co18 : Value).ownBlock ∧ some k_ ≠ (.slice Ao73 t480.length co73 : Value).ownBlock)) (n := t451.length) (c := co12) ?_).2.2; exact (by (with_reducible repeat (first | apply Kd.zah | apply Kd.zaf | apply Kd.zai)); exact (Kd.zas (Kd.R_far (p := ⟨gb485, 1, none⟩) (Kd.R_far (p := ⟨gb485, 0, none⟩) (Kd.zar HO_457000.out BK485.out (by decide)) (fun _ hk => hk.2) (.slice Ao73 t480.length co73)) (fun _ hk => hk.2) (.int .i64 t483)) (fun _ h_ => h_.1)))); (case side4 => exact (Kd.R_reads' HO_457000.out).2.1); rintro e w84 ⟨rfl, hb⟩; refine ⟨_, rfl, ?_⟩; have n0_ := Aside0.mk (Kd.zan (by (with_reducible repeat (first | apply Kd.zah | apply Kd.zaf | apply Kd.zai)); exact (Kd.zas (Kd.R_far (p := ⟨gb485, 1, none⟩) (Kd.R_far (p := ⟨gb485, 0, none⟩) (Kd.zar HO_457000.out BK485.out (by decide)) (fun _ hk => hk.2) (.slice Ao73 t480.length co73)) (fun _ hk => hk.2) (.int .i64 t483)) (fun _ h_ => h_.1))) hb); have n1_ := Aside0.mk (Kd.zan (by (with_reducible repeat (first | apply Kd.zah | apply Kd.zaf | apply Kd.zai)); exact (Kd.zas (Kd.R_far (p := ⟨gb485, 1, none⟩) (Kd.R_far (p := ⟨gb485, 0, none⟩) (Kd.zar HO_466000.out BK485.out (by decide)) (fun _ hk => hk.2) (.slice Ao73 t480.length co73)) (fun _ hk => hk.2) (.int .i64 t483)) (fun _ h_ => h_.1))) hb); have n2_ := Aside0.mk (Kd.zan (by (with_reducible repeat (first | apply Kd.zah | apply Kd.zaf | apply Kd.zai)); exact (Kd.zas (Kd.R_far (p := ⟨gb485, 1, none⟩) (Kd.R_far (p := ⟨gb485, 0, none⟩) (Kd.zar HO479.out BK485.out (by decide)) (fun _ hk => hk.2) (.slice Ao73 t480.length co73)) (fun _ hk => hk.2) (.int .i64 t483)) (fun _ h_ => h_.1))) hb); have n3_ := Aside0.mk (Kd.zan (by (with_reducible repeat (first | apply Kd.zah | apply Kd.zaf | apply Kd.zai)); exact (Kd.zas (Kd.R_far (p := ⟨gb485, 1, none⟩) (Kd.R_far (p := ⟨gb485, 0, none⟩) (Kd.zar HO482.out BK485.out (by decide)) (fun _ hk => hk.2) (.slice Ao73 t480.length co73)) (fun _ hk => hk.2) (.int .i64 t483)) (fun _ h_ => h_.1))) hb); have n4_ := Aside0.mk (zac (g := gb456) (o := .cells #[.slice Ao12 t451.length co12, .int .i64 t454] 39 (0, 0)) (by (with_reducible repeat (first | refine za4 ?_ _ | refine za6 ?_ | refine za5 ?_ _)); refine zaw ?_ NB456_485.out _; (with_reducible repeat (first | refine za4 ?_ _ | refine za6 ?_ | refine za5 ?_ _)); refine zaw ?_ NB456_485.out _; (with_reducible repeat (first | refine za4 ?_ _ | refine za6 ?_ | refine za5 ?_ _)); exact BK456.out) hb); have n5_ := Aside0.mk (zac (g := gb465) (o := .cells #[.slice Ao18 t460.length co18, .int .i64 t463] 39 (0, 0)) (by (with_reducible repeat (first | refine za4 ?_ _ | refine za6 ?_ | refine za5 ?_ _)); refine zaw ?_ NB465_485.out _; (with_reducible repeat (first | refine za4 ?_ _ | refine za6 ?_ | refine za5 ?_ _)); refine zaw ?_ NB465_485.out _; (with_reducible repeat (first | refine za4 ?_ _ | refine za6 ?_ | refine za5 ?_ _)); exact BK465.out) hb); have n6_ := Aside0.mk (zac (g := gb485) (o := .cells #[.slice Ao73 t480.length co73, .int .i64 t483] 39 (0, 0)) (by (with_reducible repeat (first | refine za4 ?_ _ | refine za6 ?_ | refine za5 ?_ _)); refine zat (cs := #[.slice Ao73 t480.length co73, .int .i64 0]) ?_ 1 _ rfl; (with_reducible repeat (first | refine za4 ?_ _ | refine za6 ?_ | refine za5 ?_ _)); refine zat (cs := #[.slice none 0 0, .int .i64 0]) ?_ 0 _ rfl; (with_reducible repeat (first | refine za4 ?_ _ | refine za6 ?_ | refine za5 ?_ _)); exact BK485.out) hb); have n7_ := Aside0.mk (zab (by repeat (first | (with_reducible first | exact HB.out | apply za2 | apply za0 | apply za1 | refine za3 ?_ GE456.out | refine za3 ?_ GE465.out | refine za3 ?_ GE485.out) | exact HB.out)) hb); clear HO_457000; clear HO_466000; clear HO479; clear HO482; clear BK456; clear BK465; clear BK485; clear HB; have HO_457000 := n0_; have HO_466000 := n1_; have HO479 := n2_; have HO482 := n3_; have BK456 := n4_; have BK465 := n5_; have BK485 := n6_; have HB := n7_; clear n0_ n1_ n2_ n3_ n4_ n5_ n6_ n7_; (try clear hb); (try clear hb2); (try clear hk); (try clear hi)))
                          go_meet
                          case rel => exact ⟨_, ((t484 != t455)), (by first | rfl | (simp; done) | (simp [*]; done)), H', ⟨by have := HJ6.out; have := HJ35.out; first | omega | exact Nat.le_refl _⟩, ⟨by (with_reducible repeat (first | apply Kd.zah | apply Kd.zaf | apply Kd.zai)); exact HO_457000.out⟩, ⟨by (with_reducible repeat (first | apply Kd.zah | apply Kd.zaf | apply Kd.zai)); exact HO_466000.out⟩, ⟨by (with_reducible repeat (first | apply Kd.zah | apply Kd.zaf | apply Kd.zai)); exact Kd.zas HO482.out (fun _ hk => ⟨hk.1.2, hk.2⟩)⟩, ⟨by (with_reducible repeat (first | refine za4 ?_ _ | refine za6 ?_ | refine za5 ?_ _)); exact BK456.out⟩, ⟨by (with_reducible repeat (first | refine za4 ?_ _ | refine za6 ?_ | refine za5 ?_ _)); exact BK465.out⟩, ⟨by (with_reducible repeat (first | refine za4 ?_ _ | refine za6 ?_ | refine za5 ?_ _)); exact BK485.out⟩, ⟨by repeat (first | (with_reducible first | exact HB.out | apply za2 | apply za0 | apply za1 | refine za3 ?_ GE456.out | refine za3 ?_ GE465.out | refine za3 ?_ GE485.out) | exact HB.out)⟩⟩
                        · replace c78 := Bool.eq_false_iff.mpr c78
                          subst c78
                          have H1 : (laws_FnExactHornerCode.j2 kj35 t474 true t475 t463) = some r := by rw [if_neg (show ¬ (false = true) by decide)] at H; exact H
                          clear H
                          have H := H1
                          clear H1
                          have H' := Aside0.mk H
                          clear H
                          have hnb85 := NB485_456.out
                          have hnc85 := NB456_485.out
                          have hnb86 := NB485_465.out
                          have hnc86 := NB465_485.out
                          have hcz87_0 : w72.cell? ⟨gb485, 0, none⟩ = some (.slice none 0 0) := (za8 BK485.out 0).trans rfl
                          have hcz87_1 : w72.cell? ⟨gb485, 1, none⟩ = some (.int .i64 0) := (za8 BK485.out 1).trans rfl
                          have hfz87_0 := za7 BK485.out 0
                          have hfz87_1 := za7 BK485.out 1
                          have hnb88 := NB456_465.out
                          have hnc88 := NB465_456.out
                          have hcz89_0 : w72.cell? ⟨gb456, 0, none⟩ = some (.slice Ao12 t451.length co12) := (za8 BK456.out 0).trans rfl
                          have hcz89_1 : w72.cell? ⟨gb456, 1, none⟩ = some (.int .i64 t454) := (za8 BK456.out 1).trans rfl
                          have hfz89_0 := za7 BK456.out 0
                          have hfz89_1 := za7 BK456.out 1
                          go_wp2_with (first | ((with_reducible refine zaj (f := 28) rfl ?_); refine zaz (some 78) rfl rfl Try.func28 (by kernel_rfl) rfl #[.agg #[.slice Ao73 t480.length co73, .int .i64 t483], .agg #[.slice Ao12 t451.length co12, .int .i64 t454]] rfl (by (try simp only [List.map_toArray, List.map_cons, List.map_nil]); first | done | rfl | (simp only [List.length_drop, List.length_take]; rfl)) ?_; (with_reducible refine (laws_eqCode.calls kj35 _ _ t480 t483 _ _ t451 t454 false _ ?side1 ?side2 ?side3 ?side4 A77.out).mono ?_); (case side1 => refine (Kd.R_reads' (e := 69) (base := w.heap.size) (ok := fun k_ => ((True ∧ some k_ ≠ (.slice Ao12 t451.length co12 : Value).ownBlock) ∧ some k_ ≠ (.slice Ao18 t460.length co18 : Value).ownBlock)) (n := t480.length) (c := co73) ?_).2.2; exact (by (with_reducible repeat (first | apply Kd.zah | apply Kd.zaf | apply Kd.zai)); exact (Kd.zas (Kd.R_far (p := ⟨gb485, 1, none⟩) (Kd.R_far (p := ⟨gb485, 0, none⟩) (Kd.zar HO482.out BK485.out (by decide)) (fun _ hk => hk.2) (.slice Ao73 t480.length co73)) (fun _ hk => hk.2) (.int .i64 t483)) (fun _ h_ => h_.1)))); (case side2 => exact (Kd.R_reads' HO482.out).2.1); (case side3 => refine (Kd.R_reads' (e := 69) (base := w.heap.size) (ok := fun k_ => (some k_ ≠ (.slice Ao18 t460.length co18 : Value).ownBlock ∧ some k_ ≠ (.slice Ao73 t480.length co73 : Value).ownBlock)) (n := t451.length) (c := co12) ?_).2.2; exact (by (with_reducible repeat (first | apply Kd.zah | apply Kd.zaf | apply Kd.zai)); exact (Kd.zas (Kd.R_far (p := ⟨gb485, 1, none⟩) (Kd.R_far (p := ⟨gb485, 0, none⟩) (Kd.zar HO_457000.out BK485.out (by decide)) (fun _ hk => hk.2) (.slice Ao73 t480.length co73)) (fun _ hk => hk.2) (.int .i64 t483)) (fun _ h_ => h_.1)))); (case side4 => exact (Kd.R_reads' HO_457000.out).2.1); rintro e w90 ⟨rfl, hb⟩; refine ⟨_, rfl, ?_⟩; have n0_ := Aside0.mk (Kd.zan (by (with_reducible repeat (first | apply Kd.zah | apply Kd.zaf | apply Kd.zai)); exact (Kd.zas (Kd.R_far (p := ⟨gb485, 1, none⟩) (Kd.R_far (p := ⟨gb485, 0, none⟩) (Kd.zar HO_457000.out BK485.out (by decide)) (fun _ hk => hk.2) (.slice Ao73 t480.length co73)) (fun _ hk => hk.2) (.int .i64 t483)) (fun _ h_ => h_.1))) hb); have n1_ := Aside0.mk (Kd.zan (by (with_reducible repeat (first | apply Kd.zah | apply Kd.zaf | apply Kd.zai)); exact (Kd.zas (Kd.R_far (p := ⟨gb485, 1, none⟩) (Kd.R_far (p := ⟨gb485, 0, none⟩) (Kd.zar HO_466000.out BK485.out (by decide)) (fun _ hk => hk.2) (.slice Ao73 t480.length co73)) (fun _ hk => hk.2) (.int .i64 t483)) (fun _ h_ => h_.1))) hb); have n2_ := Aside0.mk (Kd.zan (by (with_reducible repeat (first | apply Kd.zah | apply Kd.zaf | apply Kd.zai)); exact (Kd.zas (Kd.R_far (p := ⟨gb485, 1, none⟩) (Kd.R_far (p := ⟨gb485, 0, none⟩) (Kd.zar HO479.out BK485.out (by decide)) (fun _ hk => hk.2) (.slice Ao73 t480.length co73)) (fun _ hk => hk.2) (.int .i64 t483)) (fun _ h_ => h_.1))) hb); have n3_ := Aside0.mk (Kd.zan (by (with_reducible repeat (first | apply Kd.zah | apply Kd.zaf | apply Kd.zai)); exact (Kd.zas (Kd.R_far (p := ⟨gb485, 1, none⟩) (Kd.R_far (p := ⟨gb485, 0, none⟩) (Kd.zar HO482.out BK485.out (by decide)) (fun _ hk => hk.2) (.slice Ao73 t480.length co73)) (fun _ hk => hk.2) (.int .i64 t483)) (fun _ h_ => h_.1))) hb); have n4_ := Aside0.mk (zac (g := gb456) (o := .cells #[.slice Ao12 t451.length co12, .int .i64 t454] 39 (0, 0)) (by (with_reducible repeat (first | refine za4 ?_ _ | refine za6 ?_ | refine za5 ?_ _)); refine zaw ?_ NB456_485.out _; (with_reducible repeat (first | refine za4 ?_ _ | refine za6 ?_ | refine za5 ?_ _)); refine zaw ?_ NB456_485.out _; (with_reducible repeat (first | refine za4 ?_ _ | refine za6 ?_ | refine za5 ?_ _)); exact BK456.out) hb); have n5_ := Aside0.mk (zac (g := gb465) (o := .cells #[.slice Ao18 t460.length co18, .int .i64 t463] 39 (0, 0)) (by (with_reducible repeat (first | refine za4 ?_ _ | refine za6 ?_ | refine za5 ?_ _)); refine zaw ?_ NB465_485.out _; (with_reducible repeat (first | refine za4 ?_ _ | refine za6 ?_ | refine za5 ?_ _)); refine zaw ?_ NB465_485.out _; (with_reducible repeat (first | refine za4 ?_ _ | refine za6 ?_ | refine za5 ?_ _)); exact BK465.out) hb); have n6_ := Aside0.mk (zac (g := gb485) (o := .cells #[.slice Ao73 t480.length co73, .int .i64 t483] 39 (0, 0)) (by (with_reducible repeat (first | refine za4 ?_ _ | refine za6 ?_ | refine za5 ?_ _)); refine zat (cs := #[.slice Ao73 t480.length co73, .int .i64 0]) ?_ 1 _ rfl; (with_reducible repeat (first | refine za4 ?_ _ | refine za6 ?_ | refine za5 ?_ _)); refine zat (cs := #[.slice none 0 0, .int .i64 0]) ?_ 0 _ rfl; (with_reducible repeat (first | refine za4 ?_ _ | refine za6 ?_ | refine za5 ?_ _)); exact BK485.out) hb); have n7_ := Aside0.mk (zab (by repeat (first | (with_reducible first | exact HB.out | apply za2 | apply za0 | apply za1 | refine za3 ?_ GE456.out | refine za3 ?_ GE465.out | refine za3 ?_ GE485.out) | exact HB.out)) hb); clear HO_457000; clear HO_466000; clear HO479; clear HO482; clear BK456; clear BK465; clear BK485; clear HB; have HO_457000 := n0_; have HO_466000 := n1_; have HO479 := n2_; have HO482 := n3_; have BK456 := n4_; have BK465 := n5_; have BK485 := n6_; have HB := n7_; clear n0_ n1_ n2_ n3_ n4_ n5_ n6_ n7_; (try clear hb); (try clear hb2); (try clear hk); (try clear hi)))
                          go_meet
                          case rel => exact ⟨_, (true), (by first | rfl | (simp; done) | (simp [*]; done)), H', ⟨by have := HJ6.out; have := HJ35.out; first | omega | exact Nat.le_refl _⟩, ⟨by (with_reducible repeat (first | apply Kd.zah | apply Kd.zaf | apply Kd.zai)); exact HO_457000.out⟩, ⟨by (with_reducible repeat (first | apply Kd.zah | apply Kd.zaf | apply Kd.zai)); exact HO_466000.out⟩, ⟨by (with_reducible repeat (first | apply Kd.zah | apply Kd.zaf | apply Kd.zai)); exact Kd.zas HO482.out (fun _ hk => ⟨hk.1.2, hk.2⟩)⟩, ⟨by (with_reducible repeat (first | refine za4 ?_ _ | refine za6 ?_ | refine za5 ?_ _)); exact BK456.out⟩, ⟨by (with_reducible repeat (first | refine za4 ?_ _ | refine za6 ?_ | refine za5 ?_ _)); exact BK465.out⟩, ⟨by (with_reducible repeat (first | refine za4 ?_ _ | refine za6 ?_ | refine za5 ?_ _)); exact BK485.out⟩, ⟨by repeat (first | (with_reducible first | exact HB.out | apply za2 | apply za0 | apply za1 | refine za3 ?_ GE456.out | refine za3 ?_ GE465.out | refine za3 ?_ GE485.out) | exact HB.out)⟩⟩
                      case rest =>
                        clear HC63
                        try clear c1
                        try clear c2
                        try clear c2b0
                        try clear c2b1
                        try clear p2
                        try clear c3
                        try clear c4
                        try clear c5
                        try clear c6
                        try clear c7
                        try clear c8
                        try clear c12
                        try clear c17
                        try clear c19
                        try clear c22
                        try clear c23
                        try clear c27
                        try clear c28
                        try clear c31
                        try clear c34
                        try clear c37
                        try clear c38
                        try clear c40
                        try clear c40b0
                        try clear c42
                        try clear c43
                        try clear c44
                        try clear c47
                        try clear c51
                        try clear c54
                        try clear c54b0
                        try clear c55
                        try clear c60
                        try clear c60b0
                        try clear c60b1
                        try clear c64
                        try clear c74
                        try clear c75
                        try clear c78
                        try clear c79
                        try clear c80
                        try clear c82
                        try clear c85
                        try clear c86
                        try clear c88
                        try clear hcz13_0
                        try clear hcz13_1
                        try clear hcz20_0
                        try clear hcz20_1
                        try clear hcz24_0
                        try clear hcz24_1
                        try clear hcz25_0
                        try clear hcz25_1
                        try clear hcz28_0
                        try clear hcz28_1
                        try clear hcz29_0
                        try clear hcz29_1
                        try clear hcz44_0
                        try clear hcz44_1
                        try clear hcz45_0
                        try clear hcz45_1
                        try clear hcz48_0
                        try clear hcz48_1
                        try clear hcz49_0
                        try clear hcz49_1
                        try clear hcz56_0
                        try clear hcz56_1
                        try clear hcz58_0
                        try clear hcz58_1
                        try clear hcz65_0
                        try clear hcz65_1
                        try clear hcz67_0
                        try clear hcz67_1
                        try clear hcz76_0
                        try clear hcz76_1
                        try clear hcz81_0
                        try clear hcz81_1
                        try clear hcz83_0
                        try clear hcz83_1
                        try clear hcz87_0
                        try clear hcz87_1
                        try clear hcz89_0
                        try clear hcz89_1
                        try clear hfz13_0
                        try clear hfz13_1
                        try clear hfz20_0
                        try clear hfz20_1
                        try clear hfz24_0
                        try clear hfz24_1
                        try clear hfz25_0
                        try clear hfz25_1
                        try clear hfz28_0
                        try clear hfz28_1
                        try clear hfz29_0
                        try clear hfz29_1
                        try clear hfz44_0
                        try clear hfz44_1
                        try clear hfz45_0
                        try clear hfz45_1
                        try clear hfz48_0
                        try clear hfz48_1
                        try clear hfz49_0
                        try clear hfz49_1
                        try clear hfz56_0
                        try clear hfz56_1
                        try clear hfz58_0
                        try clear hfz58_1
                        try clear hfz65_0
                        try clear hfz65_1
                        try clear hfz67_0
                        try clear hfz67_1
                        try clear hfz76_0
                        try clear hfz76_1
                        try clear hfz81_0
                        try clear hfz81_1
                        try clear hfz83_0
                        try clear hfz83_1
                        try clear hfz87_0
                        try clear hfz87_1
                        try clear hfz89_0
                        try clear hfz89_1
                        try clear p2
                        obtain ⟨kq, x84_62, rfl, HA, HJ62, HO_457000, HO_466000, HO_486000, BK456, BK465, BK485, HB⟩ := hcut
                        have hl466000_62 := (Kd.R_reads' HO_466000.out).1
                        rw [hl466000_62] at HO_466000
                        (try simp only [hl466000_62])
                        (try simp only [hl466000_62] at BK456)
                        (try simp only [hl466000_62] at BK465)
                        (try simp only [hl466000_62] at BK485)
                        (try simp only [hl466000_62] at HO_457000)
                        (try simp only [hl466000_62] at HO_486000)
                        cases kq with
                        | zero => exact absurd HA.out (by simp [laws_FnExactHornerCode.j2])
                        | succ kj62 =>
                          have H := HA.out
                          clear HA
                          simp only [laws_FnExactHornerCode.j2] at H
                          by_cases c91 : x84_62 = true
                          · subst c91
                            have H1 : (some false) = some r := by rw [if_pos rfl] at H; exact H
                            clear H
                            have H := H1
                            clear H1
                            obtain rfl := Option.some.inj H
                            go_wp2
                            go_ret
                            exact ⟨by first | rfl | (simp [zae, zad] <;> rfl) | (simp [*, zae, zad] <;> rfl), by repeat (first | (with_reducible first | exact HB.out | apply za2 | apply za0 | apply za1 | refine za3 ?_ GE456.out | refine za3 ?_ GE465.out | refine za3 ?_ GE485.out) | exact HB.out)⟩
                          · replace c91 := Bool.eq_false_iff.mpr c91
                            subst c91
                            have H1 : ((laws_heldCode.f kj62 t475 t463 1).bind fun t487 => (if t487 < 0 then (some false) else (if t487 = t474 then (some true) else (some false)))) = some r := by rw [if_neg (show ¬ (false = true) by decide)] at H; exact H
                            clear H
                            have H := H1
                            clear H1
                            replace H := Option.bind_eq_some_iff.mp H
                            obtain ⟨t487, A920, H⟩ := H
                            replace H : (if t487 < 0 then (some false) else (if t487 = t474 then (some true) else (some false))) = some r := H
                            have A92 := Aside0.mk A920
                            clear A920
                            by_cases c93 : t487 < 0
                            · rw [if_pos c93] at H
                              have c93b0 : decide (t487 < 0) = true := decide_eq_true c93
                              clear c93
                              obtain rfl := Option.some.inj H
                              have hnb94 := NB465_456.out
                              have hnc94 := NB456_465.out
                              have hnb95 := NB465_485.out
                              have hnc95 := NB485_465.out
                              have hcz96_0 : wc.cell? ⟨gb465, 0, none⟩ = some (.slice Ao18 t475.length co18) := (za8 BK465.out 0).trans rfl
                              have hcz96_1 : wc.cell? ⟨gb465, 1, none⟩ = some (.int .i64 t463) := (za8 BK465.out 1).trans rfl
                              have hfz96_0 := za7 BK465.out 0
                              have hfz96_1 := za7 BK465.out 1
                              go_wp2_with (first | ((with_reducible refine zaj (f := 44) rfl ?_); refine zaz (some 87) rfl rfl Try.func44 (by kernel_rfl) rfl #[.agg #[.slice Ao18 t475.length co18, .int .i64 t463], .int .i64 1] rfl (by (try simp only [List.map_toArray, List.map_cons, List.map_nil]); first | done | rfl | (simp only [List.length_drop, List.length_take]; rfl)) ?_; (with_reducible refine (laws_heldCode.calls kj62 _ _ t475 t463 1 t487 _ ?side1 ?side2 A92.out).mono ?_); (case side1 => repeat (first | exact (Kd.R_reads' HO_466000.out).2.2 | (with_reducible refine Kd.zao ?_ _) | (with_reducible refine Kd.zaq ?_ _) | (with_reducible refine Kd.zau ?_))); (case side2 => exact (Kd.R_reads' HO_466000.out).2.1); rintro e w97 ⟨rfl, hb⟩; refine ⟨_, rfl, ?_⟩; have n0_ := Aside0.mk (Kd.zan (by (with_reducible repeat (first | apply Kd.zah | apply Kd.zaf | apply Kd.zai)); exact HO_457000.out) hb); have n1_ := Aside0.mk (Kd.zan (by (with_reducible repeat (first | apply Kd.zah | apply Kd.zaf | apply Kd.zai)); exact HO_466000.out) hb); have n2_ := Aside0.mk (Kd.zan (by (with_reducible repeat (first | apply Kd.zah | apply Kd.zaf | apply Kd.zai)); exact HO_486000.out) hb); have n3_ := Aside0.mk (zac (g := gb456) (o := .cells #[.slice Ao12 t451.length co12, .int .i64 t454] 39 (0, 0)) (by (with_reducible repeat (first | refine za4 ?_ _ | refine za6 ?_ | refine za5 ?_ _)); exact BK456.out) hb); have n4_ := Aside0.mk (zac (g := gb465) (o := .cells #[.slice Ao18 t475.length co18, .int .i64 t463] 39 (0, 0)) (by (with_reducible repeat (first | refine za4 ?_ _ | refine za6 ?_ | refine za5 ?_ _)); exact BK465.out) hb); have n5_ := Aside0.mk (zac (g := gb485) (o := .cells #[.slice Ao73 t480.length co73, .int .i64 t483] 39 (0, 0)) (by (with_reducible repeat (first | refine za4 ?_ _ | refine za6 ?_ | refine za5 ?_ _)); exact BK485.out) hb); have n6_ := Aside0.mk (zab (by repeat (first | (with_reducible first | exact HB.out | apply za2 | apply za0 | apply za1 | refine za3 ?_ GE456.out | refine za3 ?_ GE465.out | refine za3 ?_ GE485.out) | exact HB.out)) hb); clear HO_457000; clear HO_466000; clear HO_486000; clear BK456; clear BK465; clear BK485; clear HB; have HO_457000 := n0_; have HO_466000 := n1_; have HO_486000 := n2_; have BK456 := n3_; have BK465 := n4_; have BK485 := n5_; have HB := n6_; clear n0_ n1_ n2_ n3_ n4_ n5_ n6_; (try clear hb); (try clear hb2); (try clear hk); (try clear hi)))
                              go_ret
                              exact ⟨by first | rfl | (simp [zae, zad] <;> rfl) | (simp [*, zae, zad] <;> rfl), by repeat (first | (with_reducible first | exact HB.out | apply za2 | apply za0 | apply za1 | refine za3 ?_ GE456.out | refine za3 ?_ GE465.out | refine za3 ?_ GE485.out) | exact HB.out)⟩
                            · rw [if_neg c93] at H
                              have c93b0 : decide (t487 < 0) = false := decide_eq_false c93
                              clear c93
                              by_cases c98 : t487 = t474
                              · rw [if_pos c98] at H
                                have c98b0 : (t487 == t474) = true := beq_iff_eq.mpr c98
                                have c98b1 : (t487 != t474) = false := bne_eq_false_iff_eq.mpr c98
                                clear c98
                                obtain rfl := Option.some.inj H
                                have hnb99 := NB465_456.out
                                have hnc99 := NB456_465.out
                                have hnb100 := NB465_485.out
                                have hnc100 := NB485_465.out
                                have hcz101_0 : wc.cell? ⟨gb465, 0, none⟩ = some (.slice Ao18 t475.length co18) := (za8 BK465.out 0).trans rfl
                                have hcz101_1 : wc.cell? ⟨gb465, 1, none⟩ = some (.int .i64 t463) := (za8 BK465.out 1).trans rfl
                                have hfz101_0 := za7 BK465.out 0
                                have hfz101_1 := za7 BK465.out 1
                                go_wp2_with (first | ((with_reducible refine zaj (f := 44) rfl ?_); refine zaz (some 87) rfl rfl Try.func44 (by kernel_rfl) rfl #[.agg #[.slice Ao18 t475.length co18, .int .i64 t463], .int .i64 1] rfl (by (try simp only [List.map_toArray, List.map_cons, List.map_nil]); first | done | rfl | (simp only [List.length_drop, List.length_take]; rfl)) ?_; (with_reducible refine (laws_heldCode.calls kj62 _ _ t475 t463 1 t487 _ ?side1 ?side2 A92.out).mono ?_); (case side1 => repeat (first | exact (Kd.R_reads' HO_466000.out).2.2 | (with_reducible refine Kd.zao ?_ _) | (with_reducible refine Kd.zaq ?_ _) | (with_reducible refine Kd.zau ?_))); (case side2 => exact (Kd.R_reads' HO_466000.out).2.1); rintro e w102 ⟨rfl, hb⟩; refine ⟨_, rfl, ?_⟩; have n0_ := Aside0.mk (Kd.zan (by (with_reducible repeat (first | apply Kd.zah | apply Kd.zaf | apply Kd.zai)); exact HO_457000.out) hb); have n1_ := Aside0.mk (Kd.zan (by (with_reducible repeat (first | apply Kd.zah | apply Kd.zaf | apply Kd.zai)); exact HO_466000.out) hb); have n2_ := Aside0.mk (Kd.zan (by (with_reducible repeat (first | apply Kd.zah | apply Kd.zaf | apply Kd.zai)); exact HO_486000.out) hb); have n3_ := Aside0.mk (zac (g := gb456) (o := .cells #[.slice Ao12 t451.length co12, .int .i64 t454] 39 (0, 0)) (by (with_reducible repeat (first | refine za4 ?_ _ | refine za6 ?_ | refine za5 ?_ _)); exact BK456.out) hb); have n4_ := Aside0.mk (zac (g := gb465) (o := .cells #[.slice Ao18 t475.length co18, .int .i64 t463] 39 (0, 0)) (by (with_reducible repeat (first | refine za4 ?_ _ | refine za6 ?_ | refine za5 ?_ _)); exact BK465.out) hb); have n5_ := Aside0.mk (zac (g := gb485) (o := .cells #[.slice Ao73 t480.length co73, .int .i64 t483] 39 (0, 0)) (by (with_reducible repeat (first | refine za4 ?_ _ | refine za6 ?_ | refine za5 ?_ _)); exact BK485.out) hb); have n6_ := Aside0.mk (zab (by repeat (first | (with_reducible first | exact HB.out | apply za2 | apply za0 | apply za1 | refine za3 ?_ GE456.out | refine za3 ?_ GE465.out | refine za3 ?_ GE485.out) | exact HB.out)) hb); clear HO_457000; clear HO_466000; clear HO_486000; clear BK456; clear BK465; clear BK485; clear HB; have HO_457000 := n0_; have HO_466000 := n1_; have HO_486000 := n2_; have BK456 := n3_; have BK465 := n4_; have BK485 := n5_; have HB := n6_; clear n0_ n1_ n2_ n3_ n4_ n5_ n6_; (try clear hb); (try clear hb2); (try clear hk); (try clear hi)))
                                go_ret
                                exact ⟨by first | rfl | (simp [zae, zad] <;> rfl) | (simp [*, zae, zad] <;> rfl), by repeat (first | (with_reducible first | exact HB.out | apply za2 | apply za0 | apply za1 | refine za3 ?_ GE456.out | refine za3 ?_ GE465.out | refine za3 ?_ GE485.out) | exact HB.out)⟩
                              · rw [if_neg c98] at H
                                have c98b0 : (t487 == t474) = false := beq_eq_false_iff_ne.mpr c98
                                have c98b1 : (t487 != t474) = true := bne_iff_ne.mpr c98
                                obtain rfl := Option.some.inj H
                                have hnb103 := NB465_456.out
                                have hnc103 := NB456_465.out
                                have hnb104 := NB465_485.out
                                have hnc104 := NB485_465.out
                                have hcz105_0 : wc.cell? ⟨gb465, 0, none⟩ = some (.slice Ao18 t475.length co18) := (za8 BK465.out 0).trans rfl
                                have hcz105_1 : wc.cell? ⟨gb465, 1, none⟩ = some (.int .i64 t463) := (za8 BK465.out 1).trans rfl
                                have hfz105_0 := za7 BK465.out 0
                                have hfz105_1 := za7 BK465.out 1
                                go_wp2_with (first | ((with_reducible refine zaj (f := 44) rfl ?_); refine zaz (some 87) rfl rfl Try.func44 (by kernel_rfl) rfl #[.agg #[.slice Ao18 t475.length co18, .int .i64 t463], .int .i64 1] rfl (by (try simp only [List.map_toArray, List.map_cons, List.map_nil]); first | done | rfl | (simp only [List.length_drop, List.length_take]; rfl)) ?_; (with_reducible refine (laws_heldCode.calls kj62 _ _ t475 t463 1 t487 _ ?side1 ?side2 A92.out).mono ?_); (case side1 => repeat (first | exact (Kd.R_reads' HO_466000.out).2.2 | (with_reducible refine Kd.zao ?_ _) | (with_reducible refine Kd.zaq ?_ _) | (with_reducible refine Kd.zau ?_))); (case side2 => exact (Kd.R_reads' HO_466000.out).2.1); rintro e w106 ⟨rfl, hb⟩; refine ⟨_, rfl, ?_⟩; have n0_ := Aside0.mk (Kd.zan (by (with_reducible repeat (first | apply Kd.zah | apply Kd.zaf | apply Kd.zai)); exact HO_457000.out) hb); have n1_ := Aside0.mk (Kd.zan (by (with_reducible repeat (first | apply Kd.zah | apply Kd.zaf | apply Kd.zai)); exact HO_466000.out) hb); have n2_ := Aside0.mk (Kd.zan (by (with_reducible repeat (first | apply Kd.zah | apply Kd.zaf | apply Kd.zai)); exact HO_486000.out) hb); have n3_ := Aside0.mk (zac (g := gb456) (o := .cells #[.slice Ao12 t451.length co12, .int .i64 t454] 39 (0, 0)) (by (with_reducible repeat (first | refine za4 ?_ _ | refine za6 ?_ | refine za5 ?_ _)); exact BK456.out) hb); have n4_ := Aside0.mk (zac (g := gb465) (o := .cells #[.slice Ao18 t475.length co18, .int .i64 t463] 39 (0, 0)) (by (with_reducible repeat (first | refine za4 ?_ _ | refine za6 ?_ | refine za5 ?_ _)); exact BK465.out) hb); have n5_ := Aside0.mk (zac (g := gb485) (o := .cells #[.slice Ao73 t480.length co73, .int .i64 t483] 39 (0, 0)) (by (with_reducible repeat (first | refine za4 ?_ _ | refine za6 ?_ | refine za5 ?_ _)); exact BK485.out) hb); have n6_ := Aside0.mk (zab (by repeat (first | (with_reducible first | exact HB.out | apply za2 | apply za0 | apply za1 | refine za3 ?_ GE456.out | refine za3 ?_ GE465.out | refine za3 ?_ GE485.out) | exact HB.out)) hb); clear HO_457000; clear HO_466000; clear HO_486000; clear BK456; clear BK465; clear BK485; clear HB; have HO_457000 := n0_; have HO_466000 := n1_; have HO_486000 := n2_; have BK456 := n3_; have BK465 := n4_; have BK485 := n5_; have HB := n6_; clear n0_ n1_ n2_ n3_ n4_ n5_ n6_; (try clear hb); (try clear hb2); (try clear hk); (try clear hi)))
                                go_ret
                                exact ⟨by first | rfl | (simp [zae, zad] <;> rfl) | (simp [*, zae, zad] <;> rfl), by repeat (first | (with_reducible first | exact HB.out | apply za2 | apply za0 | apply za1 | refine za3 ?_ GE456.out | refine za3 ?_ GE465.out | refine za3 ?_ GE485.out) | exact HB.out)⟩
                    · rw [if_neg c60] at H
                      have c60b0 : (t476 == t474) = false := beq_eq_false_iff_ne.mpr c60
                      have c60b1 : (t476 != t474) = true := bne_iff_ne.mpr c60
                      obtain rfl := Option.some.inj H
                      have hnb107 := NB465_456.out
                      have hnc107 := NB456_465.out
                      have hcz108_0 : wc.cell? ⟨gb465, 0, none⟩ = some (.slice Ao18 t460.length co18) := (za8 BK465.out 0).trans rfl
                      have hcz108_1 : wc.cell? ⟨gb465, 1, none⟩ = some (.int .i64 t463) := (za8 BK465.out 1).trans rfl
                      have hfz108_0 := za7 BK465.out 0
                      have hfz108_1 := za7 BK465.out 1
                      go_wp2_with (first | ((with_reducible refine zaj (f := 37) rfl ?_); refine zaz (some 61) rfl rfl Try.func37 (by kernel_rfl) rfl #[.agg #[.slice Ao18 t460.length co18, .int .i64 t463], .int .i64 1] rfl (by (try simp only [List.map_toArray, List.map_cons, List.map_nil]); first | done | rfl | (simp only [List.length_drop, List.length_take]; rfl)) ?_; (with_reducible refine (laws_markCode.calls kj35 (fun k_ => some k_ = (.slice Ao18 t460.length co18 : Value).ownBlock) (.slice Ao18 t460.length co18) t460 t463 1 t474 t475 w _ ?side1 ?side2 A52.out).mono ?_); (case side1 => repeat (first | (with_reducible first | exact HB.out | apply za2 | apply za0 | apply za1 | refine za3 ?_ GE456.out | refine za3 ?_ GE465.out) | exact HB.out)); (case side2 => exact Kd.R_tight rfl HO_466000.out); rintro e w109 ⟨rfl, hy0, hb, hkp⟩; refine ⟨_, rfl, ?_⟩; have n0_ := Aside0.mk (Kd.zas (ok' := fun k_ => some k_ ≠ (.slice Ao18 t460.length co18 : Value).ownBlock) (Kd.R_keptB (HO_457000.out) hkp (fun k_ hk_ hs_ => (hk_) hs_)) (fun k_ hk_ => hk_.1)); have n1_ := Aside0.mk (Kd.R_reok rfl hy0 (fun k_ e_ => HO_466000.out.1 k_ e_)); have n2_ := Aside0.mk (blk_kept (by (with_reducible repeat (first | refine za4 ?_ _ | refine za6 ?_ | refine za5 ?_ _)); exact BK456.out) hkp (fun hs_ => (fun e_ => (Kd.R_ne HO_466000.out BK456.out (by decide)) e_) hs_)); have n3_ := Aside0.mk (blk_kept (by (with_reducible repeat (first | refine za4 ?_ _ | refine za6 ?_ | refine za5 ?_ _)); exact BK465.out) hkp (fun hs_ => (fun e_ => (Kd.R_ne HO_466000.out BK465.out (by decide)) e_) hs_)); have n4_ := Aside0.mk (hb); clear HO_457000; clear HO_466000; clear BK456; clear BK465; clear HB; have HO_457000 := n0_; have HO_466000 := n1_; have BK456 := n2_; have BK465 := n3_; have HB := n4_; clear n0_ n1_ n2_ n3_ n4_; (try clear hb); (try clear hkp); (try clear hy0); have hcz110_0 : w109.cell? ⟨gb465, 0, none⟩ = some (.slice Ao18 t460.length co18) := (za8 BK465.out 0).trans rfl; have hcz110_1 : w109.cell? ⟨gb465, 1, none⟩ = some (.int .i64 t463) := (za8 BK465.out 1).trans rfl; have hfz110_0 := za7 BK465.out 0; have hfz110_1 := za7 BK465.out 1) | ((with_reducible refine zaj (f := 44) rfl ?_); refine zaz (some 64) rfl rfl Try.func44 (by kernel_rfl) rfl #[.agg #[.slice Ao18 t475.length co18, .int .i64 t463], .int .i64 1] rfl (by (try simp only [List.map_toArray, List.map_cons, List.map_nil]); first | done | (rw [show t475.length = t460.length from (Kd.R_reads' HO_466000.out).1.symm] <;> rfl) | rfl | (simp only [List.length_drop, List.length_take]; rfl)) ?_; (with_reducible refine (laws_heldCode.calls kj35 _ _ t475 t463 1 t476 _ ?side1 ?side2 A53.out).mono ?_); (case side1 => repeat (first | exact (Kd.R_reads' HO_466000.out).2.2 | (with_reducible refine Kd.zao ?_ _) | (with_reducible refine Kd.zaq ?_ _) | (with_reducible refine Kd.zau ?_))); (case side2 => rw [show t475.length = t460.length from (Kd.R_reads' HO_466000.out).1.symm]; exact (Kd.R_reads' HO_466000.out).2.1); rintro e w111 ⟨rfl, hb⟩; refine ⟨_, rfl, ?_⟩; have n0_ := Aside0.mk (Kd.zan (by (with_reducible repeat (first | apply Kd.zah | apply Kd.zaf | apply Kd.zai)); exact HO_457000.out) hb); have n1_ := Aside0.mk (Kd.zan (by (with_reducible repeat (first | apply Kd.zah | apply Kd.zaf | apply Kd.zai)); exact HO_466000.out) hb); have n2_ := Aside0.mk (zac (g := gb456) (o := .cells #[.slice Ao12 t451.length co12, .int .i64 t454] 39 (0, 0)) (by (with_reducible repeat (first | refine za4 ?_ _ | refine za6 ?_ | refine za5 ?_ _)); exact BK456.out) hb); have n3_ := Aside0.mk (zac (g := gb465) (o := .cells #[.slice Ao18 t460.length co18, .int .i64 t463] 39 (0, 0)) (by (with_reducible repeat (first | refine za4 ?_ _ | refine za6 ?_ | refine za5 ?_ _)); exact BK465.out) hb); have n4_ := Aside0.mk (zab (by repeat (first | (with_reducible first | exact HB.out | apply za2 | apply za0 | apply za1 | refine za3 ?_ GE456.out | refine za3 ?_ GE465.out) | exact HB.out)) hb); clear HO_457000; clear HO_466000; clear BK456; clear BK465; clear HB; have HO_457000 := n0_; have HO_466000 := n1_; have BK456 := n2_; have BK465 := n3_; have HB := n4_; clear n0_ n1_ n2_ n3_ n4_; (try clear hb); (try clear hb2); (try clear hk); (try clear hi)))
                      go_ret
                      exact ⟨by first | rfl | (simp [zae, zad] <;> rfl) | (simp [*, zae, zad] <;> rfl), by repeat (first | (with_reducible first | exact HB.out | apply za2 | apply za0 | apply za1 | refine za3 ?_ GE456.out | refine za3 ?_ GE465.out) | exact HB.out)⟩
          · replace c34 := Bool.eq_false_iff.mpr c34
            subst c34
            have H1 : (some false) = some r := by rw [if_neg (show ¬ (false = true) by decide)] at H; exact H
            clear H
            have H := H1
            clear H1
            obtain rfl := Option.some.inj H
            go_wp2_with (first | ((with_reducible refine zaj (f := 17) rfl ?_); refine zaz (some 40) rfl rfl Try.func17 (by kernel_rfl) rfl #[.slice A0 l0.length c0] rfl (by (try simp only [List.map_toArray, List.map_cons, List.map_nil]); first | done | rfl | (simp only [List.length_drop, List.length_take]; rfl)) ?_; (with_reducible refine (laws_toIntS.calls kj6 _ _ l0 t467 _ ?side1 ?side2 A32.out).mono ?_); (case side1 => repeat (first | exact (Kd.zb3 HR0.out HB.out) | (with_reducible refine Kd.zao ?_ _) | (with_reducible refine Kd.zaq ?_ _) | (with_reducible refine Kd.zau ?_))); (case side2 => exact HC0.out); rintro e w112 ⟨v468, rfl, ho0, hb⟩; refine ⟨_, rfl, ?_⟩; have n0_ := Aside0.mk (Kd.R_elder' (by (with_reducible repeat (first | apply Kd.zah | apply Kd.zaf | apply Kd.zai)); exact HO_5.out) (Kd.R_base ho0) hb); have n1_ := Aside0.mk (Kd.zan (by (with_reducible repeat (first | apply Kd.zah | apply Kd.zaf | apply Kd.zai)); exact HO_457000.out) hb); have n2_ := Aside0.mk (Kd.zan (by (with_reducible repeat (first | apply Kd.zah | apply Kd.zaf | apply Kd.zai)); exact HO_466000.out) hb); have n3_ := Aside0.mk (Kd.zb1 (Kd.R_new' ho0 (Kd.R_lt (by (with_reducible repeat (first | apply Kd.zah | apply Kd.zaf | apply Kd.zai)); exact HO_5.out))) (za9 (by repeat (first | (with_reducible first | exact HB.out | apply za2 | apply za0 | apply za1 | refine za3 ?_ GE456.out | refine za3 ?_ GE465.out) | exact HB.out)))); have n4_ := Aside0.mk (zac (g := gb456) (o := .cells #[.slice Ao12 t451.length co12, .int .i64 t454] 39 (0, 0)) (by (with_reducible repeat (first | refine za4 ?_ _ | refine za6 ?_ | refine za5 ?_ _)); exact BK456.out) hb); have n5_ := Aside0.mk (zac (g := gb465) (o := .cells #[.slice Ao18 t460.length co18, .int .i64 t463] 39 (0, 0)) (by (with_reducible repeat (first | refine za4 ?_ _ | refine za6 ?_ | refine za5 ?_ _)); exact BK465.out) hb); have n6_ := Aside0.mk (zab (by repeat (first | (with_reducible first | exact HB.out | apply za2 | apply za0 | apply za1 | refine za3 ?_ GE456.out | refine za3 ?_ GE465.out) | exact HB.out)) hb); clear HO_5; clear HO_457000; clear HO_466000; clear BK456; clear BK465; clear HB; have HO_5 := n0_; have HO_457000 := n1_; have HO_466000 := n2_; have HO469 := n3_; have BK456 := n4_; have BK465 := n5_; have HB := n6_; clear n0_ n1_ n2_ n3_ n4_ n5_ n6_; (try clear hb); (try clear hb2); (try clear hk); (try clear hi); (try clear ho0); obtain ⟨Ao113, co113, eo113⟩ := Kd.zay HO469.out; subst eo113) | ((with_reducible refine zaj (f := 19) rfl ?_); refine zaz (some 41) rfl rfl Try.func19 (by kernel_rfl) rfl #[.slice Ao15 t457.length co15, .slice Ao113 t467.length co113] rfl (by (try simp only [List.map_toArray, List.map_cons, List.map_nil]); first | done | rfl | (simp only [List.length_drop, List.length_take]; rfl)) ?_; (with_reducible refine (laws_eqIntS.calls kj6 _ _ t457 _ _ t467 false _ ?side1 ?side2 ?side3 ?side4 A33.out).mono ?_); (case side1 => repeat (first | exact (Kd.R_reads' HO_5.out).2.2 | (with_reducible refine Kd.zao ?_ _) | (with_reducible refine Kd.zaq ?_ _) | (with_reducible refine Kd.zau ?_))); (case side2 => exact (Kd.R_reads' HO_5.out).2.1); (case side3 => repeat (first | exact (Kd.R_reads' HO469.out).2.2 | (with_reducible refine Kd.zao ?_ _) | (with_reducible refine Kd.zaq ?_ _) | (with_reducible refine Kd.zau ?_))); (case side4 => exact (Kd.R_reads' HO469.out).2.1); rintro e w' ⟨rfl, ⟨nd, rfl⟩⟩; refine ⟨_, rfl, ?_⟩))
            go_ret
            exact ⟨by first | rfl | (simp [zae, zad] <;> rfl) | (simp [*, zae, zad] <;> rfl), by repeat (first | (with_reducible first | exact HB.out | apply za2 | apply za0 | apply za1 | refine za3 ?_ GE456.out | refine za3 ?_ GE465.out) | exact HB.out)⟩

/-- THE ONE PURE STATEMENT of laws_FnExactHornerCode: yours. -/
def laws_FnExactHornerCode.Pure : Prop := ∀ (l0 : List Int), l0.length ≤ maxLen → l0.length * 8 ≤ 140737488351232 → (∀ x ∈ l0, (Lit.int .i64 x).wf = true) → ∃ k, laws_FnExactHornerCode.f k l0 = some true
theorem laws_FnExactHornerCode.walk (P : laws_FnExactHornerCode.Pure) (a0 : Option Addr) (len0 cap0 : Nat) (z0 : List Int) (w : World) (w0 : (a0 = none ∧ len0 = 0 ∧ cap0 = 0 ∧ z0 = []) ∨ ∃ x, a0 = some x ∧ len0 ≤ cap0 ∧ cap0 ≤ maxLen ∧ z0.length = cap0 ∧ (∀ i, i < z0.length → w.cell? (x.add i) = some (.int .i64 (z0.getD i 0))) ∧ ∀ n ∈ z0, (Lit.int .i64 n).wf = true) (y0 : len0 * 8 ≤ 140737488351232) :
    Calls Try.prog 12 #[.slice a0 len0 cap0] w fun e w' => e = .returned (.bool true) ∧ Below w.heap.size w w' := by
  obtain ⟨l0, rfl, hr0, hm0, hw0, hc0⟩ := ReadsInt.ofRowC w0
  obtain ⟨k, h⟩ := P l0 hm0 y0 hw0
  refine (laws_FnExactHornerCode.calls k _ _ l0 true w (Kd.C_of_reads (d := (0 : Int)) (h1 := fun _ => rfl) hr0) hc0 h).mono ?_
  rintro e w' ⟨rfl, hd⟩
  exact ⟨rfl, hd⟩

/-! ### laws_szOpS: function 64 -/
def laws_szOpS.f (l0 : List (S93)) (a1 : Int) : Option (Int) := if (wrap64 (a1 - (l0.length : Int))) < 0 then (some (-1)) else (some (wrap64 (a1 - (l0.length : Int))))
set_option maxHeartbeats 8000000 in
set_option maxRecDepth 100000 in
theorem laws_szOpS.calls (A0 : Option Addr) (c0 : Nat) (l0 : List (S93)) (a1 : Int) (r : Int) (w : World) (hr0 : Kd.C k93 w A0 l0.length l0) (hc0 : l0.length ≤ c0) (h : laws_szOpS.f l0 a1 = some r) :
    Calls Try.prog 64 #[.slice A0 l0.length c0, .int .i64 a1] w fun e w' => e = .returned (.int .i64 r) ∧ Drawn0 w w' := by
  have HR0 := Aside0.mk hr0
  have HC0 := Aside0.mk hc0
  clear hr0 hc0
  have H : (if (wrap64 (a1 - (l0.length : Int))) < 0 then (some (-1)) else (some (wrap64 (a1 - (l0.length : Int))))) = some r := h
  clear h
  by_cases c3 : (wrap64 (a1 - (l0.length : Int))) < 0
  · rw [if_pos c3] at H
    have c3b0 : decide ((wrap64 (a1 - (l0.length : Int))) < 0) = true := decide_eq_true c3
    clear c3
    obtain rfl := Option.some.inj H
    go_enter Try.func64, Try.ntmps64
    go_wp2
    go_ret
    exact ⟨by first | rfl | (simp; done) | (simp [*]; done), by repeat (first | exact Drawn0.refl _ | apply Drawn0.step)⟩
  · rw [if_neg c3] at H
    have c3b0 : decide ((wrap64 (a1 - (l0.length : Int))) < 0) = false := decide_eq_false c3
    clear c3
    obtain rfl := Option.some.inj H
    go_enter Try.func64, Try.ntmps64
    go_wp2
    go_ret
    exact ⟨by first | rfl | (simp; done) | (simp [*]; done), by repeat (first | exact Drawn0.refl _ | apply Drawn0.step)⟩

end Go.Proofs.Ytgglemlhombgkaa.Z
